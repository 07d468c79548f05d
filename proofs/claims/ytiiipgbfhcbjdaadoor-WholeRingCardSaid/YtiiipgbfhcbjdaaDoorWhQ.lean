/- Package whole, walked: Add of any two; Sub, Cmp. -/
import Derived.Test.YtiiipgbfhcbjdaaDoorWhP
namespace Go.Proofs.YtiiipgbfhcbjdaaDoor
open Go.RowKit TV
set_option linter.unusedVariables false

theorem wAdd_calls {P : Nat → Prop} {w : World} {va vb : Value} {oa ob : Option Rat} (ha : WNum P w va oa) (hb : WNum P w vb ob) (ht : TabOk w) :
    Calls Tryd.prog 10 #[va, vb] w fun x w' => ∃ o, addO oa ob o ∧ RetW (fun b => P b ∨ w.heap.size ≤ b) o w x w' := by
  have up : ∀ {Q : Nat → Prop} {o : Option Rat} {x : Ending} {w' : World}, (∀ b, Q b → P b ∨ w.heap.size ≤ b) → RetW Q o w x w' → RetW (fun b => P b ∨ w.heap.size ≤ b) o w x w' := fun h ⟨v, h1, h2, h3⟩ => ⟨v, h1, h2.mono h, h3⟩
  cases oa with
  | none =>
    cases ha
    exact (add_none_a vb ob hb).mono fun x w' h => ⟨none, by unfold addO; split <;> simp_all, up (fun b h => Or.inl h) h⟩
  | some p =>
    cases ob with
    | none =>
      cases hb
      exact (add_none_b va p ha).mono fun x w' h => ⟨none, by unfold addO; rfl, up (fun b h => Or.inl h) h⟩
    | some q =>
      have ha0 := ha
      have hb0 := hb
      obtain ⟨sl, a, e, ng, rfl, hs, hPa, hp, hokp, ca⟩ := ha
      obtain ⟨sm, b, g, mg, rfl, hv, hPb, hq, hokq, cb⟩ := hb
      rcases ca with ⟨rfl, rfl, rfl, rfl⟩ | ⟨ma, ea⟩
      · have hp0 : p = 0 := by rw [hp]; simp [W.nv, W.dval]
        exact (add_zero_a q _ hb0).mono fun x w' h => ⟨some q, by show WvOf (p + q) (some q); rw [hp0, Rat.zero_add]; exact ⟨fun _ => rfl, fun h => absurd hokq h⟩, up (fun b h => Or.inl h) h⟩
      · rcases cb with ⟨rfl, rfl, rfl, rfl⟩ | ⟨mb, eb⟩
        · have hq0 : q = 0 := by rw [hq]; simp [W.nv, W.dval]
          exact (add_zero_b p sl a e ng hs ha0 ma.len).mono fun x w' h => ⟨some p, by show WvOf (p + q) (some p); rw [hq0, Rat.add_zero]; exact ⟨fun _ => rfl, fun h => absurd hokp h⟩, up (fun b h => Or.inl h) h⟩
        · obtain ⟨p1, c1, rfl⟩ := hs.formMap
          obtain ⟨p2, c2, rfl⟩ := hv.formMap
          by_cases hn : ng = mg
          · subst hn
            exact (add_same a b e g p1 p2 c1 c2 ng hs hv ma mb ea eb ht).mono fun x w' ⟨o, h1, h2⟩ => ⟨o, by show WvOf (p + q) o; rw [hp, hq]; exact h1, up (fun b h => Or.inr h) h2⟩
          · exact (add_diff a b e g p1 p2 c1 c2 ng mg (by cases ng <;> cases mg <;> simp_all) hs hv ma mb ea eb ht).mono fun x w' ⟨o, h1, h2⟩ => ⟨o, by show WvOf (p + q) o; rw [hp, hq]; exact h1, up (fun b h => Or.inr h) h2⟩

theorem high_neg {q : Rat} {h : Int} (hh : HighOf q h) : HighOf (-q) h := by
  rcases hh with h1 | h1
  · right; rw [Rat.neg_neg]; exact h1
  · left; exact h1
theorem low_neg {q : Rat} {l : Int} (h : LowOf q l) : LowOf (-q) l := by
  obtain ⟨m, h1, h2⟩ := h
  exact ⟨-m, by omega, by rw [h2, Rat.intCast_neg, Rat.neg_mul]⟩
theorem okR_neg {q : Rat} (h : OkR q) : OkR (-q) := by
  rcases h with h | ⟨a, b, h1, h2, h3, h4⟩
  · left; rw [h]; rfl
  · exact Or.inr ⟨a, b, high_neg h1, low_neg h2, h3, h4⟩

theorem wNeg_num {P : Nat → Prop} {w : World} {vb : Value} {ob : Option Rat} (hb : WNum P w vb ob) :
    Calls Tryd.prog 15 #[vb] w (RetW P (ob.map fun q => -q) w) := by
  cases ob with
  | none =>
    cases hb
    exact (wNeg_calls none 0 0 0 false true w).mono fun x w' ⟨h1, h2⟩ => ⟨_, h1, rfl, h2⟩
  | some q =>
    obtain ⟨sl, ds, e, ng, rfl, hs, hP, hq, hok, cc⟩ := hb
    obtain ⟨p, c, rfl⟩ := hs.formMap
    refine (wNeg_calls p ds.length c e ng false w).mono fun x w' ⟨h1, h2⟩ => ⟨_, h1, ⟨_, ds, e, _, rfl, hs.keep h2, hP, ?_, okR_neg hok, ?_⟩, h2⟩
    · rcases cc with ⟨rfl, rfl, rfl, h⟩ | ⟨hm, -⟩
      · rw [hq]; simp [W.nv, W.dval]
      · rw [hq, decide_eq_true hm.len, Bool.and_true]
        exact (nv_sgn (sg ng) (sg (!ng)) (by cases ng <;> rfl) ds e).symm
    · rcases cc with ⟨rfl, rfl, rfl, h⟩ | h
      · left; exact ⟨rfl, rfl, by simp, h⟩
      · exact Or.inr h

set_option maxHeartbeats 8000000 in
theorem wSub_calls {P : Nat → Prop} {w : World} {va vb : Value} {oa ob : Option Rat} (ha : WNum P w va oa) (hb : WNum P w vb ob) (ht : TabOk w) :
    Calls Tryd.prog 12 #[va, vb] w fun x w' => ∃ o, addO oa (ob.map fun q => -q) o ∧ RetW (fun b => P b ∨ w.heap.size ≤ b) o w x w' := by
  obtain ⟨p1, n1, c1, e1, neg1, none1, rfl⟩ := ha.form
  obtain ⟨p2, n2, c2, e2, neg2, none2, rfl⟩ := hb.form
  obtain ⟨wn, hwn, hW, hsz, k0, k1, k2⟩ := boxes_res w (.cells #[.slice p1 n1 c1, .int .i64 e1, .bool neg1, .bool none1] 29) (.cells #[.slice p2 n2 c2, .int .i64 e2, .bool neg2, .bool none2] 29) (.cells #[.slice none 0 0, .int .i64 0, .bool false, .bool false] 29)
  obtain ⟨a0, a1, a2, a3, -, -, -, -⟩ := res4_facts k0
  obtain ⟨b0, b1, b2, b3, -, -, -, -⟩ := res4_facts k1
  have HN := Lib.hid (fun (Y : World) (h : Kp wn Y) => wNeg_num ((hb.lt.keep hW).keep h.out))
  have HD := Lib.hid (fun (Y : World) (h : Kp wn Y) (v : Value) (hv : WNum (fun b => P b ∧ b < w.heap.size) Y v (ob.map fun q => -q)) => wAdd_calls ((ha.lt.keep hW).keep h.out) hv ((ht.keep hW).keep h.out))
  have HK := Lib.hid k2
  have HSZ := Lib.hid hsz
  have KW : Kp w wn := hW
  have hleb : w.heap.size ≤ w.heap.size + 1 + 1 := by omega
  have hnea : w.heap.size ≠ w.heap.size + 1 + 1 := by omega
  have hneb : w.heap.size + 1 ≠ w.heap.size + 1 + 1 := by omega
  clear ha hb ht hW hsz k0 k1 k2
  go_enter Tryd.func12, Tryd.ntmps12
  go_wp2_with fail
  rw [← hwn]
  clear hwn
  go_region_held3 (fun w' => w'.cell? ⟨w.heap.size, 0, none⟩ = some (.slice p1 n1 c1) ∧ w'.cell? ⟨w.heap.size, 1, none⟩ = some (.int .i64 e1) ∧ w'.cell? ⟨w.heap.size, 2, none⟩ = some (.bool neg1) ∧ w'.cell? ⟨w.heap.size, 3, none⟩ = some (.bool none1) ∧ w'.cell? ⟨w.heap.size + 1, 0, none⟩ = some (.slice p2 n2 c2) ∧ w'.cell? ⟨w.heap.size + 1, 1, none⟩ = some (.int .i64 e2) ∧ w'.cell? ⟨w.heap.size + 1, 2, none⟩ = some (.bool neg2) ∧ w'.cell? ⟨w.heap.size + 1, 3, none⟩ = some (.bool none2) ∧ Kp w w')
    (first | with_reducible exact ⟨put4_cell (keep_cell (((Kp.refl wn).drew.step hbA).step hbB).out a0) hnea _ _ _ _, put4_cell (keep_cell (((Kp.refl wn).drew.step hbA).step hbB).out a1) hnea _ _ _ _, put4_cell (keep_cell (((Kp.refl wn).drew.step hbA).step hbB).out a2) hnea _ _ _ _, put4_cell (keep_cell (((Kp.refl wn).drew.step hbA).step hbB).out a3) hnea _ _ _ _, put4_cell (keep_cell (((Kp.refl wn).drew.step hbA).step hbB).out b0) hneb _ _ _ _, put4_cell (keep_cell (((Kp.refl wn).drew.step hbA).step hbB).out b1) hneb _ _ _ _, put4_cell (keep_cell (((Kp.refl wn).drew.step hbA).step hbB).out b2) hneb _ _ _ _, put4_cell (keep_cell (((Kp.refl wn).drew.step hbA).step hbB).out b3) hneb _ _ _ _, ((KW.drew.step hbA).step hbB).put4 hleb _ _ _ _⟩ | with_reducible exact ⟨keep_cell (((Kp.refl wn).drew.step hbA).step hbB).out a0, keep_cell (((Kp.refl wn).drew.step hbA).step hbB).out a1, keep_cell (((Kp.refl wn).drew.step hbA).step hbB).out a2, keep_cell (((Kp.refl wn).drew.step hbA).step hbB).out a3, keep_cell (((Kp.refl wn).drew.step hbA).step hbB).out b0, keep_cell (((Kp.refl wn).drew.step hbA).step hbB).out b1, keep_cell (((Kp.refl wn).drew.step hbA).step hbB).out b2, keep_cell (((Kp.refl wn).drew.step hbA).step hbB).out b3, ((KW.drew.step hbA).step hbB)⟩ | with_reducible exact ⟨keep_cell ((Kp.refl wn).drew.step hbA).out a0, keep_cell ((Kp.refl wn).drew.step hbA).out a1, keep_cell ((Kp.refl wn).drew.step hbA).out a2, keep_cell ((Kp.refl wn).drew.step hbA).out a3, keep_cell ((Kp.refl wn).drew.step hbA).out b0, keep_cell ((Kp.refl wn).drew.step hbA).out b1, keep_cell ((Kp.refl wn).drew.step hbA).out b2, keep_cell ((Kp.refl wn).drew.step hbA).out b3, (KW.drew.step hbA)⟩ | with_reducible exact ⟨keep_cell (Kp.refl wn).drew.out a0, keep_cell (Kp.refl wn).drew.out a1, keep_cell (Kp.refl wn).drew.out a2, keep_cell (Kp.refl wn).drew.out a3, keep_cell (Kp.refl wn).drew.out b0, keep_cell (Kp.refl wn).drew.out b1, keep_cell (Kp.refl wn).drew.out b2, keep_cell (Kp.refl wn).drew.out b3, KW.drew⟩)
    (first
      | (go_at_call 15; ((with_reducible refine (HN.out _ ?hq).mono ?_); (case hq => exact (Kp.refl wn).drew); rintro x w2 ⟨v2, rfl, hv2, hbA⟩; obtain ⟨p4, n4, c4, e4, neg4, none4, rfl⟩ := hv2.form))
      | (go_at_call 10; ((with_reducible refine (HD.out _ ?hq _ hv2).mono ?_); (case hq => exact ((Kp.refl wn).drew.step hbA)); rintro x w3 ⟨o3, hwv, v3, rfl, hv3, hbB⟩; obtain ⟨p3, n3, c3, e3, neg3, none3, rfl⟩ := hv3.form; have hres := keep_block hbB (keep_block hbA HK.out); obtain ⟨q0, q1, q2, q3, f0, f1, f2, f3⟩ := res4_facts hres)))
  go_wp2_with fail
  obtain ⟨u0, u1, u2, u3⟩ := put4_facts hres (.slice p3 n3 c3) (.int .i64 e3) (.bool neg3) (.bool none3)
  refine bodyPost_ret (v := .agg #[.slice p3 n3 c3, .int .i64 e3, .bool neg3, .bool none3]) (by simp [results, Tryd.results12, go_sem, u0, u1, u2, u3]) rfl ?_
  have hss := HSZ.out
  have hs9 : wn.heap.size ≤ w2.heap.size := hbA.size
  exact ⟨o3, hwv, _, rfl, (hv3.put4 (b := w.heap.size + 1 + 1) (fun h => by rcases h with h | h <;> omega) _ _ _ _).mono (fun b h => by rcases h with h | h; exact Or.inl h.1; exact Or.inr (by omega)), ((KW.drew.step hbA).step hbB).put4 hleb _ _ _ _⟩

/-- How two stand to each other, as package whole has it. -/
def cmpO (o : Option Rat) : Int := match o with | some q => rs q | none => 0
theorem wSign_num {P : Nat → Prop} {w : World} {vb : Value} {ob : Option Rat} (hb : WNum P w vb ob) :
    Calls Tryd.prog 13 #[vb] w fun x w' => x = .returned (.int .i64 (cmpO ob)) ∧ Below w.heap.size w w' := by
  cases ob with
  | none => cases hb; exact wSign_calls none 0 0 0 false true w
  | some q =>
    obtain ⟨sl, ds, e, ng, rfl, hs, hP, hq, hok, cc⟩ := hb
    obtain ⟨p, c, rfl⟩ := hs.formMap
    have : cmpO (some q) = if ds.length = 0 then 0 else if ng then -1 else 1 := by
      show rs q = _
      rcases cc with ⟨rfl, rfl, rfl, h⟩ | ⟨hm, -⟩
      · rw [hq]; simp [W.nv, W.dval, rs]
      · rw [if_neg (by have := hm.len; omega), hq]
        have hd : 0 < W.dval ds := W.dval_pos hm.dok (i := 0) (by have := hm.first; have := hm.dok 0; omega)
        have hpos : (0 : Rat) < ((W.dval ds : Int) : Rat) * (2 : Rat) ^ (32 * e) := Rat.mul_pos (by exact_mod_cast hd) (two_zpow_pos _)
        unfold W.nv
        cases ng
        · simp only [sg, Bool.false_eq_true, if_false, Int.one_mul]
          unfold rs
          rw [if_neg (Rat.not_lt.2 (Rat.le_of_lt hpos)), if_neg (fun h => by rw [h] at hpos; exact absurd hpos (by decide))]
        · simp only [sg, if_true, Int.neg_mul, Int.one_mul, Rat.intCast_neg, Rat.neg_mul]
          unfold rs
          rw [if_pos (by generalize ((W.dval ds : Int) : Rat) * (2 : Rat) ^ (32 * e) = z at *; grind)]
    rw [this]
    exact wSign_calls p ds.length c e ng false w

end Go.Proofs.YtiiipgbfhcbjdaaDoor
