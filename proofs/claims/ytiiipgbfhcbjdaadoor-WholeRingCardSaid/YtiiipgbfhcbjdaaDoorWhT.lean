/- Package whole, walked: Mul of any numbers. -/
import Derived.Test.YtiiipgbfhcbjdaaDoorWhS
namespace Go.Proofs.YtiiipgbfhcbjdaaDoor
open Go.RowKit TV
set_option linter.unusedVariables false

/-- What a multiplication answers. -/
def mulO (oa ob : Option Rat) (o : Option Rat) : Prop := match oa, ob with
  | some p, some q => WvOf (p * q) o
  | _, _ => o = none

set_option maxHeartbeats 4000000 in
set_option maxRecDepth 100000 in
theorem mul_none {P : Nat → Prop} {w : World} (p1 p2 : Option Addr) (n1 c1 n2 c2 : Nat) (e1 e2 : Int) (neg1 none1 neg2 none2 : Bool) (h : none1 = true ∨ none1 = false ∧ none2 = true) :
    Calls Tryd.prog 14 #[.agg #[.slice p1 n1 c1, .int .i64 e1, .bool neg1, .bool none1], .agg #[.slice p2 n2 c2, .int .i64 e2, .bool neg2, .bool none2]] w (RetW P none w) := by
  obtain ⟨wn, hwn, hW, hsz, k0, k1, k2⟩ := boxes_res w (.cells #[.slice p1 n1 c1, .int .i64 e1, .bool neg1, .bool none1] 29) (.cells #[.slice p2 n2 c2, .int .i64 e2, .bool neg2, .bool none2] 29) (.cells #[.slice none 0 0, .int .i64 0, .bool false, .bool false] 29)
  obtain ⟨q0, q1, q2, q3, f0, f1, f2, f3⟩ := res4_facts k2
  obtain ⟨u0, u1, u2, u3⟩ := put4_facts k2 (.slice none 0 0) (.int .i64 0) (.bool false) (.bool true)
  obtain ⟨a0, a1, a2, a3, -, -, -, -⟩ := res4_facts k0
  obtain ⟨b0, b1, b2, b3, -, -, -, -⟩ := res4_facts k1
  have HW := Lib.hid hW
  clear hW hsz k0 k1 k2
  rcases h with rfl | ⟨rfl, rfl⟩
  all_goals
    go_enter Tryd.func14, Tryd.ntmps14
    go_upto_region 1 with (fail)
    rw [← hwn]
    clear hwn
    go_wp2_with fail
    refine bodyPost_ret (v := .agg #[.slice none 0 0, .int .i64 0, .bool false, .bool true]) (by simp [results, Tryd.results14, go_sem, u0, u1, u2, u3]) rfl ?_
    exact ⟨_, rfl, rfl, bl_put4 HW.out (by omega) _ _ _ _⟩

theorem wMul_calls {P : Nat → Prop} {w : World} {va vb : Value} {oa ob : Option Rat} (ha : WNum P w va oa) (hb : WNum P w vb ob) (ht : TabOk w) :
    Calls Tryd.prog 14 #[va, vb] w fun x w' => ∃ o, mulO oa ob o ∧ RetW (fun b => P b ∨ w.heap.size ≤ b) o w x w' := by
  have up : ∀ {Q : Nat → Prop} {o : Option Rat} {x : Ending} {w' : World}, (∀ b, Q b → P b ∨ w.heap.size ≤ b) → RetW Q o w x w' → RetW (fun b => P b ∨ w.heap.size ≤ b) o w x w' := fun h ⟨v, h1, h2, h3⟩ => ⟨v, h1, h2.mono h, h3⟩
  cases oa with
  | none =>
    cases ha
    obtain ⟨p2, n2, c2, e2, neg2, none2, rfl⟩ := hb.form
    exact (mul_none (P := P) none p2 0 0 n2 c2 0 e2 false true neg2 none2 (Or.inl rfl)).mono fun x w' h => ⟨none, by unfold mulO; split <;> simp_all, up (fun b h => Or.inl h) h⟩
  | some p =>
    obtain ⟨sl, a, e, ng, rfl, hs, hPa, hp, hokp, ca⟩ := ha
    obtain ⟨p1, c1, rfl⟩ := hs.formMap
    cases ob with
    | none =>
      cases hb
      exact (mul_none (P := P) p1 none a.length c1 0 0 e 0 ng false false true (Or.inr ⟨rfl, rfl⟩)).mono fun x w' h => ⟨none, by unfold mulO; rfl, up (fun b h => Or.inl h) h⟩
    | some q =>
      obtain ⟨sm, b, g, mg, rfl, hv, hPb, hq, hokq, cb⟩ := hb
      obtain ⟨p2, c2, rfl⟩ := hv.formMap
      have fa : W.Dok a ∧ -2048 ≤ e ∧ e + a.length ≤ 2049 := by
        rcases ca with ⟨rfl, rfl, -⟩ | ⟨m, h⟩
        · exact ⟨fun i => by simp, by decide, by simp⟩
        · exact ⟨m.dok, h⟩
      have fb : W.Dok b ∧ -2048 ≤ g ∧ g + b.length ≤ 2049 := by
        rcases cb with ⟨rfl, rfl, -⟩ | ⟨m, h⟩
        · exact ⟨fun i => by simp, by decide, by simp⟩
        · exact ⟨m.dok, h⟩
      exact (mul_walk a b e g p1 p2 c1 c2 ng mg hs hv fa.1 fb.1 fa.2 fb.2 ht).mono fun x w' ⟨o, h1, h2⟩ => ⟨o, by show WvOf (p * q) o; rw [hp, hq]; exact h1, up (fun b h => Or.inr h) h2⟩

end Go.Proofs.YtiiipgbfhcbjdaaDoor
