/- Package expand, walked: apart. -/
import Derived.Test.YtiihokgjplpceaaDoorEwX
import Derived.Test.YtiihokgjplpceaaDoorEwH
import Derived.Test.YtiihokgjplpceaaDoorEwS
import Derived.Test.YtiihokgjplpceaaDoorBxB
import Derived.Laws.AppendOwnNone
namespace Go.Proofs.YtiihokgjplpceaaDoor
open Go.RowKit TV
set_option linter.unusedVariables false

/-- A number with a bound whose words do not lie in the block b. -/
def N0 (b : Nat) (w : World) (v : Value) (q : Rat) (m : Nat) : Prop := WNum (fun j => j ≠ b) w v (some q) ∧ Bx m q
theorem N0.keep {b : Nat} {w w1 : World} {v : Value} {q : Rat} {m : Nat} (h : N0 b w v q m) (hb : Below w.heap.size w w1) : N0 b w1 v q m := ⟨h.1.keep hb, h.2⟩
theorem N0.num {b : Nat} {w : World} {v : Value} {q : Rat} {m : Nat} (h : N0 b w v q m) : NumB 0 w v q m := ⟨h.1.mono fun _ _ => Nat.zero_le _, h.2⟩
theorem N0.put4 {b : Nat} {w : World} {v : Value} {q : Rat} {m : Nat} (h : N0 b w v q m) (u0 u1 u2 u3 : Value) :
    N0 b ((((w.setCell ⟨b, 0, none⟩ u0).setCell ⟨b, 1, none⟩ u1).setCell ⟨b, 2, none⟩ u2).setCell ⟨b, 3, none⟩ u3) v q m := ⟨h.1.put4 (fun h => h rfl) u0 u1 u2 u3, h.2⟩
theorem N0.old {w : World} {v : Value} {q : Rat} {m M : Nat} (h : NumB 0 w v q m) (hM : m ≤ M) : N0 w.heap.size w v q M := ⟨h.1.lt.mono fun _ h => by omega, h.2.mono hM⟩
theorem of0 {b : Nat} (x : Nat) (hx : x < 18446744073709551616) (hf : rung x < inf) {w : World} (ht : TabOk w) (hs : b + 1 ≤ w.heap.size) :
    Calls Tryd.prog 89 #[.float .f64 x] w fun e w' => ∃ v, e = .returned v ∧ N0 b w' v (fr x) 1074 ∧ Below w.heap.size w w' := by
  refine (wOf_calls x hx w ht).mono ?_
  rintro e w' ⟨v, h1, h2, h3⟩
  rw [if_pos hf] at h2
  exact ⟨v, h1, ⟨h2.mono fun j hj => by omega, fr_bound hf⟩, h3⟩
theorem sub0 {b : Nat} {w : World} {va vb : Value} {p q : Rat} {m k : Nat} (M : Nat) (ha : N0 b w va p m) (hb : N0 b w vb q k) (ht : TabOk w) (hs : b + 1 ≤ w.heap.size) (h1 : m + 1 ≤ M) (h2 : k + 1 ≤ M) (h3 : M ≤ 65536) :
    Calls Tryd.prog 88 #[va, vb] w fun e w' => ∃ v, e = .returned v ∧ N0 b w' v (p - q) M ∧ Below w.heap.size w w' := by
  have hM := ha.2.add hb.2.neg h1 h2
  refine (wSub_calls ha.1 hb.1 ht).mono ?_
  rintro x w' ⟨o, ho, v, a, b', c⟩
  cases wv_ok ho (hM.ok h3)
  rw [Rat.sub_eq_add_neg]
  exact ⟨v, a, ⟨b'.mono fun j hj => by rcases hj with hj | hj; exact hj; omega, hM⟩, c⟩
/-- A whole number of units, as a rational number. -/
def un (n : Int) : Rat := (n : Rat) * uu
theorem fr_un (x : Nat) : fr x = un (fv x) := rfl
theorem un_add (a b : Int) : un (a + b) = un a + un b := by unfold un; rw [Rat.intCast_add, Rat.add_mul]
theorem un_sub (a b : Int) : un (a - b) = un a - un b := by unfold un; rw [Rat.intCast_sub]; grind
theorem numL_un (l : List Nat) : numL l = un (l.map fv).sum := by
  induction l with
  | nil => simp [numL, un]
  | cons x l ih => simp only [numL, List.map_cons, List.sum_cons, un_add, ih, fr_un]
theorem un_pos {n : Int} (h : 0 < n) : 0 < un n := Rat.mul_pos (Rat.intCast_pos.2 h) uu_pos
theorem un_neg {n : Int} (h : n < 0) : un n < 0 := by
  have h1 := un_pos (n := -n) (by omega)
  have h2 : un (-n) = - un n := by unfold un; rw [Rat.intCast_neg]; grind
  rw [h2] at h1; grind
theorem un_zero : un 0 = 0 := by unfold un; simp
theorem rs_un (n : Int) : rs (un n) = TV.sg n := by
  unfold TV.sg
  rcases Int.lt_trichotomy n 0 with h | h | h
  · rw [if_pos h, rs_neg (un_neg h)]
  · rw [h, un_zero]; rfl
  · rw [if_neg (by omega), if_neg (by omega), rs_pos (un_pos h)]
theorem floOf_rn {n : Int} {f : Nat} (h0 : n ≠ 0) (h : FloOf (un n) f) : f = rnB n := by
  have h1 : FloOf (un n) (rnB n) := flo_gen (u := 0) (s := decide (n < 0)) (by unfold un uu; rfl) (fun _ => rfl)
  obtain ⟨a1, a2, a3⟩ := h
  obtain ⟨b1, b2, b3⟩ := h1
  have e := a3.uniq b3
  have hl := inf_lt
  have hr : rung (rnB n) = min (rndAt 0 n.natAbs) inf := by unfold rnB; rw [rung_flo (by omega)]
  have hp : rung (rnB n) ≠ 0 := by
    have h2 := rnd_mono (u := 0) (show mag 1 ≤ n.natAbs by rw [mag_small (by decide)]; omega)
    rw [rnd_exact0] at h2
    have := inf_pos
    rw [hr]; omega
  rw [← flo_eta a1, ← flo_eta b1, e]
  rcases a2 with a2 | a2
  · exact absurd (e ▸ a2) hp
  · rcases b2 with b2 | b2
    · exact absurd b2 hp
    · rw [a2, b2]
theorem slowB_step {f : Nat} {n : Int} {acc : List Nat} (h : n ≠ 0) : slowB (f + 1) n acc = slowB f (er n) (rnB n :: acc) := by rw [slowB, if_neg h]
theorem slowB_end {f : Nat} {acc : List Nat} : slowB f 0 acc = acc := by cases f <;> simp [slowB]
theorem pow53 (j : Nat) {n : Int} (h : n.natAbs < 2 ^ (53 * (j + 1))) : (er n).natAbs < 2 ^ (53 * j) := by
  have h1 := er_err n
  rw [show 53 * (j + 1) = 53 * j + 53 by omega, Nat.pow_add, show (2 : Nat) ^ 53 = 9007199254740992 by decide] at h
  omega
theorem own_off {w : World} {base : Nat} {e : TypeId} {size n : Nat} {v : Value} {xs : List Value} (h : w.ownsRow base e size v n xs) {p : Addr} (hp : p.block < base) (u : Value) : (w.setCell p u).ownsRow base e size v n xs := by
  obtain ⟨h1, h2⟩ := h
  refine ⟨h1, ?_⟩
  rcases h2 with h2 | ⟨g, cap, cur, hv, hg, hh, r⟩
  · exact Or.inl h2
  · exact Or.inr ⟨g, cap, cur, hv, hg, (Below.heap_setCell w p u g (by omega)).trans hh, r⟩
theorem own_off4 {w : World} {base : Nat} {e : TypeId} {size n : Nat} {v : Value} {xs : List Value} (h : w.ownsRow base e size v n xs) {b : Nat} (hp : b < base) (u0 u1 u2 u3 : Value) :
    ((((w.setCell ⟨b, 0, none⟩ u0).setCell ⟨b, 1, none⟩ u1).setCell ⟨b, 2, none⟩ u2).setCell ⟨b, 3, none⟩ u3).ownsRow base e size v n xs :=
  own_off (own_off (own_off (own_off h (p := ⟨b, 0, none⟩) hp _) (p := ⟨b, 1, none⟩) hp _) (p := ⟨b, 2, none⟩) hp _) (p := ⟨b, 3, none⟩) hp _
theorem own_lit (w : World) (T : TypeId) (x : Value) {base : Nat} (h : base ≤ w.heap.size) : (w.alloc (.cells #[x] T)).ownsRow base T 1 (.slice (some ⟨w.heap.size, 0, none⟩) 1 1) 1 [x] :=
  ⟨rfl, Or.inr ⟨w.heap.size, 1, #[x], rfl, h, heap_alloc_new _ _, Nat.le_refl _, by unfold maxLen; omega, by simp, by simp⟩⟩
/-- append of a row that the call owns (nil or not). -/
theorem wpList_append_rows {P : Program} {w : World} {ops : Array Oper} {rest : List Oper} {o : Oper} {a : Act} {Q : Exit → Act → World → Prop} (hgd : o.guard = none) (s x : Operand) (t : TypeId)
    (ho : o.op = .call { callee := .builtin .append, args := #[s, x], argTypes := #[t, t] })
    (base : Nat) (e : TypeId) (i : TypeInfo) (z : Value) (size bytes : Nat) (ht : P.underlying t = some (.slice e)) (hi : P.info? e = some i) (hz : i.zero = some z)
    (hsize : i.size = size) (hby : i.bytes = bytes) (hzs : z.cells.size = size) (hsz : 0 < size)
    (v : Value) (n : Nat) (xs : List Value) (hs : a.eval s = v) (hown : w.ownsRow base e size v n xs)
    (base2 : Nat) (u : Value) (m : Nat) (ys : List Value) (hx : a.eval x = u) (hown2 : w.ownsRow base2 e size u m ys) (h1 : ∀ u ∈ ys, u.oneCell' = true)
    (h63 : n + m ≤ maxLen) (hbytes : (n + m) * bytes ≤ 140737488355328) (hbase : base ≤ w.heap.size)
    (h : ∀ v' w', w'.ownsRow base e size v' (n + m) (xs ++ ys) → w.grownBy w' v.ownBlock → wpList P ops Q rest (a.put o.dst v') w') : wpList P ops Q (o :: rest) a w := by
  have hown2' := hown2
  obtain ⟨hl, ⟨rfl, rfl⟩ | ⟨g, cap, cur, rfl, hg, -⟩⟩ := hown2
  · obtain rfl : ys = [] := List.eq_nil_of_length_eq_zero (by simpa using hl)
    exact wpList_append_own_none hgd s x t ho base e i size ht hi v n xs hs hown hx (h v w (by simpa using hown) (World.grownBy.refl w _))
  · exact wpList_append_own _ hgd s x t ho base e i z size bytes ht hi hz hsize hby hzs hsz v n xs hs hown ⟨g, 0, none⟩ m cap ys hx hl (hown2'.cells (g := g) rfl) h1 h63 hbytes hbase (fun v' w' a b _ => h v' w' a b)
/-- What is left while apart goes the slow way. -/
def Left (n0 : Int) (n : Int) (os : List Nat) : Prop := ∃ f j, n.natAbs < f ∧ slowB (n0.natAbs + 1) n0 [] = slowB f n os ∧ n.natAbs < 2 ^ (53 * j) ∧ os.length + j ≤ 40 ∧ n.natAbs ≤ tameM
theorem Left.start {n : Int} (h : n.natAbs ≤ tameM) : Left n n [] := ⟨n.natAbs + 1, 40, by omega, rfl, Nat.lt_of_le_of_lt h tame_slow, by simp, h⟩
theorem Left.step {n0 n : Int} {os : List Nat} (h : Left n0 n os) (h0 : n ≠ 0) : Left n0 (er n) (rnB n :: os) ∧ os.length < 40 := by
  obtain ⟨f, j, h1, h2, h3, h4, h5⟩ := h
  cases f with
  | zero => omega
  | succ f =>
    cases j with
    | zero => simp at h3; omega
    | succ j =>
      have := er_lt h0
      exact ⟨⟨f, j, by omega, by rw [h2, slowB_step h0], pow53 j h3, by simp only [List.length_cons]; omega, by omega⟩, by omega⟩
theorem Left.tame {n0 n : Int} {os : List Nat} (h : Left n0 n os) : n.natAbs ≤ tameM := by obtain ⟨f, j, -, -, -, -, h⟩ := h; exact h
theorem Left.done {n0 : Int} {os : List Nat} (h : Left n0 0 os) : slowB (n0.natAbs + 1) n0 [] = os := by
  obtain ⟨f, j, -, h, -⟩ := h
  rw [h, slowB_end]
set_option maxRecDepth 100000 in
set_option maxHeartbeats 2000000 in
theorem apart_calls {w : World} (ht : TabOk w) {v : Value} {l : List Nat} {base : Nat} (hown : w.ownsRow base 22 1 v l.length (fvs l)) (hbase : base ≤ w.heap.size) (hl : ∀ x ∈ l, Fl x) (hn : l.length ≤ 60000) (hM : (l.map fv).sum.natAbs ≤ tameM) :
    Calls Tryd.prog 71 #[v] w fun x w' => ∃ u, x = .returned u ∧ w'.ownsRow base 22 1 u (apartB l).length (fvs (apartB l)) ∧ Below w.heap.size w w' := by
  have hs := own_sl hown
  have HA := Lib.hid (fun (W : World) (h : Sl W v (fvs l)) => all_calls h (fun x hx => (hl x hx).1) 1 9218868437227405312 (by decide) (by decide) (by decide) (fun x hx _ => (hl x hx).2) (by omega))
  have HI := Lib.hid (inf1R w)
  by_cases c : allB 1 9218868437227405312 l = true
  · have e : apartB l = l := by unfold apartB; rw [if_pos (show allB 1 inf l = true from c)]
    rw [c] at HA
    rw [e]
    obtain ⟨p, cap, rfl⟩ := hs.form
    have HS := Lib.hid hs
    have HO := Lib.hid hown
    clear hs hown hl c e
    go_enter Tryd.func71, Tryd.ntmps71
    go_wp2_with (first
      | (go_at_call 80; refine HI.out.mono ?_; rintro x w1 ⟨rfl, hb1⟩; have h2 := Lib.hid (HA.out w1 (HS.out.keep hb1)))
      | (go_at_call 67; refine h2.out.mono ?_; rintro x w2 ⟨rfl, hb2⟩))
    go_ret
    exact ⟨_, rfl, own_keep (own_keep HO.out hb1) hb2, below2 hb1 hb2⟩
  · have c' : allB 1 9218868437227405312 l = false := by simpa using c
    have e : apartB l = slowB ((l.map fv).sum.natAbs + 1) (l.map fv).sum [] := by unfold apartB; rw [if_neg (show ¬ allB 1 inf l = true from c)]
    rw [c'] at HA
    rw [e]
    obtain ⟨p, cap, rfl⟩ := hs.form
    have hll : (fvs l).length = l.length := by simp [fvs]
    have HS := Lib.hid hs
    have HL := Lib.hid hl
    have HN := Lib.hid hn
    have HTM := Lib.hid hM
    have HT := Lib.hid ht
    have hnum := numL_un l
    obtain ⟨n0, hn0⟩ : ∃ n0, n0 = (l.map fv).sum := ⟨_, rfl⟩
    rw [← hn0] at hnum HTM ⊢
    have HNU := Lib.hid hnum
    obtain ⟨i0, hi, hz0, hz1, hz2⟩ := info_parts info_f64
    clear hs hown hl c c' e hn0 hnum hn hM hll
    go_enter Tryd.func71, Tryd.ntmps71
    go_wp2_with (first
      | (go_at_call 80; refine HI.out.mono ?_; rintro x w1 ⟨rfl, hb1⟩; have h2 := Lib.hid (HA.out w1 (HS.out.keep hb1)))
      | (go_at_call 67; refine h2.out.mono ?_; rintro x w2 ⟨rfl, hb2⟩; have h3 := Lib.hid (number_calls ((HT.out.keep hb1).keep hb2) ((HS.out.keep hb1).keep hb2) HL.out HN.out))
      | (go_at_call 85; refine h3.out.mono ?_; rintro x w3 ⟨v3, rfl, hn3, hb3⟩; obtain ⟨p3, n3, c3, e3, g3, rfl⟩ := hn3.num.form))
    obtain ⟨W4, h4, B4, S4, J4⟩ := box_res w3 (.cells #[.slice p3 n3 c3, .int .i64 e3, .bool g3, .bool false] 89)
    rw [← h4]
    clear h4
    have hnB := HN.out
    have N4 := (N0.old (M := 61100) hn3.num (by omega)).keep B4
    rw [HNU.out] at N4
    have BW3 : Below w.heap.size w w3 := bl_pack (bl_pack hb1 hb1.size hb2) (by have := hb1.size; have := hb2.size; omega) hb3
    have BW4 : Below w.heap.size w W4 := bl_pack BW3 BW3.size B4
    obtain ⟨nb, hnb⟩ : ∃ b, b = w3.heap.size := ⟨_, rfl⟩
    rw [← hnb] at N4 J4 S4
    have hwb : w.heap.size ≤ nb := by rw [hnb]; exact BW3.size
    rw [← hnb]
    clear hn3 HNU hnB hnb BW3 B4
    go_loopw [4, 5] (fun ov _ wr => ∃ (n : Int) (os : List Nat) (p1 : Option Addr) (n1 c1 : Nat) (e1 : Int) (g1 : Bool), N0 nb wr (.agg #[.slice p1 n1 c1, .int .i64 e1, .bool g1, .bool false]) (un n) (61100 + os.length) ∧ Hid (Left n0 n os) ∧
        wr.heap[nb]? = some (.cells #[.slice p1 n1 c1, .int .i64 e1, .bool g1, .bool false] 89 (0, 0)) ∧ wr.ownsRow (nb + 1) 22 1 ov os.length (fvs os) ∧ Below w.heap.size w wr)
      (fun ov _ _ => match ov with | .slice _ n _ => 41 - n | _ => 0)
    case atStart => exact ⟨n0, [], _, _, _, _, _, N4, Left.start HTM.out, J4, ⟨rfl, Or.inl ⟨rfl, rfl⟩⟩, BW4⟩
    case round =>
      clear N4 J4 S4 BW4
      obtain ⟨n, os, p1, n1, c1, e1, g1, hN, HLf, hJ, hown, hB⟩ := hrel
      obtain ⟨wz, rfl⟩ : ∃ z : World, z = wr := ⟨_, rfl⟩
      obtain ⟨q, cq, rfl⟩ := own_form hown
      obtain ⟨q0, q1, q2, q3, f0, f1, f2, f3⟩ := res4_facts hJ
      by_cases hz : n = 0
      · subst hz
        have HSg := Lib.hid (signBn 0 hN.num (by rw [un_zero]; rfl))
        have he := Lib.hid HLf.out.done
        have HOw := Lib.hid hown
        clear hN hown
        go_wp2_with (go_at_call 86; refine HSg.out.mono ?_; rintro _ w5 ⟨rfl, b5⟩)
        go_ret
        refine ⟨_, rfl, ?_, bl_pack hB hB.size b5⟩
        rw [he.out]
        exact own_less (own_keep HOw.out b5) (by omega)
      · obtain ⟨hstep, hlen⟩ := HLf.out.step hz
        have htame := HLf.out.tame
        have HST := Lib.hid hstep
        obtain ⟨sn, hsn, hsn0⟩ : ∃ s : Int, rs (un n) = s ∧ (s != 0) = true := ⟨TV.sg n, rs_un n, by
          unfold TV.sg; rcases Int.lt_trichotomy n 0 with h | h | h
          · rw [if_pos h]; rfl
          · exact absurd h hz
          · rw [if_neg (by omega), if_neg (by omega)]; rfl⟩
        have HSg := Lib.hid (signBn sn hN.num hsn)
        have HFl := Lib.hid (fun (W : World) (b : Below wz.heap.size wz W) => floatB ((hN.num).keep b))
        obtain ⟨hfl, hfv⟩ := rnB_fl htame
        have HFV := Lib.hid hfv
        have HZ := Lib.hid hz
        have HNz := Lib.hid hN
        have HJz := Lib.hid hJ
        have HOw := Lib.hid hown
        have HBz := Lib.hid hB
        have hsz : nb + 1 ≤ wz.heap.size := by have := block_lt hJ; omega
        clear hstep hsn hN hz hfv htame hJ hown hB
        go_upto_region 8 with (first
          | (go_at_call 86; refine HSg.out.mono ?_; rintro _ w5 ⟨rfl, b5⟩; have hJ5 := Lib.hid (keep_block b5 HJz.out); obtain ⟨q0', q1', q2', q3', -, -, -, -⟩ := res4_facts hJ5.out)
          | (go_at_call 87; refine (HFl.out w5 b5).mono ?_; rintro _ w6 ⟨f, rfl, hf, b6⟩; have hfe := Lib.hid (floOf_rn HZ.out hf); clear hf; have hown6 := Lib.hid (own_keep (own_keep HOw.out b5) b6); have hs6 := Nat.le_trans (Nat.le_trans hsz b5.size) b6.size)
          | (at_builtin; refine wpList_append_rows rfl _ _ 55 rfl (nb + 1) 22 i0 (.float .f64 0) 1 8 Tryd.underlying55 hi hz0 hz1 hz2 rfl (by decide) _ 1 [.float .f64 f] rfl (own_lit _ _ _ hs6) (nb + 1) _ os.length (fvs os) rfl (hown6.out.alloc _) (by simp [fvs, Value.oneCell']) (by unfold maxLen; omega) (by omega) (by simp; omega) ?_; intro ov' w7 hown7 hgrow; have hown7' := Lib.hid hown7; have hgrow' := Lib.hid hgrow; clear hgrow; obtain ⟨q7, cap7, rfl⟩ := own_form hown7; clear hown7))
        have b7 : Below wz.heap.size wz w7 := ((bl_pack b5 b5.size b6).alloc (Nat.le_trans b5.size b6.size) _).grown hgrow'.out (by have := b5.size; have := b6.size; simp; omega) (fun k hk => by cases hk; exact Nat.le_trans b5.size b6.size)
        have D : Below w7.heap.size w7 w7.drew := (Below.refl _ _).drew
        have b7d := bl_pack b7 b7.size D
        have hsd : nb + 1 ≤ w7.drew.heap.size := Nat.le_trans hsz b7d.size
        have hT7 := Lib.hid ((HT.out.keep (bl_pack HBz.out HBz.out.size b7d) : TabOk w7.drew))
        have hJd := Lib.hid (keep_block b7d HJz.out)
        have HBd := Lib.hid (bl_pack HBz.out HBz.out.size b7d)
        have HNd := Lib.hid (HNz.out.keep b7d)
        have hff : f < 18446744073709551616 ∧ rung f < inf := by rw [hfe.out]; exact hfl
        have HO := Lib.hid (of0 (b := nb) f hff.1 hff.2 hT7.out hsd)
        have HS2 := Lib.hid (fun (Y : World) (u : Value) (b : Below w7.drew.heap.size w7.drew Y) (hu : N0 nb Y u (fr f) 1074) => sub0 (61100 + (os.length + 1)) (HNd.out.keep b) hu (hT7.out.keep b) (Nat.le_trans hsd b.size) (by omega) (by omega) (by omega))
        have HOd := Lib.hid (own_keep hown7'.out D)
        have HQ := Lib.hid (show un n - fr f = un (er n) by rw [fr_un, ← un_sub, hfe.out, HFV.out]; rfl)
        have HS3 := Lib.hid HST.out
        obtain ⟨t0, t1, t2, t3, -, -, -, -⟩ := res4_facts hJd.out
        clear hff b7 hfl q0 q1 q2 q3 f0 f1 f2 f3 q0' q1' q2' q3'
        go_region_with (first
          | (go_at_call 89; refine HO.out.mono ?_; rintro _ w8 ⟨v8, rfl, M8, b8⟩; obtain ⟨p8, n8, c8, e8, g8, rfl⟩ := M8.num.form; have hJ8 := Lib.hid (keep_block b8 hJd.out); obtain ⟨s0, s1, s2, s3, -, -, -, -⟩ := res4_facts hJ8.out)
          | (go_at_call 88; refine (HS2.out _ _ b8 M8).mono ?_; rintro _ w9 ⟨v9, rfl, M9, b9⟩; obtain ⟨p9, n9, c9, e9, g9, rfl⟩ := M9.num.form; have hJ9 := Lib.hid (keep_block b9 hJ8.out); obtain ⟨k0, k1, k2, k3, f0, f1, f2, f3⟩ := res4_facts hJ9.out))
        all_goals (
          go_wp2_with fail
          go_roundw
          case rel => exact ⟨er n, f :: os, p9, n9, c9, e9, g9, by rw [← HQ.out]; exact M9.put4 _ _ _ _, by rw [hfe.out]; exact HS3.out, put4_own hJ9.out _ _ _ _, by rw [show (f :: os).length = 1 + os.length by simp; omega]; exact own_off4 (own_keep (own_keep HOd.out b8) b9) (Nat.lt_succ_self _) _ _ _ _, bl_put4 (bl_pack (bl_pack HBd.out HBd.out.size b8) (Nat.le_trans HBd.out.size b8.size) b9) hwb _ _ _ _⟩
          case measure => simp; omega)
end Go.Proofs.YtiihokgjplpceaaDoor
