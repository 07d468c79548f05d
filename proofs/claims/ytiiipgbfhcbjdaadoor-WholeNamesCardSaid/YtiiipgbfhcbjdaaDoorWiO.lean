/- What the walk of WholeNames leans on: its numbers and floats, its great statements' operations and their order. (Printed by gen_WiO.py.) -/
import Derived.Test.YtiiipgbfhcbjdaaDoorNwE
namespace Go.Proofs.YtiiipgbfhcbjdaaDoor
open Go.RowKit TV
set_option linter.unusedVariables false
set_option exponentiation.threshold 70000
set_option maxRecDepth 100000

theorem one_pow (k : Int) : ((1 : Int) : Rat) * (2 : Rat) ^ k = (2 : Rat) ^ k := by rw [show ((1 : Int) : Rat) = 1 from rfl, Rat.one_mul]
theorem high_pow (k : Int) : HighOf ((2 : Rat) ^ k) k := by
  refine Or.inl ⟨Rat.le_refl, ?_⟩
  have h := two_zpow_add k 1
  have hp := two_zpow_pos k
  rw [Rat.zpow_one] at h
  rw [h]; grind
theorem low_pow (k : Int) : LowOf ((2 : Rat) ^ k) k := ⟨1, rfl, by rw [show ((1 : Int) : Rat) = 1 from rfl, Rat.one_mul]⟩
theorem ok_pow {k : Int} (h : -65536 ≤ k ∧ k ≤ 65536) : OkR ((2 : Rat) ^ k) := Or.inr ⟨k, k, high_pow k, low_pow k, h.2, h.1⟩
theorem no_pow1 {k : Int} (h : k < -65536 ∨ 65536 < k) : ¬ OkR ((2 : Rat) ^ k) := by
  rcases h with h | h
  · exact noR_low (high_pow k) (low_pow k) h
  · exact noR_high (high_pow k) h
theorem pow_one (k : Int) : (2 : Rat) ^ (k + 1) = (2 : Rat) ^ k * 2 := by rw [two_zpow_add, Rat.zpow_one]
theorem no_dbl : ¬ OkR ((2 : Rat) ^ (65536 : Int) + (2 : Rat) ^ (65536 : Int)) := by
  have e := pow_one 65536
  rw [show (2 : Rat) ^ (65536 : Int) + (2 : Rat) ^ (65536 : Int) = (2 : Rat) ^ (65536 : Int) * 2 by grind, ← e]
  exact no_pow1 (by decide)
theorem no_two : ¬ OkR ((2 : Rat) ^ (65536 : Int) * ((2 : Int) : Rat)) := by
  have e := pow_one 65536
  rw [show ((2 : Int) : Rat) = 2 from rfl, ← e]
  exact no_pow1 (by decide)
theorem half_fr : fr 4602678819172646912 = (2 : Rat) ^ (-1 : Int) := by rw [fr_lit (x := 4602678819172646912) (m := 1) (k := 1073) (l := -1) (by decide) (by decide), show ((1 : Int) : Rat) = 1 from rfl, Rat.one_mul]
theorem no_half : ¬ OkR ((2 : Rat) ^ (-65536 : Int) * fr 4602678819172646912) := by
  rw [half_fr, ← two_zpow_add]; exact no_pow1 (by decide)
theorem flo_one : FloOf ((2 : Rat) ^ ((65536 : Int) + -65536)) 4607182418800017408 := by
  have e : fr 4607182418800017408 = (2 : Rat) ^ ((65536 : Int) + -65536) := by rw [fr_lit (x := 4607182418800017408) (m := 1) (k := 1074) (l := 0) (by decide) (by decide), show ((1 : Int) : Rat) = 1 from rfl, Rat.one_mul]; rfl
  rw [← e]; exact FloOf.fin (by decide) (by decide)
theorem wide_low (a b : Nat) (h : 0 < a + b) : LowOf ((2 : Rat) ^ (a : Int) + (2 : Rat) ^ (-(b : Int))) (-(b : Int)) := by
  obtain ⟨n, hn⟩ : ∃ n, a + b = n + 1 := ⟨a + b - 1, by omega⟩
  refine ⟨((2 ^ (a + b) : Nat) : Int) + 1, ?_, ?_⟩
  · rw [hn, Nat.pow_succ]; omega
  · have e := two_zpow_add (((a + b : Nat) : Int)) (-(b : Int))
    rw [show ((a + b : Nat) : Int) + -(b : Int) = (a : Int) by omega, two_zpow_nat (a + b)] at e
    rw [e]; push_cast; grind
theorem ok_wide : OkR ((2 : Rat) ^ (65536 : Int) + (2 : Rat) ^ (-65536 : Int)) := by
  have hl := wide_low 65536 65536 (by decide)
  refine Or.inr ⟨65536, -65536, Or.inl ⟨?_, ?_⟩, hl, by decide, by decide⟩
  · have := two_zpow_pos (-65536); grind
  · have h1 := pow_one 65536
    have h2 : (2 : Rat) ^ (-65536 : Int) ≤ (2 : Rat) ^ (65535 : Int) := zpow_le (by decide)
    have h3 := pow_one 65535
    have h4 := two_zpow_pos 65535
    have e1 : (65536 : Int) + 1 = 65537 := rfl
    have e2 : (65535 : Int) + 1 = 65536 := rfl
    rw [e2] at h3
    rw [h1, h3]; clear h1 h3 e1 e2
    generalize (2 : Rat) ^ (65535 : Int) = y at *
    generalize (2 : Rat) ^ (-65536 : Int) = z at *
    grind
@[go_sem] theorem fieldMag (p : Option Addr) (n c : Nat) (e : Int) (g d : Bool) (W : World) : (Instr.field 29 (.agg #[.slice p n c, .int .i64 e, .bool g, .bool d]) 0).run Tryd.prog W = .ok (.agg #[.slice p n c, .int .i64 e]) W := by kernel_rfl
theorem sum2q (a : Nat) (c : Int) : (2 : Rat) ^ ((a : Int) + c) + (2 : Rat) ^ c = ((2 ^ a + 1 : Nat) : Rat) * (2 : Rat) ^ c := by
  rw [two_zpow_add, two_zpow_nat]; push_cast; grind
theorem dif2q (a : Nat) (c : Int) : (2 : Rat) ^ ((a : Int) + c) - (2 : Rat) ^ c = ((2 ^ a - 1 : Nat) : Rat) * (2 : Rat) ^ c := by
  have h : ((2 ^ a - 1 : Nat) : Rat) = ((2 ^ a : Nat) : Rat) - 1 := by
    have h1 : 2 ^ a - 1 + 1 = 2 ^ a := Nat.sub_add_cancel (Nat.two_pow_pos a)
    have h2 : ((2 ^ a - 1 + 1 : Nat) : Rat) = ((2 ^ a : Nat) : Rat) := by rw [h1]
    rw [Rat.natCast_add] at h2; grind
  rw [two_zpow_add, two_zpow_nat, h]; grind
theorem zpow_lt {a b : Int} (h : a < b) : (2 : Rat) ^ a < (2 : Rat) ^ b := by
  have h1 := two_zpow_add a 1
  rw [Rat.zpow_one] at h1
  have h2 := two_zpow_pos a
  have h3 : (2 : Rat) ^ (a + 1) ≤ (2 : Rat) ^ b := zpow_le (by omega)
  rw [h1] at h3; grind
theorem gq_dif : (2 : Rat) ^ (1024 : Int) - (2 : Rat) ^ (970 : Int) = gq := by
  have h := dif2q 54 970
  rw [show ((54 : Nat) : Int) + 970 = 1024 by decide, show 2 ^ 54 - 1 = 18014398509481983 by decide] at h
  exact h
theorem flo_big1 : FloOf (((9007199254740992 : Int) : Rat) + ((1 : Int) : Rat)) 4845873199050653696 := by
  refine flo_lit (N := 9007199254740993 * 2 ^ 1074) (u := 0) (by decide +kernel) (by decide +kernel) ?_
  rw [Rat.natCast_mul, ← two_zpow_nat, Rat.mul_assoc, ← two_zpow_add, show ((1074 : Nat) : Int) + (-1074 - ((0 : Nat) : Int)) = 0 by decide, Rat.zpow_zero, Rat.mul_one, ← Rat.intCast_add]; rfl
theorem flo_big3 : FloOf (((9007199254740992 : Int) : Rat) + ((3 : Int) : Rat)) 4845873199050653698 := by
  refine flo_lit (N := 9007199254740995 * 2 ^ 1074) (u := 0) (by decide +kernel) (by decide +kernel) ?_
  rw [Rat.natCast_mul, ← two_zpow_nat, Rat.mul_assoc, ← two_zpow_add, show ((1074 : Nat) : Int) + (-1074 - ((0 : Nat) : Int)) = 0 by decide, Rat.zpow_zero, Rat.mul_one, ← Rat.intCast_add]; rfl
theorem flo_min : FloOf ((-9223372036854775808 : Int) : Rat) 14114281232179134464 := by
  have e : fr 14114281232179134464 = ((-9223372036854775808 : Int) : Rat) := by
    rw [fr_lit (x := 14114281232179134464) (m := -9223372036854775808) (k := 1074) (l := 0) (by decide +kernel) (by decide), Rat.zpow_zero, Rat.mul_one]
  rw [← e]; exact FloOf.fin (by decide) (by decide)
theorem flo_p0 : FloOf ((2 : Rat) ^ (-1074 : Int)) 1 := by
  refine flo_lit (N := 1) (u := 0) (by decide +kernel) (by decide +kernel) ?_
  rw [show ((1 : Nat) : Rat) = 1 from rfl, Rat.one_mul]; rfl
theorem flo_p1 : FloOf ((2 : Rat) ^ (-1075 : Int)) 0 := by
  refine flo_lit (N := 1) (u := 1) (by decide +kernel) (by decide +kernel) ?_
  rw [show ((1 : Nat) : Rat) = 1 from rfl, Rat.one_mul]; rfl
theorem flo_p3 : FloOf (((3 : Int) : Rat) * (2 : Rat) ^ (-1076 : Int)) 1 := by
  refine flo_lit (N := 3) (u := 2) (by decide +kernel) (by decide +kernel) ?_
  rfl
theorem flo_over : FloOf ((2 : Rat) ^ (-1075 : Int) + (2 : Rat) ^ (-65536 : Int)) 1 := by
  refine flo_lit (N := 2 ^ 64461 + 1) (u := 64462) (by decide +kernel) (by decide +kernel) ?_
  exact sum2q 64461 (-65536)
theorem flo_max : FloOf ((2 : Rat) ^ (1024 : Int) - (2 : Rat) ^ (971 : Int)) 9218868437227405311 := by
  refine flo_lit (N := (2 ^ 53 - 1) * 2 ^ 2045) (u := 0) (by decide +kernel) (by decide +kernel) ?_
  have h := dif2q 53 971
  rw [show ((53 : Nat) : Int) + 971 = 1024 by decide] at h
  rw [h, Rat.natCast_mul, ← two_zpow_nat, Rat.mul_assoc, ← two_zpow_add]; rfl
theorem dif3q (a b : Nat) (c : Int) : (2 : Rat) ^ ((a : Int) + ((b : Int) + c)) - (2 : Rat) ^ ((b : Int) + c) - (2 : Rat) ^ c = (((2 ^ a - 1) * 2 ^ b : Nat) : Rat) * (2 : Rat) ^ c - (2 : Rat) ^ c := by
  rw [dif2q, Rat.natCast_mul, ← two_zpow_nat, Rat.mul_assoc, two_zpow_add]
theorem below_q : (2 : Rat) ^ (1024 : Int) - (2 : Rat) ^ (970 : Int) - (2 : Rat) ^ (-65536 : Int) = (((2 ^ 54 - 1) * 2 ^ 66506 - 1 : Nat) : Rat) * (2 : Rat) ^ (-65536 : Int) := by
  have h := dif3q 54 66506 (-65536)
  rw [show ((54 : Nat) : Int) + (((66506 : Nat) : Int) + -65536) = 1024 by decide, show ((66506 : Nat) : Int) + -65536 = 970 by decide] at h
  rw [h]
  have h1 : (2 ^ 54 - 1) * 2 ^ 66506 - 1 + 1 = (2 ^ 54 - 1) * 2 ^ 66506 := Nat.sub_add_cancel (Nat.mul_pos (by decide) (Nat.two_pow_pos _))
  rw [← h1, Rat.natCast_add]
  rw [h1]; grind
theorem flo_just : FloOf ((2 : Rat) ^ (1024 : Int) - (2 : Rat) ^ (970 : Int) - (2 : Rat) ^ (-65536 : Int)) 9218868437227405311 := by
  refine flo_lit (N := (2 ^ 54 - 1) * 2 ^ 66506 - 1) (u := 64462) (by decide +kernel) (by decide +kernel) ?_
  exact below_q
theorem ok_over : OkR ((2 : Rat) ^ (-1075 : Int) + (2 : Rat) ^ (-65536 : Int)) := by
  refine Or.inr ⟨-1075, -65536, Or.inl ⟨?_, ?_⟩, ⟨((2 ^ 64461 + 1 : Nat) : Int), ?_, by have h := sum2q 64461 (-65536); rw [show ((64461 : Nat) : Int) + -65536 = -1075 by decide] at h; exact h⟩, by decide, by decide⟩
  · have := two_zpow_pos (-65536); grind
  · have h1 : (2 : Rat) ^ (-65536 : Int) < (2 : Rat) ^ (-1075 : Int) := zpow_lt (by decide)
    have h2 := two_zpow_add (-1075) 1
    rw [Rat.zpow_one] at h2
    rw [h2]; grind
  · rw [show (64461 : Nat) = 64460 + 1 from rfl, Nat.pow_succ]; omega
theorem high12 : HighOf ((12 : Int) : Rat) 3 := by
  have := high_lit (q := ((12 : Int) : Rat)) (n := 12) (l := 0) (by decide) (by rw [Rat.zpow_zero, Rat.mul_one]; rfl)
  exact this
theorem low12 : LowOf ((12 : Int) : Rat) 2 := ⟨3, by decide, by rw [show (2 : Int) = ((2 : Nat) : Int) from rfl, two_zpow_nat]; exact (Rat.intCast_mul 3 4 : ((3 * 4 : Int) : Rat) = _)⟩
theorem ok_just : OkR ((2 : Rat) ^ (1024 : Int) - (2 : Rat) ^ (970 : Int) - (2 : Rat) ^ (-65536 : Int)) := by
  refine Or.inr ⟨1023, -65536, Or.inl ⟨?_, ?_⟩, ⟨(((2 ^ 54 - 1) * 2 ^ 66506 - 1 : Nat) : Int), ?_, below_q⟩, by decide, by decide⟩
  · have h1 : (2 : Rat) ^ (-65536 : Int) < (2 : Rat) ^ (970 : Int) := zpow_lt (by decide)
    have h2 : (2 : Rat) ^ (970 : Int) ≤ (2 : Rat) ^ (1022 : Int) := zpow_le (by decide)
    have h3 := two_zpow_add 1023 1
    have h4 := two_zpow_add 1022 1
    rw [Rat.zpow_one] at h3 h4
    rw [show (1023 : Int) + 1 = 1024 from rfl] at h3
    rw [show (1022 : Int) + 1 = 1023 from rfl] at h4
    grind
  · have h1 := two_zpow_pos (-65536)
    have h2 := two_zpow_pos 970
    rw [show (1023 : Int) + 1 = 1024 from rfl]; grind
  · rw [show (66506 : Nat) = 66505 + 1 from rfl, Nat.pow_succ]
    have := Nat.two_pow_pos 66505
    omega
theorem shiftP {F : Nat} {w : World} {va : Value} {m : Nat} (M : Nat) (k : Int) (ha : NumB F w va ((1 : Int) : Rat) m) (ht : Tb F w) (h1 : m + k.natAbs ≤ M) (hok : OkR ((2 : Rat) ^ k)) :
    Calls Tryd.prog 16 #[va, .int .i64 k] w (RetB F ((2 : Rat) ^ k) M w) := by
  have := shiftQ M k ha ht h1 (by rw [one_pow]; exact hok)
  rw [one_pow] at this; exact this
theorem shift1N {F : Nat} {w : World} {va : Value} {m : Nat} (k : Int) (ha : NumB F w va ((1 : Int) : Rat) m) (ht : Tb F w) (hno : ¬ OkR ((2 : Rat) ^ k)) :
    Calls Tryd.prog 16 #[va, .int .i64 k] w (Ret1 NONE w) := shiftN k ha ht (by rw [one_pow]; exact hno)
theorem shiftZ {F : Nat} {w : World} {va : Value} {m : Nat} (k : Int) (ha : NumB F w va 0 m) (ht : Tb F w) :
    Calls Tryd.prog 16 #[va, .int .i64 k] w (RetB F 0 0 w) := by
  refine (wShift_calls k ha.1 ht.tab).mono ?_
  rintro x w' ⟨o, ho, v, a, b, c⟩
  have e : (0 : Rat) * (2 : Rat) ^ k = 0 := Rat.zero_mul _
  cases wv_ok ho (by rw [e]; exact Or.inl rfl)
  rw [e] at b
  exact ⟨v, a, ⟨b.mono (up_le ht), Bx.zero 0⟩, c⟩
theorem nm_E3 {T L : Rat} (h : OkR L) : OkR (T + L - T) := by rw [show T + L - T = L by grind]; exact h
theorem nm_E4 (T L : Rat) : OkR (T + L - T - L) := by rw [show T + L - T - L = 0 by grind]; exact Or.inl rfl
theorem nm_E5 (T L : Rat) : rs (T + L - T - L) = 0 := by rw [show T + L - T - L = 0 by grind]; rfl
theorem names_top : OkR (((1 : Int) : Rat) * (2 : Rat) ^ (65536 : Int)) := by rw [one_pow]; exact ok_pow (by decide)
theorem names_low : OkR (((1 : Int) : Rat) * (2 : Rat) ^ (-65536 : Int)) := by rw [one_pow]; exact ok_pow (by decide)
theorem no_pow {k : Int} (h : k < -65536 ∨ 65536 < k) : ¬ OkR (((1 : Int) : Rat) * (2 : Rat) ^ k) := by
  rw [one_pow]
  rcases h with h | h
  · exact noR_low (high_pow k) (low_pow k) h
  · exact noR_high (high_pow k) h

def lsN (n k : Nat) : Array Bool := (List.replicate k true ++ List.replicate (n - k) false).toArray
def c1 {a0 : Value} (l : List Value) : List Value := a0 :: l
def c10 {a0 a1 a2 a3 a4 a5 a6 a7 a8 a9 : Value} (l : List Value) : List Value := a0 :: a1 :: a2 :: a3 :: a4 :: a5 :: a6 :: a7 :: a8 :: a9 :: l
def c100 {a0 a1 a2 a3 a4 a5 a6 a7 a8 a9 a10 a11 a12 a13 a14 a15 a16 a17 a18 a19 a20 a21 a22 a23 a24 a25 a26 a27 a28 a29 a30 a31 a32 a33 a34 a35 a36 a37 a38 a39 a40 a41 a42 a43 a44 a45 a46 a47 a48 a49 a50 a51 a52 a53 a54 a55 a56 a57 a58 a59 a60 a61 a62 a63 a64 a65 a66 a67 a68 a69 a70 a71 a72 a73 a74 a75 a76 a77 a78 a79 a80 a81 a82 a83 a84 a85 a86 a87 a88 a89 a90 a91 a92 a93 a94 a95 a96 a97 a98 a99 : Value} (l : List Value) : List Value := a0 :: a1 :: a2 :: a3 :: a4 :: a5 :: a6 :: a7 :: a8 :: a9 :: a10 :: a11 :: a12 :: a13 :: a14 :: a15 :: a16 :: a17 :: a18 :: a19 :: a20 :: a21 :: a22 :: a23 :: a24 :: a25 :: a26 :: a27 :: a28 :: a29 :: a30 :: a31 :: a32 :: a33 :: a34 :: a35 :: a36 :: a37 :: a38 :: a39 :: a40 :: a41 :: a42 :: a43 :: a44 :: a45 :: a46 :: a47 :: a48 :: a49 :: a50 :: a51 :: a52 :: a53 :: a54 :: a55 :: a56 :: a57 :: a58 :: a59 :: a60 :: a61 :: a62 :: a63 :: a64 :: a65 :: a66 :: a67 :: a68 :: a69 :: a70 :: a71 :: a72 :: a73 :: a74 :: a75 :: a76 :: a77 :: a78 :: a79 :: a80 :: a81 :: a82 :: a83 :: a84 :: a85 :: a86 :: a87 :: a88 :: a89 :: a90 :: a91 :: a92 :: a93 :: a94 :: a95 :: a96 :: a97 :: a98 :: a99 :: l
def oNA_0 : Oper := { dst := some 16, op := Op.load 29 (Operand.tmp 4), type := 29, pos := "outright.go:28", after := #[], guard := none }
def oNA_1 : Oper := { dst := some 17, op := Op.call { callee := Callee.value (Operand.func 18), args := #[Operand.tmp 16], argTypes := #[29] }, type := 4, pos := "outright.go:28", after := #[{ on := 0, ground := Ground.data }], guard := none }
def oNA_2 : Oper := { dst := some 18, op := Op.unOp UnOp.not 4 (Operand.tmp 17), type := 4, pos := "outright.go:28", after := #[{ on := 1, ground := Ground.data }], guard := none }
def oNA_3 : Oper := { dst := some 19, op := Op.move (Operand.tmp 18), type := 4, pos := "outright.go:28", after := #[{ on := 2, ground := Ground.data }, { on := 1, ground := Ground.chain }], guard := none }
def oNA_4 : Oper := { dst := some 20, op := Op.load 29 (Operand.tmp 4), type := 29, pos := "outright.go:28", after := #[{ on := 3, ground := Ground.guard }], guard := some (3, false) }
def oNA_5 : Oper := { dst := some 21, op := Op.call { callee := Callee.value (Operand.func 13), args := #[Operand.tmp 20], argTypes := #[29] }, type := 3, pos := "outright.go:28", after := #[{ on := 4, ground := Ground.data }, { on := 3, ground := Ground.chain }, { on := 3, ground := Ground.guard }], guard := some (3, false) }
def oNA_6 : Oper := { dst := some 22, op := Op.binOp BinOp.neq 3 (Operand.tmp 21) (Operand.const (Value.int IntKind.i64 0)) 3, type := 4, pos := "outright.go:28", after := #[{ on := 5, ground := Ground.data }, { on := 3, ground := Ground.guard }], guard := some (3, false) }
def oNA_7 : Oper := { dst := some 23, op := Op.pick (Operand.tmp 19) (Operand.const (Value.bool true)) (Operand.tmp 22), type := 4, pos := "outright.go:28", after := #[{ on := 3, ground := Ground.data }, { on := 6, ground := Ground.data }], guard := none }
def oNA_8 : Oper := { dst := some 24, op := Op.move (Operand.tmp 23), type := 4, pos := "outright.go:28", after := #[{ on := 7, ground := Ground.data }, { on := 5, ground := Ground.chain }], guard := none }
def oNA_9 : Oper := { dst := some 25, op := Op.load 29 (Operand.tmp 4), type := 29, pos := "outright.go:28", after := #[{ on := 8, ground := Ground.guard }], guard := some (8, false) }
def oNA_10 : Oper := { dst := some 26, op := Op.call { callee := Callee.value (Operand.func 19), args := #[Operand.tmp 25], argTypes := #[29] }, type := 22, pos := "outright.go:28", after := #[{ on := 9, ground := Ground.data }, { on := 8, ground := Ground.chain }, { on := 8, ground := Ground.guard }], guard := some (8, false) }
def oNA_11 : Oper := { dst := some 27, op := Op.binOp BinOp.neq 22 (Operand.tmp 26) (Operand.const (Value.float FloatKind.f64 0)) 22, type := 4, pos := "outright.go:28", after := #[{ on := 10, ground := Ground.data }, { on := 8, ground := Ground.guard }], guard := some (8, false) }
def oNA_12 : Oper := { dst := some 28, op := Op.pick (Operand.tmp 24) (Operand.const (Value.bool true)) (Operand.tmp 27), type := 4, pos := "outright.go:28", after := #[{ on := 8, ground := Ground.data }, { on := 11, ground := Ground.data }], guard := none }
def oNA_13 : Oper := { dst := some 29, op := Op.move (Operand.tmp 28), type := 4, pos := "outright.go:28", after := #[{ on := 12, ground := Ground.data }, { on := 10, ground := Ground.chain }], guard := none }
def oNA_14 : Oper := { dst := some 30, op := Op.load 29 (Operand.tmp 2), type := 29, pos := "outright.go:28", after := #[{ on := 13, ground := Ground.guard }], guard := some (13, false) }
def oNA_15 : Oper := { dst := some 31, op := Op.call { callee := Callee.value (Operand.func 18), args := #[Operand.tmp 30], argTypes := #[29] }, type := 4, pos := "outright.go:28", after := #[{ on := 14, ground := Ground.data }, { on := 13, ground := Ground.chain }, { on := 13, ground := Ground.guard }], guard := some (13, false) }
def oNA_16 : Oper := { dst := some 32, op := Op.unOp UnOp.not 4 (Operand.tmp 31), type := 4, pos := "outright.go:28", after := #[{ on := 15, ground := Ground.data }, { on := 13, ground := Ground.guard }], guard := some (13, false) }
def oNA_17 : Oper := { dst := some 33, op := Op.pick (Operand.tmp 29) (Operand.const (Value.bool true)) (Operand.tmp 32), type := 4, pos := "outright.go:28", after := #[{ on := 13, ground := Ground.data }, { on := 16, ground := Ground.data }], guard := none }
def oNA_18 : Oper := { dst := some 34, op := Op.move (Operand.tmp 33), type := 4, pos := "outright.go:28", after := #[{ on := 17, ground := Ground.data }, { on := 15, ground := Ground.chain }], guard := none }
def oNA_19 : Oper := { dst := some 35, op := Op.load 29 (Operand.tmp 1), type := 29, pos := "outright.go:28", after := #[{ on := 18, ground := Ground.guard }], guard := some (18, false) }
def oNA_20 : Oper := { dst := some 36, op := Op.call { callee := Callee.value (Operand.func 16), args := #[Operand.tmp 35, Operand.const (Value.int IntKind.i64 65537)], argTypes := #[29, 3] }, type := 29, pos := "outright.go:28", after := #[{ on := 19, ground := Ground.data }, { on := 18, ground := Ground.chain }, { on := 18, ground := Ground.guard }], guard := some (18, false) }
def oNA_21 : Oper := { dst := some 37, op := Op.call { callee := Callee.value (Operand.func 18), args := #[Operand.tmp 36], argTypes := #[29] }, type := 4, pos := "outright.go:28", after := #[{ on := 20, ground := Ground.data }, { on := 20, ground := Ground.chain }, { on := 18, ground := Ground.guard }], guard := some (18, false) }
def oNA_22 : Oper := { dst := some 38, op := Op.pick (Operand.tmp 34) (Operand.const (Value.bool true)) (Operand.tmp 37), type := 4, pos := "outright.go:28", after := #[{ on := 18, ground := Ground.data }, { on := 21, ground := Ground.data }], guard := none }
def oNA_23 : Oper := { dst := some 39, op := Op.move (Operand.tmp 38), type := 4, pos := "outright.go:28", after := #[{ on := 22, ground := Ground.data }, { on := 21, ground := Ground.chain }], guard := none }
def oNA_24 : Oper := { dst := some 40, op := Op.load 29 (Operand.tmp 3), type := 29, pos := "outright.go:28", after := #[{ on := 23, ground := Ground.guard }], guard := some (23, false) }
def oNA_25 : Oper := { dst := some 41, op := Op.call { callee := Callee.value (Operand.func 18), args := #[Operand.tmp 40], argTypes := #[29] }, type := 4, pos := "outright.go:28", after := #[{ on := 24, ground := Ground.data }, { on := 23, ground := Ground.chain }, { on := 23, ground := Ground.guard }], guard := some (23, false) }
def oNA_26 : Oper := { dst := some 42, op := Op.unOp UnOp.not 4 (Operand.tmp 41), type := 4, pos := "outright.go:28", after := #[{ on := 25, ground := Ground.data }, { on := 23, ground := Ground.guard }], guard := some (23, false) }
def oNA_27 : Oper := { dst := some 43, op := Op.pick (Operand.tmp 39) (Operand.const (Value.bool true)) (Operand.tmp 42), type := 4, pos := "outright.go:28", after := #[{ on := 23, ground := Ground.data }, { on := 26, ground := Ground.data }], guard := none }
def oNA_28 : Oper := { dst := some 44, op := Op.move (Operand.tmp 43), type := 4, pos := "outright.go:28", after := #[{ on := 27, ground := Ground.data }, { on := 25, ground := Ground.chain }], guard := none }
def oNA_29 : Oper := { dst := some 45, op := Op.load 29 (Operand.tmp 1), type := 29, pos := "outright.go:28", after := #[{ on := 28, ground := Ground.guard }], guard := some (28, false) }
def oNA_30 : Oper := { dst := some 46, op := Op.call { callee := Callee.value (Operand.func 16), args := #[Operand.tmp 45, Operand.const (Value.int IntKind.i64 (-65537))], argTypes := #[29, 3] }, type := 29, pos := "outright.go:28", after := #[{ on := 29, ground := Ground.data }, { on := 28, ground := Ground.chain }, { on := 28, ground := Ground.guard }], guard := some (28, false) }
def oNA_31 : Oper := { dst := some 47, op := Op.call { callee := Callee.value (Operand.func 18), args := #[Operand.tmp 46], argTypes := #[29] }, type := 4, pos := "outright.go:28", after := #[{ on := 30, ground := Ground.data }, { on := 30, ground := Ground.chain }, { on := 28, ground := Ground.guard }], guard := some (28, false) }
def oNA_32 : Oper := { dst := some 48, op := Op.pick (Operand.tmp 44) (Operand.const (Value.bool true)) (Operand.tmp 47), type := 4, pos := "outright.go:28", after := #[{ on := 28, ground := Ground.data }, { on := 31, ground := Ground.data }], guard := none }
def oNA_33 : Oper := { dst := some 49, op := Op.move (Operand.tmp 48), type := 4, pos := "outright.go:28", after := #[{ on := 32, ground := Ground.data }, { on := 31, ground := Ground.chain }], guard := none }
def oNA_34 : Oper := { dst := some 50, op := Op.load 29 (Operand.tmp 1), type := 29, pos := "outright.go:28", after := #[{ on := 33, ground := Ground.guard }], guard := some (33, false) }
def oNA_35 : Oper := { dst := some 51, op := Op.call { callee := Callee.value (Operand.func 16), args := #[Operand.tmp 50, Operand.const (Value.int IntKind.i64 9223372036854775807)], argTypes := #[29, 3] }, type := 29, pos := "outright.go:28", after := #[{ on := 34, ground := Ground.data }, { on := 33, ground := Ground.chain }, { on := 33, ground := Ground.guard }], guard := some (33, false) }
def oNA_36 : Oper := { dst := some 52, op := Op.call { callee := Callee.value (Operand.func 18), args := #[Operand.tmp 51], argTypes := #[29] }, type := 4, pos := "outright.go:28", after := #[{ on := 35, ground := Ground.data }, { on := 35, ground := Ground.chain }, { on := 33, ground := Ground.guard }], guard := some (33, false) }
def oNA_37 : Oper := { dst := some 53, op := Op.pick (Operand.tmp 49) (Operand.const (Value.bool true)) (Operand.tmp 52), type := 4, pos := "outright.go:28", after := #[{ on := 33, ground := Ground.data }, { on := 36, ground := Ground.data }], guard := none }
def oNA_38 : Oper := { dst := some 54, op := Op.move (Operand.tmp 53), type := 4, pos := "outright.go:28", after := #[{ on := 37, ground := Ground.data }, { on := 36, ground := Ground.chain }], guard := none }
def oNA_39 : Oper := { dst := some 55, op := Op.load 29 (Operand.tmp 1), type := 29, pos := "outright.go:28", after := #[{ on := 38, ground := Ground.guard }], guard := some (38, false) }
def oNA_40 : Oper := { dst := some 56, op := Op.call { callee := Callee.value (Operand.func 16), args := #[Operand.tmp 55, Operand.const (Value.int IntKind.i64 (-9223372036854775808))], argTypes := #[29, 3] }, type := 29, pos := "outright.go:28", after := #[{ on := 39, ground := Ground.data }, { on := 38, ground := Ground.chain }, { on := 38, ground := Ground.guard }], guard := some (38, false) }
def oNA_41 : Oper := { dst := some 57, op := Op.call { callee := Callee.value (Operand.func 18), args := #[Operand.tmp 56], argTypes := #[29] }, type := 4, pos := "outright.go:28", after := #[{ on := 40, ground := Ground.data }, { on := 40, ground := Ground.chain }, { on := 38, ground := Ground.guard }], guard := some (38, false) }
def oNA_42 : Oper := { dst := some 58, op := Op.pick (Operand.tmp 54) (Operand.const (Value.bool true)) (Operand.tmp 57), type := 4, pos := "outright.go:28", after := #[{ on := 38, ground := Ground.data }, { on := 41, ground := Ground.data }], guard := none }
def oNA_43 : Oper := { dst := some 59, op := Op.move (Operand.tmp 58), type := 4, pos := "outright.go:28", after := #[{ on := 42, ground := Ground.data }, { on := 41, ground := Ground.chain }], guard := none }
def oNA_44 : Oper := { dst := some 60, op := Op.load 29 (Operand.tmp 4), type := 29, pos := "outright.go:28", after := #[{ on := 43, ground := Ground.guard }], guard := some (43, false) }
def oNA_45 : Oper := { dst := some 61, op := Op.call { callee := Callee.value (Operand.func 16), args := #[Operand.tmp 60, Operand.const (Value.int IntKind.i64 9223372036854775807)], argTypes := #[29, 3] }, type := 29, pos := "outright.go:28", after := #[{ on := 44, ground := Ground.data }, { on := 43, ground := Ground.chain }, { on := 43, ground := Ground.guard }], guard := some (43, false) }
def oNA_46 : Oper := { dst := some 62, op := Op.call { callee := Callee.value (Operand.func 18), args := #[Operand.tmp 61], argTypes := #[29] }, type := 4, pos := "outright.go:28", after := #[{ on := 45, ground := Ground.data }, { on := 45, ground := Ground.chain }, { on := 43, ground := Ground.guard }], guard := some (43, false) }
def oNA_47 : Oper := { dst := some 63, op := Op.unOp UnOp.not 4 (Operand.tmp 62), type := 4, pos := "outright.go:28", after := #[{ on := 46, ground := Ground.data }, { on := 43, ground := Ground.guard }], guard := some (43, false) }
def oNA_48 : Oper := { dst := some 64, op := Op.pick (Operand.tmp 59) (Operand.const (Value.bool true)) (Operand.tmp 63), type := 4, pos := "outright.go:28", after := #[{ on := 43, ground := Ground.data }, { on := 47, ground := Ground.data }], guard := none }
def oNA_49 : Oper := { dst := some 65, op := Op.move (Operand.tmp 64), type := 4, pos := "outright.go:28", after := #[{ on := 48, ground := Ground.data }, { on := 46, ground := Ground.chain }], guard := none }
def oNA_50 : Oper := { dst := some 66, op := Op.load 29 (Operand.tmp 2), type := 29, pos := "outright.go:28", after := #[{ on := 49, ground := Ground.guard }], guard := some (49, false) }
def oNA_51 : Oper := { dst := some 67, op := Op.load 29 (Operand.tmp 2), type := 29, pos := "outright.go:28", after := #[{ on := 49, ground := Ground.guard }], guard := some (49, false) }
def oNA_52 : Oper := { dst := some 68, op := Op.call { callee := Callee.value (Operand.func 10), args := #[Operand.tmp 66, Operand.tmp 67], argTypes := #[29, 29] }, type := 29, pos := "outright.go:28", after := #[{ on := 50, ground := Ground.data }, { on := 51, ground := Ground.data }, { on := 49, ground := Ground.chain }, { on := 49, ground := Ground.guard }], guard := some (49, false) }
def oNA_53 : Oper := { dst := some 69, op := Op.call { callee := Callee.value (Operand.func 18), args := #[Operand.tmp 68], argTypes := #[29] }, type := 4, pos := "outright.go:28", after := #[{ on := 52, ground := Ground.data }, { on := 52, ground := Ground.chain }, { on := 49, ground := Ground.guard }], guard := some (49, false) }
def oNA_54 : Oper := { dst := some 70, op := Op.pick (Operand.tmp 65) (Operand.const (Value.bool true)) (Operand.tmp 69), type := 4, pos := "outright.go:28", after := #[{ on := 49, ground := Ground.data }, { on := 53, ground := Ground.data }], guard := none }
def oNA_55 : Oper := { dst := some 71, op := Op.move (Operand.tmp 70), type := 4, pos := "outright.go:28", after := #[{ on := 54, ground := Ground.data }, { on := 53, ground := Ground.chain }], guard := none }
def oNA_56 : Oper := { dst := some 72, op := Op.load 29 (Operand.tmp 2), type := 29, pos := "outright.go:28", after := #[{ on := 55, ground := Ground.guard }], guard := some (55, false) }
def oNA_57 : Oper := { dst := some 73, op := Op.load 29 (Operand.tmp 3), type := 29, pos := "outright.go:28", after := #[{ on := 55, ground := Ground.guard }], guard := some (55, false) }
def oNA_58 : Oper := { dst := some 74, op := Op.call { callee := Callee.value (Operand.func 10), args := #[Operand.tmp 72, Operand.tmp 73], argTypes := #[29, 29] }, type := 29, pos := "outright.go:28", after := #[{ on := 56, ground := Ground.data }, { on := 57, ground := Ground.data }, { on := 55, ground := Ground.chain }, { on := 55, ground := Ground.guard }], guard := some (55, false) }
def oNA_59 : Oper := { dst := some 75, op := Op.call { callee := Callee.value (Operand.func 18), args := #[Operand.tmp 74], argTypes := #[29] }, type := 4, pos := "outright.go:28", after := #[{ on := 58, ground := Ground.data }, { on := 58, ground := Ground.chain }, { on := 55, ground := Ground.guard }], guard := some (55, false) }
def oNA_60 : Oper := { dst := some 76, op := Op.unOp UnOp.not 4 (Operand.tmp 75), type := 4, pos := "outright.go:28", after := #[{ on := 59, ground := Ground.data }, { on := 55, ground := Ground.guard }], guard := some (55, false) }
def oNA_61 : Oper := { dst := some 77, op := Op.pick (Operand.tmp 71) (Operand.const (Value.bool true)) (Operand.tmp 76), type := 4, pos := "outright.go:28", after := #[{ on := 55, ground := Ground.data }, { on := 60, ground := Ground.data }], guard := none }
def oNA_62 : Oper := { dst := some 78, op := Op.move (Operand.tmp 77), type := 4, pos := "outright.go:28", after := #[{ on := 61, ground := Ground.data }, { on := 59, ground := Ground.chain }], guard := none }
def oNA_63 : Oper := { dst := some 79, op := Op.load 29 (Operand.tmp 2), type := 29, pos := "outright.go:28", after := #[{ on := 62, ground := Ground.guard }], guard := some (62, false) }
def oNA_64 : Oper := { dst := some 80, op := Op.load 29 (Operand.tmp 3), type := 29, pos := "outright.go:28", after := #[{ on := 62, ground := Ground.guard }], guard := some (62, false) }
def oNA_65 : Oper := { dst := some 81, op := Op.call { callee := Callee.value (Operand.func 10), args := #[Operand.tmp 79, Operand.tmp 80], argTypes := #[29, 29] }, type := 29, pos := "outright.go:28", after := #[{ on := 63, ground := Ground.data }, { on := 64, ground := Ground.data }, { on := 62, ground := Ground.chain }, { on := 62, ground := Ground.guard }], guard := some (62, false) }
def oNA_66 : Oper := { dst := some 82, op := Op.load 29 (Operand.tmp 2), type := 29, pos := "outright.go:28", after := #[{ on := 62, ground := Ground.guard }], guard := some (62, false) }
def oNA_67 : Oper := { dst := some 83, op := Op.call { callee := Callee.value (Operand.func 12), args := #[Operand.tmp 81, Operand.tmp 82], argTypes := #[29, 29] }, type := 29, pos := "outright.go:28", after := #[{ on := 65, ground := Ground.data }, { on := 66, ground := Ground.data }, { on := 65, ground := Ground.chain }, { on := 62, ground := Ground.guard }], guard := some (62, false) }
def oNA_68 : Oper := { dst := some 84, op := Op.load 29 (Operand.tmp 3), type := 29, pos := "outright.go:28", after := #[{ on := 62, ground := Ground.guard }], guard := some (62, false) }
def oNA_69 : Oper := { dst := some 85, op := Op.call { callee := Callee.value (Operand.func 11), args := #[Operand.tmp 83, Operand.tmp 84], argTypes := #[29, 29] }, type := 3, pos := "outright.go:28", after := #[{ on := 67, ground := Ground.data }, { on := 68, ground := Ground.data }, { on := 67, ground := Ground.chain }, { on := 62, ground := Ground.guard }], guard := some (62, false) }
def oNA_70 : Oper := { dst := some 86, op := Op.binOp BinOp.neq 3 (Operand.tmp 85) (Operand.const (Value.int IntKind.i64 0)) 3, type := 4, pos := "outright.go:28", after := #[{ on := 69, ground := Ground.data }, { on := 62, ground := Ground.guard }], guard := some (62, false) }
def oNA_71 : Oper := { dst := some 87, op := Op.pick (Operand.tmp 78) (Operand.const (Value.bool true)) (Operand.tmp 86), type := 4, pos := "outright.go:28", after := #[{ on := 62, ground := Ground.data }, { on := 70, ground := Ground.data }], guard := none }
def oNA_72 : Oper := { dst := some 88, op := Op.move (Operand.tmp 87), type := 4, pos := "outright.go:28", after := #[{ on := 71, ground := Ground.data }, { on := 69, ground := Ground.chain }], guard := none }
def oNA_73 : Oper := { dst := some 89, op := Op.load 29 (Operand.tmp 2), type := 29, pos := "outright.go:28", after := #[{ on := 72, ground := Ground.guard }], guard := some (72, false) }
def oNA_74 : Oper := { dst := some 90, op := Op.call { callee := Callee.value (Operand.func 17), args := #[Operand.const (Value.int IntKind.i64 2)], argTypes := #[2] }, type := 29, pos := "outright.go:28", after := #[{ on := 72, ground := Ground.chain }, { on := 72, ground := Ground.guard }], guard := some (72, false) }
def oNA_75 : Oper := { dst := some 91, op := Op.call { callee := Callee.value (Operand.func 14), args := #[Operand.tmp 89, Operand.tmp 90], argTypes := #[29, 29] }, type := 29, pos := "outright.go:28", after := #[{ on := 73, ground := Ground.data }, { on := 74, ground := Ground.data }, { on := 74, ground := Ground.chain }, { on := 72, ground := Ground.guard }], guard := some (72, false) }
def oNA_76 : Oper := { dst := some 92, op := Op.call { callee := Callee.value (Operand.func 18), args := #[Operand.tmp 91], argTypes := #[29] }, type := 4, pos := "outright.go:28", after := #[{ on := 75, ground := Ground.data }, { on := 75, ground := Ground.chain }, { on := 72, ground := Ground.guard }], guard := some (72, false) }
def oNA_77 : Oper := { dst := some 93, op := Op.pick (Operand.tmp 88) (Operand.const (Value.bool true)) (Operand.tmp 92), type := 4, pos := "outright.go:28", after := #[{ on := 72, ground := Ground.data }, { on := 76, ground := Ground.data }], guard := none }
def oNA_78 : Oper := { dst := some 94, op := Op.move (Operand.tmp 93), type := 4, pos := "outright.go:28", after := #[{ on := 77, ground := Ground.data }, { on := 76, ground := Ground.chain }], guard := none }
def oNA_79 : Oper := { dst := some 95, op := Op.load 29 (Operand.tmp 2), type := 29, pos := "outright.go:28", after := #[{ on := 78, ground := Ground.guard }], guard := some (78, false) }
def oNA_80 : Oper := { dst := some 96, op := Op.load 29 (Operand.tmp 3), type := 29, pos := "outright.go:28", after := #[{ on := 78, ground := Ground.guard }], guard := some (78, false) }
def oNA_81 : Oper := { dst := some 97, op := Op.call { callee := Callee.value (Operand.func 14), args := #[Operand.tmp 95, Operand.tmp 96], argTypes := #[29, 29] }, type := 29, pos := "outright.go:28", after := #[{ on := 79, ground := Ground.data }, { on := 80, ground := Ground.data }, { on := 78, ground := Ground.chain }, { on := 78, ground := Ground.guard }], guard := some (78, false) }
def oNA_82 : Oper := { dst := some 98, op := Op.call { callee := Callee.value (Operand.func 18), args := #[Operand.tmp 97], argTypes := #[29] }, type := 4, pos := "outright.go:28", after := #[{ on := 81, ground := Ground.data }, { on := 81, ground := Ground.chain }, { on := 78, ground := Ground.guard }], guard := some (78, false) }
def oNA_83 : Oper := { dst := some 99, op := Op.unOp UnOp.not 4 (Operand.tmp 98), type := 4, pos := "outright.go:28", after := #[{ on := 82, ground := Ground.data }, { on := 78, ground := Ground.guard }], guard := some (78, false) }
def oNA_84 : Oper := { dst := some 100, op := Op.pick (Operand.tmp 94) (Operand.const (Value.bool true)) (Operand.tmp 99), type := 4, pos := "outright.go:28", after := #[{ on := 78, ground := Ground.data }, { on := 83, ground := Ground.data }], guard := none }
def oNA_85 : Oper := { dst := some 101, op := Op.move (Operand.tmp 100), type := 4, pos := "outright.go:28", after := #[{ on := 84, ground := Ground.data }, { on := 82, ground := Ground.chain }], guard := none }
def oNA_86 : Oper := { dst := some 102, op := Op.load 29 (Operand.tmp 2), type := 29, pos := "outright.go:28", after := #[{ on := 85, ground := Ground.guard }], guard := some (85, false) }
def oNA_87 : Oper := { dst := some 103, op := Op.load 29 (Operand.tmp 3), type := 29, pos := "outright.go:28", after := #[{ on := 85, ground := Ground.guard }], guard := some (85, false) }
def oNA_88 : Oper := { dst := some 104, op := Op.call { callee := Callee.value (Operand.func 14), args := #[Operand.tmp 102, Operand.tmp 103], argTypes := #[29, 29] }, type := 29, pos := "outright.go:28", after := #[{ on := 86, ground := Ground.data }, { on := 87, ground := Ground.data }, { on := 85, ground := Ground.chain }, { on := 85, ground := Ground.guard }], guard := some (85, false) }
def oNA_89 : Oper := { dst := some 105, op := Op.call { callee := Callee.value (Operand.func 19), args := #[Operand.tmp 104], argTypes := #[29] }, type := 22, pos := "outright.go:28", after := #[{ on := 88, ground := Ground.data }, { on := 88, ground := Ground.chain }, { on := 85, ground := Ground.guard }], guard := some (85, false) }
def oNA_90 : Oper := { dst := some 106, op := Op.binOp BinOp.neq 22 (Operand.tmp 105) (Operand.const (Value.float FloatKind.f64 4607182418800017408)) 22, type := 4, pos := "outright.go:28", after := #[{ on := 89, ground := Ground.data }, { on := 85, ground := Ground.guard }], guard := some (85, false) }
def oNA_91 : Oper := { dst := some 107, op := Op.pick (Operand.tmp 101) (Operand.const (Value.bool true)) (Operand.tmp 106), type := 4, pos := "outright.go:28", after := #[{ on := 85, ground := Ground.data }, { on := 90, ground := Ground.data }], guard := none }
def oNA_92 : Oper := { dst := some 108, op := Op.move (Operand.tmp 107), type := 4, pos := "outright.go:28", after := #[{ on := 91, ground := Ground.data }, { on := 89, ground := Ground.chain }], guard := none }
def oNA_93 : Oper := { dst := some 109, op := Op.load 29 (Operand.tmp 3), type := 29, pos := "outright.go:28", after := #[{ on := 92, ground := Ground.guard }], guard := some (92, false) }
def oNA_94 : Oper := { dst := some 110, op := Op.call { callee := Callee.value (Operand.func 22), args := #[Operand.const (Value.float FloatKind.f64 4602678819172646912)], argTypes := #[22] }, type := 29, pos := "outright.go:28", after := #[{ on := 92, ground := Ground.chain }, { on := 92, ground := Ground.guard }], guard := some (92, false) }
def oNA_95 : Oper := { dst := some 111, op := Op.call { callee := Callee.value (Operand.func 14), args := #[Operand.tmp 109, Operand.tmp 110], argTypes := #[29, 29] }, type := 29, pos := "outright.go:28", after := #[{ on := 93, ground := Ground.data }, { on := 94, ground := Ground.data }, { on := 94, ground := Ground.chain }, { on := 92, ground := Ground.guard }], guard := some (92, false) }
def oNA_96 : Oper := { dst := some 112, op := Op.call { callee := Callee.value (Operand.func 18), args := #[Operand.tmp 111], argTypes := #[29] }, type := 4, pos := "outright.go:28", after := #[{ on := 95, ground := Ground.data }, { on := 95, ground := Ground.chain }, { on := 92, ground := Ground.guard }], guard := some (92, false) }
def oNA_97 : Oper := { dst := some 113, op := Op.pick (Operand.tmp 108) (Operand.const (Value.bool true)) (Operand.tmp 112), type := 4, pos := "outright.go:28", after := #[{ on := 92, ground := Ground.data }, { on := 96, ground := Ground.data }], guard := none }
def oNA : Array Oper := #[oNA_0, oNA_1, oNA_2, oNA_3, oNA_4, oNA_5, oNA_6, oNA_7, oNA_8, oNA_9, oNA_10, oNA_11, oNA_12, oNA_13, oNA_14, oNA_15, oNA_16, oNA_17, oNA_18, oNA_19, oNA_20, oNA_21, oNA_22, oNA_23, oNA_24, oNA_25, oNA_26, oNA_27, oNA_28, oNA_29, oNA_30, oNA_31, oNA_32, oNA_33, oNA_34, oNA_35, oNA_36, oNA_37, oNA_38, oNA_39, oNA_40, oNA_41, oNA_42, oNA_43, oNA_44, oNA_45, oNA_46, oNA_47, oNA_48, oNA_49, oNA_50, oNA_51, oNA_52, oNA_53, oNA_54, oNA_55, oNA_56, oNA_57, oNA_58, oNA_59, oNA_60, oNA_61, oNA_62, oNA_63, oNA_64, oNA_65, oNA_66, oNA_67, oNA_68, oNA_69, oNA_70, oNA_71, oNA_72, oNA_73, oNA_74, oNA_75, oNA_76, oNA_77, oNA_78, oNA_79, oNA_80, oNA_81, oNA_82, oNA_83, oNA_84, oNA_85, oNA_86, oNA_87, oNA_88, oNA_89, oNA_90, oNA_91, oNA_92, oNA_93, oNA_94, oNA_95, oNA_96, oNA_97]
theorem oNA_s : Region.noSelect oNA = true := by kernel_rfl
theorem oNA_f0 : Region.free .any oNA (lsN 98 0) 0 = true := by kernel_rfl
theorem oNA_r0 : (Region.ready .any oNA (lsN 98 0)).contains 0 = true := by kernel_rfl
theorem oNA_c1 : Region.ready .any oNA (lsN 98 1) = [1] := by kernel_rfl
theorem oNA_f2 : Region.free .any oNA (lsN 98 2) 2 = true := by kernel_rfl
theorem oNA_r2 : (Region.ready .any oNA (lsN 98 2)).contains 2 = true := by kernel_rfl
theorem oNA_f3 : Region.free .any oNA (lsN 98 3) 3 = true := by kernel_rfl
theorem oNA_r3 : (Region.ready .any oNA (lsN 98 3)).contains 3 = true := by kernel_rfl
theorem oNA_f4 : Region.free .any oNA (lsN 98 4) 4 = true := by kernel_rfl
theorem oNA_r4 : (Region.ready .any oNA (lsN 98 4)).contains 4 = true := by kernel_rfl
theorem oNA_c5 : Region.ready .any oNA (lsN 98 5) = [5] := by kernel_rfl
theorem oNA_f6 : Region.free .any oNA (lsN 98 6) 6 = true := by kernel_rfl
theorem oNA_r6 : (Region.ready .any oNA (lsN 98 6)).contains 6 = true := by kernel_rfl
theorem oNA_f7 : Region.free .any oNA (lsN 98 7) 7 = true := by kernel_rfl
theorem oNA_r7 : (Region.ready .any oNA (lsN 98 7)).contains 7 = true := by kernel_rfl
theorem oNA_f8 : Region.free .any oNA (lsN 98 8) 8 = true := by kernel_rfl
theorem oNA_r8 : (Region.ready .any oNA (lsN 98 8)).contains 8 = true := by kernel_rfl
theorem oNA_f9 : Region.free .any oNA (lsN 98 9) 9 = true := by kernel_rfl
theorem oNA_r9 : (Region.ready .any oNA (lsN 98 9)).contains 9 = true := by kernel_rfl
theorem oNA_c10 : Region.ready .any oNA (lsN 98 10) = [10] := by kernel_rfl
theorem oNA_f11 : Region.free .any oNA (lsN 98 11) 11 = true := by kernel_rfl
theorem oNA_r11 : (Region.ready .any oNA (lsN 98 11)).contains 11 = true := by kernel_rfl
theorem oNA_f12 : Region.free .any oNA (lsN 98 12) 12 = true := by kernel_rfl
theorem oNA_r12 : (Region.ready .any oNA (lsN 98 12)).contains 12 = true := by kernel_rfl
theorem oNA_f13 : Region.free .any oNA (lsN 98 13) 13 = true := by kernel_rfl
theorem oNA_r13 : (Region.ready .any oNA (lsN 98 13)).contains 13 = true := by kernel_rfl
theorem oNA_f14 : Region.free .any oNA (lsN 98 14) 14 = true := by kernel_rfl
theorem oNA_r14 : (Region.ready .any oNA (lsN 98 14)).contains 14 = true := by kernel_rfl
theorem oNA_c15 : Region.ready .any oNA (lsN 98 15) = [15] := by kernel_rfl
theorem oNA_f16 : Region.free .any oNA (lsN 98 16) 16 = true := by kernel_rfl
theorem oNA_r16 : (Region.ready .any oNA (lsN 98 16)).contains 16 = true := by kernel_rfl
theorem oNA_f17 : Region.free .any oNA (lsN 98 17) 17 = true := by kernel_rfl
theorem oNA_r17 : (Region.ready .any oNA (lsN 98 17)).contains 17 = true := by kernel_rfl
theorem oNA_f18 : Region.free .any oNA (lsN 98 18) 18 = true := by kernel_rfl
theorem oNA_r18 : (Region.ready .any oNA (lsN 98 18)).contains 18 = true := by kernel_rfl
theorem oNA_f19 : Region.free .any oNA (lsN 98 19) 19 = true := by kernel_rfl
theorem oNA_r19 : (Region.ready .any oNA (lsN 98 19)).contains 19 = true := by kernel_rfl
theorem oNA_c20 : Region.ready .any oNA (lsN 98 20) = [20] := by kernel_rfl
theorem oNA_c21 : Region.ready .any oNA (lsN 98 21) = [21] := by kernel_rfl
theorem oNA_f22 : Region.free .any oNA (lsN 98 22) 22 = true := by kernel_rfl
theorem oNA_r22 : (Region.ready .any oNA (lsN 98 22)).contains 22 = true := by kernel_rfl
theorem oNA_f23 : Region.free .any oNA (lsN 98 23) 23 = true := by kernel_rfl
theorem oNA_r23 : (Region.ready .any oNA (lsN 98 23)).contains 23 = true := by kernel_rfl
theorem oNA_f24 : Region.free .any oNA (lsN 98 24) 24 = true := by kernel_rfl
theorem oNA_r24 : (Region.ready .any oNA (lsN 98 24)).contains 24 = true := by kernel_rfl
theorem oNA_c25 : Region.ready .any oNA (lsN 98 25) = [25] := by kernel_rfl
theorem oNA_f26 : Region.free .any oNA (lsN 98 26) 26 = true := by kernel_rfl
theorem oNA_r26 : (Region.ready .any oNA (lsN 98 26)).contains 26 = true := by kernel_rfl
theorem oNA_f27 : Region.free .any oNA (lsN 98 27) 27 = true := by kernel_rfl
theorem oNA_r27 : (Region.ready .any oNA (lsN 98 27)).contains 27 = true := by kernel_rfl
theorem oNA_f28 : Region.free .any oNA (lsN 98 28) 28 = true := by kernel_rfl
theorem oNA_r28 : (Region.ready .any oNA (lsN 98 28)).contains 28 = true := by kernel_rfl
theorem oNA_f29 : Region.free .any oNA (lsN 98 29) 29 = true := by kernel_rfl
theorem oNA_r29 : (Region.ready .any oNA (lsN 98 29)).contains 29 = true := by kernel_rfl
theorem oNA_c30 : Region.ready .any oNA (lsN 98 30) = [30] := by kernel_rfl
theorem oNA_c31 : Region.ready .any oNA (lsN 98 31) = [31] := by kernel_rfl
theorem oNA_f32 : Region.free .any oNA (lsN 98 32) 32 = true := by kernel_rfl
theorem oNA_r32 : (Region.ready .any oNA (lsN 98 32)).contains 32 = true := by kernel_rfl
theorem oNA_f33 : Region.free .any oNA (lsN 98 33) 33 = true := by kernel_rfl
theorem oNA_r33 : (Region.ready .any oNA (lsN 98 33)).contains 33 = true := by kernel_rfl
theorem oNA_f34 : Region.free .any oNA (lsN 98 34) 34 = true := by kernel_rfl
theorem oNA_r34 : (Region.ready .any oNA (lsN 98 34)).contains 34 = true := by kernel_rfl
theorem oNA_c35 : Region.ready .any oNA (lsN 98 35) = [35] := by kernel_rfl
theorem oNA_c36 : Region.ready .any oNA (lsN 98 36) = [36] := by kernel_rfl
theorem oNA_f37 : Region.free .any oNA (lsN 98 37) 37 = true := by kernel_rfl
theorem oNA_r37 : (Region.ready .any oNA (lsN 98 37)).contains 37 = true := by kernel_rfl
theorem oNA_f38 : Region.free .any oNA (lsN 98 38) 38 = true := by kernel_rfl
theorem oNA_r38 : (Region.ready .any oNA (lsN 98 38)).contains 38 = true := by kernel_rfl
theorem oNA_f39 : Region.free .any oNA (lsN 98 39) 39 = true := by kernel_rfl
theorem oNA_r39 : (Region.ready .any oNA (lsN 98 39)).contains 39 = true := by kernel_rfl
theorem oNA_c40 : Region.ready .any oNA (lsN 98 40) = [40] := by kernel_rfl
theorem oNA_c41 : Region.ready .any oNA (lsN 98 41) = [41] := by kernel_rfl
theorem oNA_f42 : Region.free .any oNA (lsN 98 42) 42 = true := by kernel_rfl
theorem oNA_r42 : (Region.ready .any oNA (lsN 98 42)).contains 42 = true := by kernel_rfl
theorem oNA_f43 : Region.free .any oNA (lsN 98 43) 43 = true := by kernel_rfl
theorem oNA_r43 : (Region.ready .any oNA (lsN 98 43)).contains 43 = true := by kernel_rfl
theorem oNA_f44 : Region.free .any oNA (lsN 98 44) 44 = true := by kernel_rfl
theorem oNA_r44 : (Region.ready .any oNA (lsN 98 44)).contains 44 = true := by kernel_rfl
theorem oNA_c45 : Region.ready .any oNA (lsN 98 45) = [45] := by kernel_rfl
theorem oNA_c46 : Region.ready .any oNA (lsN 98 46) = [46] := by kernel_rfl
theorem oNA_f47 : Region.free .any oNA (lsN 98 47) 47 = true := by kernel_rfl
theorem oNA_r47 : (Region.ready .any oNA (lsN 98 47)).contains 47 = true := by kernel_rfl
theorem oNA_f48 : Region.free .any oNA (lsN 98 48) 48 = true := by kernel_rfl
theorem oNA_r48 : (Region.ready .any oNA (lsN 98 48)).contains 48 = true := by kernel_rfl
theorem oNA_f49 : Region.free .any oNA (lsN 98 49) 49 = true := by kernel_rfl
theorem oNA_r49 : (Region.ready .any oNA (lsN 98 49)).contains 49 = true := by kernel_rfl
theorem oNA_f50 : Region.free .any oNA (lsN 98 50) 50 = true := by kernel_rfl
theorem oNA_r50 : (Region.ready .any oNA (lsN 98 50)).contains 50 = true := by kernel_rfl
theorem oNA_f51 : Region.free .any oNA (lsN 98 51) 51 = true := by kernel_rfl
theorem oNA_r51 : (Region.ready .any oNA (lsN 98 51)).contains 51 = true := by kernel_rfl
theorem oNA_c52 : Region.ready .any oNA (lsN 98 52) = [52] := by kernel_rfl
theorem oNA_c53 : Region.ready .any oNA (lsN 98 53) = [53] := by kernel_rfl
theorem oNA_f54 : Region.free .any oNA (lsN 98 54) 54 = true := by kernel_rfl
theorem oNA_r54 : (Region.ready .any oNA (lsN 98 54)).contains 54 = true := by kernel_rfl
theorem oNA_f55 : Region.free .any oNA (lsN 98 55) 55 = true := by kernel_rfl
theorem oNA_r55 : (Region.ready .any oNA (lsN 98 55)).contains 55 = true := by kernel_rfl
theorem oNA_f56 : Region.free .any oNA (lsN 98 56) 56 = true := by kernel_rfl
theorem oNA_r56 : (Region.ready .any oNA (lsN 98 56)).contains 56 = true := by kernel_rfl
theorem oNA_f57 : Region.free .any oNA (lsN 98 57) 57 = true := by kernel_rfl
theorem oNA_r57 : (Region.ready .any oNA (lsN 98 57)).contains 57 = true := by kernel_rfl
theorem oNA_c58 : Region.ready .any oNA (lsN 98 58) = [58] := by kernel_rfl
theorem oNA_c59 : Region.ready .any oNA (lsN 98 59) = [59] := by kernel_rfl
theorem oNA_f60 : Region.free .any oNA (lsN 98 60) 60 = true := by kernel_rfl
theorem oNA_r60 : (Region.ready .any oNA (lsN 98 60)).contains 60 = true := by kernel_rfl
theorem oNA_f61 : Region.free .any oNA (lsN 98 61) 61 = true := by kernel_rfl
theorem oNA_r61 : (Region.ready .any oNA (lsN 98 61)).contains 61 = true := by kernel_rfl
theorem oNA_f62 : Region.free .any oNA (lsN 98 62) 62 = true := by kernel_rfl
theorem oNA_r62 : (Region.ready .any oNA (lsN 98 62)).contains 62 = true := by kernel_rfl
theorem oNA_f63 : Region.free .any oNA (lsN 98 63) 63 = true := by kernel_rfl
theorem oNA_r63 : (Region.ready .any oNA (lsN 98 63)).contains 63 = true := by kernel_rfl
theorem oNA_f64 : Region.free .any oNA (lsN 98 64) 64 = true := by kernel_rfl
theorem oNA_r64 : (Region.ready .any oNA (lsN 98 64)).contains 64 = true := by kernel_rfl
theorem oNA_f65 : Region.free .any oNA (lsN 98 65) 66 = true := by kernel_rfl
theorem oNA_r65 : (Region.ready .any oNA (lsN 98 65)).contains 66 = true := by kernel_rfl
theorem oNA_f66 : Region.free .any oNA #[true, true, true, true, true, true, true, true, true, true, true, true, true, true, true, true, true, true, true, true, true, true, true, true, true, true, true, true, true, true, true, true, true, true, true, true, true, true, true, true, true, true, true, true, true, true, true, true, true, true, true, true, true, true, true, true, true, true, true, true, true, true, true, true, true, false, true, false, false, false, false, false, false, false, false, false, false, false, false, false, false, false, false, false, false, false, false, false, false, false, false, false, false, false, false, false, false, false] 68 = true := by kernel_rfl
theorem oNA_r66 : (Region.ready .any oNA #[true, true, true, true, true, true, true, true, true, true, true, true, true, true, true, true, true, true, true, true, true, true, true, true, true, true, true, true, true, true, true, true, true, true, true, true, true, true, true, true, true, true, true, true, true, true, true, true, true, true, true, true, true, true, true, true, true, true, true, true, true, true, true, true, true, false, true, false, false, false, false, false, false, false, false, false, false, false, false, false, false, false, false, false, false, false, false, false, false, false, false, false, false, false, false, false, false, false]).contains 68 = true := by kernel_rfl
theorem oNA_c67 : Region.ready .any oNA #[true, true, true, true, true, true, true, true, true, true, true, true, true, true, true, true, true, true, true, true, true, true, true, true, true, true, true, true, true, true, true, true, true, true, true, true, true, true, true, true, true, true, true, true, true, true, true, true, true, true, true, true, true, true, true, true, true, true, true, true, true, true, true, true, true, false, true, false, true, false, false, false, false, false, false, false, false, false, false, false, false, false, false, false, false, false, false, false, false, false, false, false, false, false, false, false, false, false] = [65] := by kernel_rfl
theorem oNA_c68 : Region.ready .any oNA #[true, true, true, true, true, true, true, true, true, true, true, true, true, true, true, true, true, true, true, true, true, true, true, true, true, true, true, true, true, true, true, true, true, true, true, true, true, true, true, true, true, true, true, true, true, true, true, true, true, true, true, true, true, true, true, true, true, true, true, true, true, true, true, true, true, true, true, false, true, false, false, false, false, false, false, false, false, false, false, false, false, false, false, false, false, false, false, false, false, false, false, false, false, false, false, false, false, false] = [67] := by kernel_rfl
theorem oNA_c69 : Region.ready .any oNA (lsN 98 69) = [69] := by kernel_rfl
theorem oNA_f70 : Region.free .any oNA (lsN 98 70) 70 = true := by kernel_rfl
theorem oNA_r70 : (Region.ready .any oNA (lsN 98 70)).contains 70 = true := by kernel_rfl
theorem oNA_f71 : Region.free .any oNA (lsN 98 71) 71 = true := by kernel_rfl
theorem oNA_r71 : (Region.ready .any oNA (lsN 98 71)).contains 71 = true := by kernel_rfl
theorem oNA_f72 : Region.free .any oNA (lsN 98 72) 72 = true := by kernel_rfl
theorem oNA_r72 : (Region.ready .any oNA (lsN 98 72)).contains 72 = true := by kernel_rfl
theorem oNA_f73 : Region.free .any oNA (lsN 98 73) 73 = true := by kernel_rfl
theorem oNA_r73 : (Region.ready .any oNA (lsN 98 73)).contains 73 = true := by kernel_rfl
theorem oNA_c74 : Region.ready .any oNA (lsN 98 74) = [74] := by kernel_rfl
theorem oNA_c75 : Region.ready .any oNA (lsN 98 75) = [75] := by kernel_rfl
theorem oNA_c76 : Region.ready .any oNA (lsN 98 76) = [76] := by kernel_rfl
theorem oNA_f77 : Region.free .any oNA (lsN 98 77) 77 = true := by kernel_rfl
theorem oNA_r77 : (Region.ready .any oNA (lsN 98 77)).contains 77 = true := by kernel_rfl
theorem oNA_f78 : Region.free .any oNA (lsN 98 78) 78 = true := by kernel_rfl
theorem oNA_r78 : (Region.ready .any oNA (lsN 98 78)).contains 78 = true := by kernel_rfl
theorem oNA_f79 : Region.free .any oNA (lsN 98 79) 79 = true := by kernel_rfl
theorem oNA_r79 : (Region.ready .any oNA (lsN 98 79)).contains 79 = true := by kernel_rfl
theorem oNA_f80 : Region.free .any oNA (lsN 98 80) 80 = true := by kernel_rfl
theorem oNA_r80 : (Region.ready .any oNA (lsN 98 80)).contains 80 = true := by kernel_rfl
theorem oNA_c81 : Region.ready .any oNA (lsN 98 81) = [81] := by kernel_rfl
theorem oNA_c82 : Region.ready .any oNA (lsN 98 82) = [82] := by kernel_rfl
theorem oNA_f83 : Region.free .any oNA (lsN 98 83) 83 = true := by kernel_rfl
theorem oNA_r83 : (Region.ready .any oNA (lsN 98 83)).contains 83 = true := by kernel_rfl
theorem oNA_f84 : Region.free .any oNA (lsN 98 84) 84 = true := by kernel_rfl
theorem oNA_r84 : (Region.ready .any oNA (lsN 98 84)).contains 84 = true := by kernel_rfl
theorem oNA_f85 : Region.free .any oNA (lsN 98 85) 85 = true := by kernel_rfl
theorem oNA_r85 : (Region.ready .any oNA (lsN 98 85)).contains 85 = true := by kernel_rfl
theorem oNA_f86 : Region.free .any oNA (lsN 98 86) 86 = true := by kernel_rfl
theorem oNA_r86 : (Region.ready .any oNA (lsN 98 86)).contains 86 = true := by kernel_rfl
theorem oNA_f87 : Region.free .any oNA (lsN 98 87) 87 = true := by kernel_rfl
theorem oNA_r87 : (Region.ready .any oNA (lsN 98 87)).contains 87 = true := by kernel_rfl
theorem oNA_c88 : Region.ready .any oNA (lsN 98 88) = [88] := by kernel_rfl
theorem oNA_c89 : Region.ready .any oNA (lsN 98 89) = [89] := by kernel_rfl
theorem oNA_f90 : Region.free .any oNA (lsN 98 90) 90 = true := by kernel_rfl
theorem oNA_r90 : (Region.ready .any oNA (lsN 98 90)).contains 90 = true := by kernel_rfl
theorem oNA_f91 : Region.free .any oNA (lsN 98 91) 91 = true := by kernel_rfl
theorem oNA_r91 : (Region.ready .any oNA (lsN 98 91)).contains 91 = true := by kernel_rfl
theorem oNA_f92 : Region.free .any oNA (lsN 98 92) 92 = true := by kernel_rfl
theorem oNA_r92 : (Region.ready .any oNA (lsN 98 92)).contains 92 = true := by kernel_rfl
theorem oNA_f93 : Region.free .any oNA (lsN 98 93) 93 = true := by kernel_rfl
theorem oNA_r93 : (Region.ready .any oNA (lsN 98 93)).contains 93 = true := by kernel_rfl
theorem oNA_c94 : Region.ready .any oNA (lsN 98 94) = [94] := by kernel_rfl
theorem oNA_c95 : Region.ready .any oNA (lsN 98 95) = [95] := by kernel_rfl
theorem oNA_c96 : Region.ready .any oNA (lsN 98 96) = [96] := by kernel_rfl
theorem oNA_f97 : Region.free .any oNA (lsN 98 97) 97 = true := by kernel_rfl
theorem oNA_r97 : (Region.ready .any oNA (lsN 98 97)).contains 97 = true := by kernel_rfl
def oNC_0 : Oper := { dst := some 142, op := Op.load 29 (Operand.tmp 5), type := 29, pos := "outright.go:35", after := #[], guard := none }
def oNC_1 : Oper := { dst := some 143, op := Op.load 29 (Operand.tmp 1), type := 29, pos := "outright.go:35", after := #[], guard := none }
def oNC_2 : Oper := { dst := some 144, op := Op.call { callee := Callee.value (Operand.func 10), args := #[Operand.tmp 142, Operand.tmp 143], argTypes := #[29, 29] }, type := 29, pos := "outright.go:35", after := #[{ on := 0, ground := Ground.data }, { on := 1, ground := Ground.data }], guard := none }
def oNC_3 : Oper := { dst := some 145, op := Op.call { callee := Callee.value (Operand.func 18), args := #[Operand.tmp 144], argTypes := #[29] }, type := 4, pos := "outright.go:35", after := #[{ on := 2, ground := Ground.data }, { on := 2, ground := Ground.chain }], guard := none }
def oNC_4 : Oper := { dst := some 146, op := Op.move (Operand.tmp 145), type := 4, pos := "outright.go:35", after := #[{ on := 3, ground := Ground.data }, { on := 3, ground := Ground.chain }], guard := none }
def oNC_5 : Oper := { dst := some 147, op := Op.load 29 (Operand.tmp 1), type := 29, pos := "outright.go:35", after := #[{ on := 4, ground := Ground.guard }], guard := some (4, false) }
def oNC_6 : Oper := { dst := some 148, op := Op.load 29 (Operand.tmp 5), type := 29, pos := "outright.go:35", after := #[{ on := 4, ground := Ground.guard }], guard := some (4, false) }
def oNC_7 : Oper := { dst := some 149, op := Op.call { callee := Callee.value (Operand.func 10), args := #[Operand.tmp 147, Operand.tmp 148], argTypes := #[29, 29] }, type := 29, pos := "outright.go:35", after := #[{ on := 5, ground := Ground.data }, { on := 6, ground := Ground.data }, { on := 4, ground := Ground.chain }, { on := 4, ground := Ground.guard }], guard := some (4, false) }
def oNC_8 : Oper := { dst := some 150, op := Op.call { callee := Callee.value (Operand.func 18), args := #[Operand.tmp 149], argTypes := #[29] }, type := 4, pos := "outright.go:35", after := #[{ on := 7, ground := Ground.data }, { on := 7, ground := Ground.chain }, { on := 4, ground := Ground.guard }], guard := some (4, false) }
def oNC_9 : Oper := { dst := some 151, op := Op.pick (Operand.tmp 146) (Operand.const (Value.bool true)) (Operand.tmp 150), type := 4, pos := "outright.go:35", after := #[{ on := 4, ground := Ground.data }, { on := 8, ground := Ground.data }], guard := none }
def oNC_10 : Oper := { dst := some 152, op := Op.move (Operand.tmp 151), type := 4, pos := "outright.go:35", after := #[{ on := 9, ground := Ground.data }, { on := 8, ground := Ground.chain }], guard := none }
def oNC_11 : Oper := { dst := some 153, op := Op.load 29 (Operand.tmp 5), type := 29, pos := "outright.go:35", after := #[{ on := 10, ground := Ground.guard }], guard := some (10, false) }
def oNC_12 : Oper := { dst := some 154, op := Op.load 29 (Operand.tmp 4), type := 29, pos := "outright.go:35", after := #[{ on := 10, ground := Ground.guard }], guard := some (10, false) }
def oNC_13 : Oper := { dst := some 155, op := Op.call { callee := Callee.value (Operand.func 10), args := #[Operand.tmp 153, Operand.tmp 154], argTypes := #[29, 29] }, type := 29, pos := "outright.go:35", after := #[{ on := 11, ground := Ground.data }, { on := 12, ground := Ground.data }, { on := 10, ground := Ground.chain }, { on := 10, ground := Ground.guard }], guard := some (10, false) }
def oNC_14 : Oper := { dst := some 156, op := Op.call { callee := Callee.value (Operand.func 18), args := #[Operand.tmp 155], argTypes := #[29] }, type := 4, pos := "outright.go:35", after := #[{ on := 13, ground := Ground.data }, { on := 13, ground := Ground.chain }, { on := 10, ground := Ground.guard }], guard := some (10, false) }
def oNC_15 : Oper := { dst := some 157, op := Op.pick (Operand.tmp 152) (Operand.const (Value.bool true)) (Operand.tmp 156), type := 4, pos := "outright.go:35", after := #[{ on := 10, ground := Ground.data }, { on := 14, ground := Ground.data }], guard := none }
def oNC_16 : Oper := { dst := some 158, op := Op.move (Operand.tmp 157), type := 4, pos := "outright.go:35", after := #[{ on := 15, ground := Ground.data }, { on := 14, ground := Ground.chain }], guard := none }
def oNC_17 : Oper := { dst := some 159, op := Op.load 29 (Operand.tmp 4), type := 29, pos := "outright.go:35", after := #[{ on := 16, ground := Ground.guard }], guard := some (16, false) }
def oNC_18 : Oper := { dst := some 160, op := Op.load 29 (Operand.tmp 5), type := 29, pos := "outright.go:35", after := #[{ on := 16, ground := Ground.guard }], guard := some (16, false) }
def oNC_19 : Oper := { dst := some 161, op := Op.call { callee := Callee.value (Operand.func 10), args := #[Operand.tmp 159, Operand.tmp 160], argTypes := #[29, 29] }, type := 29, pos := "outright.go:35", after := #[{ on := 17, ground := Ground.data }, { on := 18, ground := Ground.data }, { on := 16, ground := Ground.chain }, { on := 16, ground := Ground.guard }], guard := some (16, false) }
def oNC_20 : Oper := { dst := some 162, op := Op.call { callee := Callee.value (Operand.func 18), args := #[Operand.tmp 161], argTypes := #[29] }, type := 4, pos := "outright.go:35", after := #[{ on := 19, ground := Ground.data }, { on := 19, ground := Ground.chain }, { on := 16, ground := Ground.guard }], guard := some (16, false) }
def oNC_21 : Oper := { dst := some 163, op := Op.pick (Operand.tmp 158) (Operand.const (Value.bool true)) (Operand.tmp 162), type := 4, pos := "outright.go:35", after := #[{ on := 16, ground := Ground.data }, { on := 20, ground := Ground.data }], guard := none }
def oNC_22 : Oper := { dst := some 164, op := Op.move (Operand.tmp 163), type := 4, pos := "outright.go:35", after := #[{ on := 21, ground := Ground.data }, { on := 20, ground := Ground.chain }], guard := none }
def oNC_23 : Oper := { dst := some 165, op := Op.load 29 (Operand.tmp 5), type := 29, pos := "outright.go:35", after := #[{ on := 22, ground := Ground.guard }], guard := some (22, false) }
def oNC_24 : Oper := { dst := some 166, op := Op.load 29 (Operand.tmp 5), type := 29, pos := "outright.go:35", after := #[{ on := 22, ground := Ground.guard }], guard := some (22, false) }
def oNC_25 : Oper := { dst := some 167, op := Op.call { callee := Callee.value (Operand.func 12), args := #[Operand.tmp 165, Operand.tmp 166], argTypes := #[29, 29] }, type := 29, pos := "outright.go:35", after := #[{ on := 23, ground := Ground.data }, { on := 24, ground := Ground.data }, { on := 22, ground := Ground.chain }, { on := 22, ground := Ground.guard }], guard := some (22, false) }
def oNC_26 : Oper := { dst := some 168, op := Op.call { callee := Callee.value (Operand.func 18), args := #[Operand.tmp 167], argTypes := #[29] }, type := 4, pos := "outright.go:35", after := #[{ on := 25, ground := Ground.data }, { on := 25, ground := Ground.chain }, { on := 22, ground := Ground.guard }], guard := some (22, false) }
def oNC_27 : Oper := { dst := some 169, op := Op.pick (Operand.tmp 164) (Operand.const (Value.bool true)) (Operand.tmp 168), type := 4, pos := "outright.go:35", after := #[{ on := 22, ground := Ground.data }, { on := 26, ground := Ground.data }], guard := none }
def oNC_28 : Oper := { dst := some 170, op := Op.move (Operand.tmp 169), type := 4, pos := "outright.go:35", after := #[{ on := 27, ground := Ground.data }, { on := 26, ground := Ground.chain }], guard := none }
def oNC_29 : Oper := { dst := some 171, op := Op.load 29 (Operand.tmp 1), type := 29, pos := "outright.go:35", after := #[{ on := 28, ground := Ground.guard }], guard := some (28, false) }
def oNC_30 : Oper := { dst := some 172, op := Op.load 29 (Operand.tmp 5), type := 29, pos := "outright.go:35", after := #[{ on := 28, ground := Ground.guard }], guard := some (28, false) }
def oNC_31 : Oper := { dst := some 173, op := Op.call { callee := Callee.value (Operand.func 12), args := #[Operand.tmp 171, Operand.tmp 172], argTypes := #[29, 29] }, type := 29, pos := "outright.go:35", after := #[{ on := 29, ground := Ground.data }, { on := 30, ground := Ground.data }, { on := 28, ground := Ground.chain }, { on := 28, ground := Ground.guard }], guard := some (28, false) }
def oNC_32 : Oper := { dst := some 174, op := Op.call { callee := Callee.value (Operand.func 18), args := #[Operand.tmp 173], argTypes := #[29] }, type := 4, pos := "outright.go:35", after := #[{ on := 31, ground := Ground.data }, { on := 31, ground := Ground.chain }, { on := 28, ground := Ground.guard }], guard := some (28, false) }
def oNC_33 : Oper := { dst := some 175, op := Op.pick (Operand.tmp 170) (Operand.const (Value.bool true)) (Operand.tmp 174), type := 4, pos := "outright.go:35", after := #[{ on := 28, ground := Ground.data }, { on := 32, ground := Ground.data }], guard := none }
def oNC_34 : Oper := { dst := some 176, op := Op.move (Operand.tmp 175), type := 4, pos := "outright.go:35", after := #[{ on := 33, ground := Ground.data }, { on := 32, ground := Ground.chain }], guard := none }
def oNC_35 : Oper := { dst := some 177, op := Op.load 29 (Operand.tmp 5), type := 29, pos := "outright.go:35", after := #[{ on := 34, ground := Ground.guard }], guard := some (34, false) }
def oNC_36 : Oper := { dst := some 178, op := Op.load 29 (Operand.tmp 4), type := 29, pos := "outright.go:35", after := #[{ on := 34, ground := Ground.guard }], guard := some (34, false) }
def oNC_37 : Oper := { dst := some 179, op := Op.call { callee := Callee.value (Operand.func 14), args := #[Operand.tmp 177, Operand.tmp 178], argTypes := #[29, 29] }, type := 29, pos := "outright.go:35", after := #[{ on := 35, ground := Ground.data }, { on := 36, ground := Ground.data }, { on := 34, ground := Ground.chain }, { on := 34, ground := Ground.guard }], guard := some (34, false) }
def oNC_38 : Oper := { dst := some 180, op := Op.call { callee := Callee.value (Operand.func 18), args := #[Operand.tmp 179], argTypes := #[29] }, type := 4, pos := "outright.go:35", after := #[{ on := 37, ground := Ground.data }, { on := 37, ground := Ground.chain }, { on := 34, ground := Ground.guard }], guard := some (34, false) }
def oNC_39 : Oper := { dst := some 181, op := Op.pick (Operand.tmp 176) (Operand.const (Value.bool true)) (Operand.tmp 180), type := 4, pos := "outright.go:35", after := #[{ on := 34, ground := Ground.data }, { on := 38, ground := Ground.data }], guard := none }
def oNC_40 : Oper := { dst := some 182, op := Op.move (Operand.tmp 181), type := 4, pos := "outright.go:35", after := #[{ on := 39, ground := Ground.data }, { on := 38, ground := Ground.chain }], guard := none }
def oNC_41 : Oper := { dst := some 183, op := Op.load 29 (Operand.tmp 1), type := 29, pos := "outright.go:35", after := #[{ on := 40, ground := Ground.guard }], guard := some (40, false) }
def oNC_42 : Oper := { dst := some 184, op := Op.load 29 (Operand.tmp 5), type := 29, pos := "outright.go:35", after := #[{ on := 40, ground := Ground.guard }], guard := some (40, false) }
def oNC_43 : Oper := { dst := some 185, op := Op.call { callee := Callee.value (Operand.func 14), args := #[Operand.tmp 183, Operand.tmp 184], argTypes := #[29, 29] }, type := 29, pos := "outright.go:35", after := #[{ on := 41, ground := Ground.data }, { on := 42, ground := Ground.data }, { on := 40, ground := Ground.chain }, { on := 40, ground := Ground.guard }], guard := some (40, false) }
def oNC_44 : Oper := { dst := some 186, op := Op.call { callee := Callee.value (Operand.func 18), args := #[Operand.tmp 185], argTypes := #[29] }, type := 4, pos := "outright.go:35", after := #[{ on := 43, ground := Ground.data }, { on := 43, ground := Ground.chain }, { on := 40, ground := Ground.guard }], guard := some (40, false) }
def oNC_45 : Oper := { dst := some 187, op := Op.pick (Operand.tmp 182) (Operand.const (Value.bool true)) (Operand.tmp 186), type := 4, pos := "outright.go:35", after := #[{ on := 40, ground := Ground.data }, { on := 44, ground := Ground.data }], guard := none }
def oNC_46 : Oper := { dst := some 188, op := Op.move (Operand.tmp 187), type := 4, pos := "outright.go:35", after := #[{ on := 45, ground := Ground.data }, { on := 44, ground := Ground.chain }], guard := none }
def oNC_47 : Oper := { dst := some 189, op := Op.load 29 (Operand.tmp 5), type := 29, pos := "outright.go:35", after := #[{ on := 46, ground := Ground.guard }], guard := some (46, false) }
def oNC_48 : Oper := { dst := some 190, op := Op.call { callee := Callee.value (Operand.func 15), args := #[Operand.tmp 189], argTypes := #[29] }, type := 29, pos := "outright.go:35", after := #[{ on := 47, ground := Ground.data }, { on := 46, ground := Ground.chain }, { on := 46, ground := Ground.guard }], guard := some (46, false) }
def oNC_49 : Oper := { dst := some 191, op := Op.call { callee := Callee.value (Operand.func 18), args := #[Operand.tmp 190], argTypes := #[29] }, type := 4, pos := "outright.go:35", after := #[{ on := 48, ground := Ground.data }, { on := 48, ground := Ground.chain }, { on := 46, ground := Ground.guard }], guard := some (46, false) }
def oNC_50 : Oper := { dst := some 192, op := Op.pick (Operand.tmp 188) (Operand.const (Value.bool true)) (Operand.tmp 191), type := 4, pos := "outright.go:35", after := #[{ on := 46, ground := Ground.data }, { on := 49, ground := Ground.data }], guard := none }
def oNC_51 : Oper := { dst := some 193, op := Op.move (Operand.tmp 192), type := 4, pos := "outright.go:35", after := #[{ on := 50, ground := Ground.data }, { on := 49, ground := Ground.chain }], guard := none }
def oNC_52 : Oper := { dst := some 194, op := Op.load 29 (Operand.tmp 5), type := 29, pos := "outright.go:35", after := #[{ on := 51, ground := Ground.guard }], guard := some (51, false) }
def oNC_53 : Oper := { dst := some 195, op := Op.call { callee := Callee.value (Operand.func 16), args := #[Operand.tmp 194, Operand.const (Value.int IntKind.i64 3)], argTypes := #[29, 3] }, type := 29, pos := "outright.go:35", after := #[{ on := 52, ground := Ground.data }, { on := 51, ground := Ground.chain }, { on := 51, ground := Ground.guard }], guard := some (51, false) }
def oNC_54 : Oper := { dst := some 196, op := Op.call { callee := Callee.value (Operand.func 18), args := #[Operand.tmp 195], argTypes := #[29] }, type := 4, pos := "outright.go:35", after := #[{ on := 53, ground := Ground.data }, { on := 53, ground := Ground.chain }, { on := 51, ground := Ground.guard }], guard := some (51, false) }
def oNC_55 : Oper := { dst := some 197, op := Op.pick (Operand.tmp 193) (Operand.const (Value.bool true)) (Operand.tmp 196), type := 4, pos := "outright.go:35", after := #[{ on := 51, ground := Ground.data }, { on := 54, ground := Ground.data }], guard := none }
def oNC_56 : Oper := { dst := some 198, op := Op.move (Operand.tmp 197), type := 4, pos := "outright.go:35", after := #[{ on := 55, ground := Ground.data }, { on := 54, ground := Ground.chain }], guard := none }
def oNC_57 : Oper := { dst := some 199, op := Op.load 29 (Operand.tmp 5), type := 29, pos := "outright.go:35", after := #[{ on := 56, ground := Ground.guard }], guard := some (56, false) }
def oNC_58 : Oper := { dst := some 200, op := Op.load 29 (Operand.tmp 1), type := 29, pos := "outright.go:35", after := #[{ on := 56, ground := Ground.guard }], guard := some (56, false) }
def oNC_59 : Oper := { dst := some 201, op := Op.call { callee := Callee.value (Operand.func 11), args := #[Operand.tmp 199, Operand.tmp 200], argTypes := #[29, 29] }, type := 3, pos := "outright.go:35", after := #[{ on := 57, ground := Ground.data }, { on := 58, ground := Ground.data }, { on := 56, ground := Ground.chain }, { on := 56, ground := Ground.guard }], guard := some (56, false) }
def oNC_60 : Oper := { dst := some 202, op := Op.binOp BinOp.neq 3 (Operand.tmp 201) (Operand.const (Value.int IntKind.i64 0)) 3, type := 4, pos := "outright.go:35", after := #[{ on := 59, ground := Ground.data }, { on := 56, ground := Ground.guard }], guard := some (56, false) }
def oNC_61 : Oper := { dst := some 203, op := Op.pick (Operand.tmp 198) (Operand.const (Value.bool true)) (Operand.tmp 202), type := 4, pos := "outright.go:35", after := #[{ on := 56, ground := Ground.data }, { on := 60, ground := Ground.data }], guard := none }
def oNC_62 : Oper := { dst := some 204, op := Op.move (Operand.tmp 203), type := 4, pos := "outright.go:35", after := #[{ on := 61, ground := Ground.data }, { on := 59, ground := Ground.chain }], guard := none }
def oNC_63 : Oper := { dst := some 205, op := Op.load 29 (Operand.tmp 1), type := 29, pos := "outright.go:35", after := #[{ on := 62, ground := Ground.guard }], guard := some (62, false) }
def oNC_64 : Oper := { dst := some 206, op := Op.load 29 (Operand.tmp 5), type := 29, pos := "outright.go:35", after := #[{ on := 62, ground := Ground.guard }], guard := some (62, false) }
def oNC_65 : Oper := { dst := some 207, op := Op.call { callee := Callee.value (Operand.func 11), args := #[Operand.tmp 205, Operand.tmp 206], argTypes := #[29, 29] }, type := 3, pos := "outright.go:35", after := #[{ on := 63, ground := Ground.data }, { on := 64, ground := Ground.data }, { on := 62, ground := Ground.chain }, { on := 62, ground := Ground.guard }], guard := some (62, false) }
def oNC_66 : Oper := { dst := some 208, op := Op.binOp BinOp.neq 3 (Operand.tmp 207) (Operand.const (Value.int IntKind.i64 0)) 3, type := 4, pos := "outright.go:35", after := #[{ on := 65, ground := Ground.data }, { on := 62, ground := Ground.guard }], guard := some (62, false) }
def oNC_67 : Oper := { dst := some 209, op := Op.pick (Operand.tmp 204) (Operand.const (Value.bool true)) (Operand.tmp 208), type := 4, pos := "outright.go:35", after := #[{ on := 62, ground := Ground.data }, { on := 66, ground := Ground.data }], guard := none }
def oNC_68 : Oper := { dst := some 210, op := Op.move (Operand.tmp 209), type := 4, pos := "outright.go:35", after := #[{ on := 67, ground := Ground.data }, { on := 65, ground := Ground.chain }], guard := none }
def oNC_69 : Oper := { dst := some 211, op := Op.load 29 (Operand.tmp 5), type := 29, pos := "outright.go:35", after := #[{ on := 68, ground := Ground.guard }], guard := some (68, false) }
def oNC_70 : Oper := { dst := some 212, op := Op.call { callee := Callee.value (Operand.func 13), args := #[Operand.tmp 211], argTypes := #[29] }, type := 3, pos := "outright.go:35", after := #[{ on := 69, ground := Ground.data }, { on := 68, ground := Ground.chain }, { on := 68, ground := Ground.guard }], guard := some (68, false) }
def oNC_71 : Oper := { dst := some 213, op := Op.binOp BinOp.neq 3 (Operand.tmp 212) (Operand.const (Value.int IntKind.i64 0)) 3, type := 4, pos := "outright.go:35", after := #[{ on := 70, ground := Ground.data }, { on := 68, ground := Ground.guard }], guard := some (68, false) }
def oNC_72 : Oper := { dst := some 214, op := Op.pick (Operand.tmp 210) (Operand.const (Value.bool true)) (Operand.tmp 213), type := 4, pos := "outright.go:35", after := #[{ on := 68, ground := Ground.data }, { on := 71, ground := Ground.data }], guard := none }
def oNC_73 : Oper := { dst := some 215, op := Op.move (Operand.tmp 214), type := 4, pos := "outright.go:35", after := #[{ on := 72, ground := Ground.data }, { on := 70, ground := Ground.chain }], guard := none }
def oNC_74 : Oper := { dst := some 216, op := Op.fieldAddr 29 (Operand.tmp 5) 0, type := 0, pos := "outright.go:35", after := #[{ on := 73, ground := Ground.guard }], guard := some (73, false) }
def oNC_75 : Oper := { dst := some 217, op := Op.load 27 (Operand.tmp 216), type := 27, pos := "outright.go:35", after := #[{ on := 74, ground := Ground.data }, { on := 73, ground := Ground.guard }], guard := some (73, false) }
def oNC_76 : Oper := { dst := some 218, op := Op.call { callee := Callee.value (Operand.func 20), args := #[Operand.tmp 217], argTypes := #[27] }, type := 3, pos := "outright.go:35", after := #[{ on := 75, ground := Ground.data }, { on := 73, ground := Ground.chain }, { on := 73, ground := Ground.guard }], guard := some (73, false) }
def oNC_77 : Oper := { dst := some 219, op := Op.fieldAddr 29 (Operand.tmp 5) 0, type := 0, pos := "outright.go:35", after := #[{ on := 73, ground := Ground.guard }], guard := some (73, false) }
def oNC_78 : Oper := { dst := some 220, op := Op.load 27 (Operand.tmp 219), type := 27, pos := "outright.go:35", after := #[{ on := 77, ground := Ground.data }, { on := 73, ground := Ground.guard }], guard := some (73, false) }
def oNC_79 : Oper := { dst := some 221, op := Op.call { callee := Callee.value (Operand.func 21), args := #[Operand.tmp 220], argTypes := #[27] }, type := 3, pos := "outright.go:35", after := #[{ on := 78, ground := Ground.data }, { on := 76, ground := Ground.chain }, { on := 73, ground := Ground.guard }], guard := some (73, false) }
def oNC_80 : Oper := { dst := some 222, op := Op.binOp BinOp.add 3 (Operand.tmp 218) (Operand.tmp 221) 3, type := 3, pos := "outright.go:35", after := #[{ on := 76, ground := Ground.data }, { on := 79, ground := Ground.data }, { on := 73, ground := Ground.guard }], guard := some (73, false) }
def oNC_81 : Oper := { dst := some 223, op := Op.binOp BinOp.neq 3 (Operand.tmp 222) (Operand.const (Value.int IntKind.i64 0)) 3, type := 4, pos := "outright.go:35", after := #[{ on := 80, ground := Ground.data }, { on := 73, ground := Ground.guard }], guard := some (73, false) }
def oNC_82 : Oper := { dst := some 224, op := Op.pick (Operand.tmp 215) (Operand.const (Value.bool true)) (Operand.tmp 223), type := 4, pos := "outright.go:35", after := #[{ on := 73, ground := Ground.data }, { on := 81, ground := Ground.data }], guard := none }
def oNC_83 : Oper := { dst := some 225, op := Op.move (Operand.tmp 224), type := 4, pos := "outright.go:35", after := #[{ on := 82, ground := Ground.data }, { on := 79, ground := Ground.chain }], guard := none }
def oNC_84 : Oper := { dst := some 226, op := Op.load 29 (Operand.tmp 5), type := 29, pos := "outright.go:35", after := #[{ on := 83, ground := Ground.guard }], guard := some (83, false) }
def oNC_85 : Oper := { dst := some 227, op := Op.call { callee := Callee.value (Operand.func 19), args := #[Operand.tmp 226], argTypes := #[29] }, type := 22, pos := "outright.go:35", after := #[{ on := 84, ground := Ground.data }, { on := 83, ground := Ground.chain }, { on := 83, ground := Ground.guard }], guard := some (83, false) }
def oNC_86 : Oper := { dst := some 228, op := Op.binOp BinOp.neq 22 (Operand.tmp 227) (Operand.const (Value.float FloatKind.f64 0)) 22, type := 4, pos := "outright.go:35", after := #[{ on := 85, ground := Ground.data }, { on := 83, ground := Ground.guard }], guard := some (83, false) }
def oNC_87 : Oper := { dst := some 229, op := Op.pick (Operand.tmp 225) (Operand.const (Value.bool true)) (Operand.tmp 228), type := 4, pos := "outright.go:35", after := #[{ on := 83, ground := Ground.data }, { on := 86, ground := Ground.data }], guard := none }
def oNC : Array Oper := #[oNC_0, oNC_1, oNC_2, oNC_3, oNC_4, oNC_5, oNC_6, oNC_7, oNC_8, oNC_9, oNC_10, oNC_11, oNC_12, oNC_13, oNC_14, oNC_15, oNC_16, oNC_17, oNC_18, oNC_19, oNC_20, oNC_21, oNC_22, oNC_23, oNC_24, oNC_25, oNC_26, oNC_27, oNC_28, oNC_29, oNC_30, oNC_31, oNC_32, oNC_33, oNC_34, oNC_35, oNC_36, oNC_37, oNC_38, oNC_39, oNC_40, oNC_41, oNC_42, oNC_43, oNC_44, oNC_45, oNC_46, oNC_47, oNC_48, oNC_49, oNC_50, oNC_51, oNC_52, oNC_53, oNC_54, oNC_55, oNC_56, oNC_57, oNC_58, oNC_59, oNC_60, oNC_61, oNC_62, oNC_63, oNC_64, oNC_65, oNC_66, oNC_67, oNC_68, oNC_69, oNC_70, oNC_71, oNC_72, oNC_73, oNC_74, oNC_75, oNC_76, oNC_77, oNC_78, oNC_79, oNC_80, oNC_81, oNC_82, oNC_83, oNC_84, oNC_85, oNC_86, oNC_87]
theorem oNC_s : Region.noSelect oNC = true := by kernel_rfl
theorem oNC_f0 : Region.free .any oNC (lsN 88 0) 0 = true := by kernel_rfl
theorem oNC_r0 : (Region.ready .any oNC (lsN 88 0)).contains 0 = true := by kernel_rfl
theorem oNC_f1 : Region.free .any oNC (lsN 88 1) 1 = true := by kernel_rfl
theorem oNC_r1 : (Region.ready .any oNC (lsN 88 1)).contains 1 = true := by kernel_rfl
theorem oNC_c2 : Region.ready .any oNC (lsN 88 2) = [2] := by kernel_rfl
theorem oNC_c3 : Region.ready .any oNC (lsN 88 3) = [3] := by kernel_rfl
theorem oNC_f4 : Region.free .any oNC (lsN 88 4) 4 = true := by kernel_rfl
theorem oNC_r4 : (Region.ready .any oNC (lsN 88 4)).contains 4 = true := by kernel_rfl
theorem oNC_f5 : Region.free .any oNC (lsN 88 5) 5 = true := by kernel_rfl
theorem oNC_r5 : (Region.ready .any oNC (lsN 88 5)).contains 5 = true := by kernel_rfl
theorem oNC_f6 : Region.free .any oNC (lsN 88 6) 6 = true := by kernel_rfl
theorem oNC_r6 : (Region.ready .any oNC (lsN 88 6)).contains 6 = true := by kernel_rfl
theorem oNC_c7 : Region.ready .any oNC (lsN 88 7) = [7] := by kernel_rfl
theorem oNC_c8 : Region.ready .any oNC (lsN 88 8) = [8] := by kernel_rfl
theorem oNC_f9 : Region.free .any oNC (lsN 88 9) 9 = true := by kernel_rfl
theorem oNC_r9 : (Region.ready .any oNC (lsN 88 9)).contains 9 = true := by kernel_rfl
theorem oNC_f10 : Region.free .any oNC (lsN 88 10) 10 = true := by kernel_rfl
theorem oNC_r10 : (Region.ready .any oNC (lsN 88 10)).contains 10 = true := by kernel_rfl
theorem oNC_f11 : Region.free .any oNC (lsN 88 11) 11 = true := by kernel_rfl
theorem oNC_r11 : (Region.ready .any oNC (lsN 88 11)).contains 11 = true := by kernel_rfl
theorem oNC_f12 : Region.free .any oNC (lsN 88 12) 12 = true := by kernel_rfl
theorem oNC_r12 : (Region.ready .any oNC (lsN 88 12)).contains 12 = true := by kernel_rfl
theorem oNC_c13 : Region.ready .any oNC (lsN 88 13) = [13] := by kernel_rfl
theorem oNC_c14 : Region.ready .any oNC (lsN 88 14) = [14] := by kernel_rfl
theorem oNC_f15 : Region.free .any oNC (lsN 88 15) 15 = true := by kernel_rfl
theorem oNC_r15 : (Region.ready .any oNC (lsN 88 15)).contains 15 = true := by kernel_rfl
theorem oNC_f16 : Region.free .any oNC (lsN 88 16) 16 = true := by kernel_rfl
theorem oNC_r16 : (Region.ready .any oNC (lsN 88 16)).contains 16 = true := by kernel_rfl
theorem oNC_f17 : Region.free .any oNC (lsN 88 17) 17 = true := by kernel_rfl
theorem oNC_r17 : (Region.ready .any oNC (lsN 88 17)).contains 17 = true := by kernel_rfl
theorem oNC_f18 : Region.free .any oNC (lsN 88 18) 18 = true := by kernel_rfl
theorem oNC_r18 : (Region.ready .any oNC (lsN 88 18)).contains 18 = true := by kernel_rfl
theorem oNC_c19 : Region.ready .any oNC (lsN 88 19) = [19] := by kernel_rfl
theorem oNC_c20 : Region.ready .any oNC (lsN 88 20) = [20] := by kernel_rfl
theorem oNC_f21 : Region.free .any oNC (lsN 88 21) 21 = true := by kernel_rfl
theorem oNC_r21 : (Region.ready .any oNC (lsN 88 21)).contains 21 = true := by kernel_rfl
theorem oNC_f22 : Region.free .any oNC (lsN 88 22) 22 = true := by kernel_rfl
theorem oNC_r22 : (Region.ready .any oNC (lsN 88 22)).contains 22 = true := by kernel_rfl
theorem oNC_f23 : Region.free .any oNC (lsN 88 23) 23 = true := by kernel_rfl
theorem oNC_r23 : (Region.ready .any oNC (lsN 88 23)).contains 23 = true := by kernel_rfl
theorem oNC_f24 : Region.free .any oNC (lsN 88 24) 24 = true := by kernel_rfl
theorem oNC_r24 : (Region.ready .any oNC (lsN 88 24)).contains 24 = true := by kernel_rfl
theorem oNC_c25 : Region.ready .any oNC (lsN 88 25) = [25] := by kernel_rfl
theorem oNC_c26 : Region.ready .any oNC (lsN 88 26) = [26] := by kernel_rfl
theorem oNC_f27 : Region.free .any oNC (lsN 88 27) 27 = true := by kernel_rfl
theorem oNC_r27 : (Region.ready .any oNC (lsN 88 27)).contains 27 = true := by kernel_rfl
theorem oNC_f28 : Region.free .any oNC (lsN 88 28) 28 = true := by kernel_rfl
theorem oNC_r28 : (Region.ready .any oNC (lsN 88 28)).contains 28 = true := by kernel_rfl
theorem oNC_f29 : Region.free .any oNC (lsN 88 29) 29 = true := by kernel_rfl
theorem oNC_r29 : (Region.ready .any oNC (lsN 88 29)).contains 29 = true := by kernel_rfl
theorem oNC_f30 : Region.free .any oNC (lsN 88 30) 30 = true := by kernel_rfl
theorem oNC_r30 : (Region.ready .any oNC (lsN 88 30)).contains 30 = true := by kernel_rfl
theorem oNC_c31 : Region.ready .any oNC (lsN 88 31) = [31] := by kernel_rfl
theorem oNC_c32 : Region.ready .any oNC (lsN 88 32) = [32] := by kernel_rfl
theorem oNC_f33 : Region.free .any oNC (lsN 88 33) 33 = true := by kernel_rfl
theorem oNC_r33 : (Region.ready .any oNC (lsN 88 33)).contains 33 = true := by kernel_rfl
theorem oNC_f34 : Region.free .any oNC (lsN 88 34) 34 = true := by kernel_rfl
theorem oNC_r34 : (Region.ready .any oNC (lsN 88 34)).contains 34 = true := by kernel_rfl
theorem oNC_f35 : Region.free .any oNC (lsN 88 35) 35 = true := by kernel_rfl
theorem oNC_r35 : (Region.ready .any oNC (lsN 88 35)).contains 35 = true := by kernel_rfl
theorem oNC_f36 : Region.free .any oNC (lsN 88 36) 36 = true := by kernel_rfl
theorem oNC_r36 : (Region.ready .any oNC (lsN 88 36)).contains 36 = true := by kernel_rfl
theorem oNC_c37 : Region.ready .any oNC (lsN 88 37) = [37] := by kernel_rfl
theorem oNC_c38 : Region.ready .any oNC (lsN 88 38) = [38] := by kernel_rfl
theorem oNC_f39 : Region.free .any oNC (lsN 88 39) 39 = true := by kernel_rfl
theorem oNC_r39 : (Region.ready .any oNC (lsN 88 39)).contains 39 = true := by kernel_rfl
theorem oNC_f40 : Region.free .any oNC (lsN 88 40) 40 = true := by kernel_rfl
theorem oNC_r40 : (Region.ready .any oNC (lsN 88 40)).contains 40 = true := by kernel_rfl
theorem oNC_f41 : Region.free .any oNC (lsN 88 41) 41 = true := by kernel_rfl
theorem oNC_r41 : (Region.ready .any oNC (lsN 88 41)).contains 41 = true := by kernel_rfl
theorem oNC_f42 : Region.free .any oNC (lsN 88 42) 42 = true := by kernel_rfl
theorem oNC_r42 : (Region.ready .any oNC (lsN 88 42)).contains 42 = true := by kernel_rfl
theorem oNC_c43 : Region.ready .any oNC (lsN 88 43) = [43] := by kernel_rfl
theorem oNC_c44 : Region.ready .any oNC (lsN 88 44) = [44] := by kernel_rfl
theorem oNC_f45 : Region.free .any oNC (lsN 88 45) 45 = true := by kernel_rfl
theorem oNC_r45 : (Region.ready .any oNC (lsN 88 45)).contains 45 = true := by kernel_rfl
theorem oNC_f46 : Region.free .any oNC (lsN 88 46) 46 = true := by kernel_rfl
theorem oNC_r46 : (Region.ready .any oNC (lsN 88 46)).contains 46 = true := by kernel_rfl
theorem oNC_f47 : Region.free .any oNC (lsN 88 47) 47 = true := by kernel_rfl
theorem oNC_r47 : (Region.ready .any oNC (lsN 88 47)).contains 47 = true := by kernel_rfl
theorem oNC_c48 : Region.ready .any oNC (lsN 88 48) = [48] := by kernel_rfl
theorem oNC_c49 : Region.ready .any oNC (lsN 88 49) = [49] := by kernel_rfl
theorem oNC_f50 : Region.free .any oNC (lsN 88 50) 50 = true := by kernel_rfl
theorem oNC_r50 : (Region.ready .any oNC (lsN 88 50)).contains 50 = true := by kernel_rfl
theorem oNC_f51 : Region.free .any oNC (lsN 88 51) 51 = true := by kernel_rfl
theorem oNC_r51 : (Region.ready .any oNC (lsN 88 51)).contains 51 = true := by kernel_rfl
theorem oNC_f52 : Region.free .any oNC (lsN 88 52) 52 = true := by kernel_rfl
theorem oNC_r52 : (Region.ready .any oNC (lsN 88 52)).contains 52 = true := by kernel_rfl
theorem oNC_c53 : Region.ready .any oNC (lsN 88 53) = [53] := by kernel_rfl
theorem oNC_c54 : Region.ready .any oNC (lsN 88 54) = [54] := by kernel_rfl
theorem oNC_f55 : Region.free .any oNC (lsN 88 55) 55 = true := by kernel_rfl
theorem oNC_r55 : (Region.ready .any oNC (lsN 88 55)).contains 55 = true := by kernel_rfl
theorem oNC_f56 : Region.free .any oNC (lsN 88 56) 56 = true := by kernel_rfl
theorem oNC_r56 : (Region.ready .any oNC (lsN 88 56)).contains 56 = true := by kernel_rfl
theorem oNC_f57 : Region.free .any oNC (lsN 88 57) 57 = true := by kernel_rfl
theorem oNC_r57 : (Region.ready .any oNC (lsN 88 57)).contains 57 = true := by kernel_rfl
theorem oNC_f58 : Region.free .any oNC (lsN 88 58) 58 = true := by kernel_rfl
theorem oNC_r58 : (Region.ready .any oNC (lsN 88 58)).contains 58 = true := by kernel_rfl
theorem oNC_c59 : Region.ready .any oNC (lsN 88 59) = [59] := by kernel_rfl
theorem oNC_f60 : Region.free .any oNC (lsN 88 60) 60 = true := by kernel_rfl
theorem oNC_r60 : (Region.ready .any oNC (lsN 88 60)).contains 60 = true := by kernel_rfl
theorem oNC_f61 : Region.free .any oNC (lsN 88 61) 61 = true := by kernel_rfl
theorem oNC_r61 : (Region.ready .any oNC (lsN 88 61)).contains 61 = true := by kernel_rfl
theorem oNC_f62 : Region.free .any oNC (lsN 88 62) 62 = true := by kernel_rfl
theorem oNC_r62 : (Region.ready .any oNC (lsN 88 62)).contains 62 = true := by kernel_rfl
theorem oNC_f63 : Region.free .any oNC (lsN 88 63) 63 = true := by kernel_rfl
theorem oNC_r63 : (Region.ready .any oNC (lsN 88 63)).contains 63 = true := by kernel_rfl
theorem oNC_f64 : Region.free .any oNC (lsN 88 64) 64 = true := by kernel_rfl
theorem oNC_r64 : (Region.ready .any oNC (lsN 88 64)).contains 64 = true := by kernel_rfl
theorem oNC_c65 : Region.ready .any oNC (lsN 88 65) = [65] := by kernel_rfl
theorem oNC_f66 : Region.free .any oNC (lsN 88 66) 66 = true := by kernel_rfl
theorem oNC_r66 : (Region.ready .any oNC (lsN 88 66)).contains 66 = true := by kernel_rfl
theorem oNC_f67 : Region.free .any oNC (lsN 88 67) 67 = true := by kernel_rfl
theorem oNC_r67 : (Region.ready .any oNC (lsN 88 67)).contains 67 = true := by kernel_rfl
theorem oNC_f68 : Region.free .any oNC (lsN 88 68) 68 = true := by kernel_rfl
theorem oNC_r68 : (Region.ready .any oNC (lsN 88 68)).contains 68 = true := by kernel_rfl
theorem oNC_f69 : Region.free .any oNC (lsN 88 69) 69 = true := by kernel_rfl
theorem oNC_r69 : (Region.ready .any oNC (lsN 88 69)).contains 69 = true := by kernel_rfl
theorem oNC_c70 : Region.ready .any oNC (lsN 88 70) = [70] := by kernel_rfl
theorem oNC_f71 : Region.free .any oNC (lsN 88 71) 71 = true := by kernel_rfl
theorem oNC_r71 : (Region.ready .any oNC (lsN 88 71)).contains 71 = true := by kernel_rfl
theorem oNC_f72 : Region.free .any oNC (lsN 88 72) 72 = true := by kernel_rfl
theorem oNC_r72 : (Region.ready .any oNC (lsN 88 72)).contains 72 = true := by kernel_rfl
theorem oNC_f73 : Region.free .any oNC (lsN 88 73) 73 = true := by kernel_rfl
theorem oNC_r73 : (Region.ready .any oNC (lsN 88 73)).contains 73 = true := by kernel_rfl
theorem oNC_f74 : Region.free .any oNC (lsN 88 74) 74 = true := by kernel_rfl
theorem oNC_r74 : (Region.ready .any oNC (lsN 88 74)).contains 74 = true := by kernel_rfl
theorem oNC_f75 : Region.free .any oNC (lsN 88 75) 75 = true := by kernel_rfl
theorem oNC_r75 : (Region.ready .any oNC (lsN 88 75)).contains 75 = true := by kernel_rfl
theorem oNC_f76 : Region.free .any oNC (lsN 88 76) 77 = true := by kernel_rfl
theorem oNC_r76 : (Region.ready .any oNC (lsN 88 76)).contains 77 = true := by kernel_rfl
theorem oNC_f77 : Region.free .any oNC #[true, true, true, true, true, true, true, true, true, true, true, true, true, true, true, true, true, true, true, true, true, true, true, true, true, true, true, true, true, true, true, true, true, true, true, true, true, true, true, true, true, true, true, true, true, true, true, true, true, true, true, true, true, true, true, true, true, true, true, true, true, true, true, true, true, true, true, true, true, true, true, true, true, true, true, true, false, true, false, false, false, false, false, false, false, false, false, false] 78 = true := by kernel_rfl
theorem oNC_r77 : (Region.ready .any oNC #[true, true, true, true, true, true, true, true, true, true, true, true, true, true, true, true, true, true, true, true, true, true, true, true, true, true, true, true, true, true, true, true, true, true, true, true, true, true, true, true, true, true, true, true, true, true, true, true, true, true, true, true, true, true, true, true, true, true, true, true, true, true, true, true, true, true, true, true, true, true, true, true, true, true, true, true, false, true, false, false, false, false, false, false, false, false, false, false]).contains 78 = true := by kernel_rfl
theorem oNC_c78 : Region.ready .any oNC #[true, true, true, true, true, true, true, true, true, true, true, true, true, true, true, true, true, true, true, true, true, true, true, true, true, true, true, true, true, true, true, true, true, true, true, true, true, true, true, true, true, true, true, true, true, true, true, true, true, true, true, true, true, true, true, true, true, true, true, true, true, true, true, true, true, true, true, true, true, true, true, true, true, true, true, true, false, true, true, false, false, false, false, false, false, false, false, false] = [76] := by kernel_rfl
theorem oNC_c79 : Region.ready .any oNC (lsN 88 79) = [79] := by kernel_rfl
theorem oNC_f80 : Region.free .any oNC (lsN 88 80) 80 = true := by kernel_rfl
theorem oNC_r80 : (Region.ready .any oNC (lsN 88 80)).contains 80 = true := by kernel_rfl
theorem oNC_f81 : Region.free .any oNC (lsN 88 81) 81 = true := by kernel_rfl
theorem oNC_r81 : (Region.ready .any oNC (lsN 88 81)).contains 81 = true := by kernel_rfl
theorem oNC_f82 : Region.free .any oNC (lsN 88 82) 82 = true := by kernel_rfl
theorem oNC_r82 : (Region.ready .any oNC (lsN 88 82)).contains 82 = true := by kernel_rfl
theorem oNC_f83 : Region.free .any oNC (lsN 88 83) 83 = true := by kernel_rfl
theorem oNC_r83 : (Region.ready .any oNC (lsN 88 83)).contains 83 = true := by kernel_rfl
theorem oNC_f84 : Region.free .any oNC (lsN 88 84) 84 = true := by kernel_rfl
theorem oNC_r84 : (Region.ready .any oNC (lsN 88 84)).contains 84 = true := by kernel_rfl
theorem oNC_c85 : Region.ready .any oNC (lsN 88 85) = [85] := by kernel_rfl
theorem oNC_f86 : Region.free .any oNC (lsN 88 86) 86 = true := by kernel_rfl
theorem oNC_r86 : (Region.ready .any oNC (lsN 88 86)).contains 86 = true := by kernel_rfl
theorem oNC_f87 : Region.free .any oNC (lsN 88 87) 87 = true := by kernel_rfl
theorem oNC_r87 : (Region.ready .any oNC (lsN 88 87)).contains 87 = true := by kernel_rfl
def oND_0 : Oper := { dst := some 231, op := Op.load 29 (Operand.tmp 6), type := 29, pos := "outright.go:39", after := #[], guard := none }
def oND_1 : Oper := { dst := some 232, op := Op.load 29 (Operand.tmp 1), type := 29, pos := "outright.go:39", after := #[], guard := none }
def oND_2 : Oper := { dst := some 233, op := Op.call { callee := Callee.value (Operand.func 10), args := #[Operand.tmp 231, Operand.tmp 232], argTypes := #[29, 29] }, type := 29, pos := "outright.go:39", after := #[{ on := 0, ground := Ground.data }, { on := 1, ground := Ground.data }], guard := none }
def oND_3 : Oper := { dst := some 234, op := Op.call { callee := Callee.value (Operand.func 19), args := #[Operand.tmp 233], argTypes := #[29] }, type := 22, pos := "outright.go:39", after := #[{ on := 2, ground := Ground.data }, { on := 2, ground := Ground.chain }], guard := none }
def oND_4 : Oper := { dst := some 235, op := Op.binOp BinOp.eql 22 (Operand.tmp 234) (Operand.const (Value.float FloatKind.f64 4845873199050653696)) 22, type := 4, pos := "outright.go:39", after := #[{ on := 3, ground := Ground.data }], guard := none }
def oND_5 : Oper := { dst := some 236, op := Op.move (Operand.tmp 235), type := 4, pos := "outright.go:39", after := #[{ on := 4, ground := Ground.data }, { on := 3, ground := Ground.chain }], guard := none }
def oND_6 : Oper := { dst := some 237, op := Op.load 29 (Operand.tmp 6), type := 29, pos := "outright.go:39", after := #[{ on := 5, ground := Ground.guard }], guard := some (5, true) }
def oND_7 : Oper := { dst := some 238, op := Op.call { callee := Callee.value (Operand.func 17), args := #[Operand.const (Value.int IntKind.i64 3)], argTypes := #[2] }, type := 29, pos := "outright.go:39", after := #[{ on := 5, ground := Ground.chain }, { on := 5, ground := Ground.guard }], guard := some (5, true) }
def oND_8 : Oper := { dst := some 239, op := Op.call { callee := Callee.value (Operand.func 10), args := #[Operand.tmp 237, Operand.tmp 238], argTypes := #[29, 29] }, type := 29, pos := "outright.go:39", after := #[{ on := 6, ground := Ground.data }, { on := 7, ground := Ground.data }, { on := 7, ground := Ground.chain }, { on := 5, ground := Ground.guard }], guard := some (5, true) }
def oND_9 : Oper := { dst := some 240, op := Op.call { callee := Callee.value (Operand.func 19), args := #[Operand.tmp 239], argTypes := #[29] }, type := 22, pos := "outright.go:39", after := #[{ on := 8, ground := Ground.data }, { on := 8, ground := Ground.chain }, { on := 5, ground := Ground.guard }], guard := some (5, true) }
def oND_10 : Oper := { dst := some 241, op := Op.binOp BinOp.eql 22 (Operand.tmp 240) (Operand.const (Value.float FloatKind.f64 4845873199050653698)) 22, type := 4, pos := "outright.go:39", after := #[{ on := 9, ground := Ground.data }, { on := 5, ground := Ground.guard }], guard := some (5, true) }
def oND_11 : Oper := { dst := some 242, op := Op.pick (Operand.tmp 236) (Operand.tmp 241) (Operand.const (Value.bool false)), type := 4, pos := "outright.go:39", after := #[{ on := 5, ground := Ground.data }, { on := 10, ground := Ground.data }], guard := none }
def oND_12 : Oper := { dst := some 243, op := Op.move (Operand.tmp 242), type := 4, pos := "outright.go:39", after := #[{ on := 11, ground := Ground.data }, { on := 9, ground := Ground.chain }], guard := none }
def oND_13 : Oper := { dst := some 244, op := Op.call { callee := Callee.value (Operand.func 17), args := #[Operand.const (Value.int IntKind.i64 12)], argTypes := #[2] }, type := 29, pos := "outright.go:39", after := #[{ on := 12, ground := Ground.chain }, { on := 12, ground := Ground.guard }], guard := some (12, true) }
def oND_14 : Oper := { dst := some 245, op := Op.field 29 (Operand.tmp 244) 0, type := 27, pos := "outright.go:39", after := #[{ on := 13, ground := Ground.data }, { on := 12, ground := Ground.guard }], guard := some (12, true) }
def oND_15 : Oper := { dst := some 246, op := Op.call { callee := Callee.value (Operand.func 20), args := #[Operand.tmp 245], argTypes := #[27] }, type := 3, pos := "outright.go:39", after := #[{ on := 14, ground := Ground.data }, { on := 13, ground := Ground.chain }, { on := 12, ground := Ground.guard }], guard := some (12, true) }
def oND_16 : Oper := { dst := some 247, op := Op.binOp BinOp.eql 3 (Operand.tmp 246) (Operand.const (Value.int IntKind.i64 3)) 3, type := 4, pos := "outright.go:39", after := #[{ on := 15, ground := Ground.data }, { on := 12, ground := Ground.guard }], guard := some (12, true) }
def oND_17 : Oper := { dst := some 248, op := Op.pick (Operand.tmp 243) (Operand.tmp 247) (Operand.const (Value.bool false)), type := 4, pos := "outright.go:39", after := #[{ on := 12, ground := Ground.data }, { on := 16, ground := Ground.data }], guard := none }
def oND_18 : Oper := { dst := some 249, op := Op.move (Operand.tmp 248), type := 4, pos := "outright.go:39", after := #[{ on := 17, ground := Ground.data }, { on := 15, ground := Ground.chain }], guard := none }
def oND_19 : Oper := { dst := some 250, op := Op.call { callee := Callee.value (Operand.func 17), args := #[Operand.const (Value.int IntKind.i64 12)], argTypes := #[2] }, type := 29, pos := "outright.go:39", after := #[{ on := 18, ground := Ground.chain }, { on := 18, ground := Ground.guard }], guard := some (18, true) }
def oND_20 : Oper := { dst := some 251, op := Op.field 29 (Operand.tmp 250) 0, type := 27, pos := "outright.go:39", after := #[{ on := 19, ground := Ground.data }, { on := 18, ground := Ground.guard }], guard := some (18, true) }
def oND_21 : Oper := { dst := some 252, op := Op.call { callee := Callee.value (Operand.func 21), args := #[Operand.tmp 251], argTypes := #[27] }, type := 3, pos := "outright.go:39", after := #[{ on := 20, ground := Ground.data }, { on := 19, ground := Ground.chain }, { on := 18, ground := Ground.guard }], guard := some (18, true) }
def oND_22 : Oper := { dst := some 253, op := Op.binOp BinOp.eql 3 (Operand.tmp 252) (Operand.const (Value.int IntKind.i64 2)) 3, type := 4, pos := "outright.go:39", after := #[{ on := 21, ground := Ground.data }, { on := 18, ground := Ground.guard }], guard := some (18, true) }
def oND_23 : Oper := { dst := some 254, op := Op.pick (Operand.tmp 249) (Operand.tmp 253) (Operand.const (Value.bool false)), type := 4, pos := "outright.go:39", after := #[{ on := 18, ground := Ground.data }, { on := 22, ground := Ground.data }], guard := none }
def oND_24 : Oper := { dst := some 255, op := Op.move (Operand.tmp 254), type := 4, pos := "outright.go:39", after := #[{ on := 23, ground := Ground.data }, { on := 21, ground := Ground.chain }], guard := none }
def oND_25 : Oper := { dst := some 256, op := Op.call { callee := Callee.value (Operand.func 17), args := #[Operand.const (Value.int IntKind.i64 (-9223372036854775808))], argTypes := #[2] }, type := 29, pos := "outright.go:39", after := #[{ on := 24, ground := Ground.chain }, { on := 24, ground := Ground.guard }], guard := some (24, true) }
def oND_26 : Oper := { dst := some 257, op := Op.call { callee := Callee.value (Operand.func 19), args := #[Operand.tmp 256], argTypes := #[29] }, type := 22, pos := "outright.go:39", after := #[{ on := 25, ground := Ground.data }, { on := 25, ground := Ground.chain }, { on := 24, ground := Ground.guard }], guard := some (24, true) }
def oND_27 : Oper := { dst := some 258, op := Op.binOp BinOp.eql 22 (Operand.tmp 257) (Operand.const (Value.float FloatKind.f64 14114281232179134464)) 22, type := 4, pos := "outright.go:39", after := #[{ on := 26, ground := Ground.data }, { on := 24, ground := Ground.guard }], guard := some (24, true) }
def oND_28 : Oper := { dst := some 259, op := Op.pick (Operand.tmp 255) (Operand.tmp 258) (Operand.const (Value.bool false)), type := 4, pos := "outright.go:39", after := #[{ on := 24, ground := Ground.data }, { on := 27, ground := Ground.data }], guard := none }
def oND_29 : Oper := { dst := some 260, op := Op.move (Operand.tmp 259), type := 4, pos := "outright.go:39", after := #[{ on := 28, ground := Ground.data }, { on := 26, ground := Ground.chain }], guard := none }
def oND_30 : Oper := { dst := some 261, op := Op.load 29 (Operand.tmp 1), type := 29, pos := "outright.go:39", after := #[{ on := 29, ground := Ground.guard }], guard := some (29, true) }
def oND_31 : Oper := { dst := some 262, op := Op.call { callee := Callee.value (Operand.func 16), args := #[Operand.tmp 261, Operand.const (Value.int IntKind.i64 (-1074))], argTypes := #[29, 3] }, type := 29, pos := "outright.go:39", after := #[{ on := 30, ground := Ground.data }, { on := 29, ground := Ground.chain }, { on := 29, ground := Ground.guard }], guard := some (29, true) }
def oND_32 : Oper := { dst := some 263, op := Op.call { callee := Callee.value (Operand.func 19), args := #[Operand.tmp 262], argTypes := #[29] }, type := 22, pos := "outright.go:39", after := #[{ on := 31, ground := Ground.data }, { on := 31, ground := Ground.chain }, { on := 29, ground := Ground.guard }], guard := some (29, true) }
def oND_33 : Oper := { dst := some 264, op := Op.binOp BinOp.eql 22 (Operand.tmp 263) (Operand.const (Value.float FloatKind.f64 1)) 22, type := 4, pos := "outright.go:39", after := #[{ on := 32, ground := Ground.data }, { on := 29, ground := Ground.guard }], guard := some (29, true) }
def oND_34 : Oper := { dst := some 265, op := Op.pick (Operand.tmp 260) (Operand.tmp 264) (Operand.const (Value.bool false)), type := 4, pos := "outright.go:39", after := #[{ on := 29, ground := Ground.data }, { on := 33, ground := Ground.data }], guard := none }
def oND_35 : Oper := { dst := some 266, op := Op.move (Operand.tmp 265), type := 4, pos := "outright.go:39", after := #[{ on := 34, ground := Ground.data }, { on := 32, ground := Ground.chain }], guard := none }
def oND_36 : Oper := { dst := some 267, op := Op.load 29 (Operand.tmp 1), type := 29, pos := "outright.go:39", after := #[{ on := 35, ground := Ground.guard }], guard := some (35, true) }
def oND_37 : Oper := { dst := some 268, op := Op.call { callee := Callee.value (Operand.func 16), args := #[Operand.tmp 267, Operand.const (Value.int IntKind.i64 (-1075))], argTypes := #[29, 3] }, type := 29, pos := "outright.go:39", after := #[{ on := 36, ground := Ground.data }, { on := 35, ground := Ground.chain }, { on := 35, ground := Ground.guard }], guard := some (35, true) }
def oND_38 : Oper := { dst := some 269, op := Op.call { callee := Callee.value (Operand.func 19), args := #[Operand.tmp 268], argTypes := #[29] }, type := 22, pos := "outright.go:39", after := #[{ on := 37, ground := Ground.data }, { on := 37, ground := Ground.chain }, { on := 35, ground := Ground.guard }], guard := some (35, true) }
def oND_39 : Oper := { dst := some 270, op := Op.binOp BinOp.eql 22 (Operand.tmp 269) (Operand.const (Value.float FloatKind.f64 0)) 22, type := 4, pos := "outright.go:39", after := #[{ on := 38, ground := Ground.data }, { on := 35, ground := Ground.guard }], guard := some (35, true) }
def oND_40 : Oper := { dst := some 271, op := Op.pick (Operand.tmp 266) (Operand.tmp 270) (Operand.const (Value.bool false)), type := 4, pos := "outright.go:39", after := #[{ on := 35, ground := Ground.data }, { on := 39, ground := Ground.data }], guard := none }
def oND_41 : Oper := { dst := some 272, op := Op.move (Operand.tmp 271), type := 4, pos := "outright.go:39", after := #[{ on := 40, ground := Ground.data }, { on := 38, ground := Ground.chain }], guard := none }
def oND_42 : Oper := { dst := some 273, op := Op.call { callee := Callee.value (Operand.func 17), args := #[Operand.const (Value.int IntKind.i64 3)], argTypes := #[2] }, type := 29, pos := "outright.go:39", after := #[{ on := 41, ground := Ground.chain }, { on := 41, ground := Ground.guard }], guard := some (41, true) }
def oND_43 : Oper := { dst := some 274, op := Op.call { callee := Callee.value (Operand.func 16), args := #[Operand.tmp 273, Operand.const (Value.int IntKind.i64 (-1076))], argTypes := #[29, 3] }, type := 29, pos := "outright.go:39", after := #[{ on := 42, ground := Ground.data }, { on := 42, ground := Ground.chain }, { on := 41, ground := Ground.guard }], guard := some (41, true) }
def oND_44 : Oper := { dst := some 275, op := Op.call { callee := Callee.value (Operand.func 19), args := #[Operand.tmp 274], argTypes := #[29] }, type := 22, pos := "outright.go:39", after := #[{ on := 43, ground := Ground.data }, { on := 43, ground := Ground.chain }, { on := 41, ground := Ground.guard }], guard := some (41, true) }
def oND_45 : Oper := { dst := some 276, op := Op.binOp BinOp.eql 22 (Operand.tmp 275) (Operand.const (Value.float FloatKind.f64 1)) 22, type := 4, pos := "outright.go:39", after := #[{ on := 44, ground := Ground.data }, { on := 41, ground := Ground.guard }], guard := some (41, true) }
def oND_46 : Oper := { dst := some 277, op := Op.pick (Operand.tmp 272) (Operand.tmp 276) (Operand.const (Value.bool false)), type := 4, pos := "outright.go:39", after := #[{ on := 41, ground := Ground.data }, { on := 45, ground := Ground.data }], guard := none }
def oND_47 : Oper := { dst := some 278, op := Op.move (Operand.tmp 277), type := 4, pos := "outright.go:39", after := #[{ on := 46, ground := Ground.data }, { on := 44, ground := Ground.chain }], guard := none }
def oND_48 : Oper := { dst := some 279, op := Op.load 29 (Operand.tmp 1), type := 29, pos := "outright.go:39", after := #[{ on := 47, ground := Ground.guard }], guard := some (47, true) }
def oND_49 : Oper := { dst := some 280, op := Op.call { callee := Callee.value (Operand.func 16), args := #[Operand.tmp 279, Operand.const (Value.int IntKind.i64 (-1075))], argTypes := #[29, 3] }, type := 29, pos := "outright.go:39", after := #[{ on := 48, ground := Ground.data }, { on := 47, ground := Ground.chain }, { on := 47, ground := Ground.guard }], guard := some (47, true) }
def oND_50 : Oper := { dst := some 281, op := Op.load 29 (Operand.tmp 3), type := 29, pos := "outright.go:39", after := #[{ on := 47, ground := Ground.guard }], guard := some (47, true) }
def oND_51 : Oper := { dst := some 282, op := Op.call { callee := Callee.value (Operand.func 10), args := #[Operand.tmp 280, Operand.tmp 281], argTypes := #[29, 29] }, type := 29, pos := "outright.go:39", after := #[{ on := 49, ground := Ground.data }, { on := 50, ground := Ground.data }, { on := 49, ground := Ground.chain }, { on := 47, ground := Ground.guard }], guard := some (47, true) }
def oND_52 : Oper := { dst := some 283, op := Op.call { callee := Callee.value (Operand.func 19), args := #[Operand.tmp 282], argTypes := #[29] }, type := 22, pos := "outright.go:39", after := #[{ on := 51, ground := Ground.data }, { on := 51, ground := Ground.chain }, { on := 47, ground := Ground.guard }], guard := some (47, true) }
def oND_53 : Oper := { dst := some 284, op := Op.binOp BinOp.eql 22 (Operand.tmp 283) (Operand.const (Value.float FloatKind.f64 1)) 22, type := 4, pos := "outright.go:39", after := #[{ on := 52, ground := Ground.data }, { on := 47, ground := Ground.guard }], guard := some (47, true) }
def oND_54 : Oper := { dst := some 285, op := Op.pick (Operand.tmp 278) (Operand.tmp 284) (Operand.const (Value.bool false)), type := 4, pos := "outright.go:39", after := #[{ on := 47, ground := Ground.data }, { on := 53, ground := Ground.data }], guard := none }
def oND_55 : Oper := { dst := some 286, op := Op.move (Operand.tmp 285), type := 4, pos := "outright.go:39", after := #[{ on := 54, ground := Ground.data }, { on := 52, ground := Ground.chain }], guard := none }
def oND_56 : Oper := { dst := some 287, op := Op.load 29 (Operand.tmp 1), type := 29, pos := "outright.go:39", after := #[{ on := 55, ground := Ground.guard }], guard := some (55, true) }
def oND_57 : Oper := { dst := some 288, op := Op.call { callee := Callee.value (Operand.func 16), args := #[Operand.tmp 287, Operand.const (Value.int IntKind.i64 1024)], argTypes := #[29, 3] }, type := 29, pos := "outright.go:39", after := #[{ on := 56, ground := Ground.data }, { on := 55, ground := Ground.chain }, { on := 55, ground := Ground.guard }], guard := some (55, true) }
def oND_58 : Oper := { dst := some 289, op := Op.load 29 (Operand.tmp 1), type := 29, pos := "outright.go:39", after := #[{ on := 55, ground := Ground.guard }], guard := some (55, true) }
def oND_59 : Oper := { dst := some 290, op := Op.call { callee := Callee.value (Operand.func 16), args := #[Operand.tmp 289, Operand.const (Value.int IntKind.i64 971)], argTypes := #[29, 3] }, type := 29, pos := "outright.go:39", after := #[{ on := 58, ground := Ground.data }, { on := 57, ground := Ground.chain }, { on := 55, ground := Ground.guard }], guard := some (55, true) }
def oND_60 : Oper := { dst := some 291, op := Op.call { callee := Callee.value (Operand.func 12), args := #[Operand.tmp 288, Operand.tmp 290], argTypes := #[29, 29] }, type := 29, pos := "outright.go:39", after := #[{ on := 57, ground := Ground.data }, { on := 59, ground := Ground.data }, { on := 59, ground := Ground.chain }, { on := 55, ground := Ground.guard }], guard := some (55, true) }
def oND_61 : Oper := { dst := some 292, op := Op.call { callee := Callee.value (Operand.func 19), args := #[Operand.tmp 291], argTypes := #[29] }, type := 22, pos := "outright.go:39", after := #[{ on := 60, ground := Ground.data }, { on := 60, ground := Ground.chain }, { on := 55, ground := Ground.guard }], guard := some (55, true) }
def oND_62 : Oper := { dst := some 293, op := Op.binOp BinOp.eql 22 (Operand.tmp 292) (Operand.const (Value.float FloatKind.f64 9218868437227405311)) 22, type := 4, pos := "outright.go:39", after := #[{ on := 61, ground := Ground.data }, { on := 55, ground := Ground.guard }], guard := some (55, true) }
def oND_63 : Oper := { dst := some 294, op := Op.pick (Operand.tmp 286) (Operand.tmp 293) (Operand.const (Value.bool false)), type := 4, pos := "outright.go:39", after := #[{ on := 55, ground := Ground.data }, { on := 62, ground := Ground.data }], guard := none }
def oND_64 : Oper := { dst := some 295, op := Op.move (Operand.tmp 294), type := 4, pos := "outright.go:39", after := #[{ on := 63, ground := Ground.data }, { on := 61, ground := Ground.chain }], guard := none }
def oND_65 : Oper := { dst := some 296, op := Op.load 29 (Operand.tmp 1), type := 29, pos := "outright.go:39", after := #[{ on := 64, ground := Ground.guard }], guard := some (64, true) }
def oND_66 : Oper := { dst := some 297, op := Op.call { callee := Callee.value (Operand.func 16), args := #[Operand.tmp 296, Operand.const (Value.int IntKind.i64 1024)], argTypes := #[29, 3] }, type := 29, pos := "outright.go:39", after := #[{ on := 65, ground := Ground.data }, { on := 64, ground := Ground.chain }, { on := 64, ground := Ground.guard }], guard := some (64, true) }
def oND_67 : Oper := { dst := some 298, op := Op.load 29 (Operand.tmp 1), type := 29, pos := "outright.go:39", after := #[{ on := 64, ground := Ground.guard }], guard := some (64, true) }
def oND_68 : Oper := { dst := some 299, op := Op.call { callee := Callee.value (Operand.func 16), args := #[Operand.tmp 298, Operand.const (Value.int IntKind.i64 970)], argTypes := #[29, 3] }, type := 29, pos := "outright.go:39", after := #[{ on := 67, ground := Ground.data }, { on := 66, ground := Ground.chain }, { on := 64, ground := Ground.guard }], guard := some (64, true) }
def oND_69 : Oper := { dst := some 300, op := Op.call { callee := Callee.value (Operand.func 12), args := #[Operand.tmp 297, Operand.tmp 299], argTypes := #[29, 29] }, type := 29, pos := "outright.go:39", after := #[{ on := 66, ground := Ground.data }, { on := 68, ground := Ground.data }, { on := 68, ground := Ground.chain }, { on := 64, ground := Ground.guard }], guard := some (64, true) }
def oND_70 : Oper := { dst := some 301, op := Op.call { callee := Callee.value (Operand.func 19), args := #[Operand.tmp 300], argTypes := #[29] }, type := 22, pos := "outright.go:39", after := #[{ on := 69, ground := Ground.data }, { on := 69, ground := Ground.chain }, { on := 64, ground := Ground.guard }], guard := some (64, true) }
def oND_71 : Oper := { dst := some 302, op := Op.call { callee := Callee.value (Operand.func 25), args := #[Operand.tmp 301, Operand.const (Value.int IntKind.i64 1)], argTypes := #[22, 3] }, type := 4, pos := "outright.go:39", after := #[{ on := 70, ground := Ground.data }, { on := 70, ground := Ground.chain }, { on := 64, ground := Ground.guard }], guard := some (64, true) }
def oND_72 : Oper := { dst := some 303, op := Op.pick (Operand.tmp 295) (Operand.tmp 302) (Operand.const (Value.bool false)), type := 4, pos := "outright.go:39", after := #[{ on := 64, ground := Ground.data }, { on := 71, ground := Ground.data }], guard := none }
def oND_73 : Oper := { dst := some 304, op := Op.move (Operand.tmp 303), type := 4, pos := "outright.go:39", after := #[{ on := 72, ground := Ground.data }, { on := 71, ground := Ground.chain }], guard := none }
def oND_74 : Oper := { dst := some 305, op := Op.load 29 (Operand.tmp 1), type := 29, pos := "outright.go:39", after := #[{ on := 73, ground := Ground.guard }], guard := some (73, true) }
def oND_75 : Oper := { dst := some 306, op := Op.call { callee := Callee.value (Operand.func 16), args := #[Operand.tmp 305, Operand.const (Value.int IntKind.i64 1024)], argTypes := #[29, 3] }, type := 29, pos := "outright.go:39", after := #[{ on := 74, ground := Ground.data }, { on := 73, ground := Ground.chain }, { on := 73, ground := Ground.guard }], guard := some (73, true) }
def oND_76 : Oper := { dst := some 307, op := Op.load 29 (Operand.tmp 1), type := 29, pos := "outright.go:39", after := #[{ on := 73, ground := Ground.guard }], guard := some (73, true) }
def oND_77 : Oper := { dst := some 308, op := Op.call { callee := Callee.value (Operand.func 16), args := #[Operand.tmp 307, Operand.const (Value.int IntKind.i64 970)], argTypes := #[29, 3] }, type := 29, pos := "outright.go:39", after := #[{ on := 76, ground := Ground.data }, { on := 75, ground := Ground.chain }, { on := 73, ground := Ground.guard }], guard := some (73, true) }
def oND_78 : Oper := { dst := some 309, op := Op.call { callee := Callee.value (Operand.func 12), args := #[Operand.tmp 306, Operand.tmp 308], argTypes := #[29, 29] }, type := 29, pos := "outright.go:39", after := #[{ on := 75, ground := Ground.data }, { on := 77, ground := Ground.data }, { on := 77, ground := Ground.chain }, { on := 73, ground := Ground.guard }], guard := some (73, true) }
def oND_79 : Oper := { dst := some 310, op := Op.load 29 (Operand.tmp 3), type := 29, pos := "outright.go:39", after := #[{ on := 73, ground := Ground.guard }], guard := some (73, true) }
def oND_80 : Oper := { dst := some 311, op := Op.call { callee := Callee.value (Operand.func 12), args := #[Operand.tmp 309, Operand.tmp 310], argTypes := #[29, 29] }, type := 29, pos := "outright.go:39", after := #[{ on := 78, ground := Ground.data }, { on := 79, ground := Ground.data }, { on := 78, ground := Ground.chain }, { on := 73, ground := Ground.guard }], guard := some (73, true) }
def oND_81 : Oper := { dst := some 312, op := Op.call { callee := Callee.value (Operand.func 19), args := #[Operand.tmp 311], argTypes := #[29] }, type := 22, pos := "outright.go:39", after := #[{ on := 80, ground := Ground.data }, { on := 80, ground := Ground.chain }, { on := 73, ground := Ground.guard }], guard := some (73, true) }
def oND_82 : Oper := { dst := some 313, op := Op.binOp BinOp.eql 22 (Operand.tmp 312) (Operand.const (Value.float FloatKind.f64 9218868437227405311)) 22, type := 4, pos := "outright.go:39", after := #[{ on := 81, ground := Ground.data }, { on := 73, ground := Ground.guard }], guard := some (73, true) }
def oND_83 : Oper := { dst := some 314, op := Op.pick (Operand.tmp 304) (Operand.tmp 313) (Operand.const (Value.bool false)), type := 4, pos := "outright.go:39", after := #[{ on := 73, ground := Ground.data }, { on := 82, ground := Ground.data }], guard := none }
def oND_84 : Oper := { dst := some 0, op := Op.assign (Operand.tmp 314), type := 4, pos := "outright.go:39", after := #[{ on := 83, ground := Ground.data }, { on := 81, ground := Ground.chain }, { on := 0, ground := Ground.phase }, { on := 1, ground := Ground.phase }, { on := 2, ground := Ground.phase }, { on := 3, ground := Ground.phase }, { on := 4, ground := Ground.phase }, { on := 5, ground := Ground.phase }, { on := 6, ground := Ground.phase }, { on := 7, ground := Ground.phase }, { on := 8, ground := Ground.phase }, { on := 9, ground := Ground.phase }, { on := 10, ground := Ground.phase }, { on := 11, ground := Ground.phase }, { on := 12, ground := Ground.phase }, { on := 13, ground := Ground.phase }, { on := 14, ground := Ground.phase }, { on := 15, ground := Ground.phase }, { on := 16, ground := Ground.phase }, { on := 17, ground := Ground.phase }, { on := 18, ground := Ground.phase }, { on := 19, ground := Ground.phase }, { on := 20, ground := Ground.phase }, { on := 21, ground := Ground.phase }, { on := 22, ground := Ground.phase }, { on := 23, ground := Ground.phase }, { on := 24, ground := Ground.phase }, { on := 25, ground := Ground.phase }, { on := 26, ground := Ground.phase }, { on := 27, ground := Ground.phase }, { on := 28, ground := Ground.phase }, { on := 29, ground := Ground.phase }, { on := 30, ground := Ground.phase }, { on := 31, ground := Ground.phase }, { on := 32, ground := Ground.phase }, { on := 33, ground := Ground.phase }, { on := 34, ground := Ground.phase }, { on := 35, ground := Ground.phase }, { on := 36, ground := Ground.phase }, { on := 37, ground := Ground.phase }, { on := 38, ground := Ground.phase }, { on := 39, ground := Ground.phase }, { on := 40, ground := Ground.phase }, { on := 41, ground := Ground.phase }, { on := 42, ground := Ground.phase }, { on := 43, ground := Ground.phase }, { on := 44, ground := Ground.phase }, { on := 45, ground := Ground.phase }, { on := 46, ground := Ground.phase }, { on := 47, ground := Ground.phase }, { on := 48, ground := Ground.phase }, { on := 49, ground := Ground.phase }, { on := 50, ground := Ground.phase }, { on := 51, ground := Ground.phase }, { on := 52, ground := Ground.phase }, { on := 53, ground := Ground.phase }, { on := 54, ground := Ground.phase }, { on := 55, ground := Ground.phase }, { on := 56, ground := Ground.phase }, { on := 57, ground := Ground.phase }, { on := 58, ground := Ground.phase }, { on := 59, ground := Ground.phase }, { on := 60, ground := Ground.phase }, { on := 61, ground := Ground.phase }, { on := 62, ground := Ground.phase }, { on := 63, ground := Ground.phase }, { on := 64, ground := Ground.phase }, { on := 65, ground := Ground.phase }, { on := 66, ground := Ground.phase }, { on := 67, ground := Ground.phase }, { on := 68, ground := Ground.phase }, { on := 69, ground := Ground.phase }, { on := 70, ground := Ground.phase }, { on := 71, ground := Ground.phase }, { on := 72, ground := Ground.phase }, { on := 73, ground := Ground.phase }, { on := 74, ground := Ground.phase }, { on := 75, ground := Ground.phase }, { on := 76, ground := Ground.phase }, { on := 77, ground := Ground.phase }, { on := 78, ground := Ground.phase }, { on := 79, ground := Ground.phase }, { on := 80, ground := Ground.phase }, { on := 81, ground := Ground.phase }, { on := 82, ground := Ground.phase }, { on := 83, ground := Ground.phase }], guard := none }
def oND : Array Oper := #[oND_0, oND_1, oND_2, oND_3, oND_4, oND_5, oND_6, oND_7, oND_8, oND_9, oND_10, oND_11, oND_12, oND_13, oND_14, oND_15, oND_16, oND_17, oND_18, oND_19, oND_20, oND_21, oND_22, oND_23, oND_24, oND_25, oND_26, oND_27, oND_28, oND_29, oND_30, oND_31, oND_32, oND_33, oND_34, oND_35, oND_36, oND_37, oND_38, oND_39, oND_40, oND_41, oND_42, oND_43, oND_44, oND_45, oND_46, oND_47, oND_48, oND_49, oND_50, oND_51, oND_52, oND_53, oND_54, oND_55, oND_56, oND_57, oND_58, oND_59, oND_60, oND_61, oND_62, oND_63, oND_64, oND_65, oND_66, oND_67, oND_68, oND_69, oND_70, oND_71, oND_72, oND_73, oND_74, oND_75, oND_76, oND_77, oND_78, oND_79, oND_80, oND_81, oND_82, oND_83, oND_84]
theorem oND_s : Region.noSelect oND = true := by kernel_rfl
theorem oND_f0 : Region.free .any oND (lsN 85 0) 0 = true := by kernel_rfl
theorem oND_r0 : (Region.ready .any oND (lsN 85 0)).contains 0 = true := by kernel_rfl
theorem oND_f1 : Region.free .any oND (lsN 85 1) 1 = true := by kernel_rfl
theorem oND_r1 : (Region.ready .any oND (lsN 85 1)).contains 1 = true := by kernel_rfl
theorem oND_c2 : Region.ready .any oND (lsN 85 2) = [2] := by kernel_rfl
theorem oND_c3 : Region.ready .any oND (lsN 85 3) = [3] := by kernel_rfl
theorem oND_f4 : Region.free .any oND (lsN 85 4) 4 = true := by kernel_rfl
theorem oND_r4 : (Region.ready .any oND (lsN 85 4)).contains 4 = true := by kernel_rfl
theorem oND_f5 : Region.free .any oND (lsN 85 5) 5 = true := by kernel_rfl
theorem oND_r5 : (Region.ready .any oND (lsN 85 5)).contains 5 = true := by kernel_rfl
theorem oND_f6 : Region.free .any oND (lsN 85 6) 6 = true := by kernel_rfl
theorem oND_r6 : (Region.ready .any oND (lsN 85 6)).contains 6 = true := by kernel_rfl
theorem oND_c7 : Region.ready .any oND (lsN 85 7) = [7] := by kernel_rfl
theorem oND_c8 : Region.ready .any oND (lsN 85 8) = [8] := by kernel_rfl
theorem oND_c9 : Region.ready .any oND (lsN 85 9) = [9] := by kernel_rfl
theorem oND_f10 : Region.free .any oND (lsN 85 10) 10 = true := by kernel_rfl
theorem oND_r10 : (Region.ready .any oND (lsN 85 10)).contains 10 = true := by kernel_rfl
theorem oND_f11 : Region.free .any oND (lsN 85 11) 11 = true := by kernel_rfl
theorem oND_r11 : (Region.ready .any oND (lsN 85 11)).contains 11 = true := by kernel_rfl
theorem oND_f12 : Region.free .any oND (lsN 85 12) 12 = true := by kernel_rfl
theorem oND_r12 : (Region.ready .any oND (lsN 85 12)).contains 12 = true := by kernel_rfl
theorem oND_c13 : Region.ready .any oND (lsN 85 13) = [13] := by kernel_rfl
theorem oND_f14 : Region.free .any oND (lsN 85 14) 14 = true := by kernel_rfl
theorem oND_r14 : (Region.ready .any oND (lsN 85 14)).contains 14 = true := by kernel_rfl
theorem oND_c15 : Region.ready .any oND (lsN 85 15) = [15] := by kernel_rfl
theorem oND_f16 : Region.free .any oND (lsN 85 16) 16 = true := by kernel_rfl
theorem oND_r16 : (Region.ready .any oND (lsN 85 16)).contains 16 = true := by kernel_rfl
theorem oND_f17 : Region.free .any oND (lsN 85 17) 17 = true := by kernel_rfl
theorem oND_r17 : (Region.ready .any oND (lsN 85 17)).contains 17 = true := by kernel_rfl
theorem oND_f18 : Region.free .any oND (lsN 85 18) 18 = true := by kernel_rfl
theorem oND_r18 : (Region.ready .any oND (lsN 85 18)).contains 18 = true := by kernel_rfl
theorem oND_c19 : Region.ready .any oND (lsN 85 19) = [19] := by kernel_rfl
theorem oND_f20 : Region.free .any oND (lsN 85 20) 20 = true := by kernel_rfl
theorem oND_r20 : (Region.ready .any oND (lsN 85 20)).contains 20 = true := by kernel_rfl
theorem oND_c21 : Region.ready .any oND (lsN 85 21) = [21] := by kernel_rfl
theorem oND_f22 : Region.free .any oND (lsN 85 22) 22 = true := by kernel_rfl
theorem oND_r22 : (Region.ready .any oND (lsN 85 22)).contains 22 = true := by kernel_rfl
theorem oND_f23 : Region.free .any oND (lsN 85 23) 23 = true := by kernel_rfl
theorem oND_r23 : (Region.ready .any oND (lsN 85 23)).contains 23 = true := by kernel_rfl
theorem oND_f24 : Region.free .any oND (lsN 85 24) 24 = true := by kernel_rfl
theorem oND_r24 : (Region.ready .any oND (lsN 85 24)).contains 24 = true := by kernel_rfl
theorem oND_c25 : Region.ready .any oND (lsN 85 25) = [25] := by kernel_rfl
theorem oND_c26 : Region.ready .any oND (lsN 85 26) = [26] := by kernel_rfl
theorem oND_f27 : Region.free .any oND (lsN 85 27) 27 = true := by kernel_rfl
theorem oND_r27 : (Region.ready .any oND (lsN 85 27)).contains 27 = true := by kernel_rfl
theorem oND_f28 : Region.free .any oND (lsN 85 28) 28 = true := by kernel_rfl
theorem oND_r28 : (Region.ready .any oND (lsN 85 28)).contains 28 = true := by kernel_rfl
theorem oND_f29 : Region.free .any oND (lsN 85 29) 29 = true := by kernel_rfl
theorem oND_r29 : (Region.ready .any oND (lsN 85 29)).contains 29 = true := by kernel_rfl
theorem oND_f30 : Region.free .any oND (lsN 85 30) 30 = true := by kernel_rfl
theorem oND_r30 : (Region.ready .any oND (lsN 85 30)).contains 30 = true := by kernel_rfl
theorem oND_c31 : Region.ready .any oND (lsN 85 31) = [31] := by kernel_rfl
theorem oND_c32 : Region.ready .any oND (lsN 85 32) = [32] := by kernel_rfl
theorem oND_f33 : Region.free .any oND (lsN 85 33) 33 = true := by kernel_rfl
theorem oND_r33 : (Region.ready .any oND (lsN 85 33)).contains 33 = true := by kernel_rfl
theorem oND_f34 : Region.free .any oND (lsN 85 34) 34 = true := by kernel_rfl
theorem oND_r34 : (Region.ready .any oND (lsN 85 34)).contains 34 = true := by kernel_rfl
theorem oND_f35 : Region.free .any oND (lsN 85 35) 35 = true := by kernel_rfl
theorem oND_r35 : (Region.ready .any oND (lsN 85 35)).contains 35 = true := by kernel_rfl
theorem oND_f36 : Region.free .any oND (lsN 85 36) 36 = true := by kernel_rfl
theorem oND_r36 : (Region.ready .any oND (lsN 85 36)).contains 36 = true := by kernel_rfl
theorem oND_c37 : Region.ready .any oND (lsN 85 37) = [37] := by kernel_rfl
theorem oND_c38 : Region.ready .any oND (lsN 85 38) = [38] := by kernel_rfl
theorem oND_f39 : Region.free .any oND (lsN 85 39) 39 = true := by kernel_rfl
theorem oND_r39 : (Region.ready .any oND (lsN 85 39)).contains 39 = true := by kernel_rfl
theorem oND_f40 : Region.free .any oND (lsN 85 40) 40 = true := by kernel_rfl
theorem oND_r40 : (Region.ready .any oND (lsN 85 40)).contains 40 = true := by kernel_rfl
theorem oND_f41 : Region.free .any oND (lsN 85 41) 41 = true := by kernel_rfl
theorem oND_r41 : (Region.ready .any oND (lsN 85 41)).contains 41 = true := by kernel_rfl
theorem oND_c42 : Region.ready .any oND (lsN 85 42) = [42] := by kernel_rfl
theorem oND_c43 : Region.ready .any oND (lsN 85 43) = [43] := by kernel_rfl
theorem oND_c44 : Region.ready .any oND (lsN 85 44) = [44] := by kernel_rfl
theorem oND_f45 : Region.free .any oND (lsN 85 45) 45 = true := by kernel_rfl
theorem oND_r45 : (Region.ready .any oND (lsN 85 45)).contains 45 = true := by kernel_rfl
theorem oND_f46 : Region.free .any oND (lsN 85 46) 46 = true := by kernel_rfl
theorem oND_r46 : (Region.ready .any oND (lsN 85 46)).contains 46 = true := by kernel_rfl
theorem oND_f47 : Region.free .any oND (lsN 85 47) 47 = true := by kernel_rfl
theorem oND_r47 : (Region.ready .any oND (lsN 85 47)).contains 47 = true := by kernel_rfl
theorem oND_f48 : Region.free .any oND (lsN 85 48) 48 = true := by kernel_rfl
theorem oND_r48 : (Region.ready .any oND (lsN 85 48)).contains 48 = true := by kernel_rfl
theorem oND_f49 : Region.free .any oND (lsN 85 49) 50 = true := by kernel_rfl
theorem oND_r49 : (Region.ready .any oND (lsN 85 49)).contains 50 = true := by kernel_rfl
theorem oND_c50 : Region.ready .any oND #[true, true, true, true, true, true, true, true, true, true, true, true, true, true, true, true, true, true, true, true, true, true, true, true, true, true, true, true, true, true, true, true, true, true, true, true, true, true, true, true, true, true, true, true, true, true, true, true, true, false, true, false, false, false, false, false, false, false, false, false, false, false, false, false, false, false, false, false, false, false, false, false, false, false, false, false, false, false, false, false, false, false, false, false, false] = [49] := by kernel_rfl
theorem oND_c51 : Region.ready .any oND (lsN 85 51) = [51] := by kernel_rfl
theorem oND_c52 : Region.ready .any oND (lsN 85 52) = [52] := by kernel_rfl
theorem oND_f53 : Region.free .any oND (lsN 85 53) 53 = true := by kernel_rfl
theorem oND_r53 : (Region.ready .any oND (lsN 85 53)).contains 53 = true := by kernel_rfl
theorem oND_f54 : Region.free .any oND (lsN 85 54) 54 = true := by kernel_rfl
theorem oND_r54 : (Region.ready .any oND (lsN 85 54)).contains 54 = true := by kernel_rfl
theorem oND_f55 : Region.free .any oND (lsN 85 55) 55 = true := by kernel_rfl
theorem oND_r55 : (Region.ready .any oND (lsN 85 55)).contains 55 = true := by kernel_rfl
theorem oND_f56 : Region.free .any oND (lsN 85 56) 56 = true := by kernel_rfl
theorem oND_r56 : (Region.ready .any oND (lsN 85 56)).contains 56 = true := by kernel_rfl
theorem oND_f57 : Region.free .any oND (lsN 85 57) 58 = true := by kernel_rfl
theorem oND_r57 : (Region.ready .any oND (lsN 85 57)).contains 58 = true := by kernel_rfl
theorem oND_c58 : Region.ready .any oND #[true, true, true, true, true, true, true, true, true, true, true, true, true, true, true, true, true, true, true, true, true, true, true, true, true, true, true, true, true, true, true, true, true, true, true, true, true, true, true, true, true, true, true, true, true, true, true, true, true, true, true, true, true, true, true, true, true, false, true, false, false, false, false, false, false, false, false, false, false, false, false, false, false, false, false, false, false, false, false, false, false, false, false, false, false] = [57] := by kernel_rfl
theorem oND_c59 : Region.ready .any oND (lsN 85 59) = [59] := by kernel_rfl
theorem oND_c60 : Region.ready .any oND (lsN 85 60) = [60] := by kernel_rfl
theorem oND_c61 : Region.ready .any oND (lsN 85 61) = [61] := by kernel_rfl
theorem oND_f62 : Region.free .any oND (lsN 85 62) 62 = true := by kernel_rfl
theorem oND_r62 : (Region.ready .any oND (lsN 85 62)).contains 62 = true := by kernel_rfl
theorem oND_f63 : Region.free .any oND (lsN 85 63) 63 = true := by kernel_rfl
theorem oND_r63 : (Region.ready .any oND (lsN 85 63)).contains 63 = true := by kernel_rfl
theorem oND_f64 : Region.free .any oND (lsN 85 64) 64 = true := by kernel_rfl
theorem oND_r64 : (Region.ready .any oND (lsN 85 64)).contains 64 = true := by kernel_rfl
theorem oND_f65 : Region.free .any oND (lsN 85 65) 65 = true := by kernel_rfl
theorem oND_r65 : (Region.ready .any oND (lsN 85 65)).contains 65 = true := by kernel_rfl
theorem oND_f66 : Region.free .any oND (lsN 85 66) 67 = true := by kernel_rfl
theorem oND_r66 : (Region.ready .any oND (lsN 85 66)).contains 67 = true := by kernel_rfl
theorem oND_c67 : Region.ready .any oND #[true, true, true, true, true, true, true, true, true, true, true, true, true, true, true, true, true, true, true, true, true, true, true, true, true, true, true, true, true, true, true, true, true, true, true, true, true, true, true, true, true, true, true, true, true, true, true, true, true, true, true, true, true, true, true, true, true, true, true, true, true, true, true, true, true, true, false, true, false, false, false, false, false, false, false, false, false, false, false, false, false, false, false, false, false] = [66] := by kernel_rfl
theorem oND_c68 : Region.ready .any oND (lsN 85 68) = [68] := by kernel_rfl
theorem oND_c69 : Region.ready .any oND (lsN 85 69) = [69] := by kernel_rfl
theorem oND_c70 : Region.ready .any oND (lsN 85 70) = [70] := by kernel_rfl
theorem oND_c71 : Region.ready .any oND (lsN 85 71) = [71] := by kernel_rfl
theorem oND_f72 : Region.free .any oND (lsN 85 72) 72 = true := by kernel_rfl
theorem oND_r72 : (Region.ready .any oND (lsN 85 72)).contains 72 = true := by kernel_rfl
theorem oND_f73 : Region.free .any oND (lsN 85 73) 73 = true := by kernel_rfl
theorem oND_r73 : (Region.ready .any oND (lsN 85 73)).contains 73 = true := by kernel_rfl
theorem oND_f74 : Region.free .any oND (lsN 85 74) 74 = true := by kernel_rfl
theorem oND_r74 : (Region.ready .any oND (lsN 85 74)).contains 74 = true := by kernel_rfl
theorem oND_f75 : Region.free .any oND (lsN 85 75) 76 = true := by kernel_rfl
theorem oND_r75 : (Region.ready .any oND (lsN 85 75)).contains 76 = true := by kernel_rfl
theorem oND_f76 : Region.free .any oND #[true, true, true, true, true, true, true, true, true, true, true, true, true, true, true, true, true, true, true, true, true, true, true, true, true, true, true, true, true, true, true, true, true, true, true, true, true, true, true, true, true, true, true, true, true, true, true, true, true, true, true, true, true, true, true, true, true, true, true, true, true, true, true, true, true, true, true, true, true, true, true, true, true, true, true, false, true, false, false, false, false, false, false, false, false] 79 = true := by kernel_rfl
theorem oND_r76 : (Region.ready .any oND #[true, true, true, true, true, true, true, true, true, true, true, true, true, true, true, true, true, true, true, true, true, true, true, true, true, true, true, true, true, true, true, true, true, true, true, true, true, true, true, true, true, true, true, true, true, true, true, true, true, true, true, true, true, true, true, true, true, true, true, true, true, true, true, true, true, true, true, true, true, true, true, true, true, true, true, false, true, false, false, false, false, false, false, false, false]).contains 79 = true := by kernel_rfl
theorem oND_c77 : Region.ready .any oND #[true, true, true, true, true, true, true, true, true, true, true, true, true, true, true, true, true, true, true, true, true, true, true, true, true, true, true, true, true, true, true, true, true, true, true, true, true, true, true, true, true, true, true, true, true, true, true, true, true, true, true, true, true, true, true, true, true, true, true, true, true, true, true, true, true, true, true, true, true, true, true, true, true, true, true, false, true, false, false, true, false, false, false, false, false] = [75] := by kernel_rfl
theorem oND_c78 : Region.ready .any oND #[true, true, true, true, true, true, true, true, true, true, true, true, true, true, true, true, true, true, true, true, true, true, true, true, true, true, true, true, true, true, true, true, true, true, true, true, true, true, true, true, true, true, true, true, true, true, true, true, true, true, true, true, true, true, true, true, true, true, true, true, true, true, true, true, true, true, true, true, true, true, true, true, true, true, true, true, true, false, false, true, false, false, false, false, false] = [77] := by kernel_rfl
theorem oND_c79 : Region.ready .any oND #[true, true, true, true, true, true, true, true, true, true, true, true, true, true, true, true, true, true, true, true, true, true, true, true, true, true, true, true, true, true, true, true, true, true, true, true, true, true, true, true, true, true, true, true, true, true, true, true, true, true, true, true, true, true, true, true, true, true, true, true, true, true, true, true, true, true, true, true, true, true, true, true, true, true, true, true, true, true, false, true, false, false, false, false, false] = [78] := by kernel_rfl
theorem oND_c80 : Region.ready .any oND (lsN 85 80) = [80] := by kernel_rfl
theorem oND_c81 : Region.ready .any oND (lsN 85 81) = [81] := by kernel_rfl
theorem oND_f82 : Region.free .any oND (lsN 85 82) 82 = true := by kernel_rfl
theorem oND_r82 : (Region.ready .any oND (lsN 85 82)).contains 82 = true := by kernel_rfl
theorem oND_f83 : Region.free .any oND (lsN 85 83) 83 = true := by kernel_rfl
theorem oND_r83 : (Region.ready .any oND (lsN 85 83)).contains 83 = true := by kernel_rfl
theorem oND_f84 : Region.free .any oND (lsN 85 84) 84 = true := by kernel_rfl
theorem oND_r84 : (Region.ready .any oND (lsN 85 84)).contains 84 = true := by kernel_rfl
end Go.Proofs.YtiiipgbfhcbjdaaDoor
