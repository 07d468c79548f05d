/- The examples of layer 4's statements, walked. (Printed by gen_OrJ.py.) -/
import Derived.Test.YtiihokgjplpceaaDoorOrI
namespace Go.Proofs.YtiihokgjplpceaaDoor
open Go.RowKit TV
set_option linter.unusedVariables false

theorem box_1 (w : World) (o0 : Obj) : ∃ wn, wn = (w.alloc o0) ∧ Below w.heap.size w wn ∧ wn.heap.size = w.heap.size + 1 ∧ wn.heap[w.heap.size]? = some o0 := by
  have a0 := heap_alloc_new w o0
  refine ⟨_, rfl, (Below.refl w.heap.size w).alloc (by simp <;> omega) _, by simp, a0⟩
theorem box_2 (w : World) (o0 o1 : Obj) : ∃ wn, wn = ((w.alloc o0).alloc o1) ∧ Below w.heap.size w wn ∧ wn.heap.size = w.heap.size + 2 ∧ wn.heap[w.heap.size]? = some o0 ∧ wn.heap[w.heap.size + 1]? = some o1 := by
  have a0 := heap_alloc_new w o0
  have a1 := heap_alloc_new (w.alloc o0) o1
  simp only [World.size_alloc] at a0 a1
  refine ⟨_, rfl, ((Below.refl w.heap.size w).alloc (by simp <;> omega) _).alloc (by simp <;> omega) _, by simp, ?_, a1⟩
  · exact (Below.heap_alloc _ _ _ (by simp <;> omega)).trans a0
theorem box_3 (w : World) (o0 o1 o2 : Obj) : ∃ wn, wn = (((w.alloc o0).alloc o1).alloc o2) ∧ Below w.heap.size w wn ∧ wn.heap.size = w.heap.size + 3 ∧ wn.heap[w.heap.size]? = some o0 ∧ wn.heap[w.heap.size + 1]? = some o1 ∧ wn.heap[w.heap.size + 1 + 1]? = some o2 := by
  have a0 := heap_alloc_new w o0
  have a1 := heap_alloc_new (w.alloc o0) o1
  have a2 := heap_alloc_new ((w.alloc o0).alloc o1) o2
  simp only [World.size_alloc] at a0 a1 a2
  refine ⟨_, rfl, (((Below.refl w.heap.size w).alloc (by simp <;> omega) _).alloc (by simp <;> omega) _).alloc (by simp <;> omega) _, by simp, ?_, ?_, a2⟩
  · exact ((Below.heap_alloc _ _ _ (by simp <;> omega)).trans (Below.heap_alloc _ _ _ (by simp <;> omega))).trans a0
  · exact (Below.heap_alloc _ _ _ (by simp <;> omega)).trans a1
theorem box_5 (w : World) (o0 o1 o2 o3 o4 : Obj) : ∃ wn, wn = (((((w.alloc o0).alloc o1).alloc o2).alloc o3).alloc o4) ∧ Below w.heap.size w wn ∧ wn.heap.size = w.heap.size + 5 ∧ wn.heap[w.heap.size]? = some o0 ∧ wn.heap[w.heap.size + 1]? = some o1 ∧ wn.heap[w.heap.size + 1 + 1]? = some o2 ∧ wn.heap[w.heap.size + 1 + 1 + 1]? = some o3 ∧ wn.heap[w.heap.size + 1 + 1 + 1 + 1]? = some o4 := by
  have a0 := heap_alloc_new w o0
  have a1 := heap_alloc_new (w.alloc o0) o1
  have a2 := heap_alloc_new ((w.alloc o0).alloc o1) o2
  have a3 := heap_alloc_new (((w.alloc o0).alloc o1).alloc o2) o3
  have a4 := heap_alloc_new ((((w.alloc o0).alloc o1).alloc o2).alloc o3) o4
  simp only [World.size_alloc] at a0 a1 a2 a3 a4
  refine ⟨_, rfl, (((((Below.refl w.heap.size w).alloc (by simp <;> omega) _).alloc (by simp <;> omega) _).alloc (by simp <;> omega) _).alloc (by simp <;> omega) _).alloc (by simp <;> omega) _, by simp, ?_, ?_, ?_, ?_, a4⟩
  · exact ((((Below.heap_alloc _ _ _ (by simp <;> omega)).trans (Below.heap_alloc _ _ _ (by simp <;> omega))).trans (Below.heap_alloc _ _ _ (by simp <;> omega))).trans (Below.heap_alloc _ _ _ (by simp <;> omega))).trans a0
  · exact (((Below.heap_alloc _ _ _ (by simp <;> omega)).trans (Below.heap_alloc _ _ _ (by simp <;> omega))).trans (Below.heap_alloc _ _ _ (by simp <;> omega))).trans a1
  · exact ((Below.heap_alloc _ _ _ (by simp <;> omega)).trans (Below.heap_alloc _ _ _ (by simp <;> omega))).trans a2
  · exact (Below.heap_alloc _ _ _ (by simp <;> omega)).trans a3

theorem at_calls (x y : Nat) (w : World) : Calls Tryd.prog 21 #[.float .f64 x, .float .f64 y] w fun e w' => e = .returned (.agg #[.float .f64 x, .float .f64 y]) ∧ Below w.heap.size w w' := by
  go_enter Tryd.func21, Tryd.ntmps21
  go_wp2_with fail
  have hB := heap_alloc_new w (.cells #[.float .f64 x, .float .f64 y] 24)
  have c0 : (w.alloc (.cells #[.float .f64 x, .float .f64 y] 24)).cell? ⟨w.heap.size, 0, none⟩ = some (.float .f64 x) := cell_of_block hB 0
  have c1 : (w.alloc (.cells #[.float .f64 x, .float .f64 y] 24)).cell? ⟨w.heap.size, 1, none⟩ = some (.float .f64 y) := cell_of_block hB 1
  refine bodyPost_ret (v := .agg #[.float .f64 x, .float .f64 y]) (by simp [results, Tryd.results21, go_sem, c0, c1]) rfl ⟨rfl, (Below.refl _ _).alloc (Nat.le_refl _) _⟩
set_option maxRecDepth 100000 in
set_option maxHeartbeats 2000000 in
theorem left_calls {w : World} (ht : TabOk w) (ax ay bx bY cx cy : Nat) (hax : ax < 18446744073709551616) (hay : ay < 18446744073709551616) (hbx : bx < 18446744073709551616) (hby : bY < 18446744073709551616) (hcx : cx < 18446744073709551616) (hcy : cy < 18446744073709551616) :
    Calls Tryd.prog 19 #[.agg #[.float .f64 ax, .float .f64 ay], .agg #[.float .f64 bx, .float .f64 bY], .agg #[.float .f64 cx, .float .f64 cy]] w fun e w' => e = .returned (.bool (decide (0 < osg ax ay bx bY cx cy))) ∧ Below w.heap.size w w' := by
  have HS := Lib.hid (fun (W : World) (hT : TabOk W) => osign_calls hT ax ay bx bY cx cy hax hay hbx hby hcx hcy)
  obtain ⟨wn, hwn, HW0, hsz, k0, k1, k2⟩ := box_3 w (.cells #[.float .f64 ax, .float .f64 ay] 24) (.cells #[.float .f64 bx, .float .f64 bY] 24) (.cells #[.float .f64 cx, .float .f64 cy] 24)
  have q0x : wn.cell? ⟨w.heap.size, 0, none⟩ = some (.float .f64 ax) := cell_of_block k0 0
  have q0y : wn.cell? ⟨w.heap.size, 1, none⟩ = some (.float .f64 ay) := cell_of_block k0 1
  have q1x : wn.cell? ⟨w.heap.size + 1, 0, none⟩ = some (.float .f64 bx) := cell_of_block k1 0
  have q1y : wn.cell? ⟨w.heap.size + 1, 1, none⟩ = some (.float .f64 bY) := cell_of_block k1 1
  have q2x : wn.cell? ⟨w.heap.size + 1 + 1, 0, none⟩ = some (.float .f64 cx) := cell_of_block k2 0
  have q2y : wn.cell? ⟨w.heap.size + 1 + 1, 1, none⟩ = some (.float .f64 cy) := cell_of_block k2 1
  have HT := Lib.hid (ht.keep HW0)
  have HW := Lib.hid HW0
  obtain ⟨S, hS⟩ : ∃ S, S = osg ax ay bx bY cx cy := ⟨_, rfl⟩
  rw [← hS] at HS ⊢
  clear k0 k1 k2 hsz HW0 hS hax hay hbx hby hcx hcy ht
  go_enter Tryd.func19, Tryd.ntmps19
  go_wp2_with fail
  rw [← hwn]
  refine (HS.out _ HT.out).mono ?_
  rintro _ w1 ⟨rfl, b1⟩
  go_wp2_with fail
  go_ret
  exact ⟨rfl, bl_pack HW.out HW.out.size b1⟩
theorem aw_s0 : osg 4602678819172646954 4602678819172646960 4622945017495814144 4622945017495814144 4627448617123184640 4627448617123184640 = 1 := by decide +kernel
theorem aw_s1 : osg 0 0 4611686018427387904 0 4607182418800017408 4607182418800017408 = 1 := by decide +kernel
theorem aw_s2 : osg 0 0 4611686018427387904 0 4607182418800017408 13380194492917743616 = -1 := by decide +kernel
theorem aw_s3 : osg 0 0 4611686018427387904 0 4617315517961601024 0 = 0 := by decide +kernel
theorem aw_s4 : osg 0 0 4611686018427387904 0 5062045981164437504 4607182418800017408 = 0 := by decide +kernel
theorem aw_o0 : onB 0 0 4611686018427387904 0 4607182418800017408 0 = true := by decide +kernel
theorem aw_o1 : onB 0 0 4611686018427387904 0 0 0 = true := by decide +kernel
theorem aw_o2 : onB 0 0 4611686018427387904 0 4613937818241073152 0 = false := by decide +kernel
theorem aw_c0 : crossB 0 0 4611686018427387904 0 4607182418800017408 13830554455654793216 4607182418800017408 4607182418800017408 = true := by decide +kernel
theorem aw_c1 : crossB 0 0 4611686018427387904 0 4607182418800017408 0 4607182418800017408 4607182418800017408 = false := by decide +kernel
theorem aw_f : fastOk 13875590451928498176 13875581655835475968 4652218415073722368 4652209618980700160 4652209618980700160 4652200822887677952 = true := by decide +kernel
theorem aw_g : osg 13875590451928498176 13875581655835475968 4652218415073722368 4652209618980700160 4652209618980700160 4652200822887677952 = -1 := by decide +kernel
def lsN (n k : Nat) : Array Bool := (List.replicate k true ++ List.replicate (n - k) false).toArray
def c1 {a0 : Value} (l : List Value) : List Value := a0 :: l
def c10 {a0 a1 a2 a3 a4 a5 a6 a7 a8 a9 : Value} (l : List Value) : List Value := a0 :: a1 :: a2 :: a3 :: a4 :: a5 :: a6 :: a7 :: a8 :: a9 :: l
def c100 {a0 a1 a2 a3 a4 a5 a6 a7 a8 a9 a10 a11 a12 a13 a14 a15 a16 a17 a18 a19 a20 a21 a22 a23 a24 a25 a26 a27 a28 a29 a30 a31 a32 a33 a34 a35 a36 a37 a38 a39 a40 a41 a42 a43 a44 a45 a46 a47 a48 a49 a50 a51 a52 a53 a54 a55 a56 a57 a58 a59 a60 a61 a62 a63 a64 a65 a66 a67 a68 a69 a70 a71 a72 a73 a74 a75 a76 a77 a78 a79 a80 a81 a82 a83 a84 a85 a86 a87 a88 a89 a90 a91 a92 a93 a94 a95 a96 a97 a98 a99 : Value} (l : List Value) : List Value := a0 :: a1 :: a2 :: a3 :: a4 :: a5 :: a6 :: a7 :: a8 :: a9 :: a10 :: a11 :: a12 :: a13 :: a14 :: a15 :: a16 :: a17 :: a18 :: a19 :: a20 :: a21 :: a22 :: a23 :: a24 :: a25 :: a26 :: a27 :: a28 :: a29 :: a30 :: a31 :: a32 :: a33 :: a34 :: a35 :: a36 :: a37 :: a38 :: a39 :: a40 :: a41 :: a42 :: a43 :: a44 :: a45 :: a46 :: a47 :: a48 :: a49 :: a50 :: a51 :: a52 :: a53 :: a54 :: a55 :: a56 :: a57 :: a58 :: a59 :: a60 :: a61 :: a62 :: a63 :: a64 :: a65 :: a66 :: a67 :: a68 :: a69 :: a70 :: a71 :: a72 :: a73 :: a74 :: a75 :: a76 :: a77 :: a78 :: a79 :: a80 :: a81 :: a82 :: a83 :: a84 :: a85 :: a86 :: a87 :: a88 :: a89 :: a90 :: a91 :: a92 :: a93 :: a94 :: a95 :: a96 :: a97 :: a98 :: a99 :: l
def oAW_0 : Oper := { dst := some 19, op := Op.move (Operand.tmp 4), type := 4, pos := "outright.go:20", after := #[], guard := none }
def oAW_1 : Oper := { dst := some 20, op := Op.move (Operand.tmp 19), type := 4, pos := "outright.go:20", after := #[{ on := 0, ground := Ground.data }], guard := none }
def oAW_2 : Oper := { dst := some 21, op := Op.move (Operand.tmp 3), type := 3, pos := "outright.go:20", after := #[{ on := 1, ground := Ground.guard }], guard := some (1, true) }
def oAW_3 : Oper := { dst := some 22, op := Op.binOp BinOp.eql 3 (Operand.tmp 21) (Operand.const (Value.int IntKind.i64 (-1))) 3, type := 4, pos := "outright.go:20", after := #[{ on := 2, ground := Ground.data }, { on := 1, ground := Ground.guard }], guard := some (1, true) }
def oAW_4 : Oper := { dst := some 23, op := Op.pick (Operand.tmp 20) (Operand.tmp 22) (Operand.const (Value.bool false)), type := 4, pos := "outright.go:20", after := #[{ on := 1, ground := Ground.data }, { on := 3, ground := Ground.data }], guard := none }
def oAW_5 : Oper := { dst := some 24, op := Op.move (Operand.tmp 23), type := 4, pos := "outright.go:20", after := #[{ on := 4, ground := Ground.data }, { on := 1, ground := Ground.chain }], guard := none }
def oAW_6 : Oper := { dst := some 25, op := Op.load 24 (Operand.tmp 1), type := 24, pos := "outright.go:20", after := #[{ on := 5, ground := Ground.guard }], guard := some (5, true) }
def oAW_7 : Oper := { dst := some 26, op := Op.load 24 (Operand.tmp 2), type := 24, pos := "outright.go:20", after := #[{ on := 5, ground := Ground.guard }], guard := some (5, true) }
def oAW_8 : Oper := { dst := some 27, op := Op.call { callee := Callee.value (Operand.func 21), args := #[Operand.const (Value.float FloatKind.f64 4607182418800017408), Operand.const (Value.float FloatKind.f64 4607182418800017408)], argTypes := #[22, 22] }, type := 24, pos := "outright.go:20", after := #[{ on := 5, ground := Ground.chain }, { on := 5, ground := Ground.guard }], guard := some (5, true) }
def oAW_9 : Oper := { dst := some 28, op := Op.call { callee := Callee.value (Operand.func 11), args := #[Operand.tmp 25, Operand.tmp 26, Operand.tmp 27], argTypes := #[24, 24, 24] }, type := 3, pos := "outright.go:20", after := #[{ on := 6, ground := Ground.data }, { on := 7, ground := Ground.data }, { on := 8, ground := Ground.data }, { on := 8, ground := Ground.chain }, { on := 5, ground := Ground.guard }], guard := some (5, true) }
def oAW_10 : Oper := { dst := some 29, op := Op.binOp BinOp.eql 3 (Operand.tmp 28) (Operand.const (Value.int IntKind.i64 1)) 3, type := 4, pos := "outright.go:20", after := #[{ on := 9, ground := Ground.data }, { on := 5, ground := Ground.guard }], guard := some (5, true) }
def oAW_11 : Oper := { dst := some 30, op := Op.pick (Operand.tmp 24) (Operand.tmp 29) (Operand.const (Value.bool false)), type := 4, pos := "outright.go:20", after := #[{ on := 5, ground := Ground.data }, { on := 10, ground := Ground.data }], guard := none }
def oAW_12 : Oper := { dst := some 31, op := Op.move (Operand.tmp 30), type := 4, pos := "outright.go:20", after := #[{ on := 11, ground := Ground.data }, { on := 9, ground := Ground.chain }], guard := none }
def oAW_13 : Oper := { dst := some 32, op := Op.load 24 (Operand.tmp 1), type := 24, pos := "outright.go:20", after := #[{ on := 12, ground := Ground.guard }], guard := some (12, true) }
def oAW_14 : Oper := { dst := some 33, op := Op.load 24 (Operand.tmp 2), type := 24, pos := "outright.go:20", after := #[{ on := 12, ground := Ground.guard }], guard := some (12, true) }
def oAW_15 : Oper := { dst := some 34, op := Op.call { callee := Callee.value (Operand.func 21), args := #[Operand.const (Value.float FloatKind.f64 4607182418800017408), Operand.const (Value.float FloatKind.f64 13380194492917743616)], argTypes := #[22, 22] }, type := 24, pos := "outright.go:20", after := #[{ on := 12, ground := Ground.chain }, { on := 12, ground := Ground.guard }], guard := some (12, true) }
def oAW_16 : Oper := { dst := some 35, op := Op.call { callee := Callee.value (Operand.func 11), args := #[Operand.tmp 32, Operand.tmp 33, Operand.tmp 34], argTypes := #[24, 24, 24] }, type := 3, pos := "outright.go:20", after := #[{ on := 13, ground := Ground.data }, { on := 14, ground := Ground.data }, { on := 15, ground := Ground.data }, { on := 15, ground := Ground.chain }, { on := 12, ground := Ground.guard }], guard := some (12, true) }
def oAW_17 : Oper := { dst := some 36, op := Op.binOp BinOp.eql 3 (Operand.tmp 35) (Operand.const (Value.int IntKind.i64 (-1))) 3, type := 4, pos := "outright.go:20", after := #[{ on := 16, ground := Ground.data }, { on := 12, ground := Ground.guard }], guard := some (12, true) }
def oAW_18 : Oper := { dst := some 37, op := Op.pick (Operand.tmp 31) (Operand.tmp 36) (Operand.const (Value.bool false)), type := 4, pos := "outright.go:20", after := #[{ on := 12, ground := Ground.data }, { on := 17, ground := Ground.data }], guard := none }
def oAW_19 : Oper := { dst := some 38, op := Op.move (Operand.tmp 37), type := 4, pos := "outright.go:20", after := #[{ on := 18, ground := Ground.data }, { on := 16, ground := Ground.chain }], guard := none }
def oAW_20 : Oper := { dst := some 39, op := Op.load 24 (Operand.tmp 1), type := 24, pos := "outright.go:20", after := #[{ on := 19, ground := Ground.guard }], guard := some (19, true) }
def oAW_21 : Oper := { dst := some 40, op := Op.load 24 (Operand.tmp 2), type := 24, pos := "outright.go:20", after := #[{ on := 19, ground := Ground.guard }], guard := some (19, true) }
def oAW_22 : Oper := { dst := some 41, op := Op.call { callee := Callee.value (Operand.func 21), args := #[Operand.const (Value.float FloatKind.f64 4617315517961601024), Operand.const (Value.float FloatKind.f64 0)], argTypes := #[22, 22] }, type := 24, pos := "outright.go:20", after := #[{ on := 19, ground := Ground.chain }, { on := 19, ground := Ground.guard }], guard := some (19, true) }
def oAW_23 : Oper := { dst := some 42, op := Op.call { callee := Callee.value (Operand.func 11), args := #[Operand.tmp 39, Operand.tmp 40, Operand.tmp 41], argTypes := #[24, 24, 24] }, type := 3, pos := "outright.go:20", after := #[{ on := 20, ground := Ground.data }, { on := 21, ground := Ground.data }, { on := 22, ground := Ground.data }, { on := 22, ground := Ground.chain }, { on := 19, ground := Ground.guard }], guard := some (19, true) }
def oAW_24 : Oper := { dst := some 43, op := Op.binOp BinOp.eql 3 (Operand.tmp 42) (Operand.const (Value.int IntKind.i64 0)) 3, type := 4, pos := "outright.go:20", after := #[{ on := 23, ground := Ground.data }, { on := 19, ground := Ground.guard }], guard := some (19, true) }
def oAW_25 : Oper := { dst := some 44, op := Op.pick (Operand.tmp 38) (Operand.tmp 43) (Operand.const (Value.bool false)), type := 4, pos := "outright.go:20", after := #[{ on := 19, ground := Ground.data }, { on := 24, ground := Ground.data }], guard := none }
def oAW_26 : Oper := { dst := some 45, op := Op.move (Operand.tmp 44), type := 4, pos := "outright.go:20", after := #[{ on := 25, ground := Ground.data }, { on := 23, ground := Ground.chain }], guard := none }
def oAW_27 : Oper := { dst := some 46, op := Op.load 24 (Operand.tmp 1), type := 24, pos := "outright.go:20", after := #[{ on := 26, ground := Ground.guard }], guard := some (26, true) }
def oAW_28 : Oper := { dst := some 47, op := Op.load 24 (Operand.tmp 2), type := 24, pos := "outright.go:20", after := #[{ on := 26, ground := Ground.guard }], guard := some (26, true) }
def oAW_29 : Oper := { dst := some 48, op := Op.call { callee := Callee.value (Operand.func 21), args := #[Operand.const (Value.float FloatKind.f64 5062045981164437504), Operand.const (Value.float FloatKind.f64 4607182418800017408)], argTypes := #[22, 22] }, type := 24, pos := "outright.go:20", after := #[{ on := 26, ground := Ground.chain }, { on := 26, ground := Ground.guard }], guard := some (26, true) }
def oAW_30 : Oper := { dst := some 49, op := Op.call { callee := Callee.value (Operand.func 11), args := #[Operand.tmp 46, Operand.tmp 47, Operand.tmp 48], argTypes := #[24, 24, 24] }, type := 3, pos := "outright.go:20", after := #[{ on := 27, ground := Ground.data }, { on := 28, ground := Ground.data }, { on := 29, ground := Ground.data }, { on := 29, ground := Ground.chain }, { on := 26, ground := Ground.guard }], guard := some (26, true) }
def oAW_31 : Oper := { dst := some 50, op := Op.binOp BinOp.eql 3 (Operand.tmp 49) (Operand.const (Value.int IntKind.i64 0)) 3, type := 4, pos := "outright.go:20", after := #[{ on := 30, ground := Ground.data }, { on := 26, ground := Ground.guard }], guard := some (26, true) }
def oAW_32 : Oper := { dst := some 51, op := Op.pick (Operand.tmp 45) (Operand.tmp 50) (Operand.const (Value.bool false)), type := 4, pos := "outright.go:20", after := #[{ on := 26, ground := Ground.data }, { on := 31, ground := Ground.data }], guard := none }
def oAW_33 : Oper := { dst := some 52, op := Op.move (Operand.tmp 51), type := 4, pos := "outright.go:20", after := #[{ on := 32, ground := Ground.data }, { on := 30, ground := Ground.chain }], guard := none }
def oAW_34 : Oper := { dst := some 53, op := Op.load 24 (Operand.tmp 1), type := 24, pos := "outright.go:20", after := #[{ on := 33, ground := Ground.guard }], guard := some (33, true) }
def oAW_35 : Oper := { dst := some 54, op := Op.load 24 (Operand.tmp 2), type := 24, pos := "outright.go:20", after := #[{ on := 33, ground := Ground.guard }], guard := some (33, true) }
def oAW_36 : Oper := { dst := some 55, op := Op.call { callee := Callee.value (Operand.func 21), args := #[Operand.const (Value.float FloatKind.f64 4607182418800017408), Operand.const (Value.float FloatKind.f64 0)], argTypes := #[22, 22] }, type := 24, pos := "outright.go:20", after := #[{ on := 33, ground := Ground.chain }, { on := 33, ground := Ground.guard }], guard := some (33, true) }
def oAW_37 : Oper := { dst := some 56, op := Op.call { callee := Callee.value (Operand.func 15), args := #[Operand.tmp 53, Operand.tmp 54, Operand.tmp 55], argTypes := #[24, 24, 24] }, type := 4, pos := "outright.go:20", after := #[{ on := 34, ground := Ground.data }, { on := 35, ground := Ground.data }, { on := 36, ground := Ground.data }, { on := 36, ground := Ground.chain }, { on := 33, ground := Ground.guard }], guard := some (33, true) }
def oAW_38 : Oper := { dst := some 57, op := Op.pick (Operand.tmp 52) (Operand.tmp 56) (Operand.const (Value.bool false)), type := 4, pos := "outright.go:20", after := #[{ on := 33, ground := Ground.data }, { on := 37, ground := Ground.data }], guard := none }
def oAW_39 : Oper := { dst := some 58, op := Op.move (Operand.tmp 57), type := 4, pos := "outright.go:20", after := #[{ on := 38, ground := Ground.data }, { on := 37, ground := Ground.chain }], guard := none }
def oAW_40 : Oper := { dst := some 59, op := Op.load 24 (Operand.tmp 1), type := 24, pos := "outright.go:20", after := #[{ on := 39, ground := Ground.guard }], guard := some (39, true) }
def oAW_41 : Oper := { dst := some 60, op := Op.load 24 (Operand.tmp 2), type := 24, pos := "outright.go:20", after := #[{ on := 39, ground := Ground.guard }], guard := some (39, true) }
def oAW_42 : Oper := { dst := some 61, op := Op.load 24 (Operand.tmp 1), type := 24, pos := "outright.go:20", after := #[{ on := 39, ground := Ground.guard }], guard := some (39, true) }
def oAW_43 : Oper := { dst := some 62, op := Op.call { callee := Callee.value (Operand.func 15), args := #[Operand.tmp 59, Operand.tmp 60, Operand.tmp 61], argTypes := #[24, 24, 24] }, type := 4, pos := "outright.go:20", after := #[{ on := 40, ground := Ground.data }, { on := 41, ground := Ground.data }, { on := 42, ground := Ground.data }, { on := 39, ground := Ground.chain }, { on := 39, ground := Ground.guard }], guard := some (39, true) }
def oAW_44 : Oper := { dst := some 63, op := Op.pick (Operand.tmp 58) (Operand.tmp 62) (Operand.const (Value.bool false)), type := 4, pos := "outright.go:20", after := #[{ on := 39, ground := Ground.data }, { on := 43, ground := Ground.data }], guard := none }
def oAW_45 : Oper := { dst := some 64, op := Op.move (Operand.tmp 63), type := 4, pos := "outright.go:20", after := #[{ on := 44, ground := Ground.data }, { on := 43, ground := Ground.chain }], guard := none }
def oAW_46 : Oper := { dst := some 65, op := Op.load 24 (Operand.tmp 1), type := 24, pos := "outright.go:20", after := #[{ on := 45, ground := Ground.guard }], guard := some (45, true) }
def oAW_47 : Oper := { dst := some 66, op := Op.load 24 (Operand.tmp 2), type := 24, pos := "outright.go:20", after := #[{ on := 45, ground := Ground.guard }], guard := some (45, true) }
def oAW_48 : Oper := { dst := some 67, op := Op.call { callee := Callee.value (Operand.func 21), args := #[Operand.const (Value.float FloatKind.f64 4613937818241073152), Operand.const (Value.float FloatKind.f64 0)], argTypes := #[22, 22] }, type := 24, pos := "outright.go:20", after := #[{ on := 45, ground := Ground.chain }, { on := 45, ground := Ground.guard }], guard := some (45, true) }
def oAW_49 : Oper := { dst := some 68, op := Op.call { callee := Callee.value (Operand.func 15), args := #[Operand.tmp 65, Operand.tmp 66, Operand.tmp 67], argTypes := #[24, 24, 24] }, type := 4, pos := "outright.go:20", after := #[{ on := 46, ground := Ground.data }, { on := 47, ground := Ground.data }, { on := 48, ground := Ground.data }, { on := 48, ground := Ground.chain }, { on := 45, ground := Ground.guard }], guard := some (45, true) }
def oAW_50 : Oper := { dst := some 69, op := Op.unOp UnOp.not 4 (Operand.tmp 68), type := 4, pos := "outright.go:20", after := #[{ on := 49, ground := Ground.data }, { on := 45, ground := Ground.guard }], guard := some (45, true) }
def oAW_51 : Oper := { dst := some 70, op := Op.pick (Operand.tmp 64) (Operand.tmp 69) (Operand.const (Value.bool false)), type := 4, pos := "outright.go:20", after := #[{ on := 45, ground := Ground.data }, { on := 50, ground := Ground.data }], guard := none }
def oAW_52 : Oper := { dst := some 71, op := Op.move (Operand.tmp 70), type := 4, pos := "outright.go:20", after := #[{ on := 51, ground := Ground.data }, { on := 49, ground := Ground.chain }], guard := none }
def oAW_53 : Oper := { dst := some 72, op := Op.load 24 (Operand.tmp 1), type := 24, pos := "outright.go:20", after := #[{ on := 52, ground := Ground.guard }], guard := some (52, true) }
def oAW_54 : Oper := { dst := some 73, op := Op.load 24 (Operand.tmp 2), type := 24, pos := "outright.go:20", after := #[{ on := 52, ground := Ground.guard }], guard := some (52, true) }
def oAW_55 : Oper := { dst := some 74, op := Op.call { callee := Callee.value (Operand.func 21), args := #[Operand.const (Value.float FloatKind.f64 4607182418800017408), Operand.const (Value.float FloatKind.f64 13830554455654793216)], argTypes := #[22, 22] }, type := 24, pos := "outright.go:20", after := #[{ on := 52, ground := Ground.chain }, { on := 52, ground := Ground.guard }], guard := some (52, true) }
def oAW_56 : Oper := { dst := some 75, op := Op.call { callee := Callee.value (Operand.func 21), args := #[Operand.const (Value.float FloatKind.f64 4607182418800017408), Operand.const (Value.float FloatKind.f64 4607182418800017408)], argTypes := #[22, 22] }, type := 24, pos := "outright.go:20", after := #[{ on := 55, ground := Ground.chain }, { on := 52, ground := Ground.guard }], guard := some (52, true) }
def oAW_57 : Oper := { dst := some 76, op := Op.call { callee := Callee.value (Operand.func 17), args := #[Operand.tmp 72, Operand.tmp 73, Operand.tmp 74, Operand.tmp 75], argTypes := #[24, 24, 24, 24] }, type := 4, pos := "outright.go:20", after := #[{ on := 53, ground := Ground.data }, { on := 54, ground := Ground.data }, { on := 55, ground := Ground.data }, { on := 56, ground := Ground.data }, { on := 56, ground := Ground.chain }, { on := 52, ground := Ground.guard }], guard := some (52, true) }
def oAW_58 : Oper := { dst := some 77, op := Op.pick (Operand.tmp 71) (Operand.tmp 76) (Operand.const (Value.bool false)), type := 4, pos := "outright.go:20", after := #[{ on := 52, ground := Ground.data }, { on := 57, ground := Ground.data }], guard := none }
def oAW_59 : Oper := { dst := some 78, op := Op.move (Operand.tmp 77), type := 4, pos := "outright.go:20", after := #[{ on := 58, ground := Ground.data }, { on := 57, ground := Ground.chain }], guard := none }
def oAW_60 : Oper := { dst := some 79, op := Op.load 24 (Operand.tmp 1), type := 24, pos := "outright.go:20", after := #[{ on := 59, ground := Ground.guard }], guard := some (59, true) }
def oAW_61 : Oper := { dst := some 80, op := Op.load 24 (Operand.tmp 2), type := 24, pos := "outright.go:20", after := #[{ on := 59, ground := Ground.guard }], guard := some (59, true) }
def oAW_62 : Oper := { dst := some 81, op := Op.call { callee := Callee.value (Operand.func 21), args := #[Operand.const (Value.float FloatKind.f64 4607182418800017408), Operand.const (Value.float FloatKind.f64 0)], argTypes := #[22, 22] }, type := 24, pos := "outright.go:20", after := #[{ on := 59, ground := Ground.chain }, { on := 59, ground := Ground.guard }], guard := some (59, true) }
def oAW_63 : Oper := { dst := some 82, op := Op.call { callee := Callee.value (Operand.func 21), args := #[Operand.const (Value.float FloatKind.f64 4607182418800017408), Operand.const (Value.float FloatKind.f64 4607182418800017408)], argTypes := #[22, 22] }, type := 24, pos := "outright.go:20", after := #[{ on := 62, ground := Ground.chain }, { on := 59, ground := Ground.guard }], guard := some (59, true) }
def oAW_64 : Oper := { dst := some 83, op := Op.call { callee := Callee.value (Operand.func 17), args := #[Operand.tmp 79, Operand.tmp 80, Operand.tmp 81, Operand.tmp 82], argTypes := #[24, 24, 24, 24] }, type := 4, pos := "outright.go:20", after := #[{ on := 60, ground := Ground.data }, { on := 61, ground := Ground.data }, { on := 62, ground := Ground.data }, { on := 63, ground := Ground.data }, { on := 63, ground := Ground.chain }, { on := 59, ground := Ground.guard }], guard := some (59, true) }
def oAW_65 : Oper := { dst := some 84, op := Op.unOp UnOp.not 4 (Operand.tmp 83), type := 4, pos := "outright.go:20", after := #[{ on := 64, ground := Ground.data }, { on := 59, ground := Ground.guard }], guard := some (59, true) }
def oAW_66 : Oper := { dst := some 85, op := Op.pick (Operand.tmp 78) (Operand.tmp 84) (Operand.const (Value.bool false)), type := 4, pos := "outright.go:20", after := #[{ on := 59, ground := Ground.data }, { on := 65, ground := Ground.data }], guard := none }
def oAW_67 : Oper := { dst := some 0, op := Op.assign (Operand.tmp 85), type := 4, pos := "outright.go:20", after := #[{ on := 66, ground := Ground.data }, { on := 64, ground := Ground.chain }, { on := 0, ground := Ground.phase }, { on := 1, ground := Ground.phase }, { on := 2, ground := Ground.phase }, { on := 3, ground := Ground.phase }, { on := 4, ground := Ground.phase }, { on := 5, ground := Ground.phase }, { on := 6, ground := Ground.phase }, { on := 7, ground := Ground.phase }, { on := 8, ground := Ground.phase }, { on := 9, ground := Ground.phase }, { on := 10, ground := Ground.phase }, { on := 11, ground := Ground.phase }, { on := 12, ground := Ground.phase }, { on := 13, ground := Ground.phase }, { on := 14, ground := Ground.phase }, { on := 15, ground := Ground.phase }, { on := 16, ground := Ground.phase }, { on := 17, ground := Ground.phase }, { on := 18, ground := Ground.phase }, { on := 19, ground := Ground.phase }, { on := 20, ground := Ground.phase }, { on := 21, ground := Ground.phase }, { on := 22, ground := Ground.phase }, { on := 23, ground := Ground.phase }, { on := 24, ground := Ground.phase }, { on := 25, ground := Ground.phase }, { on := 26, ground := Ground.phase }, { on := 27, ground := Ground.phase }, { on := 28, ground := Ground.phase }, { on := 29, ground := Ground.phase }, { on := 30, ground := Ground.phase }, { on := 31, ground := Ground.phase }, { on := 32, ground := Ground.phase }, { on := 33, ground := Ground.phase }, { on := 34, ground := Ground.phase }, { on := 35, ground := Ground.phase }, { on := 36, ground := Ground.phase }, { on := 37, ground := Ground.phase }, { on := 38, ground := Ground.phase }, { on := 39, ground := Ground.phase }, { on := 40, ground := Ground.phase }, { on := 41, ground := Ground.phase }, { on := 42, ground := Ground.phase }, { on := 43, ground := Ground.phase }, { on := 44, ground := Ground.phase }, { on := 45, ground := Ground.phase }, { on := 46, ground := Ground.phase }, { on := 47, ground := Ground.phase }, { on := 48, ground := Ground.phase }, { on := 49, ground := Ground.phase }, { on := 50, ground := Ground.phase }, { on := 51, ground := Ground.phase }, { on := 52, ground := Ground.phase }, { on := 53, ground := Ground.phase }, { on := 54, ground := Ground.phase }, { on := 55, ground := Ground.phase }, { on := 56, ground := Ground.phase }, { on := 57, ground := Ground.phase }, { on := 58, ground := Ground.phase }, { on := 59, ground := Ground.phase }, { on := 60, ground := Ground.phase }, { on := 61, ground := Ground.phase }, { on := 62, ground := Ground.phase }, { on := 63, ground := Ground.phase }, { on := 64, ground := Ground.phase }, { on := 65, ground := Ground.phase }, { on := 66, ground := Ground.phase }], guard := none }
def oAW : Array Oper := #[oAW_0, oAW_1, oAW_2, oAW_3, oAW_4, oAW_5, oAW_6, oAW_7, oAW_8, oAW_9, oAW_10, oAW_11, oAW_12, oAW_13, oAW_14, oAW_15, oAW_16, oAW_17, oAW_18, oAW_19, oAW_20, oAW_21, oAW_22, oAW_23, oAW_24, oAW_25, oAW_26, oAW_27, oAW_28, oAW_29, oAW_30, oAW_31, oAW_32, oAW_33, oAW_34, oAW_35, oAW_36, oAW_37, oAW_38, oAW_39, oAW_40, oAW_41, oAW_42, oAW_43, oAW_44, oAW_45, oAW_46, oAW_47, oAW_48, oAW_49, oAW_50, oAW_51, oAW_52, oAW_53, oAW_54, oAW_55, oAW_56, oAW_57, oAW_58, oAW_59, oAW_60, oAW_61, oAW_62, oAW_63, oAW_64, oAW_65, oAW_66, oAW_67]
theorem oAW_s : Region.noSelect oAW = true := by kernel_rfl
theorem oAW_f0 : Region.free .any oAW (lsN 68 0) 0 = true := by kernel_rfl
theorem oAW_r0 : (Region.ready .any oAW (lsN 68 0)).contains 0 = true := by kernel_rfl
theorem oAW_f1 : Region.free .any oAW (lsN 68 1) 1 = true := by kernel_rfl
theorem oAW_r1 : (Region.ready .any oAW (lsN 68 1)).contains 1 = true := by kernel_rfl
theorem oAW_f2 : Region.free .any oAW (lsN 68 2) 2 = true := by kernel_rfl
theorem oAW_r2 : (Region.ready .any oAW (lsN 68 2)).contains 2 = true := by kernel_rfl
theorem oAW_f3 : Region.free .any oAW (lsN 68 3) 3 = true := by kernel_rfl
theorem oAW_r3 : (Region.ready .any oAW (lsN 68 3)).contains 3 = true := by kernel_rfl
theorem oAW_f4 : Region.free .any oAW (lsN 68 4) 4 = true := by kernel_rfl
theorem oAW_r4 : (Region.ready .any oAW (lsN 68 4)).contains 4 = true := by kernel_rfl
theorem oAW_f5 : Region.free .any oAW (lsN 68 5) 5 = true := by kernel_rfl
theorem oAW_r5 : (Region.ready .any oAW (lsN 68 5)).contains 5 = true := by kernel_rfl
theorem oAW_f6 : Region.free .any oAW (lsN 68 6) 6 = true := by kernel_rfl
theorem oAW_r6 : (Region.ready .any oAW (lsN 68 6)).contains 6 = true := by kernel_rfl
theorem oAW_f7 : Region.free .any oAW (lsN 68 7) 7 = true := by kernel_rfl
theorem oAW_r7 : (Region.ready .any oAW (lsN 68 7)).contains 7 = true := by kernel_rfl
theorem oAW_c8 : Region.ready .any oAW (lsN 68 8) = [8] := by kernel_rfl
theorem oAW_c9 : Region.ready .any oAW (lsN 68 9) = [9] := by kernel_rfl
theorem oAW_f10 : Region.free .any oAW (lsN 68 10) 10 = true := by kernel_rfl
theorem oAW_r10 : (Region.ready .any oAW (lsN 68 10)).contains 10 = true := by kernel_rfl
theorem oAW_f11 : Region.free .any oAW (lsN 68 11) 11 = true := by kernel_rfl
theorem oAW_r11 : (Region.ready .any oAW (lsN 68 11)).contains 11 = true := by kernel_rfl
theorem oAW_f12 : Region.free .any oAW (lsN 68 12) 12 = true := by kernel_rfl
theorem oAW_r12 : (Region.ready .any oAW (lsN 68 12)).contains 12 = true := by kernel_rfl
theorem oAW_f13 : Region.free .any oAW (lsN 68 13) 13 = true := by kernel_rfl
theorem oAW_r13 : (Region.ready .any oAW (lsN 68 13)).contains 13 = true := by kernel_rfl
theorem oAW_f14 : Region.free .any oAW (lsN 68 14) 14 = true := by kernel_rfl
theorem oAW_r14 : (Region.ready .any oAW (lsN 68 14)).contains 14 = true := by kernel_rfl
theorem oAW_c15 : Region.ready .any oAW (lsN 68 15) = [15] := by kernel_rfl
theorem oAW_c16 : Region.ready .any oAW (lsN 68 16) = [16] := by kernel_rfl
theorem oAW_f17 : Region.free .any oAW (lsN 68 17) 17 = true := by kernel_rfl
theorem oAW_r17 : (Region.ready .any oAW (lsN 68 17)).contains 17 = true := by kernel_rfl
theorem oAW_f18 : Region.free .any oAW (lsN 68 18) 18 = true := by kernel_rfl
theorem oAW_r18 : (Region.ready .any oAW (lsN 68 18)).contains 18 = true := by kernel_rfl
theorem oAW_f19 : Region.free .any oAW (lsN 68 19) 19 = true := by kernel_rfl
theorem oAW_r19 : (Region.ready .any oAW (lsN 68 19)).contains 19 = true := by kernel_rfl
theorem oAW_f20 : Region.free .any oAW (lsN 68 20) 20 = true := by kernel_rfl
theorem oAW_r20 : (Region.ready .any oAW (lsN 68 20)).contains 20 = true := by kernel_rfl
theorem oAW_f21 : Region.free .any oAW (lsN 68 21) 21 = true := by kernel_rfl
theorem oAW_r21 : (Region.ready .any oAW (lsN 68 21)).contains 21 = true := by kernel_rfl
theorem oAW_c22 : Region.ready .any oAW (lsN 68 22) = [22] := by kernel_rfl
theorem oAW_c23 : Region.ready .any oAW (lsN 68 23) = [23] := by kernel_rfl
theorem oAW_f24 : Region.free .any oAW (lsN 68 24) 24 = true := by kernel_rfl
theorem oAW_r24 : (Region.ready .any oAW (lsN 68 24)).contains 24 = true := by kernel_rfl
theorem oAW_f25 : Region.free .any oAW (lsN 68 25) 25 = true := by kernel_rfl
theorem oAW_r25 : (Region.ready .any oAW (lsN 68 25)).contains 25 = true := by kernel_rfl
theorem oAW_f26 : Region.free .any oAW (lsN 68 26) 26 = true := by kernel_rfl
theorem oAW_r26 : (Region.ready .any oAW (lsN 68 26)).contains 26 = true := by kernel_rfl
theorem oAW_f27 : Region.free .any oAW (lsN 68 27) 27 = true := by kernel_rfl
theorem oAW_r27 : (Region.ready .any oAW (lsN 68 27)).contains 27 = true := by kernel_rfl
theorem oAW_f28 : Region.free .any oAW (lsN 68 28) 28 = true := by kernel_rfl
theorem oAW_r28 : (Region.ready .any oAW (lsN 68 28)).contains 28 = true := by kernel_rfl
theorem oAW_c29 : Region.ready .any oAW (lsN 68 29) = [29] := by kernel_rfl
theorem oAW_c30 : Region.ready .any oAW (lsN 68 30) = [30] := by kernel_rfl
theorem oAW_f31 : Region.free .any oAW (lsN 68 31) 31 = true := by kernel_rfl
theorem oAW_r31 : (Region.ready .any oAW (lsN 68 31)).contains 31 = true := by kernel_rfl
theorem oAW_f32 : Region.free .any oAW (lsN 68 32) 32 = true := by kernel_rfl
theorem oAW_r32 : (Region.ready .any oAW (lsN 68 32)).contains 32 = true := by kernel_rfl
theorem oAW_f33 : Region.free .any oAW (lsN 68 33) 33 = true := by kernel_rfl
theorem oAW_r33 : (Region.ready .any oAW (lsN 68 33)).contains 33 = true := by kernel_rfl
theorem oAW_f34 : Region.free .any oAW (lsN 68 34) 34 = true := by kernel_rfl
theorem oAW_r34 : (Region.ready .any oAW (lsN 68 34)).contains 34 = true := by kernel_rfl
theorem oAW_f35 : Region.free .any oAW (lsN 68 35) 35 = true := by kernel_rfl
theorem oAW_r35 : (Region.ready .any oAW (lsN 68 35)).contains 35 = true := by kernel_rfl
theorem oAW_c36 : Region.ready .any oAW (lsN 68 36) = [36] := by kernel_rfl
theorem oAW_c37 : Region.ready .any oAW (lsN 68 37) = [37] := by kernel_rfl
theorem oAW_f38 : Region.free .any oAW (lsN 68 38) 38 = true := by kernel_rfl
theorem oAW_r38 : (Region.ready .any oAW (lsN 68 38)).contains 38 = true := by kernel_rfl
theorem oAW_f39 : Region.free .any oAW (lsN 68 39) 39 = true := by kernel_rfl
theorem oAW_r39 : (Region.ready .any oAW (lsN 68 39)).contains 39 = true := by kernel_rfl
theorem oAW_f40 : Region.free .any oAW (lsN 68 40) 40 = true := by kernel_rfl
theorem oAW_r40 : (Region.ready .any oAW (lsN 68 40)).contains 40 = true := by kernel_rfl
theorem oAW_f41 : Region.free .any oAW (lsN 68 41) 41 = true := by kernel_rfl
theorem oAW_r41 : (Region.ready .any oAW (lsN 68 41)).contains 41 = true := by kernel_rfl
theorem oAW_f42 : Region.free .any oAW (lsN 68 42) 42 = true := by kernel_rfl
theorem oAW_r42 : (Region.ready .any oAW (lsN 68 42)).contains 42 = true := by kernel_rfl
theorem oAW_c43 : Region.ready .any oAW (lsN 68 43) = [43] := by kernel_rfl
theorem oAW_f44 : Region.free .any oAW (lsN 68 44) 44 = true := by kernel_rfl
theorem oAW_r44 : (Region.ready .any oAW (lsN 68 44)).contains 44 = true := by kernel_rfl
theorem oAW_f45 : Region.free .any oAW (lsN 68 45) 45 = true := by kernel_rfl
theorem oAW_r45 : (Region.ready .any oAW (lsN 68 45)).contains 45 = true := by kernel_rfl
theorem oAW_f46 : Region.free .any oAW (lsN 68 46) 46 = true := by kernel_rfl
theorem oAW_r46 : (Region.ready .any oAW (lsN 68 46)).contains 46 = true := by kernel_rfl
theorem oAW_f47 : Region.free .any oAW (lsN 68 47) 47 = true := by kernel_rfl
theorem oAW_r47 : (Region.ready .any oAW (lsN 68 47)).contains 47 = true := by kernel_rfl
theorem oAW_c48 : Region.ready .any oAW (lsN 68 48) = [48] := by kernel_rfl
theorem oAW_c49 : Region.ready .any oAW (lsN 68 49) = [49] := by kernel_rfl
theorem oAW_f50 : Region.free .any oAW (lsN 68 50) 50 = true := by kernel_rfl
theorem oAW_r50 : (Region.ready .any oAW (lsN 68 50)).contains 50 = true := by kernel_rfl
theorem oAW_f51 : Region.free .any oAW (lsN 68 51) 51 = true := by kernel_rfl
theorem oAW_r51 : (Region.ready .any oAW (lsN 68 51)).contains 51 = true := by kernel_rfl
theorem oAW_f52 : Region.free .any oAW (lsN 68 52) 52 = true := by kernel_rfl
theorem oAW_r52 : (Region.ready .any oAW (lsN 68 52)).contains 52 = true := by kernel_rfl
theorem oAW_f53 : Region.free .any oAW (lsN 68 53) 53 = true := by kernel_rfl
theorem oAW_r53 : (Region.ready .any oAW (lsN 68 53)).contains 53 = true := by kernel_rfl
theorem oAW_f54 : Region.free .any oAW (lsN 68 54) 54 = true := by kernel_rfl
theorem oAW_r54 : (Region.ready .any oAW (lsN 68 54)).contains 54 = true := by kernel_rfl
theorem oAW_c55 : Region.ready .any oAW (lsN 68 55) = [55] := by kernel_rfl
theorem oAW_c56 : Region.ready .any oAW (lsN 68 56) = [56] := by kernel_rfl
theorem oAW_c57 : Region.ready .any oAW (lsN 68 57) = [57] := by kernel_rfl
theorem oAW_f58 : Region.free .any oAW (lsN 68 58) 58 = true := by kernel_rfl
theorem oAW_r58 : (Region.ready .any oAW (lsN 68 58)).contains 58 = true := by kernel_rfl
theorem oAW_f59 : Region.free .any oAW (lsN 68 59) 59 = true := by kernel_rfl
theorem oAW_r59 : (Region.ready .any oAW (lsN 68 59)).contains 59 = true := by kernel_rfl
theorem oAW_f60 : Region.free .any oAW (lsN 68 60) 60 = true := by kernel_rfl
theorem oAW_r60 : (Region.ready .any oAW (lsN 68 60)).contains 60 = true := by kernel_rfl
theorem oAW_f61 : Region.free .any oAW (lsN 68 61) 61 = true := by kernel_rfl
theorem oAW_r61 : (Region.ready .any oAW (lsN 68 61)).contains 61 = true := by kernel_rfl
theorem oAW_c62 : Region.ready .any oAW (lsN 68 62) = [62] := by kernel_rfl
theorem oAW_c63 : Region.ready .any oAW (lsN 68 63) = [63] := by kernel_rfl
theorem oAW_c64 : Region.ready .any oAW (lsN 68 64) = [64] := by kernel_rfl
theorem oAW_f65 : Region.free .any oAW (lsN 68 65) 65 = true := by kernel_rfl
theorem oAW_r65 : (Region.ready .any oAW (lsN 68 65)).contains 65 = true := by kernel_rfl
theorem oAW_f66 : Region.free .any oAW (lsN 68 66) 66 = true := by kernel_rfl
theorem oAW_r66 : (Region.ready .any oAW (lsN 68 66)).contains 66 = true := by kernel_rfl
theorem oAW_f67 : Region.free .any oAW (lsN 68 67) 67 = true := by kernel_rfl
theorem oAW_r67 : (Region.ready .any oAW (lsN 68 67)).contains 67 = true := by kernel_rfl
set_option maxRecDepth 100000 in
set_option maxHeartbeats 8000000 in
theorem awake_calls {w : World} (ht : TabOk w) : Calls Tryd.prog 13 #[] w fun e w' => e = .returned (.bool true) ∧ Below w.heap.size w w' := by
  have HT := Lib.hid ht
  have HW := Lib.hid (Below.refl w.heap.size w)
  have HS0 := Lib.hid (fun (W : World) (hT : TabOk W) => osign_calls hT 4602678819172646954 4602678819172646960 4622945017495814144 4622945017495814144 4627448617123184640 4627448617123184640 (by decide) (by decide) (by decide) (by decide) (by decide) (by decide))
  rw [aw_s0] at HS0
  have HS1 := Lib.hid (fun (W : World) (hT : TabOk W) => osign_calls hT 0 0 4611686018427387904 0 4607182418800017408 4607182418800017408 (by decide) (by decide) (by decide) (by decide) (by decide) (by decide))
  rw [aw_s1] at HS1
  have HS2 := Lib.hid (fun (W : World) (hT : TabOk W) => osign_calls hT 0 0 4611686018427387904 0 4607182418800017408 13380194492917743616 (by decide) (by decide) (by decide) (by decide) (by decide) (by decide))
  rw [aw_s2] at HS2
  have HS3 := Lib.hid (fun (W : World) (hT : TabOk W) => osign_calls hT 0 0 4611686018427387904 0 4617315517961601024 0 (by decide) (by decide) (by decide) (by decide) (by decide) (by decide))
  rw [aw_s3] at HS3
  have HS4 := Lib.hid (fun (W : World) (hT : TabOk W) => osign_calls hT 0 0 4611686018427387904 0 5062045981164437504 4607182418800017408 (by decide) (by decide) (by decide) (by decide) (by decide) (by decide))
  rw [aw_s4] at HS4
  have HO0 := Lib.hid (fun (W : World) (hT : TabOk W) => oon_calls hT 0 0 4611686018427387904 0 4607182418800017408 0 (by decide) (by decide) (by decide) (by decide) (by decide) (by decide))
  rw [aw_o0] at HO0
  have HO1 := Lib.hid (fun (W : World) (hT : TabOk W) => oon_calls hT 0 0 4611686018427387904 0 0 0 (by decide) (by decide) (by decide) (by decide) (by decide) (by decide))
  rw [aw_o1] at HO1
  have HO2 := Lib.hid (fun (W : World) (hT : TabOk W) => oon_calls hT 0 0 4611686018427387904 0 4613937818241073152 0 (by decide) (by decide) (by decide) (by decide) (by decide) (by decide))
  rw [aw_o2] at HO2
  have HC0 := Lib.hid (fun (W : World) (hT : TabOk W) => ocross_calls hT 0 0 4611686018427387904 0 4607182418800017408 13830554455654793216 4607182418800017408 4607182418800017408 (by decide) (by decide) (by decide) (by decide) (by decide) (by decide) (by decide) (by decide))
  rw [aw_c0] at HC0
  have HC1 := Lib.hid (fun (W : World) (hT : TabOk W) => ocross_calls hT 0 0 4611686018427387904 0 4607182418800017408 0 4607182418800017408 4607182418800017408 (by decide) (by decide) (by decide) (by decide) (by decide) (by decide) (by decide) (by decide))
  rw [aw_c1] at HC1
  have HF := Lib.hid (fun (W : World) => fast_calls 13875590451928498176 13875581655835475968 4652218415073722368 4652209618980700160 4652209618980700160 4652200822887677952 (by decide) (by decide) (by decide) (by decide) (by decide) (by decide) W)
  rw [aw_f, aw_g] at HF
  simp only [if_true] at HF
  clear ht
  go_enter Tryd.func13, Tryd.ntmps13
  go_wp2_with fail
  refine (at_calls 0 0 _).mono ?_
  rintro _ w1 ⟨rfl, b1⟩
  have HT := Lib.hid (HT.out.keep b1)
  have HW := Lib.hid (bl_pack HW.out HW.out.size b1)
  clear b1
  go_wp2_with fail
  refine (at_calls 4611686018427387904 0 _).mono ?_
  rintro _ w2 ⟨rfl, b2⟩
  have HT := Lib.hid (HT.out.keep b2)
  have HW := Lib.hid (bl_pack HW.out HW.out.size b2)
  clear b2
  obtain ⟨wb, hwb, BB, hszb, k0, k1⟩ := box_2 w2 (.cells #[.float .f64 0, .float .f64 0] 24) (.cells #[.float .f64 4611686018427387904, .float .f64 0] 24)
  go_wp2_with fail
  rw [← hwb]
  clear hwb
  have q0x : wb.cell? ⟨w2.heap.size, 0, none⟩ = some (.float .f64 0) := cell_of_block k0 0
  have q0y : wb.cell? ⟨w2.heap.size, 1, none⟩ = some (.float .f64 0) := cell_of_block k0 1
  have q1x : wb.cell? ⟨w2.heap.size + 1, 0, none⟩ = some (.float .f64 4611686018427387904) := cell_of_block k1 0
  have q1y : wb.cell? ⟨w2.heap.size + 1, 1, none⟩ = some (.float .f64 0) := cell_of_block k1 1
  have HT := Lib.hid (HT.out.keep BB)
  have HW := Lib.hid (bl_pack HW.out HW.out.size BB)
  clear k0 k1 BB hszb
  refine (at_calls 13875590451928498176 13875581655835475968 _).mono ?_
  rintro _ w3 ⟨rfl, b3⟩
  have HT := Lib.hid (HT.out.keep b3)
  have HW := Lib.hid (bl_pack HW.out HW.out.size b3)
  have q0x := keep_cell b3 q0x
  have q0y := keep_cell b3 q0y
  have q1x := keep_cell b3 q1x
  have q1y := keep_cell b3 q1y
  clear b3
  go_wp2_with fail
  refine (at_calls 4652218415073722368 4652209618980700160 _).mono ?_
  rintro _ w4 ⟨rfl, b4⟩
  have HT := Lib.hid (HT.out.keep b4)
  have HW := Lib.hid (bl_pack HW.out HW.out.size b4)
  have q0x := keep_cell b4 q0x
  have q0y := keep_cell b4 q0y
  have q1x := keep_cell b4 q1x
  have q1y := keep_cell b4 q1y
  clear b4
  go_wp2_with fail
  refine (at_calls 4652209618980700160 4652200822887677952 _).mono ?_
  rintro _ w5 ⟨rfl, b5⟩
  have HT := Lib.hid (HT.out.keep b5)
  have HW := Lib.hid (bl_pack HW.out HW.out.size b5)
  have q0x := keep_cell b5 q0x
  have q0y := keep_cell b5 q0y
  have q1x := keep_cell b5 q1x
  have q1y := keep_cell b5 q1y
  clear b5
  go_wp2_with fail
  refine (HF.out _).mono ?_
  rintro _ w6 ⟨rfl, b6⟩
  have HT := Lib.hid (HT.out.keep b6)
  have HW := Lib.hid (bl_pack HW.out HW.out.size b6)
  have q0x := keep_cell b6 q0x
  have q0y := keep_cell b6 q0y
  have q1x := keep_cell b6 q1x
  have q1y := keep_cell b6 q1y
  clear b6
  go_wp2_with fail
  refine (at_calls 4602678819172646954 4602678819172646960 _).mono ?_
  rintro _ w7 ⟨rfl, b7⟩
  have HT := Lib.hid (HT.out.keep b7)
  have HW := Lib.hid (bl_pack HW.out HW.out.size b7)
  have q0x := keep_cell b7 q0x
  have q0y := keep_cell b7 q0y
  have q1x := keep_cell b7 q1x
  have q1y := keep_cell b7 q1y
  clear b7
  go_wp2_with fail
  refine (at_calls 4622945017495814144 4622945017495814144 _).mono ?_
  rintro _ w8 ⟨rfl, b8⟩
  have HT := Lib.hid (HT.out.keep b8)
  have HW := Lib.hid (bl_pack HW.out HW.out.size b8)
  have q0x := keep_cell b8 q0x
  have q0y := keep_cell b8 q0y
  have q1x := keep_cell b8 q1x
  have q1y := keep_cell b8 q1y
  clear b8
  go_wp2_with fail
  refine (at_calls 4627448617123184640 4627448617123184640 _).mono ?_
  rintro _ w9 ⟨rfl, b9⟩
  have HT := Lib.hid (HT.out.keep b9)
  have HW := Lib.hid (bl_pack HW.out HW.out.size b9)
  have q0x := keep_cell b9 q0x
  have q0y := keep_cell b9 q0y
  have q1x := keep_cell b9 q1x
  have q1y := keep_cell b9 q1y
  clear b9
  go_wp2_with fail
  refine (HS0.out _ HT.out).mono ?_
  rintro _ w10 ⟨rfl, b10⟩
  have HT := Lib.hid (HT.out.keep b10)
  have HW := Lib.hid (bl_pack HW.out HW.out.size b10)
  have q0x := keep_cell b10 q0x
  have q0y := keep_cell b10 q0y
  have q1x := keep_cell b10 q1x
  have q1y := keep_cell b10 q1y
  clear b10
  go_wp2_with fail
  have HX0 := HC0
  have HX1 := HC1
  have HC0 := Lib.hid (fun (Y : World) (h' : Kp w10 Y) => at_calls 4607182418800017408 4607182418800017408 Y)
  have HC1 := Lib.hid (fun (Y : World) (h' : Kp w10 Y) => HS1.out Y (HT.out.keep h'.out))
  have HC2 := Lib.hid (fun (Y : World) (h' : Kp w10 Y) => at_calls 4607182418800017408 13380194492917743616 Y)
  have HC3 := Lib.hid (fun (Y : World) (h' : Kp w10 Y) => HS2.out Y (HT.out.keep h'.out))
  have HC4 := Lib.hid (fun (Y : World) (h' : Kp w10 Y) => at_calls 4617315517961601024 0 Y)
  have HC5 := Lib.hid (fun (Y : World) (h' : Kp w10 Y) => HS3.out Y (HT.out.keep h'.out))
  have HC6 := Lib.hid (fun (Y : World) (h' : Kp w10 Y) => at_calls 5062045981164437504 4607182418800017408 Y)
  have HC7 := Lib.hid (fun (Y : World) (h' : Kp w10 Y) => HS4.out Y (HT.out.keep h'.out))
  have HC8 := Lib.hid (fun (Y : World) (h' : Kp w10 Y) => at_calls 4607182418800017408 0 Y)
  have HC9 := Lib.hid (fun (Y : World) (h' : Kp w10 Y) => HO0.out Y (HT.out.keep h'.out))
  have HC10 := Lib.hid (fun (Y : World) (h' : Kp w10 Y) => HO1.out Y (HT.out.keep h'.out))
  have HC11 := Lib.hid (fun (Y : World) (h' : Kp w10 Y) => at_calls 4613937818241073152 0 Y)
  have HC12 := Lib.hid (fun (Y : World) (h' : Kp w10 Y) => HO2.out Y (HT.out.keep h'.out))
  have HC13 := Lib.hid (fun (Y : World) (h' : Kp w10 Y) => at_calls 4607182418800017408 13830554455654793216 Y)
  have HC14 := Lib.hid (fun (Y : World) (h' : Kp w10 Y) => at_calls 4607182418800017408 4607182418800017408 Y)
  have HC15 := Lib.hid (fun (Y : World) (h' : Kp w10 Y) => HX0.out Y (HT.out.keep h'.out))
  have HC16 := Lib.hid (fun (Y : World) (h' : Kp w10 Y) => at_calls 4607182418800017408 0 Y)
  have HC17 := Lib.hid (fun (Y : World) (h' : Kp w10 Y) => at_calls 4607182418800017408 4607182418800017408 Y)
  have HC18 := Lib.hid (fun (Y : World) (h' : Kp w10 Y) => HX1.out Y (HT.out.keep h'.out))
  refine wp_region_held_drew (S := fun w' => w'.cell? ⟨w2.heap.size, 0, none⟩ = some (.float .f64 0) ∧ w'.cell? ⟨w2.heap.size, 1, none⟩ = some (.float .f64 0) ∧ w'.cell? ⟨w2.heap.size + 1, 0, none⟩ = some (.float .f64 4611686018427387904) ∧ w'.cell? ⟨w2.heap.size + 1, 1, none⟩ = some (.float .f64 0) ∧ Kp w10 w') (by kernel_rfl) ?_ (fun hH0 => ?_)
  · with_reducible exact ⟨keep_cell (Kp.refl w10).drew.out q0x, keep_cell (Kp.refl w10).drew.out q0y, keep_cell (Kp.refl w10).drew.out q1x, keep_cell (Kp.refl w10).drew.out q1y, (Kp.refl w10).drew⟩
  show wpAnyH _ _ oAW _ _ _ (lsN 68 0) _ _
  refine wpAnyH_take (i := 0) (oi := oAW_0) (v := ?_) rfl oAW_s oAW_f0 oAW_r0 (fun _ _ _ h => h) (Or.inl ⟨by rfl, ?_⟩) (by assumption) ?_
  rotate_left
  · (intro w hSw; (try dsimp only at hSw); delta oAW_0; go_simp; (try with_reducible rfl))
  (show wpAnyH _ _ oAW _ _ _ (lsN 68 1) { tmps := (c10 (c10 (c10 (c10 (c10 (c10 (c10 (c10 (c1 (c1 (c1 (c1 (c1 (c1 ([]))))))))))))))).toArray, defers := [] } _); delta c100 c10 c1
  refine wpAnyH_take (i := 1) (oi := oAW_1) (v := ?_) rfl oAW_s oAW_f1 oAW_r1 (fun _ _ _ h => h) (Or.inl ⟨by rfl, ?_⟩) (by assumption) ?_
  rotate_left
  · (intro w hSw; (try dsimp only at hSw); delta oAW_1; go_simp; (try with_reducible rfl))
  (show wpAnyH _ _ oAW _ _ _ (lsN 68 2) { tmps := (c10 (c10 (c10 (c10 (c10 (c10 (c10 (c10 (c1 (c1 (c1 (c1 (c1 (c1 ([]))))))))))))))).toArray, defers := [] } _); delta c100 c10 c1
  refine wpAnyH_take (i := 2) (oi := oAW_2) (v := ?_) rfl oAW_s oAW_f2 oAW_r2 (fun _ _ _ h => h) (Or.inl ⟨by rfl, ?_⟩) (by assumption) ?_
  rotate_left
  · (intro w hSw; (try dsimp only at hSw); delta oAW_2; go_simp; (try with_reducible rfl))
  (show wpAnyH _ _ oAW _ _ _ (lsN 68 3) { tmps := (c10 (c10 (c10 (c10 (c10 (c10 (c10 (c10 (c1 (c1 (c1 (c1 (c1 (c1 ([]))))))))))))))).toArray, defers := [] } _); delta c100 c10 c1
  refine wpAnyH_take (i := 3) (oi := oAW_3) (v := ?_) rfl oAW_s oAW_f3 oAW_r3 (fun _ _ _ h => h) (Or.inl ⟨by rfl, ?_⟩) (by assumption) ?_
  rotate_left
  · (intro w hSw; (try dsimp only at hSw); delta oAW_3; go_simp; (try with_reducible rfl))
  (show wpAnyH _ _ oAW _ _ _ (lsN 68 4) { tmps := (c10 (c10 (c10 (c10 (c10 (c10 (c10 (c10 (c1 (c1 (c1 (c1 (c1 (c1 ([]))))))))))))))).toArray, defers := [] } _); delta c100 c10 c1
  refine wpAnyH_take (i := 4) (oi := oAW_4) (v := ?_) rfl oAW_s oAW_f4 oAW_r4 (fun _ _ _ h => h) (Or.inl ⟨by rfl, ?_⟩) (by assumption) ?_
  rotate_left
  · (intro w hSw; (try dsimp only at hSw); delta oAW_4; go_simp; (try with_reducible rfl))
  (show wpAnyH _ _ oAW _ _ _ (lsN 68 5) { tmps := (c10 (c10 (c10 (c10 (c10 (c10 (c10 (c10 (c1 (c1 (c1 (c1 (c1 (c1 ([]))))))))))))))).toArray, defers := [] } _); delta c100 c10 c1
  refine wpAnyH_take (i := 5) (oi := oAW_5) (v := ?_) rfl oAW_s oAW_f5 oAW_r5 (fun _ _ _ h => h) (Or.inl ⟨by rfl, ?_⟩) (by assumption) ?_
  rotate_left
  · (intro w hSw; (try dsimp only at hSw); delta oAW_5; go_simp; (try with_reducible rfl))
  (show wpAnyH _ _ oAW _ _ _ (lsN 68 6) { tmps := (c10 (c10 (c10 (c10 (c10 (c10 (c10 (c10 (c1 (c1 (c1 (c1 (c1 (c1 ([]))))))))))))))).toArray, defers := [] } _); delta c100 c10 c1
  refine wpAnyH_take (i := 6) (oi := oAW_6) (v := ?_) rfl oAW_s oAW_f6 oAW_r6 (fun _ _ _ h => h) (Or.inl ⟨by rfl, ?_⟩) (by assumption) ?_
  rotate_left
  · (intro w hSw; (try dsimp only at hSw); delta oAW_6; go_simp; (try with_reducible rfl))
  (show wpAnyH _ _ oAW _ _ _ (lsN 68 7) { tmps := (c10 (c10 (c10 (c10 (c10 (c10 (c10 (c10 (c1 (c1 (c1 (c1 (c1 (c1 ([]))))))))))))))).toArray, defers := [] } _); delta c100 c10 c1
  refine wpAnyH_take (i := 7) (oi := oAW_7) (v := ?_) rfl oAW_s oAW_f7 oAW_r7 (fun _ _ _ h => h) (Or.inl ⟨by rfl, ?_⟩) (by assumption) ?_
  rotate_left
  · (intro w hSw; (try dsimp only at hSw); delta oAW_7; go_simp; (try with_reducible rfl))
  (show wpAnyH _ _ oAW _ _ _ (lsN 68 8) { tmps := (c10 (c10 (c10 (c10 (c10 (c10 (c10 (c10 (c1 (c1 (c1 (c1 (c1 (c1 ([]))))))))))))))).toArray, defers := [] } _); delta c100 c10 c1
  refine wpAnyH_ready (rs := [8]) oAW_c8 (by simp) ?_
  refine AllReadyH.cons (o := oAW_8) rfl (fun K hK => ?_) AllReadyH.nil
  delta oAW_8
  rw [if_pos (by rfl)]
  go_simp
  (go_at_call 21; ((with_reducible refine (HC0.out _ ?hq).mono ?_); (case hq => exact (Kp.refl w10).drew); rintro x wR_0 ⟨rfl, hbR_0⟩))
  go_wp2_with fail
  refine hK.out _ _ ?_ (fun hH1 => ?_)
  · with_reducible exact ⟨keep_cell ((Kp.refl w10).drew.step hbR_0).out q0x, keep_cell ((Kp.refl w10).drew.step hbR_0).out q0y, keep_cell ((Kp.refl w10).drew.step hbR_0).out q1x, keep_cell ((Kp.refl w10).drew.step hbR_0).out q1y, ((Kp.refl w10).drew.step hbR_0)⟩
  clear hK K hH0
  (show wpAnyH _ _ oAW _ _ _ (lsN 68 9) { tmps := (c10 (c10 (c10 (c10 (c10 (c10 (c10 (c10 (c1 (c1 (c1 (c1 (c1 (c1 ([]))))))))))))))).toArray, defers := [] } _); delta c100 c10 c1
  refine wpAnyH_ready (rs := [9]) oAW_c9 (by simp) ?_
  refine AllReadyH.cons (o := oAW_9) rfl (fun K hK => ?_) AllReadyH.nil
  delta oAW_9
  rw [if_pos (by rfl)]
  go_simp
  (go_at_call 11; ((with_reducible refine (HC1.out _ ?hq).mono ?_); (case hq => exact ((Kp.refl w10).drew.step hbR_0)); rintro x wR_1 ⟨rfl, hbR_1⟩))
  go_wp2_with fail
  refine hK.out _ _ ?_ (fun hH2 => ?_)
  · with_reducible exact ⟨keep_cell (((Kp.refl w10).drew.step hbR_0).step hbR_1).out q0x, keep_cell (((Kp.refl w10).drew.step hbR_0).step hbR_1).out q0y, keep_cell (((Kp.refl w10).drew.step hbR_0).step hbR_1).out q1x, keep_cell (((Kp.refl w10).drew.step hbR_0).step hbR_1).out q1y, (((Kp.refl w10).drew.step hbR_0).step hbR_1)⟩
  clear hK K hH1
  (show wpAnyH _ _ oAW _ _ _ (lsN 68 10) { tmps := (c10 (c10 (c10 (c10 (c10 (c10 (c10 (c10 (c1 (c1 (c1 (c1 (c1 (c1 ([]))))))))))))))).toArray, defers := [] } _); delta c100 c10 c1
  refine wpAnyH_take (i := 10) (oi := oAW_10) (v := ?_) rfl oAW_s oAW_f10 oAW_r10 (fun _ _ _ h => h) (Or.inl ⟨by rfl, ?_⟩) (by assumption) ?_
  rotate_left
  · (intro w hSw; (try dsimp only at hSw); delta oAW_10; go_simp; (try with_reducible rfl))
  (show wpAnyH _ _ oAW _ _ _ (lsN 68 11) { tmps := (c10 (c10 (c10 (c10 (c10 (c10 (c10 (c10 (c1 (c1 (c1 (c1 (c1 (c1 ([]))))))))))))))).toArray, defers := [] } _); delta c100 c10 c1
  refine wpAnyH_take (i := 11) (oi := oAW_11) (v := ?_) rfl oAW_s oAW_f11 oAW_r11 (fun _ _ _ h => h) (Or.inl ⟨by rfl, ?_⟩) (by assumption) ?_
  rotate_left
  · (intro w hSw; (try dsimp only at hSw); delta oAW_11; go_simp; (try with_reducible rfl))
  (show wpAnyH _ _ oAW _ _ _ (lsN 68 12) { tmps := (c10 (c10 (c10 (c10 (c10 (c10 (c10 (c10 (c1 (c1 (c1 (c1 (c1 (c1 ([]))))))))))))))).toArray, defers := [] } _); delta c100 c10 c1
  as_aux_lemma =>
  refine wpAnyH_take (i := 12) (oi := oAW_12) (v := ?_) rfl oAW_s oAW_f12 oAW_r12 (fun _ _ _ h => h) (Or.inl ⟨by rfl, ?_⟩) (by assumption) ?_
  rotate_left
  · (intro w hSw; (try dsimp only at hSw); delta oAW_12; go_simp; (try with_reducible rfl))
  (show wpAnyH _ _ oAW _ _ _ (lsN 68 13) { tmps := (c10 (c10 (c10 (c10 (c10 (c10 (c10 (c10 (c1 (c1 (c1 (c1 (c1 (c1 ([]))))))))))))))).toArray, defers := [] } _); delta c100 c10 c1
  refine wpAnyH_take (i := 13) (oi := oAW_13) (v := ?_) rfl oAW_s oAW_f13 oAW_r13 (fun _ _ _ h => h) (Or.inl ⟨by rfl, ?_⟩) (by assumption) ?_
  rotate_left
  · (intro w hSw; (try dsimp only at hSw); delta oAW_13; go_simp; (try with_reducible rfl))
  (show wpAnyH _ _ oAW _ _ _ (lsN 68 14) { tmps := (c10 (c10 (c10 (c10 (c10 (c10 (c10 (c10 (c1 (c1 (c1 (c1 (c1 (c1 ([]))))))))))))))).toArray, defers := [] } _); delta c100 c10 c1
  refine wpAnyH_take (i := 14) (oi := oAW_14) (v := ?_) rfl oAW_s oAW_f14 oAW_r14 (fun _ _ _ h => h) (Or.inl ⟨by rfl, ?_⟩) (by assumption) ?_
  rotate_left
  · (intro w hSw; (try dsimp only at hSw); delta oAW_14; go_simp; (try with_reducible rfl))
  (show wpAnyH _ _ oAW _ _ _ (lsN 68 15) { tmps := (c10 (c10 (c10 (c10 (c10 (c10 (c10 (c10 (c1 (c1 (c1 (c1 (c1 (c1 ([]))))))))))))))).toArray, defers := [] } _); delta c100 c10 c1
  refine wpAnyH_ready (rs := [15]) oAW_c15 (by simp) ?_
  refine AllReadyH.cons (o := oAW_15) rfl (fun K hK => ?_) AllReadyH.nil
  delta oAW_15
  rw [if_pos (by rfl)]
  go_simp
  (go_at_call 21; ((with_reducible refine (HC2.out _ ?hq).mono ?_); (case hq => exact (((Kp.refl w10).drew.step hbR_0).step hbR_1)); rintro x wR_2 ⟨rfl, hbR_2⟩))
  go_wp2_with fail
  refine hK.out _ _ ?_ (fun hH3 => ?_)
  · with_reducible exact ⟨keep_cell ((((Kp.refl w10).drew.step hbR_0).step hbR_1).step hbR_2).out q0x, keep_cell ((((Kp.refl w10).drew.step hbR_0).step hbR_1).step hbR_2).out q0y, keep_cell ((((Kp.refl w10).drew.step hbR_0).step hbR_1).step hbR_2).out q1x, keep_cell ((((Kp.refl w10).drew.step hbR_0).step hbR_1).step hbR_2).out q1y, ((((Kp.refl w10).drew.step hbR_0).step hbR_1).step hbR_2)⟩
  clear hK K hH2
  (show wpAnyH _ _ oAW _ _ _ (lsN 68 16) { tmps := (c10 (c10 (c10 (c10 (c10 (c10 (c10 (c10 (c1 (c1 (c1 (c1 (c1 (c1 ([]))))))))))))))).toArray, defers := [] } _); delta c100 c10 c1
  refine wpAnyH_ready (rs := [16]) oAW_c16 (by simp) ?_
  refine AllReadyH.cons (o := oAW_16) rfl (fun K hK => ?_) AllReadyH.nil
  delta oAW_16
  rw [if_pos (by rfl)]
  go_simp
  (go_at_call 11; ((with_reducible refine (HC3.out _ ?hq).mono ?_); (case hq => exact ((((Kp.refl w10).drew.step hbR_0).step hbR_1).step hbR_2)); rintro x wR_3 ⟨rfl, hbR_3⟩))
  go_wp2_with fail
  refine hK.out _ _ ?_ (fun hH4 => ?_)
  · with_reducible exact ⟨keep_cell (((((Kp.refl w10).drew.step hbR_0).step hbR_1).step hbR_2).step hbR_3).out q0x, keep_cell (((((Kp.refl w10).drew.step hbR_0).step hbR_1).step hbR_2).step hbR_3).out q0y, keep_cell (((((Kp.refl w10).drew.step hbR_0).step hbR_1).step hbR_2).step hbR_3).out q1x, keep_cell (((((Kp.refl w10).drew.step hbR_0).step hbR_1).step hbR_2).step hbR_3).out q1y, (((((Kp.refl w10).drew.step hbR_0).step hbR_1).step hbR_2).step hbR_3)⟩
  clear hK K hH3
  (show wpAnyH _ _ oAW _ _ _ (lsN 68 17) { tmps := (c10 (c10 (c10 (c10 (c10 (c10 (c10 (c10 (c1 (c1 (c1 (c1 (c1 (c1 ([]))))))))))))))).toArray, defers := [] } _); delta c100 c10 c1
  refine wpAnyH_take (i := 17) (oi := oAW_17) (v := ?_) rfl oAW_s oAW_f17 oAW_r17 (fun _ _ _ h => h) (Or.inl ⟨by rfl, ?_⟩) (by assumption) ?_
  rotate_left
  · (intro w hSw; (try dsimp only at hSw); delta oAW_17; go_simp; (try with_reducible rfl))
  (show wpAnyH _ _ oAW _ _ _ (lsN 68 18) { tmps := (c10 (c10 (c10 (c10 (c10 (c10 (c10 (c10 (c1 (c1 (c1 (c1 (c1 (c1 ([]))))))))))))))).toArray, defers := [] } _); delta c100 c10 c1
  refine wpAnyH_take (i := 18) (oi := oAW_18) (v := ?_) rfl oAW_s oAW_f18 oAW_r18 (fun _ _ _ h => h) (Or.inl ⟨by rfl, ?_⟩) (by assumption) ?_
  rotate_left
  · (intro w hSw; (try dsimp only at hSw); delta oAW_18; go_simp; (try with_reducible rfl))
  (show wpAnyH _ _ oAW _ _ _ (lsN 68 19) { tmps := (c10 (c10 (c10 (c10 (c10 (c10 (c10 (c10 (c1 (c1 (c1 (c1 (c1 (c1 ([]))))))))))))))).toArray, defers := [] } _); delta c100 c10 c1
  refine wpAnyH_take (i := 19) (oi := oAW_19) (v := ?_) rfl oAW_s oAW_f19 oAW_r19 (fun _ _ _ h => h) (Or.inl ⟨by rfl, ?_⟩) (by assumption) ?_
  rotate_left
  · (intro w hSw; (try dsimp only at hSw); delta oAW_19; go_simp; (try with_reducible rfl))
  (show wpAnyH _ _ oAW _ _ _ (lsN 68 20) { tmps := (c10 (c10 (c10 (c10 (c10 (c10 (c10 (c10 (c1 (c1 (c1 (c1 (c1 (c1 ([]))))))))))))))).toArray, defers := [] } _); delta c100 c10 c1
  refine wpAnyH_take (i := 20) (oi := oAW_20) (v := ?_) rfl oAW_s oAW_f20 oAW_r20 (fun _ _ _ h => h) (Or.inl ⟨by rfl, ?_⟩) (by assumption) ?_
  rotate_left
  · (intro w hSw; (try dsimp only at hSw); delta oAW_20; go_simp; (try with_reducible rfl))
  (show wpAnyH _ _ oAW _ _ _ (lsN 68 21) { tmps := (c10 (c10 (c10 (c10 (c10 (c10 (c10 (c10 (c1 (c1 (c1 (c1 (c1 (c1 ([]))))))))))))))).toArray, defers := [] } _); delta c100 c10 c1
  refine wpAnyH_take (i := 21) (oi := oAW_21) (v := ?_) rfl oAW_s oAW_f21 oAW_r21 (fun _ _ _ h => h) (Or.inl ⟨by rfl, ?_⟩) (by assumption) ?_
  rotate_left
  · (intro w hSw; (try dsimp only at hSw); delta oAW_21; go_simp; (try with_reducible rfl))
  (show wpAnyH _ _ oAW _ _ _ (lsN 68 22) { tmps := (c10 (c10 (c10 (c10 (c10 (c10 (c10 (c10 (c1 (c1 (c1 (c1 (c1 (c1 ([]))))))))))))))).toArray, defers := [] } _); delta c100 c10 c1
  refine wpAnyH_ready (rs := [22]) oAW_c22 (by simp) ?_
  refine AllReadyH.cons (o := oAW_22) rfl (fun K hK => ?_) AllReadyH.nil
  delta oAW_22
  rw [if_pos (by rfl)]
  go_simp
  (go_at_call 21; ((with_reducible refine (HC4.out _ ?hq).mono ?_); (case hq => exact (((((Kp.refl w10).drew.step hbR_0).step hbR_1).step hbR_2).step hbR_3)); rintro x wR_4 ⟨rfl, hbR_4⟩))
  go_wp2_with fail
  refine hK.out _ _ ?_ (fun hH5 => ?_)
  · with_reducible exact ⟨keep_cell ((((((Kp.refl w10).drew.step hbR_0).step hbR_1).step hbR_2).step hbR_3).step hbR_4).out q0x, keep_cell ((((((Kp.refl w10).drew.step hbR_0).step hbR_1).step hbR_2).step hbR_3).step hbR_4).out q0y, keep_cell ((((((Kp.refl w10).drew.step hbR_0).step hbR_1).step hbR_2).step hbR_3).step hbR_4).out q1x, keep_cell ((((((Kp.refl w10).drew.step hbR_0).step hbR_1).step hbR_2).step hbR_3).step hbR_4).out q1y, ((((((Kp.refl w10).drew.step hbR_0).step hbR_1).step hbR_2).step hbR_3).step hbR_4)⟩
  clear hK K hH4
  (show wpAnyH _ _ oAW _ _ _ (lsN 68 23) { tmps := (c10 (c10 (c10 (c10 (c10 (c10 (c10 (c10 (c1 (c1 (c1 (c1 (c1 (c1 ([]))))))))))))))).toArray, defers := [] } _); delta c100 c10 c1
  refine wpAnyH_ready (rs := [23]) oAW_c23 (by simp) ?_
  refine AllReadyH.cons (o := oAW_23) rfl (fun K hK => ?_) AllReadyH.nil
  delta oAW_23
  rw [if_pos (by rfl)]
  go_simp
  (go_at_call 11; ((with_reducible refine (HC5.out _ ?hq).mono ?_); (case hq => exact ((((((Kp.refl w10).drew.step hbR_0).step hbR_1).step hbR_2).step hbR_3).step hbR_4)); rintro x wR_5 ⟨rfl, hbR_5⟩))
  go_wp2_with fail
  refine hK.out _ _ ?_ (fun hH6 => ?_)
  · with_reducible exact ⟨keep_cell (((((((Kp.refl w10).drew.step hbR_0).step hbR_1).step hbR_2).step hbR_3).step hbR_4).step hbR_5).out q0x, keep_cell (((((((Kp.refl w10).drew.step hbR_0).step hbR_1).step hbR_2).step hbR_3).step hbR_4).step hbR_5).out q0y, keep_cell (((((((Kp.refl w10).drew.step hbR_0).step hbR_1).step hbR_2).step hbR_3).step hbR_4).step hbR_5).out q1x, keep_cell (((((((Kp.refl w10).drew.step hbR_0).step hbR_1).step hbR_2).step hbR_3).step hbR_4).step hbR_5).out q1y, (((((((Kp.refl w10).drew.step hbR_0).step hbR_1).step hbR_2).step hbR_3).step hbR_4).step hbR_5)⟩
  clear hK K hH5
  (show wpAnyH _ _ oAW _ _ _ (lsN 68 24) { tmps := (c10 (c10 (c10 (c10 (c10 (c10 (c10 (c10 (c1 (c1 (c1 (c1 (c1 (c1 ([]))))))))))))))).toArray, defers := [] } _); delta c100 c10 c1
  as_aux_lemma =>
  refine wpAnyH_take (i := 24) (oi := oAW_24) (v := ?_) rfl oAW_s oAW_f24 oAW_r24 (fun _ _ _ h => h) (Or.inl ⟨by rfl, ?_⟩) (by assumption) ?_
  rotate_left
  · (intro w hSw; (try dsimp only at hSw); delta oAW_24; go_simp; (try with_reducible rfl))
  (show wpAnyH _ _ oAW _ _ _ (lsN 68 25) { tmps := (c10 (c10 (c10 (c10 (c10 (c10 (c10 (c10 (c1 (c1 (c1 (c1 (c1 (c1 ([]))))))))))))))).toArray, defers := [] } _); delta c100 c10 c1
  refine wpAnyH_take (i := 25) (oi := oAW_25) (v := ?_) rfl oAW_s oAW_f25 oAW_r25 (fun _ _ _ h => h) (Or.inl ⟨by rfl, ?_⟩) (by assumption) ?_
  rotate_left
  · (intro w hSw; (try dsimp only at hSw); delta oAW_25; go_simp; (try with_reducible rfl))
  (show wpAnyH _ _ oAW _ _ _ (lsN 68 26) { tmps := (c10 (c10 (c10 (c10 (c10 (c10 (c10 (c10 (c1 (c1 (c1 (c1 (c1 (c1 ([]))))))))))))))).toArray, defers := [] } _); delta c100 c10 c1
  refine wpAnyH_take (i := 26) (oi := oAW_26) (v := ?_) rfl oAW_s oAW_f26 oAW_r26 (fun _ _ _ h => h) (Or.inl ⟨by rfl, ?_⟩) (by assumption) ?_
  rotate_left
  · (intro w hSw; (try dsimp only at hSw); delta oAW_26; go_simp; (try with_reducible rfl))
  (show wpAnyH _ _ oAW _ _ _ (lsN 68 27) { tmps := (c10 (c10 (c10 (c10 (c10 (c10 (c10 (c10 (c1 (c1 (c1 (c1 (c1 (c1 ([]))))))))))))))).toArray, defers := [] } _); delta c100 c10 c1
  refine wpAnyH_take (i := 27) (oi := oAW_27) (v := ?_) rfl oAW_s oAW_f27 oAW_r27 (fun _ _ _ h => h) (Or.inl ⟨by rfl, ?_⟩) (by assumption) ?_
  rotate_left
  · (intro w hSw; (try dsimp only at hSw); delta oAW_27; go_simp; (try with_reducible rfl))
  (show wpAnyH _ _ oAW _ _ _ (lsN 68 28) { tmps := (c10 (c10 (c10 (c10 (c10 (c10 (c10 (c10 (c1 (c1 (c1 (c1 (c1 (c1 ([]))))))))))))))).toArray, defers := [] } _); delta c100 c10 c1
  refine wpAnyH_take (i := 28) (oi := oAW_28) (v := ?_) rfl oAW_s oAW_f28 oAW_r28 (fun _ _ _ h => h) (Or.inl ⟨by rfl, ?_⟩) (by assumption) ?_
  rotate_left
  · (intro w hSw; (try dsimp only at hSw); delta oAW_28; go_simp; (try with_reducible rfl))
  (show wpAnyH _ _ oAW _ _ _ (lsN 68 29) { tmps := (c10 (c10 (c10 (c10 (c10 (c10 (c10 (c10 (c1 (c1 (c1 (c1 (c1 (c1 ([]))))))))))))))).toArray, defers := [] } _); delta c100 c10 c1
  refine wpAnyH_ready (rs := [29]) oAW_c29 (by simp) ?_
  refine AllReadyH.cons (o := oAW_29) rfl (fun K hK => ?_) AllReadyH.nil
  delta oAW_29
  rw [if_pos (by rfl)]
  go_simp
  (go_at_call 21; ((with_reducible refine (HC6.out _ ?hq).mono ?_); (case hq => exact (((((((Kp.refl w10).drew.step hbR_0).step hbR_1).step hbR_2).step hbR_3).step hbR_4).step hbR_5)); rintro x wR_6 ⟨rfl, hbR_6⟩))
  go_wp2_with fail
  refine hK.out _ _ ?_ (fun hH7 => ?_)
  · with_reducible exact ⟨keep_cell ((((((((Kp.refl w10).drew.step hbR_0).step hbR_1).step hbR_2).step hbR_3).step hbR_4).step hbR_5).step hbR_6).out q0x, keep_cell ((((((((Kp.refl w10).drew.step hbR_0).step hbR_1).step hbR_2).step hbR_3).step hbR_4).step hbR_5).step hbR_6).out q0y, keep_cell ((((((((Kp.refl w10).drew.step hbR_0).step hbR_1).step hbR_2).step hbR_3).step hbR_4).step hbR_5).step hbR_6).out q1x, keep_cell ((((((((Kp.refl w10).drew.step hbR_0).step hbR_1).step hbR_2).step hbR_3).step hbR_4).step hbR_5).step hbR_6).out q1y, ((((((((Kp.refl w10).drew.step hbR_0).step hbR_1).step hbR_2).step hbR_3).step hbR_4).step hbR_5).step hbR_6)⟩
  clear hK K hH6
  (show wpAnyH _ _ oAW _ _ _ (lsN 68 30) { tmps := (c10 (c10 (c10 (c10 (c10 (c10 (c10 (c10 (c1 (c1 (c1 (c1 (c1 (c1 ([]))))))))))))))).toArray, defers := [] } _); delta c100 c10 c1
  refine wpAnyH_ready (rs := [30]) oAW_c30 (by simp) ?_
  refine AllReadyH.cons (o := oAW_30) rfl (fun K hK => ?_) AllReadyH.nil
  delta oAW_30
  rw [if_pos (by rfl)]
  go_simp
  (go_at_call 11; ((with_reducible refine (HC7.out _ ?hq).mono ?_); (case hq => exact ((((((((Kp.refl w10).drew.step hbR_0).step hbR_1).step hbR_2).step hbR_3).step hbR_4).step hbR_5).step hbR_6)); rintro x wR_7 ⟨rfl, hbR_7⟩))
  go_wp2_with fail
  refine hK.out _ _ ?_ (fun hH8 => ?_)
  · with_reducible exact ⟨keep_cell (((((((((Kp.refl w10).drew.step hbR_0).step hbR_1).step hbR_2).step hbR_3).step hbR_4).step hbR_5).step hbR_6).step hbR_7).out q0x, keep_cell (((((((((Kp.refl w10).drew.step hbR_0).step hbR_1).step hbR_2).step hbR_3).step hbR_4).step hbR_5).step hbR_6).step hbR_7).out q0y, keep_cell (((((((((Kp.refl w10).drew.step hbR_0).step hbR_1).step hbR_2).step hbR_3).step hbR_4).step hbR_5).step hbR_6).step hbR_7).out q1x, keep_cell (((((((((Kp.refl w10).drew.step hbR_0).step hbR_1).step hbR_2).step hbR_3).step hbR_4).step hbR_5).step hbR_6).step hbR_7).out q1y, (((((((((Kp.refl w10).drew.step hbR_0).step hbR_1).step hbR_2).step hbR_3).step hbR_4).step hbR_5).step hbR_6).step hbR_7)⟩
  clear hK K hH7
  (show wpAnyH _ _ oAW _ _ _ (lsN 68 31) { tmps := (c10 (c10 (c10 (c10 (c10 (c10 (c10 (c10 (c1 (c1 (c1 (c1 (c1 (c1 ([]))))))))))))))).toArray, defers := [] } _); delta c100 c10 c1
  refine wpAnyH_take (i := 31) (oi := oAW_31) (v := ?_) rfl oAW_s oAW_f31 oAW_r31 (fun _ _ _ h => h) (Or.inl ⟨by rfl, ?_⟩) (by assumption) ?_
  rotate_left
  · (intro w hSw; (try dsimp only at hSw); delta oAW_31; go_simp; (try with_reducible rfl))
  (show wpAnyH _ _ oAW _ _ _ (lsN 68 32) { tmps := (c10 (c10 (c10 (c10 (c10 (c10 (c10 (c10 (c1 (c1 (c1 (c1 (c1 (c1 ([]))))))))))))))).toArray, defers := [] } _); delta c100 c10 c1
  refine wpAnyH_take (i := 32) (oi := oAW_32) (v := ?_) rfl oAW_s oAW_f32 oAW_r32 (fun _ _ _ h => h) (Or.inl ⟨by rfl, ?_⟩) (by assumption) ?_
  rotate_left
  · (intro w hSw; (try dsimp only at hSw); delta oAW_32; go_simp; (try with_reducible rfl))
  (show wpAnyH _ _ oAW _ _ _ (lsN 68 33) { tmps := (c10 (c10 (c10 (c10 (c10 (c10 (c10 (c10 (c1 (c1 (c1 (c1 (c1 (c1 ([]))))))))))))))).toArray, defers := [] } _); delta c100 c10 c1
  refine wpAnyH_take (i := 33) (oi := oAW_33) (v := ?_) rfl oAW_s oAW_f33 oAW_r33 (fun _ _ _ h => h) (Or.inl ⟨by rfl, ?_⟩) (by assumption) ?_
  rotate_left
  · (intro w hSw; (try dsimp only at hSw); delta oAW_33; go_simp; (try with_reducible rfl))
  (show wpAnyH _ _ oAW _ _ _ (lsN 68 34) { tmps := (c10 (c10 (c10 (c10 (c10 (c10 (c10 (c10 (c1 (c1 (c1 (c1 (c1 (c1 ([]))))))))))))))).toArray, defers := [] } _); delta c100 c10 c1
  refine wpAnyH_take (i := 34) (oi := oAW_34) (v := ?_) rfl oAW_s oAW_f34 oAW_r34 (fun _ _ _ h => h) (Or.inl ⟨by rfl, ?_⟩) (by assumption) ?_
  rotate_left
  · (intro w hSw; (try dsimp only at hSw); delta oAW_34; go_simp; (try with_reducible rfl))
  (show wpAnyH _ _ oAW _ _ _ (lsN 68 35) { tmps := (c10 (c10 (c10 (c10 (c10 (c10 (c10 (c10 (c1 (c1 (c1 (c1 (c1 (c1 ([]))))))))))))))).toArray, defers := [] } _); delta c100 c10 c1
  refine wpAnyH_take (i := 35) (oi := oAW_35) (v := ?_) rfl oAW_s oAW_f35 oAW_r35 (fun _ _ _ h => h) (Or.inl ⟨by rfl, ?_⟩) (by assumption) ?_
  rotate_left
  · (intro w hSw; (try dsimp only at hSw); delta oAW_35; go_simp; (try with_reducible rfl))
  (show wpAnyH _ _ oAW _ _ _ (lsN 68 36) { tmps := (c10 (c10 (c10 (c10 (c10 (c10 (c10 (c10 (c1 (c1 (c1 (c1 (c1 (c1 ([]))))))))))))))).toArray, defers := [] } _); delta c100 c10 c1
  as_aux_lemma =>
  refine wpAnyH_ready (rs := [36]) oAW_c36 (by simp) ?_
  refine AllReadyH.cons (o := oAW_36) rfl (fun K hK => ?_) AllReadyH.nil
  delta oAW_36
  rw [if_pos (by rfl)]
  go_simp
  (go_at_call 21; ((with_reducible refine (HC8.out _ ?hq).mono ?_); (case hq => exact (((((((((Kp.refl w10).drew.step hbR_0).step hbR_1).step hbR_2).step hbR_3).step hbR_4).step hbR_5).step hbR_6).step hbR_7)); rintro x wR_8 ⟨rfl, hbR_8⟩))
  go_wp2_with fail
  refine hK.out _ _ ?_ (fun hH9 => ?_)
  · with_reducible exact ⟨keep_cell ((((((((((Kp.refl w10).drew.step hbR_0).step hbR_1).step hbR_2).step hbR_3).step hbR_4).step hbR_5).step hbR_6).step hbR_7).step hbR_8).out q0x, keep_cell ((((((((((Kp.refl w10).drew.step hbR_0).step hbR_1).step hbR_2).step hbR_3).step hbR_4).step hbR_5).step hbR_6).step hbR_7).step hbR_8).out q0y, keep_cell ((((((((((Kp.refl w10).drew.step hbR_0).step hbR_1).step hbR_2).step hbR_3).step hbR_4).step hbR_5).step hbR_6).step hbR_7).step hbR_8).out q1x, keep_cell ((((((((((Kp.refl w10).drew.step hbR_0).step hbR_1).step hbR_2).step hbR_3).step hbR_4).step hbR_5).step hbR_6).step hbR_7).step hbR_8).out q1y, ((((((((((Kp.refl w10).drew.step hbR_0).step hbR_1).step hbR_2).step hbR_3).step hbR_4).step hbR_5).step hbR_6).step hbR_7).step hbR_8)⟩
  clear hK K hH8
  (show wpAnyH _ _ oAW _ _ _ (lsN 68 37) { tmps := (c10 (c10 (c10 (c10 (c10 (c10 (c10 (c10 (c1 (c1 (c1 (c1 (c1 (c1 ([]))))))))))))))).toArray, defers := [] } _); delta c100 c10 c1
  refine wpAnyH_ready (rs := [37]) oAW_c37 (by simp) ?_
  refine AllReadyH.cons (o := oAW_37) rfl (fun K hK => ?_) AllReadyH.nil
  delta oAW_37
  rw [if_pos (by rfl)]
  go_simp
  (go_at_call 15; ((with_reducible refine (HC9.out _ ?hq).mono ?_); (case hq => exact ((((((((((Kp.refl w10).drew.step hbR_0).step hbR_1).step hbR_2).step hbR_3).step hbR_4).step hbR_5).step hbR_6).step hbR_7).step hbR_8)); rintro x wR_9 ⟨rfl, hbR_9⟩))
  go_wp2_with fail
  refine hK.out _ _ ?_ (fun hH10 => ?_)
  · with_reducible exact ⟨keep_cell (((((((((((Kp.refl w10).drew.step hbR_0).step hbR_1).step hbR_2).step hbR_3).step hbR_4).step hbR_5).step hbR_6).step hbR_7).step hbR_8).step hbR_9).out q0x, keep_cell (((((((((((Kp.refl w10).drew.step hbR_0).step hbR_1).step hbR_2).step hbR_3).step hbR_4).step hbR_5).step hbR_6).step hbR_7).step hbR_8).step hbR_9).out q0y, keep_cell (((((((((((Kp.refl w10).drew.step hbR_0).step hbR_1).step hbR_2).step hbR_3).step hbR_4).step hbR_5).step hbR_6).step hbR_7).step hbR_8).step hbR_9).out q1x, keep_cell (((((((((((Kp.refl w10).drew.step hbR_0).step hbR_1).step hbR_2).step hbR_3).step hbR_4).step hbR_5).step hbR_6).step hbR_7).step hbR_8).step hbR_9).out q1y, (((((((((((Kp.refl w10).drew.step hbR_0).step hbR_1).step hbR_2).step hbR_3).step hbR_4).step hbR_5).step hbR_6).step hbR_7).step hbR_8).step hbR_9)⟩
  clear hK K hH9
  (show wpAnyH _ _ oAW _ _ _ (lsN 68 38) { tmps := (c10 (c10 (c10 (c10 (c10 (c10 (c10 (c10 (c1 (c1 (c1 (c1 (c1 (c1 ([]))))))))))))))).toArray, defers := [] } _); delta c100 c10 c1
  refine wpAnyH_take (i := 38) (oi := oAW_38) (v := ?_) rfl oAW_s oAW_f38 oAW_r38 (fun _ _ _ h => h) (Or.inl ⟨by rfl, ?_⟩) (by assumption) ?_
  rotate_left
  · (intro w hSw; (try dsimp only at hSw); delta oAW_38; go_simp; (try with_reducible rfl))
  (show wpAnyH _ _ oAW _ _ _ (lsN 68 39) { tmps := (c10 (c10 (c10 (c10 (c10 (c10 (c10 (c10 (c1 (c1 (c1 (c1 (c1 (c1 ([]))))))))))))))).toArray, defers := [] } _); delta c100 c10 c1
  refine wpAnyH_take (i := 39) (oi := oAW_39) (v := ?_) rfl oAW_s oAW_f39 oAW_r39 (fun _ _ _ h => h) (Or.inl ⟨by rfl, ?_⟩) (by assumption) ?_
  rotate_left
  · (intro w hSw; (try dsimp only at hSw); delta oAW_39; go_simp; (try with_reducible rfl))
  (show wpAnyH _ _ oAW _ _ _ (lsN 68 40) { tmps := (c10 (c10 (c10 (c10 (c10 (c10 (c10 (c10 (c1 (c1 (c1 (c1 (c1 (c1 ([]))))))))))))))).toArray, defers := [] } _); delta c100 c10 c1
  refine wpAnyH_take (i := 40) (oi := oAW_40) (v := ?_) rfl oAW_s oAW_f40 oAW_r40 (fun _ _ _ h => h) (Or.inl ⟨by rfl, ?_⟩) (by assumption) ?_
  rotate_left
  · (intro w hSw; (try dsimp only at hSw); delta oAW_40; go_simp; (try with_reducible rfl))
  (show wpAnyH _ _ oAW _ _ _ (lsN 68 41) { tmps := (c10 (c10 (c10 (c10 (c10 (c10 (c10 (c10 (c1 (c1 (c1 (c1 (c1 (c1 ([]))))))))))))))).toArray, defers := [] } _); delta c100 c10 c1
  refine wpAnyH_take (i := 41) (oi := oAW_41) (v := ?_) rfl oAW_s oAW_f41 oAW_r41 (fun _ _ _ h => h) (Or.inl ⟨by rfl, ?_⟩) (by assumption) ?_
  rotate_left
  · (intro w hSw; (try dsimp only at hSw); delta oAW_41; go_simp; (try with_reducible rfl))
  (show wpAnyH _ _ oAW _ _ _ (lsN 68 42) { tmps := (c10 (c10 (c10 (c10 (c10 (c10 (c10 (c10 (c1 (c1 (c1 (c1 (c1 (c1 ([]))))))))))))))).toArray, defers := [] } _); delta c100 c10 c1
  refine wpAnyH_take (i := 42) (oi := oAW_42) (v := ?_) rfl oAW_s oAW_f42 oAW_r42 (fun _ _ _ h => h) (Or.inl ⟨by rfl, ?_⟩) (by assumption) ?_
  rotate_left
  · (intro w hSw; (try dsimp only at hSw); delta oAW_42; go_simp; (try with_reducible rfl))
  (show wpAnyH _ _ oAW _ _ _ (lsN 68 43) { tmps := (c10 (c10 (c10 (c10 (c10 (c10 (c10 (c10 (c1 (c1 (c1 (c1 (c1 (c1 ([]))))))))))))))).toArray, defers := [] } _); delta c100 c10 c1
  refine wpAnyH_ready (rs := [43]) oAW_c43 (by simp) ?_
  refine AllReadyH.cons (o := oAW_43) rfl (fun K hK => ?_) AllReadyH.nil
  delta oAW_43
  rw [if_pos (by rfl)]
  go_simp
  (go_at_call 15; ((with_reducible refine (HC10.out _ ?hq).mono ?_); (case hq => exact (((((((((((Kp.refl w10).drew.step hbR_0).step hbR_1).step hbR_2).step hbR_3).step hbR_4).step hbR_5).step hbR_6).step hbR_7).step hbR_8).step hbR_9)); rintro x wR_10 ⟨rfl, hbR_10⟩))
  go_wp2_with fail
  refine hK.out _ _ ?_ (fun hH11 => ?_)
  · with_reducible exact ⟨keep_cell ((((((((((((Kp.refl w10).drew.step hbR_0).step hbR_1).step hbR_2).step hbR_3).step hbR_4).step hbR_5).step hbR_6).step hbR_7).step hbR_8).step hbR_9).step hbR_10).out q0x, keep_cell ((((((((((((Kp.refl w10).drew.step hbR_0).step hbR_1).step hbR_2).step hbR_3).step hbR_4).step hbR_5).step hbR_6).step hbR_7).step hbR_8).step hbR_9).step hbR_10).out q0y, keep_cell ((((((((((((Kp.refl w10).drew.step hbR_0).step hbR_1).step hbR_2).step hbR_3).step hbR_4).step hbR_5).step hbR_6).step hbR_7).step hbR_8).step hbR_9).step hbR_10).out q1x, keep_cell ((((((((((((Kp.refl w10).drew.step hbR_0).step hbR_1).step hbR_2).step hbR_3).step hbR_4).step hbR_5).step hbR_6).step hbR_7).step hbR_8).step hbR_9).step hbR_10).out q1y, ((((((((((((Kp.refl w10).drew.step hbR_0).step hbR_1).step hbR_2).step hbR_3).step hbR_4).step hbR_5).step hbR_6).step hbR_7).step hbR_8).step hbR_9).step hbR_10)⟩
  clear hK K hH10
  (show wpAnyH _ _ oAW _ _ _ (lsN 68 44) { tmps := (c10 (c10 (c10 (c10 (c10 (c10 (c10 (c10 (c1 (c1 (c1 (c1 (c1 (c1 ([]))))))))))))))).toArray, defers := [] } _); delta c100 c10 c1
  refine wpAnyH_take (i := 44) (oi := oAW_44) (v := ?_) rfl oAW_s oAW_f44 oAW_r44 (fun _ _ _ h => h) (Or.inl ⟨by rfl, ?_⟩) (by assumption) ?_
  rotate_left
  · (intro w hSw; (try dsimp only at hSw); delta oAW_44; go_simp; (try with_reducible rfl))
  (show wpAnyH _ _ oAW _ _ _ (lsN 68 45) { tmps := (c10 (c10 (c10 (c10 (c10 (c10 (c10 (c10 (c1 (c1 (c1 (c1 (c1 (c1 ([]))))))))))))))).toArray, defers := [] } _); delta c100 c10 c1
  refine wpAnyH_take (i := 45) (oi := oAW_45) (v := ?_) rfl oAW_s oAW_f45 oAW_r45 (fun _ _ _ h => h) (Or.inl ⟨by rfl, ?_⟩) (by assumption) ?_
  rotate_left
  · (intro w hSw; (try dsimp only at hSw); delta oAW_45; go_simp; (try with_reducible rfl))
  (show wpAnyH _ _ oAW _ _ _ (lsN 68 46) { tmps := (c10 (c10 (c10 (c10 (c10 (c10 (c10 (c10 (c1 (c1 (c1 (c1 (c1 (c1 ([]))))))))))))))).toArray, defers := [] } _); delta c100 c10 c1
  refine wpAnyH_take (i := 46) (oi := oAW_46) (v := ?_) rfl oAW_s oAW_f46 oAW_r46 (fun _ _ _ h => h) (Or.inl ⟨by rfl, ?_⟩) (by assumption) ?_
  rotate_left
  · (intro w hSw; (try dsimp only at hSw); delta oAW_46; go_simp; (try with_reducible rfl))
  (show wpAnyH _ _ oAW _ _ _ (lsN 68 47) { tmps := (c10 (c10 (c10 (c10 (c10 (c10 (c10 (c10 (c1 (c1 (c1 (c1 (c1 (c1 ([]))))))))))))))).toArray, defers := [] } _); delta c100 c10 c1
  refine wpAnyH_take (i := 47) (oi := oAW_47) (v := ?_) rfl oAW_s oAW_f47 oAW_r47 (fun _ _ _ h => h) (Or.inl ⟨by rfl, ?_⟩) (by assumption) ?_
  rotate_left
  · (intro w hSw; (try dsimp only at hSw); delta oAW_47; go_simp; (try with_reducible rfl))
  (show wpAnyH _ _ oAW _ _ _ (lsN 68 48) { tmps := (c10 (c10 (c10 (c10 (c10 (c10 (c10 (c10 (c1 (c1 (c1 (c1 (c1 (c1 ([]))))))))))))))).toArray, defers := [] } _); delta c100 c10 c1
  as_aux_lemma =>
  refine wpAnyH_ready (rs := [48]) oAW_c48 (by simp) ?_
  refine AllReadyH.cons (o := oAW_48) rfl (fun K hK => ?_) AllReadyH.nil
  delta oAW_48
  rw [if_pos (by rfl)]
  go_simp
  (go_at_call 21; ((with_reducible refine (HC11.out _ ?hq).mono ?_); (case hq => exact ((((((((((((Kp.refl w10).drew.step hbR_0).step hbR_1).step hbR_2).step hbR_3).step hbR_4).step hbR_5).step hbR_6).step hbR_7).step hbR_8).step hbR_9).step hbR_10)); rintro x wR_11 ⟨rfl, hbR_11⟩))
  go_wp2_with fail
  refine hK.out _ _ ?_ (fun hH12 => ?_)
  · with_reducible exact ⟨keep_cell (((((((((((((Kp.refl w10).drew.step hbR_0).step hbR_1).step hbR_2).step hbR_3).step hbR_4).step hbR_5).step hbR_6).step hbR_7).step hbR_8).step hbR_9).step hbR_10).step hbR_11).out q0x, keep_cell (((((((((((((Kp.refl w10).drew.step hbR_0).step hbR_1).step hbR_2).step hbR_3).step hbR_4).step hbR_5).step hbR_6).step hbR_7).step hbR_8).step hbR_9).step hbR_10).step hbR_11).out q0y, keep_cell (((((((((((((Kp.refl w10).drew.step hbR_0).step hbR_1).step hbR_2).step hbR_3).step hbR_4).step hbR_5).step hbR_6).step hbR_7).step hbR_8).step hbR_9).step hbR_10).step hbR_11).out q1x, keep_cell (((((((((((((Kp.refl w10).drew.step hbR_0).step hbR_1).step hbR_2).step hbR_3).step hbR_4).step hbR_5).step hbR_6).step hbR_7).step hbR_8).step hbR_9).step hbR_10).step hbR_11).out q1y, (((((((((((((Kp.refl w10).drew.step hbR_0).step hbR_1).step hbR_2).step hbR_3).step hbR_4).step hbR_5).step hbR_6).step hbR_7).step hbR_8).step hbR_9).step hbR_10).step hbR_11)⟩
  clear hK K hH11
  (show wpAnyH _ _ oAW _ _ _ (lsN 68 49) { tmps := (c10 (c10 (c10 (c10 (c10 (c10 (c10 (c10 (c1 (c1 (c1 (c1 (c1 (c1 ([]))))))))))))))).toArray, defers := [] } _); delta c100 c10 c1
  refine wpAnyH_ready (rs := [49]) oAW_c49 (by simp) ?_
  refine AllReadyH.cons (o := oAW_49) rfl (fun K hK => ?_) AllReadyH.nil
  delta oAW_49
  rw [if_pos (by rfl)]
  go_simp
  (go_at_call 15; ((with_reducible refine (HC12.out _ ?hq).mono ?_); (case hq => exact (((((((((((((Kp.refl w10).drew.step hbR_0).step hbR_1).step hbR_2).step hbR_3).step hbR_4).step hbR_5).step hbR_6).step hbR_7).step hbR_8).step hbR_9).step hbR_10).step hbR_11)); rintro x wR_12 ⟨rfl, hbR_12⟩))
  go_wp2_with fail
  refine hK.out _ _ ?_ (fun hH13 => ?_)
  · with_reducible exact ⟨keep_cell ((((((((((((((Kp.refl w10).drew.step hbR_0).step hbR_1).step hbR_2).step hbR_3).step hbR_4).step hbR_5).step hbR_6).step hbR_7).step hbR_8).step hbR_9).step hbR_10).step hbR_11).step hbR_12).out q0x, keep_cell ((((((((((((((Kp.refl w10).drew.step hbR_0).step hbR_1).step hbR_2).step hbR_3).step hbR_4).step hbR_5).step hbR_6).step hbR_7).step hbR_8).step hbR_9).step hbR_10).step hbR_11).step hbR_12).out q0y, keep_cell ((((((((((((((Kp.refl w10).drew.step hbR_0).step hbR_1).step hbR_2).step hbR_3).step hbR_4).step hbR_5).step hbR_6).step hbR_7).step hbR_8).step hbR_9).step hbR_10).step hbR_11).step hbR_12).out q1x, keep_cell ((((((((((((((Kp.refl w10).drew.step hbR_0).step hbR_1).step hbR_2).step hbR_3).step hbR_4).step hbR_5).step hbR_6).step hbR_7).step hbR_8).step hbR_9).step hbR_10).step hbR_11).step hbR_12).out q1y, ((((((((((((((Kp.refl w10).drew.step hbR_0).step hbR_1).step hbR_2).step hbR_3).step hbR_4).step hbR_5).step hbR_6).step hbR_7).step hbR_8).step hbR_9).step hbR_10).step hbR_11).step hbR_12)⟩
  clear hK K hH12
  (show wpAnyH _ _ oAW _ _ _ (lsN 68 50) { tmps := (c10 (c10 (c10 (c10 (c10 (c10 (c10 (c10 (c1 (c1 (c1 (c1 (c1 (c1 ([]))))))))))))))).toArray, defers := [] } _); delta c100 c10 c1
  refine wpAnyH_take (i := 50) (oi := oAW_50) (v := ?_) rfl oAW_s oAW_f50 oAW_r50 (fun _ _ _ h => h) (Or.inl ⟨by rfl, ?_⟩) (by assumption) ?_
  rotate_left
  · (intro w hSw; (try dsimp only at hSw); delta oAW_50; go_simp; (try with_reducible rfl))
  (show wpAnyH _ _ oAW _ _ _ (lsN 68 51) { tmps := (c10 (c10 (c10 (c10 (c10 (c10 (c10 (c10 (c1 (c1 (c1 (c1 (c1 (c1 ([]))))))))))))))).toArray, defers := [] } _); delta c100 c10 c1
  refine wpAnyH_take (i := 51) (oi := oAW_51) (v := ?_) rfl oAW_s oAW_f51 oAW_r51 (fun _ _ _ h => h) (Or.inl ⟨by rfl, ?_⟩) (by assumption) ?_
  rotate_left
  · (intro w hSw; (try dsimp only at hSw); delta oAW_51; go_simp; (try with_reducible rfl))
  (show wpAnyH _ _ oAW _ _ _ (lsN 68 52) { tmps := (c10 (c10 (c10 (c10 (c10 (c10 (c10 (c10 (c1 (c1 (c1 (c1 (c1 (c1 ([]))))))))))))))).toArray, defers := [] } _); delta c100 c10 c1
  refine wpAnyH_take (i := 52) (oi := oAW_52) (v := ?_) rfl oAW_s oAW_f52 oAW_r52 (fun _ _ _ h => h) (Or.inl ⟨by rfl, ?_⟩) (by assumption) ?_
  rotate_left
  · (intro w hSw; (try dsimp only at hSw); delta oAW_52; go_simp; (try with_reducible rfl))
  (show wpAnyH _ _ oAW _ _ _ (lsN 68 53) { tmps := (c10 (c10 (c10 (c10 (c10 (c10 (c10 (c10 (c1 (c1 (c1 (c1 (c1 (c1 ([]))))))))))))))).toArray, defers := [] } _); delta c100 c10 c1
  refine wpAnyH_take (i := 53) (oi := oAW_53) (v := ?_) rfl oAW_s oAW_f53 oAW_r53 (fun _ _ _ h => h) (Or.inl ⟨by rfl, ?_⟩) (by assumption) ?_
  rotate_left
  · (intro w hSw; (try dsimp only at hSw); delta oAW_53; go_simp; (try with_reducible rfl))
  (show wpAnyH _ _ oAW _ _ _ (lsN 68 54) { tmps := (c10 (c10 (c10 (c10 (c10 (c10 (c10 (c10 (c1 (c1 (c1 (c1 (c1 (c1 ([]))))))))))))))).toArray, defers := [] } _); delta c100 c10 c1
  refine wpAnyH_take (i := 54) (oi := oAW_54) (v := ?_) rfl oAW_s oAW_f54 oAW_r54 (fun _ _ _ h => h) (Or.inl ⟨by rfl, ?_⟩) (by assumption) ?_
  rotate_left
  · (intro w hSw; (try dsimp only at hSw); delta oAW_54; go_simp; (try with_reducible rfl))
  (show wpAnyH _ _ oAW _ _ _ (lsN 68 55) { tmps := (c10 (c10 (c10 (c10 (c10 (c10 (c10 (c10 (c1 (c1 (c1 (c1 (c1 (c1 ([]))))))))))))))).toArray, defers := [] } _); delta c100 c10 c1
  refine wpAnyH_ready (rs := [55]) oAW_c55 (by simp) ?_
  refine AllReadyH.cons (o := oAW_55) rfl (fun K hK => ?_) AllReadyH.nil
  delta oAW_55
  rw [if_pos (by rfl)]
  go_simp
  (go_at_call 21; ((with_reducible refine (HC13.out _ ?hq).mono ?_); (case hq => exact ((((((((((((((Kp.refl w10).drew.step hbR_0).step hbR_1).step hbR_2).step hbR_3).step hbR_4).step hbR_5).step hbR_6).step hbR_7).step hbR_8).step hbR_9).step hbR_10).step hbR_11).step hbR_12)); rintro x wR_13 ⟨rfl, hbR_13⟩))
  go_wp2_with fail
  refine hK.out _ _ ?_ (fun hH14 => ?_)
  · with_reducible exact ⟨keep_cell (((((((((((((((Kp.refl w10).drew.step hbR_0).step hbR_1).step hbR_2).step hbR_3).step hbR_4).step hbR_5).step hbR_6).step hbR_7).step hbR_8).step hbR_9).step hbR_10).step hbR_11).step hbR_12).step hbR_13).out q0x, keep_cell (((((((((((((((Kp.refl w10).drew.step hbR_0).step hbR_1).step hbR_2).step hbR_3).step hbR_4).step hbR_5).step hbR_6).step hbR_7).step hbR_8).step hbR_9).step hbR_10).step hbR_11).step hbR_12).step hbR_13).out q0y, keep_cell (((((((((((((((Kp.refl w10).drew.step hbR_0).step hbR_1).step hbR_2).step hbR_3).step hbR_4).step hbR_5).step hbR_6).step hbR_7).step hbR_8).step hbR_9).step hbR_10).step hbR_11).step hbR_12).step hbR_13).out q1x, keep_cell (((((((((((((((Kp.refl w10).drew.step hbR_0).step hbR_1).step hbR_2).step hbR_3).step hbR_4).step hbR_5).step hbR_6).step hbR_7).step hbR_8).step hbR_9).step hbR_10).step hbR_11).step hbR_12).step hbR_13).out q1y, (((((((((((((((Kp.refl w10).drew.step hbR_0).step hbR_1).step hbR_2).step hbR_3).step hbR_4).step hbR_5).step hbR_6).step hbR_7).step hbR_8).step hbR_9).step hbR_10).step hbR_11).step hbR_12).step hbR_13)⟩
  clear hK K hH13
  (show wpAnyH _ _ oAW _ _ _ (lsN 68 56) { tmps := (c10 (c10 (c10 (c10 (c10 (c10 (c10 (c10 (c1 (c1 (c1 (c1 (c1 (c1 ([]))))))))))))))).toArray, defers := [] } _); delta c100 c10 c1
  refine wpAnyH_ready (rs := [56]) oAW_c56 (by simp) ?_
  refine AllReadyH.cons (o := oAW_56) rfl (fun K hK => ?_) AllReadyH.nil
  delta oAW_56
  rw [if_pos (by rfl)]
  go_simp
  (go_at_call 21; ((with_reducible refine (HC14.out _ ?hq).mono ?_); (case hq => exact (((((((((((((((Kp.refl w10).drew.step hbR_0).step hbR_1).step hbR_2).step hbR_3).step hbR_4).step hbR_5).step hbR_6).step hbR_7).step hbR_8).step hbR_9).step hbR_10).step hbR_11).step hbR_12).step hbR_13)); rintro x wR_14 ⟨rfl, hbR_14⟩))
  go_wp2_with fail
  refine hK.out _ _ ?_ (fun hH15 => ?_)
  · with_reducible exact ⟨keep_cell ((((((((((((((((Kp.refl w10).drew.step hbR_0).step hbR_1).step hbR_2).step hbR_3).step hbR_4).step hbR_5).step hbR_6).step hbR_7).step hbR_8).step hbR_9).step hbR_10).step hbR_11).step hbR_12).step hbR_13).step hbR_14).out q0x, keep_cell ((((((((((((((((Kp.refl w10).drew.step hbR_0).step hbR_1).step hbR_2).step hbR_3).step hbR_4).step hbR_5).step hbR_6).step hbR_7).step hbR_8).step hbR_9).step hbR_10).step hbR_11).step hbR_12).step hbR_13).step hbR_14).out q0y, keep_cell ((((((((((((((((Kp.refl w10).drew.step hbR_0).step hbR_1).step hbR_2).step hbR_3).step hbR_4).step hbR_5).step hbR_6).step hbR_7).step hbR_8).step hbR_9).step hbR_10).step hbR_11).step hbR_12).step hbR_13).step hbR_14).out q1x, keep_cell ((((((((((((((((Kp.refl w10).drew.step hbR_0).step hbR_1).step hbR_2).step hbR_3).step hbR_4).step hbR_5).step hbR_6).step hbR_7).step hbR_8).step hbR_9).step hbR_10).step hbR_11).step hbR_12).step hbR_13).step hbR_14).out q1y, ((((((((((((((((Kp.refl w10).drew.step hbR_0).step hbR_1).step hbR_2).step hbR_3).step hbR_4).step hbR_5).step hbR_6).step hbR_7).step hbR_8).step hbR_9).step hbR_10).step hbR_11).step hbR_12).step hbR_13).step hbR_14)⟩
  clear hK K hH14
  (show wpAnyH _ _ oAW _ _ _ (lsN 68 57) { tmps := (c10 (c10 (c10 (c10 (c10 (c10 (c10 (c10 (c1 (c1 (c1 (c1 (c1 (c1 ([]))))))))))))))).toArray, defers := [] } _); delta c100 c10 c1
  refine wpAnyH_ready (rs := [57]) oAW_c57 (by simp) ?_
  refine AllReadyH.cons (o := oAW_57) rfl (fun K hK => ?_) AllReadyH.nil
  delta oAW_57
  rw [if_pos (by rfl)]
  go_simp
  (go_at_call 17; ((with_reducible refine (HC15.out _ ?hq).mono ?_); (case hq => exact ((((((((((((((((Kp.refl w10).drew.step hbR_0).step hbR_1).step hbR_2).step hbR_3).step hbR_4).step hbR_5).step hbR_6).step hbR_7).step hbR_8).step hbR_9).step hbR_10).step hbR_11).step hbR_12).step hbR_13).step hbR_14)); rintro x wR_15 ⟨rfl, hbR_15⟩))
  go_wp2_with fail
  refine hK.out _ _ ?_ (fun hH16 => ?_)
  · with_reducible exact ⟨keep_cell (((((((((((((((((Kp.refl w10).drew.step hbR_0).step hbR_1).step hbR_2).step hbR_3).step hbR_4).step hbR_5).step hbR_6).step hbR_7).step hbR_8).step hbR_9).step hbR_10).step hbR_11).step hbR_12).step hbR_13).step hbR_14).step hbR_15).out q0x, keep_cell (((((((((((((((((Kp.refl w10).drew.step hbR_0).step hbR_1).step hbR_2).step hbR_3).step hbR_4).step hbR_5).step hbR_6).step hbR_7).step hbR_8).step hbR_9).step hbR_10).step hbR_11).step hbR_12).step hbR_13).step hbR_14).step hbR_15).out q0y, keep_cell (((((((((((((((((Kp.refl w10).drew.step hbR_0).step hbR_1).step hbR_2).step hbR_3).step hbR_4).step hbR_5).step hbR_6).step hbR_7).step hbR_8).step hbR_9).step hbR_10).step hbR_11).step hbR_12).step hbR_13).step hbR_14).step hbR_15).out q1x, keep_cell (((((((((((((((((Kp.refl w10).drew.step hbR_0).step hbR_1).step hbR_2).step hbR_3).step hbR_4).step hbR_5).step hbR_6).step hbR_7).step hbR_8).step hbR_9).step hbR_10).step hbR_11).step hbR_12).step hbR_13).step hbR_14).step hbR_15).out q1y, (((((((((((((((((Kp.refl w10).drew.step hbR_0).step hbR_1).step hbR_2).step hbR_3).step hbR_4).step hbR_5).step hbR_6).step hbR_7).step hbR_8).step hbR_9).step hbR_10).step hbR_11).step hbR_12).step hbR_13).step hbR_14).step hbR_15)⟩
  clear hK K hH15
  (show wpAnyH _ _ oAW _ _ _ (lsN 68 58) { tmps := (c10 (c10 (c10 (c10 (c10 (c10 (c10 (c10 (c1 (c1 (c1 (c1 (c1 (c1 ([]))))))))))))))).toArray, defers := [] } _); delta c100 c10 c1
  refine wpAnyH_take (i := 58) (oi := oAW_58) (v := ?_) rfl oAW_s oAW_f58 oAW_r58 (fun _ _ _ h => h) (Or.inl ⟨by rfl, ?_⟩) (by assumption) ?_
  rotate_left
  · (intro w hSw; (try dsimp only at hSw); delta oAW_58; go_simp; (try with_reducible rfl))
  (show wpAnyH _ _ oAW _ _ _ (lsN 68 59) { tmps := (c10 (c10 (c10 (c10 (c10 (c10 (c10 (c10 (c1 (c1 (c1 (c1 (c1 (c1 ([]))))))))))))))).toArray, defers := [] } _); delta c100 c10 c1
  refine wpAnyH_take (i := 59) (oi := oAW_59) (v := ?_) rfl oAW_s oAW_f59 oAW_r59 (fun _ _ _ h => h) (Or.inl ⟨by rfl, ?_⟩) (by assumption) ?_
  rotate_left
  · (intro w hSw; (try dsimp only at hSw); delta oAW_59; go_simp; (try with_reducible rfl))
  (show wpAnyH _ _ oAW _ _ _ (lsN 68 60) { tmps := (c10 (c10 (c10 (c10 (c10 (c10 (c10 (c10 (c1 (c1 (c1 (c1 (c1 (c1 ([]))))))))))))))).toArray, defers := [] } _); delta c100 c10 c1
  as_aux_lemma =>
  refine wpAnyH_take (i := 60) (oi := oAW_60) (v := ?_) rfl oAW_s oAW_f60 oAW_r60 (fun _ _ _ h => h) (Or.inl ⟨by rfl, ?_⟩) (by assumption) ?_
  rotate_left
  · (intro w hSw; (try dsimp only at hSw); delta oAW_60; go_simp; (try with_reducible rfl))
  (show wpAnyH _ _ oAW _ _ _ (lsN 68 61) { tmps := (c10 (c10 (c10 (c10 (c10 (c10 (c10 (c10 (c1 (c1 (c1 (c1 (c1 (c1 ([]))))))))))))))).toArray, defers := [] } _); delta c100 c10 c1
  refine wpAnyH_take (i := 61) (oi := oAW_61) (v := ?_) rfl oAW_s oAW_f61 oAW_r61 (fun _ _ _ h => h) (Or.inl ⟨by rfl, ?_⟩) (by assumption) ?_
  rotate_left
  · (intro w hSw; (try dsimp only at hSw); delta oAW_61; go_simp; (try with_reducible rfl))
  (show wpAnyH _ _ oAW _ _ _ (lsN 68 62) { tmps := (c10 (c10 (c10 (c10 (c10 (c10 (c10 (c10 (c1 (c1 (c1 (c1 (c1 (c1 ([]))))))))))))))).toArray, defers := [] } _); delta c100 c10 c1
  refine wpAnyH_ready (rs := [62]) oAW_c62 (by simp) ?_
  refine AllReadyH.cons (o := oAW_62) rfl (fun K hK => ?_) AllReadyH.nil
  delta oAW_62
  rw [if_pos (by rfl)]
  go_simp
  (go_at_call 21; ((with_reducible refine (HC16.out _ ?hq).mono ?_); (case hq => exact (((((((((((((((((Kp.refl w10).drew.step hbR_0).step hbR_1).step hbR_2).step hbR_3).step hbR_4).step hbR_5).step hbR_6).step hbR_7).step hbR_8).step hbR_9).step hbR_10).step hbR_11).step hbR_12).step hbR_13).step hbR_14).step hbR_15)); rintro x wR_16 ⟨rfl, hbR_16⟩))
  go_wp2_with fail
  refine hK.out _ _ ?_ (fun hH17 => ?_)
  · with_reducible exact ⟨keep_cell ((((((((((((((((((Kp.refl w10).drew.step hbR_0).step hbR_1).step hbR_2).step hbR_3).step hbR_4).step hbR_5).step hbR_6).step hbR_7).step hbR_8).step hbR_9).step hbR_10).step hbR_11).step hbR_12).step hbR_13).step hbR_14).step hbR_15).step hbR_16).out q0x, keep_cell ((((((((((((((((((Kp.refl w10).drew.step hbR_0).step hbR_1).step hbR_2).step hbR_3).step hbR_4).step hbR_5).step hbR_6).step hbR_7).step hbR_8).step hbR_9).step hbR_10).step hbR_11).step hbR_12).step hbR_13).step hbR_14).step hbR_15).step hbR_16).out q0y, keep_cell ((((((((((((((((((Kp.refl w10).drew.step hbR_0).step hbR_1).step hbR_2).step hbR_3).step hbR_4).step hbR_5).step hbR_6).step hbR_7).step hbR_8).step hbR_9).step hbR_10).step hbR_11).step hbR_12).step hbR_13).step hbR_14).step hbR_15).step hbR_16).out q1x, keep_cell ((((((((((((((((((Kp.refl w10).drew.step hbR_0).step hbR_1).step hbR_2).step hbR_3).step hbR_4).step hbR_5).step hbR_6).step hbR_7).step hbR_8).step hbR_9).step hbR_10).step hbR_11).step hbR_12).step hbR_13).step hbR_14).step hbR_15).step hbR_16).out q1y, ((((((((((((((((((Kp.refl w10).drew.step hbR_0).step hbR_1).step hbR_2).step hbR_3).step hbR_4).step hbR_5).step hbR_6).step hbR_7).step hbR_8).step hbR_9).step hbR_10).step hbR_11).step hbR_12).step hbR_13).step hbR_14).step hbR_15).step hbR_16)⟩
  clear hK K hH16
  (show wpAnyH _ _ oAW _ _ _ (lsN 68 63) { tmps := (c10 (c10 (c10 (c10 (c10 (c10 (c10 (c10 (c1 (c1 (c1 (c1 (c1 (c1 ([]))))))))))))))).toArray, defers := [] } _); delta c100 c10 c1
  refine wpAnyH_ready (rs := [63]) oAW_c63 (by simp) ?_
  refine AllReadyH.cons (o := oAW_63) rfl (fun K hK => ?_) AllReadyH.nil
  delta oAW_63
  rw [if_pos (by rfl)]
  go_simp
  (go_at_call 21; ((with_reducible refine (HC17.out _ ?hq).mono ?_); (case hq => exact ((((((((((((((((((Kp.refl w10).drew.step hbR_0).step hbR_1).step hbR_2).step hbR_3).step hbR_4).step hbR_5).step hbR_6).step hbR_7).step hbR_8).step hbR_9).step hbR_10).step hbR_11).step hbR_12).step hbR_13).step hbR_14).step hbR_15).step hbR_16)); rintro x wR_17 ⟨rfl, hbR_17⟩))
  go_wp2_with fail
  refine hK.out _ _ ?_ (fun hH18 => ?_)
  · with_reducible exact ⟨keep_cell (((((((((((((((((((Kp.refl w10).drew.step hbR_0).step hbR_1).step hbR_2).step hbR_3).step hbR_4).step hbR_5).step hbR_6).step hbR_7).step hbR_8).step hbR_9).step hbR_10).step hbR_11).step hbR_12).step hbR_13).step hbR_14).step hbR_15).step hbR_16).step hbR_17).out q0x, keep_cell (((((((((((((((((((Kp.refl w10).drew.step hbR_0).step hbR_1).step hbR_2).step hbR_3).step hbR_4).step hbR_5).step hbR_6).step hbR_7).step hbR_8).step hbR_9).step hbR_10).step hbR_11).step hbR_12).step hbR_13).step hbR_14).step hbR_15).step hbR_16).step hbR_17).out q0y, keep_cell (((((((((((((((((((Kp.refl w10).drew.step hbR_0).step hbR_1).step hbR_2).step hbR_3).step hbR_4).step hbR_5).step hbR_6).step hbR_7).step hbR_8).step hbR_9).step hbR_10).step hbR_11).step hbR_12).step hbR_13).step hbR_14).step hbR_15).step hbR_16).step hbR_17).out q1x, keep_cell (((((((((((((((((((Kp.refl w10).drew.step hbR_0).step hbR_1).step hbR_2).step hbR_3).step hbR_4).step hbR_5).step hbR_6).step hbR_7).step hbR_8).step hbR_9).step hbR_10).step hbR_11).step hbR_12).step hbR_13).step hbR_14).step hbR_15).step hbR_16).step hbR_17).out q1y, (((((((((((((((((((Kp.refl w10).drew.step hbR_0).step hbR_1).step hbR_2).step hbR_3).step hbR_4).step hbR_5).step hbR_6).step hbR_7).step hbR_8).step hbR_9).step hbR_10).step hbR_11).step hbR_12).step hbR_13).step hbR_14).step hbR_15).step hbR_16).step hbR_17)⟩
  clear hK K hH17
  (show wpAnyH _ _ oAW _ _ _ (lsN 68 64) { tmps := (c10 (c10 (c10 (c10 (c10 (c10 (c10 (c10 (c1 (c1 (c1 (c1 (c1 (c1 ([]))))))))))))))).toArray, defers := [] } _); delta c100 c10 c1
  refine wpAnyH_ready (rs := [64]) oAW_c64 (by simp) ?_
  refine AllReadyH.cons (o := oAW_64) rfl (fun K hK => ?_) AllReadyH.nil
  delta oAW_64
  rw [if_pos (by rfl)]
  go_simp
  (go_at_call 17; ((with_reducible refine (HC18.out _ ?hq).mono ?_); (case hq => exact (((((((((((((((((((Kp.refl w10).drew.step hbR_0).step hbR_1).step hbR_2).step hbR_3).step hbR_4).step hbR_5).step hbR_6).step hbR_7).step hbR_8).step hbR_9).step hbR_10).step hbR_11).step hbR_12).step hbR_13).step hbR_14).step hbR_15).step hbR_16).step hbR_17)); rintro x wR_18 ⟨rfl, hbR_18⟩))
  go_wp2_with fail
  refine hK.out _ _ ?_ (fun hH19 => ?_)
  · with_reducible exact ⟨keep_cell ((((((((((((((((((((Kp.refl w10).drew.step hbR_0).step hbR_1).step hbR_2).step hbR_3).step hbR_4).step hbR_5).step hbR_6).step hbR_7).step hbR_8).step hbR_9).step hbR_10).step hbR_11).step hbR_12).step hbR_13).step hbR_14).step hbR_15).step hbR_16).step hbR_17).step hbR_18).out q0x, keep_cell ((((((((((((((((((((Kp.refl w10).drew.step hbR_0).step hbR_1).step hbR_2).step hbR_3).step hbR_4).step hbR_5).step hbR_6).step hbR_7).step hbR_8).step hbR_9).step hbR_10).step hbR_11).step hbR_12).step hbR_13).step hbR_14).step hbR_15).step hbR_16).step hbR_17).step hbR_18).out q0y, keep_cell ((((((((((((((((((((Kp.refl w10).drew.step hbR_0).step hbR_1).step hbR_2).step hbR_3).step hbR_4).step hbR_5).step hbR_6).step hbR_7).step hbR_8).step hbR_9).step hbR_10).step hbR_11).step hbR_12).step hbR_13).step hbR_14).step hbR_15).step hbR_16).step hbR_17).step hbR_18).out q1x, keep_cell ((((((((((((((((((((Kp.refl w10).drew.step hbR_0).step hbR_1).step hbR_2).step hbR_3).step hbR_4).step hbR_5).step hbR_6).step hbR_7).step hbR_8).step hbR_9).step hbR_10).step hbR_11).step hbR_12).step hbR_13).step hbR_14).step hbR_15).step hbR_16).step hbR_17).step hbR_18).out q1y, ((((((((((((((((((((Kp.refl w10).drew.step hbR_0).step hbR_1).step hbR_2).step hbR_3).step hbR_4).step hbR_5).step hbR_6).step hbR_7).step hbR_8).step hbR_9).step hbR_10).step hbR_11).step hbR_12).step hbR_13).step hbR_14).step hbR_15).step hbR_16).step hbR_17).step hbR_18)⟩
  clear hK K hH18
  (show wpAnyH _ _ oAW _ _ _ (lsN 68 65) { tmps := (c10 (c10 (c10 (c10 (c10 (c10 (c10 (c10 (c1 (c1 (c1 (c1 (c1 (c1 ([]))))))))))))))).toArray, defers := [] } _); delta c100 c10 c1
  refine wpAnyH_take (i := 65) (oi := oAW_65) (v := ?_) rfl oAW_s oAW_f65 oAW_r65 (fun _ _ _ h => h) (Or.inl ⟨by rfl, ?_⟩) (by assumption) ?_
  rotate_left
  · (intro w hSw; (try dsimp only at hSw); delta oAW_65; go_simp; (try with_reducible rfl))
  (show wpAnyH _ _ oAW _ _ _ (lsN 68 66) { tmps := (c10 (c10 (c10 (c10 (c10 (c10 (c10 (c10 (c1 (c1 (c1 (c1 (c1 (c1 ([]))))))))))))))).toArray, defers := [] } _); delta c100 c10 c1
  refine wpAnyH_take (i := 66) (oi := oAW_66) (v := ?_) rfl oAW_s oAW_f66 oAW_r66 (fun _ _ _ h => h) (Or.inl ⟨by rfl, ?_⟩) (by assumption) ?_
  rotate_left
  · (intro w hSw; (try dsimp only at hSw); delta oAW_66; go_simp; (try with_reducible rfl))
  (show wpAnyH _ _ oAW _ _ _ (lsN 68 67) { tmps := (c10 (c10 (c10 (c10 (c10 (c10 (c10 (c10 (c1 (c1 (c1 (c1 (c1 (c1 ([]))))))))))))))).toArray, defers := [] } _); delta c100 c10 c1
  refine wpAnyH_take (i := 67) (oi := oAW_67) (v := ?_) rfl oAW_s oAW_f67 oAW_r67 (fun _ _ _ h => h) (Or.inl ⟨by rfl, ?_⟩) (by assumption) ?_
  rotate_left
  · (intro w hSw; (try dsimp only at hSw); delta oAW_67; go_simp; (try with_reducible rfl))
  (show wpAnyH _ _ oAW _ _ _ (lsN 68 68) { tmps := (c10 (c10 (c10 (c10 (c10 (c10 (c10 (c10 (c1 (c1 (c1 (c1 (c1 (c1 ([]))))))))))))))).toArray, defers := [] } _); delta c100 c10 c1
  refine wpAnyH_done (by kernel_rfl) ?_ _
  clear hH19
  go_wp2_with fail
  go_ret
  exact ⟨rfl, bl_pack HW.out HW.out.size ((((((((((((((((((((Kp.refl w10).drew.step hbR_0).step hbR_1).step hbR_2).step hbR_3).step hbR_4).step hbR_5).step hbR_6).step hbR_7).step hbR_8).step hbR_9).step hbR_10).step hbR_11).step hbR_12).step hbR_13).step hbR_14).step hbR_15).step hbR_16).step hbR_17).step hbR_18).out⟩
end Go.Proofs.YtiihokgjplpceaaDoor
