/- What is to be shown of each function, written out. -/
import Derived.Test.YtejohcohkgcmhaaDoorG5
namespace Go.Proofs.YtejohcohkgcmhaaDoor
open Go Go.RowKit

@[simp] theorem sizeT_2 : sizeT tab 2 = 1 := by kernel_rfl
@[simp] theorem sizeT_3 : sizeT tab 3 = 1 := by kernel_rfl
@[simp] theorem sizeT_4 : sizeT tab 4 = 1 := by kernel_rfl
@[simp] theorem sizeT_5 : sizeT tab 5 = 1 := by kernel_rfl
@[simp] theorem sizeT_6 : sizeT tab 6 = 1 := by kernel_rfl
@[simp] theorem sizeT_9 : sizeT tab 9 = 1 := by kernel_rfl
@[simp] theorem sizeT_12 : sizeT tab 12 = 1 := by kernel_rfl
@[simp] theorem sizeT_17 : sizeT tab 17 = 1 := by kernel_rfl
@[simp] theorem sizeT_22 : sizeT tab 22 = 1 := by kernel_rfl
@[simp] theorem sizeT_23 : sizeT tab 23 = 1 := by kernel_rfl
@[simp] theorem sizeT_25 : sizeT tab 25 = 3 := by kernel_rfl
@[simp] theorem sizeT_28 : sizeT tab 28 = 1 := by kernel_rfl
@[simp] theorem sizeT_44 : sizeT tab 44 = 1 := by kernel_rfl
@[simp] theorem sizeT_45 : sizeT tab 45 = 1 := by kernel_rfl
@[simp] theorem sizeT_47 : sizeT tab 47 = 2 := by kernel_rfl
@[simp] theorem sizeT_48 : sizeT tab 48 = 1 := by kernel_rfl
@[simp] theorem sizeT_50 : sizeT tab 50 = 3 := by kernel_rfl
@[simp] theorem sizeT_52 : sizeT tab 52 = 9 := by kernel_rfl
@[simp] theorem sizeT_53 : sizeT tab 53 = 1 := by kernel_rfl
@[simp] theorem sizeT_58 : sizeT tab 58 = 3 := by kernel_rfl
@[simp] theorem sizeT_79 : sizeT tab 79 = 1 := by kernel_rfl
@[simp] theorem sizeT_87 : sizeT tab 87 = 1 := by kernel_rfl
@[simp] theorem sizeT_125 : sizeT tab 125 = 1 := by kernel_rfl
@[simp] theorem sizeT_136 : sizeT tab 136 = 0 := by kernel_rfl
@[simp] theorem sizeT_140 : sizeT tab 140 = 1 := by kernel_rfl
@[simp] theorem sizeT_141 : sizeT tab 141 = 1 := by kernel_rfl
@[simp] theorem sizeT_142 : sizeT tab 142 = 1 := by kernel_rfl
@[simp] theorem sizeT_143 : sizeT tab 143 = 1 := by kernel_rfl
@[simp] theorem sizeT_144 : sizeT tab 144 = 1 := by kernel_rfl
@[simp] theorem sizeT_145 : sizeT tab 145 = 1 := by kernel_rfl
/-- wanderstaff/cell.Int -/
def cell_Int_lv : List (Nat × Nat × List Nat) := []
def cell_Int_vc (a0 : AV) (H : Heap) (nx : Nat) (Q : AV → Heap → Nat → Prop) : Prop :=
  BI BinOp.rem a0 (AV.int IntKind.i64 1073741825) fun v1 =>
  BD (placeOf tab [(3, 0), (3, 1), (9, 2)]) [AV.int IntKind.i64 0, AV.int IntKind.i64 0, AV.str []] [(1, v1)] fun v2 =>
  ST 3 (AV.ptr nx 0) v2 (H.put nx (some (AObj.row 3 [AV.int IntKind.i64 0, AV.int IntKind.i64 0, AV.str []]))) fun H3 =>
  LD true 3 (AV.ptr nx 0) H3 fun v4 =>
  Q v4 H3 (nx + 1)
theorem cell_Int_eq (a0 : AV) (H : Heap) (nx : Nat) (Q : AV → Heap → Nat → Prop) : body Tryd.prog tab eqsT (lvOf cell_Int_lv) Tryd.f7 (codeOf Tryd.f7) [a0] H nx Q = cell_Int_vc a0 H nx Q := by kernel_rfl
theorem cell_Int_calls (a0 : AV) (H : Heap) (nx : Nat) (Q : AV → Heap → Nat → Prop) : cell_Int_vc a0 H nx Q → ACalls Tryd.prog 7 [a0] H nx Q :=
  acalls_eq (lv := lvOf cell_Int_lv) (c := codeOf Tryd.f7) tabOk eqsOk mixed Tryd.func7 (by kernel_rfl) (by kernel_rfl) (by kernel_rfl) (by kernel_rfl) (cell_Int_eq a0 H nx Q)

/-- wanderstaff/zwref1.Round -/
def zwref1_Round_lv : List (Nat × Nat × List Nat) := [(2, 2, [0, 3])]
def zwref1_Round_l1 (Q : AV → Heap → Nat → Prop) (K1 : J3) (xs2 : List AV) (H3 : Heap) (nx4 : Nat) : Prop :=
  BI BinOp.geq (nth xs2 0) (nth xs2 1) fun v5 =>
  CND v5
  (BI BinOp.quo (nth xs2 0) (nth xs2 1) fun v6 =>
  BI BinOp.mul v6 (nth xs2 1) fun v7 =>
  BI BinOp.sub (nth xs2 0) v7 fun v8 =>
  K1 [v8, nth xs2 1] H3 nx4)
  (UO UnOp.neg (nth xs2 1) fun v9 =>
  BI BinOp.leq (nth xs2 0) v9 fun v10 =>
  CNDC v10
  (BI BinOp.quo (nth xs2 0) (nth xs2 1) fun v11 =>
  BI BinOp.mul v11 (nth xs2 1) fun v12 =>
  BI BinOp.sub (nth xs2 0) v12 fun v13 =>
  K1 [v13, nth xs2 1] H3 nx4)
  (Q (nth xs2 0) H3 nx4))
def zwref1_Round_vc (a0 : AV) (H : Heap) (nx : Nat) (Q : AV → Heap → Nat → Prop) : Prop :=
  LP (zwref1_Round_l1 Q) [a0, AV.int IntKind.i64 1073741825] H nx
theorem zwref1_Round_eq (a0 : AV) (H : Heap) (nx : Nat) (Q : AV → Heap → Nat → Prop) : body Tryd.prog tab eqsT (lvOf zwref1_Round_lv) Tryd.f35 (codeOf Tryd.f35) [a0] H nx Q = zwref1_Round_vc a0 H nx Q := by kernel_rfl
theorem zwref1_Round_calls (a0 : AV) (H : Heap) (nx : Nat) (Q : AV → Heap → Nat → Prop) : zwref1_Round_vc a0 H nx Q → ACalls Tryd.prog 35 [a0] H nx Q :=
  acalls_eq (lv := lvOf zwref1_Round_lv) (c := codeOf Tryd.f35) tabOk eqsOk mixed Tryd.func35 (by kernel_rfl) (by kernel_rfl) (by kernel_rfl) (by kernel_rfl) (zwref1_Round_eq a0 H nx Q)

/-- wanderstaff/zwref1.Int -/
def zwref1_Int_lv : List (Nat × Nat × List Nat) := []
def zwref1_Int_k1 (nx : Nat) (Q : AV → Heap → Nat → Prop) (v1 : AV) (H2 : Heap) (nx3 : Nat) : Prop :=
  BD (placeOf tab [(3, 0), (3, 1), (9, 2)]) [AV.int IntKind.i64 0, AV.int IntKind.i64 0, AV.str []] [(1, v1)] fun v4 =>
  ST 3 (AV.ptr nx 0) v4 H2 fun H5 =>
  LD true 3 (AV.ptr nx 0) H5 fun v6 =>
  Q v6 H5 nx3
def zwref1_Int_vc (a0 : AV) (H : Heap) (nx : Nat) (Q : AV → Heap → Nat → Prop) : Prop :=
  ACalls Tryd.prog 35 [a0] (H.put nx (some (AObj.row 3 [AV.int IntKind.i64 0, AV.int IntKind.i64 0, AV.str []]))) (nx + 1) (zwref1_Int_k1 nx Q)
theorem zwref1_Int_eq (a0 : AV) (H : Heap) (nx : Nat) (Q : AV → Heap → Nat → Prop) : body Tryd.prog tab eqsT (lvOf zwref1_Int_lv) Tryd.f8 (codeOf Tryd.f8) [a0] H nx Q = zwref1_Int_vc a0 H nx Q := by kernel_rfl
theorem zwref1_Int_calls (a0 : AV) (H : Heap) (nx : Nat) (Q : AV → Heap → Nat → Prop) : zwref1_Int_vc a0 H nx Q → ACalls Tryd.prog 8 [a0] H nx Q :=
  acalls_eq (lv := lvOf zwref1_Int_lv) (c := codeOf Tryd.f8) tabOk eqsOk mixed Tryd.func8 (by kernel_rfl) (by kernel_rfl) (by kernel_rfl) (by kernel_rfl) (zwref1_Int_eq a0 H nx Q)

/-- wanderstaff/cell.Text -/
def cell_Text_lv : List (Nat × Nat × List Nat) := []
def cell_Text_vc (a0 : AV) (H : Heap) (nx : Nat) (Q : AV → Heap → Nat → Prop) : Prop :=
  LNS a0 fun v1 =>
  MM true v1 (AV.int IntKind.i64 60) fun v2 =>
  SLS a0 none (some v2) fun v3 =>
  BD (placeOf tab [(3, 0), (3, 1), (9, 2)]) [AV.int IntKind.i64 0, AV.int IntKind.i64 0, AV.str []] [(0, AV.int IntKind.i64 1), (2, v3)] fun v4 =>
  ST 3 (AV.ptr nx 0) v4 (H.put nx (some (AObj.row 3 [AV.int IntKind.i64 0, AV.int IntKind.i64 0, AV.str []]))) fun H5 =>
  LD true 3 (AV.ptr nx 0) H5 fun v6 =>
  Q v6 H5 (nx + 1)
theorem cell_Text_eq (a0 : AV) (H : Heap) (nx : Nat) (Q : AV → Heap → Nat → Prop) : body Tryd.prog tab eqsT (lvOf cell_Text_lv) Tryd.f9 (codeOf Tryd.f9) [a0] H nx Q = cell_Text_vc a0 H nx Q := by kernel_rfl
theorem cell_Text_calls (a0 : AV) (H : Heap) (nx : Nat) (Q : AV → Heap → Nat → Prop) : cell_Text_vc a0 H nx Q → ACalls Tryd.prog 9 [a0] H nx Q :=
  acalls_eq (lv := lvOf cell_Text_lv) (c := codeOf Tryd.f9) tabOk eqsOk mixed Tryd.func9 (by kernel_rfl) (by kernel_rfl) (by kernel_rfl) (by kernel_rfl) (cell_Text_eq a0 H nx Q)

/-- wanderstaff/zwref1.Text -/
def zwref1_Text_lv : List (Nat × Nat × List Nat) := []
def zwref1_Text_vc (a0 : AV) (H : Heap) (nx : Nat) (Q : AV → Heap → Nat → Prop) : Prop :=
  LNS a0 fun v1 =>
  BI BinOp.gtr v1 (AV.int IntKind.i64 60) fun v2 =>
  CNDC v2
  (SLS a0 none (some (AV.int IntKind.i64 60)) fun v3 =>
  BD (placeOf tab [(3, 0), (3, 1), (9, 2)]) [AV.int IntKind.i64 0, AV.int IntKind.i64 0, AV.str []] [(0, AV.int IntKind.i64 1), (2, v3)] fun v4 =>
  ST 3 (AV.ptr nx 0) v4 (H.put nx (some (AObj.row 3 [AV.int IntKind.i64 0, AV.int IntKind.i64 0, AV.str []]))) fun H5 =>
  LD true 3 (AV.ptr nx 0) H5 fun v6 =>
  Q v6 H5 (nx + 1))
  (BD (placeOf tab [(3, 0), (3, 1), (9, 2)]) [AV.int IntKind.i64 0, AV.int IntKind.i64 0, AV.str []] [(0, AV.int IntKind.i64 1), (2, a0)] fun v7 =>
  ST 3 (AV.ptr nx 0) v7 (H.put nx (some (AObj.row 3 [AV.int IntKind.i64 0, AV.int IntKind.i64 0, AV.str []]))) fun H8 =>
  LD true 3 (AV.ptr nx 0) H8 fun v9 =>
  Q v9 H8 (nx + 1))
theorem zwref1_Text_eq (a0 : AV) (H : Heap) (nx : Nat) (Q : AV → Heap → Nat → Prop) : body Tryd.prog tab eqsT (lvOf zwref1_Text_lv) Tryd.f10 (codeOf Tryd.f10) [a0] H nx Q = zwref1_Text_vc a0 H nx Q := by kernel_rfl
theorem zwref1_Text_calls (a0 : AV) (H : Heap) (nx : Nat) (Q : AV → Heap → Nat → Prop) : zwref1_Text_vc a0 H nx Q → ACalls Tryd.prog 10 [a0] H nx Q :=
  acalls_eq (lv := lvOf zwref1_Text_lv) (c := codeOf Tryd.f10) tabOk eqsOk mixed Tryd.func10 (by kernel_rfl) (by kernel_rfl) (by kernel_rfl) (by kernel_rfl) (zwref1_Text_eq a0 H nx Q)

/-- wanderstaff/cell.Wrong -/
def cell_Wrong_lv : List (Nat × Nat × List Nat) := [(0, 3, [1, 2, 14]), (0, 5, [1, 2, 28]), (0, 7, [2, 38])]
def cell_Wrong_j1 (Q : AV → Heap → Nat → Prop) (xs13 : List AV) (H14 : Heap) (nx15 : Nat) : Prop :=
  CNDC (nth xs13 1)
  (Q (AV.int IntKind.i64 6) H14 nx15)
  (FA 0 (nth xs13 0) fun v17 =>
  LD false 1 v17 H14 fun v18 =>
  BI BinOp.eql v18 (AV.int IntKind.i64 1) fun v19 =>
  CND v19
  (FA 1 (nth xs13 0) fun v20 =>
  LD false 1 v20 H14 fun v21 =>
  BI BinOp.neq v21 (AV.int IntKind.i64 0) fun v22 =>
  CND v22
  (Q (AV.int IntKind.i64 2) H14 nx15)
  (FA 0 (nth xs13 0) fun v23 =>
  LD false 1 v23 H14 fun v24 =>
  BI BinOp.neq v24 (AV.int IntKind.i64 1) fun v25 =>
  CND v25
  (FA 2 (nth xs13 0) fun v26 =>
  LD false 1 v26 H14 fun v27 =>
  BS BinOp.neq v27 (AV.str []) fun v28 =>
  CNDC v28
  (Q (AV.int IntKind.i64 2) H14 nx15)
  (Q (AV.int IntKind.i64 0) H14 nx15))
  (Q (AV.int IntKind.i64 0) H14 nx15)))
  (FA 0 (nth xs13 0) fun v29 =>
  LD false 1 v29 H14 fun v30 =>
  BI BinOp.neq v30 (AV.int IntKind.i64 1) fun v31 =>
  CND v31
  (FA 2 (nth xs13 0) fun v32 =>
  LD false 1 v32 H14 fun v33 =>
  BS BinOp.neq v33 (AV.str []) fun v34 =>
  CNDC v34
  (Q (AV.int IntKind.i64 2) H14 nx15)
  (Q (AV.int IntKind.i64 0) H14 nx15))
  (Q (AV.int IntKind.i64 0) H14 nx15)))
def cell_Wrong_b1 (xs9 : List AV) (H10 : Heap) (nx11 : Nat) (j16 : J3) : Prop :=
  FA 0 (nth xs9 1) fun v35 =>
  LD false 1 v35 H10 fun v36 =>
  BI BinOp.eql v36 (AV.int IntKind.i64 2) fun v37 =>
  CND v37
  (FA 1 (nth xs9 1) fun v38 =>
  LD false 1 v38 H10 fun v39 =>
  BI BinOp.lss v39 (AV.int IntKind.i64 0) fun v40 =>
  CND v40
  (j16 [nth xs9 1, AV.bool true] H10 nx11)
  (FA 1 (nth xs9 1) fun v41 =>
  LD false 1 v41 H10 fun v42 =>
  BI BinOp.geq v42 (nth xs9 0) fun v43 =>
  j16 [nth xs9 1, v43] H10 nx11))
  (j16 [nth xs9 1, AV.bool false] H10 nx11)
def cell_Wrong_j2 (Q : AV → Heap → Nat → Prop) (xs9 : List AV) (H10 : Heap) (nx11 : Nat) : Prop :=
  CNDC (nth xs9 2)
  (Q (AV.int IntKind.i64 4) H10 nx11)
  (JN (cell_Wrong_j1 Q) (cell_Wrong_b1 xs9 H10 nx11))
def cell_Wrong_b2 (xs5 : List AV) (H6 : Heap) (nx7 : Nat) (j12 : J3) : Prop :=
  FA 0 (nth xs5 1) fun v44 =>
  LD false 1 v44 H6 fun v45 =>
  BI BinOp.eql v45 (AV.int IntKind.i64 1) fun v46 =>
  CND v46
  (FA 2 (nth xs5 1) fun v47 =>
  LD false 1 v47 H6 fun v48 =>
  LNS v48 fun v49 =>
  BI BinOp.gtr v49 (AV.int IntKind.i64 60) fun v50 =>
  j12 [nth xs5 0, nth xs5 1, v50] H6 nx7)
  (j12 [nth xs5 0, nth xs5 1, AV.bool false] H6 nx7)
def cell_Wrong_j3 (Q : AV → Heap → Nat → Prop) (xs5 : List AV) (H6 : Heap) (nx7 : Nat) : Prop :=
  CNDC (nth xs5 2)
  (Q (AV.int IntKind.i64 3) H6 nx7)
  (JN (cell_Wrong_j2 Q) (cell_Wrong_b2 xs5 H6 nx7))
def cell_Wrong_b3 (nx : Nat) (H : Heap) (a0 : AV) (a1 : AV) (j8 : J3) : Prop :=
  LD false 1 (AV.ptr nx 0) (H.put nx (some (AObj.row a0.cells.length a0.cells))) fun v51 =>
  BI BinOp.eql v51 (AV.int IntKind.i64 0) fun v52 =>
  CND v52
  (LD false 1 (AV.ptr nx 1) (H.put nx (some (AObj.row a0.cells.length a0.cells))) fun v53 =>
  BI BinOp.lss v53 (AV.int IntKind.i64 (-1073741824)) fun v54 =>
  CND v54
  (j8 [a1, AV.ptr nx 0, AV.bool true] (H.put nx (some (AObj.row a0.cells.length a0.cells))) (nx + 1))
  (LD false 1 (AV.ptr nx 1) (H.put nx (some (AObj.row a0.cells.length a0.cells))) fun v55 =>
  BI BinOp.gtr v55 (AV.int IntKind.i64 1073741824) fun v56 =>
  j8 [a1, AV.ptr nx 0, v56] (H.put nx (some (AObj.row a0.cells.length a0.cells))) (nx + 1)))
  (j8 [a1, AV.ptr nx 0, AV.bool false] (H.put nx (some (AObj.row a0.cells.length a0.cells))) (nx + 1))
def cell_Wrong_vc (a0 a1 : AV) (H : Heap) (nx : Nat) (Q : AV → Heap → Nat → Prop) : Prop :=
  a0.sure = true ∧
  LD false 1 (AV.ptr nx 0) (H.put nx (some (AObj.row a0.cells.length a0.cells))) fun v1 =>
  BI BinOp.lss v1 (AV.int IntKind.i64 0) fun v2 =>
  CND v2
  (Q (AV.int IntKind.i64 1) (H.put nx (some (AObj.row a0.cells.length a0.cells))) (nx + 1))
  (LD false 1 (AV.ptr nx 0) (H.put nx (some (AObj.row a0.cells.length a0.cells))) fun v3 =>
  BI BinOp.gtr v3 (AV.int IntKind.i64 2) fun v4 =>
  CNDC v4
  (Q (AV.int IntKind.i64 1) (H.put nx (some (AObj.row a0.cells.length a0.cells))) (nx + 1))
  (JN (cell_Wrong_j3 Q) (cell_Wrong_b3 nx H a0 a1)))
theorem cell_Wrong_eq (a0 a1 : AV) (H : Heap) (nx : Nat) (Q : AV → Heap → Nat → Prop) : body Tryd.prog tab eqsT (lvOf cell_Wrong_lv) Tryd.f11 (codeOf Tryd.f11) [a0, a1] H nx Q = cell_Wrong_vc a0 a1 H nx Q := by kernel_rfl
theorem cell_Wrong_calls (a0 a1 : AV) (H : Heap) (nx : Nat) (Q : AV → Heap → Nat → Prop) : cell_Wrong_vc a0 a1 H nx Q → ACalls Tryd.prog 11 [a0, a1] H nx Q :=
  acalls_eq (lv := lvOf cell_Wrong_lv) (c := codeOf Tryd.f11) tabOk eqsOk mixed Tryd.func11 (by kernel_rfl) (by kernel_rfl) (by kernel_rfl) (by kernel_rfl) (cell_Wrong_eq a0 a1 H nx Q)

/-- wanderstaff/zwref1.WrongValue -/
def zwref1_WrongValue_lv : List (Nat × Nat × List Nat) := []
def zwref1_WrongValue_vc (a0 a1 : AV) (H : Heap) (nx : Nat) (Q : AV → Heap → Nat → Prop) : Prop :=
  a0.sure = true ∧
  LD false 1 (AV.ptr nx 0) (H.put nx (some (AObj.row a0.cells.length a0.cells))) fun v1 =>
  BI BinOp.eql v1 (AV.int IntKind.i64 0) fun v2 =>
  CNDC v2
  (LD false 1 (AV.ptr nx 1) (H.put nx (some (AObj.row a0.cells.length a0.cells))) fun v3 =>
  BI BinOp.lss v3 (AV.int IntKind.i64 (-1073741824)) fun v4 =>
  CND v4
  (Q (AV.int IntKind.i64 3) (H.put nx (some (AObj.row a0.cells.length a0.cells))) (nx + 1))
  (LD false 1 (AV.ptr nx 1) (H.put nx (some (AObj.row a0.cells.length a0.cells))) fun v5 =>
  BI BinOp.gtr v5 (AV.int IntKind.i64 1073741824) fun v6 =>
  CNDC v6
  (Q (AV.int IntKind.i64 3) (H.put nx (some (AObj.row a0.cells.length a0.cells))) (nx + 1))
  (LD false 1 (AV.ptr nx 2) (H.put nx (some (AObj.row a0.cells.length a0.cells))) fun v7 =>
  BS BinOp.neq v7 (AV.str []) fun v8 =>
  CNDC v8
  (Q (AV.int IntKind.i64 2) (H.put nx (some (AObj.row a0.cells.length a0.cells))) (nx + 1))
  (Q (AV.int IntKind.i64 0) (H.put nx (some (AObj.row a0.cells.length a0.cells))) (nx + 1)))))
  (BI BinOp.eql v1 (AV.int IntKind.i64 1) fun v9 =>
  CNDC v9
  (LD false 1 (AV.ptr nx 2) (H.put nx (some (AObj.row a0.cells.length a0.cells))) fun v10 =>
  LNS v10 fun v11 =>
  BI BinOp.gtr v11 (AV.int IntKind.i64 60) fun v12 =>
  CNDC v12
  (Q (AV.int IntKind.i64 4) (H.put nx (some (AObj.row a0.cells.length a0.cells))) (nx + 1))
  (LD false 1 (AV.ptr nx 1) (H.put nx (some (AObj.row a0.cells.length a0.cells))) fun v13 =>
  BI BinOp.neq v13 (AV.int IntKind.i64 0) fun v14 =>
  CNDC v14
  (Q (AV.int IntKind.i64 2) (H.put nx (some (AObj.row a0.cells.length a0.cells))) (nx + 1))
  (Q (AV.int IntKind.i64 0) (H.put nx (some (AObj.row a0.cells.length a0.cells))) (nx + 1))))
  (BI BinOp.eql v1 (AV.int IntKind.i64 2) fun v15 =>
  CNDC v15
  (LD false 1 (AV.ptr nx 1) (H.put nx (some (AObj.row a0.cells.length a0.cells))) fun v16 =>
  BI BinOp.lss v16 (AV.int IntKind.i64 0) fun v17 =>
  CND v17
  (Q (AV.int IntKind.i64 6) (H.put nx (some (AObj.row a0.cells.length a0.cells))) (nx + 1))
  (LD false 1 (AV.ptr nx 1) (H.put nx (some (AObj.row a0.cells.length a0.cells))) fun v18 =>
  BI BinOp.geq v18 a1 fun v19 =>
  CNDC v19
  (Q (AV.int IntKind.i64 6) (H.put nx (some (AObj.row a0.cells.length a0.cells))) (nx + 1))
  (LD false 1 (AV.ptr nx 2) (H.put nx (some (AObj.row a0.cells.length a0.cells))) fun v20 =>
  BS BinOp.neq v20 (AV.str []) fun v21 =>
  CNDC v21
  (Q (AV.int IntKind.i64 2) (H.put nx (some (AObj.row a0.cells.length a0.cells))) (nx + 1))
  (Q (AV.int IntKind.i64 0) (H.put nx (some (AObj.row a0.cells.length a0.cells))) (nx + 1)))))
  (Q (AV.int IntKind.i64 1) (H.put nx (some (AObj.row a0.cells.length a0.cells))) (nx + 1))))
theorem zwref1_WrongValue_eq (a0 a1 : AV) (H : Heap) (nx : Nat) (Q : AV → Heap → Nat → Prop) : body Tryd.prog tab eqsT (lvOf zwref1_WrongValue_lv) Tryd.f12 (codeOf Tryd.f12) [a0, a1] H nx Q = zwref1_WrongValue_vc a0 a1 H nx Q := by kernel_rfl
theorem zwref1_WrongValue_calls (a0 a1 : AV) (H : Heap) (nx : Nat) (Q : AV → Heap → Nat → Prop) : zwref1_WrongValue_vc a0 a1 H nx Q → ACalls Tryd.prog 12 [a0, a1] H nx Q :=
  acalls_eq (lv := lvOf zwref1_WrongValue_lv) (c := codeOf Tryd.f12) tabOk eqsOk mixed Tryd.func12 (by kernel_rfl) (by kernel_rfl) (by kernel_rfl) (by kernel_rfl) (zwref1_WrongValue_eq a0 a1 H nx Q)

/-- wanderstaff/cell.Two$1 -/
def cell_Two_1_lv : List (Nat × Nat × List Nat) := []
def cell_Two_1_vc (a0 : AV) (H : Heap) (nx : Nat) (Q : AV → Heap → Nat → Prop) : Prop :=
  CNDC a0
  (ST 3 (AV.ptr nx 0) (AV.agg [AV.int IntKind.i64 0, AV.int IntKind.i64 1, AV.str []]) (H.put nx (some (AObj.row 3 [AV.int IntKind.i64 0, AV.int IntKind.i64 0, AV.str []]))) fun H1 =>
  LD true 3 (AV.ptr nx 0) H1 fun v2 =>
  Q (AV.tup [v2, AV.int IntKind.i64 0]) H1 (nx + 1))
  (ST 3 (AV.ptr nx 0) (AV.agg [AV.int IntKind.i64 0, AV.int IntKind.i64 0, AV.str []]) (H.put nx (some (AObj.row 3 [AV.int IntKind.i64 0, AV.int IntKind.i64 0, AV.str []]))) fun H3 =>
  LD true 3 (AV.ptr nx 0) H3 fun v4 =>
  Q (AV.tup [v4, AV.int IntKind.i64 0]) H3 (nx + 1))
theorem cell_Two_1_eq (a0 : AV) (H : Heap) (nx : Nat) (Q : AV → Heap → Nat → Prop) : body Tryd.prog tab eqsT (lvOf cell_Two_1_lv) Tryd.f36 (codeOf Tryd.f36) [a0] H nx Q = cell_Two_1_vc a0 H nx Q := by kernel_rfl
theorem cell_Two_1_calls (a0 : AV) (H : Heap) (nx : Nat) (Q : AV → Heap → Nat → Prop) : cell_Two_1_vc a0 H nx Q → ACalls Tryd.prog 36 [a0] H nx Q :=
  acalls_eq (lv := lvOf cell_Two_1_lv) (c := codeOf Tryd.f36) tabOk eqsOk mixed Tryd.func36 (by kernel_rfl) (by kernel_rfl) (by kernel_rfl) (by kernel_rfl) (cell_Two_1_eq a0 H nx Q)

/-- wanderstaff/cell.Two -/
def cell_Two_lv : List (Nat × Nat × List Nat) := [(0, 1, [0, 4, 5, 6, 14]), (0, 6, [0, 4, 5, 6, 8, 26]), (0, 8, [0, 4, 5, 6, 8, 45])]
def cell_Two_k1 (xs1 : List AV) (Q : AV → Heap → Nat → Prop) (v11 : AV) (H12 : Heap) (nx13 : Nat) : Prop :=
  EX v11 0 fun v14 =>
  EX v11 1 fun v15 =>
  ST 3 (nth xs1 3) v14 H12 fun H16 =>
  LD true 3 (nth xs1 3) H16 fun v17 =>
  Q (AV.tup [v17, v15]) H16 nx13
def cell_Two_k2 (xs18 : List AV) (Q : AV → Heap → Nat → Prop) (v27 : AV) (H28 : Heap) (nx29 : Nat) : Prop :=
  ST 3 (nth xs18 3) v27 H28 fun H30 =>
  LD true 3 (nth xs18 3) H30 fun v31 =>
  Q (AV.tup [v31, AV.int IntKind.i64 0]) H30 nx29
def cell_Two_k3 (xs32 : List AV) (Q : AV → Heap → Nat → Prop) (v41 : AV) (H42 : Heap) (nx43 : Nat) : Prop :=
  EX v41 0 fun v44 =>
  EX v41 1 fun v45 =>
  ST 3 (nth xs32 3) v44 H42 fun H46 =>
  LD true 3 (nth xs32 3) H46 fun v47 =>
  Q (AV.tup [v47, v45]) H46 nx43
def cell_Two_k4 (xs32 : List AV) (Q : AV → Heap → Nat → Prop) (v64 : AV) (H65 : Heap) (nx66 : Nat) : Prop :=
  ST 3 (nth xs32 3) v64 H65 fun H67 =>
  LD true 3 (nth xs32 3) H67 fun v68 =>
  Q (AV.tup [v68, AV.int IntKind.i64 0]) H67 nx66
def cell_Two_k5 (xs32 : List AV) (Q : AV → Heap → Nat → Prop) (v75 : AV) (H76 : Heap) (nx77 : Nat) : Prop :=
  ST 3 (nth xs32 3) v75 H76 fun H78 =>
  LD true 3 (nth xs32 3) H78 fun v79 =>
  Q (AV.tup [v79, AV.int IntKind.i64 0]) H78 nx77
def cell_Two_k6 (xs32 : List AV) (Q : AV → Heap → Nat → Prop) (v86 : AV) (H87 : Heap) (nx88 : Nat) : Prop :=
  ST 3 (nth xs32 3) v86 H87 fun H89 =>
  LD true 3 (nth xs32 3) H89 fun v90 =>
  Q (AV.tup [v90, AV.int IntKind.i64 0]) H89 nx88
def cell_Two_k7 (xs32 : List AV) (Q : AV → Heap → Nat → Prop) (v96 : AV) (H97 : Heap) (nx98 : Nat) : Prop :=
  EX v96 0 fun v99 =>
  EX v96 1 fun v100 =>
  ST 3 (nth xs32 3) v99 H97 fun H101 =>
  LD true 3 (nth xs32 3) H101 fun v102 =>
  Q (AV.tup [v102, v100]) H101 nx98
def cell_Two_j1 (Q : AV → Heap → Nat → Prop) (xs32 : List AV) (H33 : Heap) (nx34 : Nat) : Prop :=
  CNDC (nth xs32 5)
  (FA 2 (nth xs32 1) fun v36 =>
  LD false 1 v36 H33 fun v37 =>
  FA 2 (nth xs32 2) fun v38 =>
  LD false 1 v38 H33 fun v39 =>
  BS BinOp.lss v37 v39 fun v40 =>
  CALL Tryd.prog (nth xs32 4) [v40] H33 nx34 (cell_Two_k3 xs32 Q))
  (FA 0 (nth xs32 1) fun v48 =>
  LD false 1 v48 H33 fun v49 =>
  BI BinOp.neq v49 (AV.int IntKind.i64 0) fun v50 =>
  CND v50
  (ST 3 (nth xs32 3) (AV.agg [AV.int IntKind.i64 0, AV.int IntKind.i64 0, AV.str []]) H33 fun H51 =>
  LD true 3 (nth xs32 3) H51 fun v52 =>
  Q (AV.tup [v52, AV.int IntKind.i64 11]) H51 nx34)
  (FA 0 (nth xs32 2) fun v53 =>
  LD false 1 v53 H33 fun v54 =>
  BI BinOp.neq v54 (AV.int IntKind.i64 0) fun v55 =>
  CNDC v55
  (ST 3 (nth xs32 3) (AV.agg [AV.int IntKind.i64 0, AV.int IntKind.i64 0, AV.str []]) H33 fun H56 =>
  LD true 3 (nth xs32 3) H56 fun v57 =>
  Q (AV.tup [v57, AV.int IntKind.i64 11]) H56 nx34)
  (BI BinOp.eql (nth xs32 0) (AV.int IntKind.i64 1) fun v58 =>
  CNDC v58
  (FA 1 (nth xs32 1) fun v59 =>
  LD false 1 v59 H33 fun v60 =>
  FA 1 (nth xs32 2) fun v61 =>
  LD false 1 v61 H33 fun v62 =>
  BI BinOp.add v60 v62 fun v63 =>
  ACalls Tryd.prog 7 [v63] H33 nx34 (cell_Two_k4 xs32 Q))
  (BI BinOp.eql (nth xs32 0) (AV.int IntKind.i64 2) fun v69 =>
  CNDC v69
  (FA 1 (nth xs32 1) fun v70 =>
  LD false 1 v70 H33 fun v71 =>
  FA 1 (nth xs32 2) fun v72 =>
  LD false 1 v72 H33 fun v73 =>
  BI BinOp.sub v71 v73 fun v74 =>
  ACalls Tryd.prog 7 [v74] H33 nx34 (cell_Two_k5 xs32 Q))
  (BI BinOp.eql (nth xs32 0) (AV.int IntKind.i64 3) fun v80 =>
  CNDC v80
  (FA 1 (nth xs32 1) fun v81 =>
  LD false 1 v81 H33 fun v82 =>
  FA 1 (nth xs32 2) fun v83 =>
  LD false 1 v83 H33 fun v84 =>
  BI BinOp.mul v82 v84 fun v85 =>
  ACalls Tryd.prog 7 [v85] H33 nx34 (cell_Two_k6 xs32 Q))
  (FA 1 (nth xs32 1) fun v91 =>
  LD false 1 v91 H33 fun v92 =>
  FA 1 (nth xs32 2) fun v93 =>
  LD false 1 v93 H33 fun v94 =>
  BI BinOp.lss v92 v94 fun v95 =>
  CALL Tryd.prog (nth xs32 4) [v95] H33 nx34 (cell_Two_k7 xs32 Q)))))))
def cell_Two_b1 (xs18 : List AV) (H19 : Heap) (nx20 : Nat) (j35 : J3) : Prop :=
  FA 0 (nth xs18 1) fun v103 =>
  LD false 1 v103 H19 fun v104 =>
  BI BinOp.eql v104 (AV.int IntKind.i64 1) fun v105 =>
  CND v105
  (FA 0 (nth xs18 2) fun v106 =>
  LD false 1 v106 H19 fun v107 =>
  BI BinOp.eql v107 (AV.int IntKind.i64 1) fun v108 =>
  CND v108
  (BI BinOp.eql (nth xs18 0) (AV.int IntKind.i64 4) fun v109 =>
  j35 [nth xs18 0, nth xs18 1, nth xs18 2, nth xs18 3, nth xs18 4, v109] H19 nx20)
  (j35 [nth xs18 0, nth xs18 1, nth xs18 2, nth xs18 3, nth xs18 4, AV.bool false] H19 nx20))
  (j35 [nth xs18 0, nth xs18 1, nth xs18 2, nth xs18 3, nth xs18 4, AV.bool false] H19 nx20)
def cell_Two_j2 (Q : AV → Heap → Nat → Prop) (xs18 : List AV) (H19 : Heap) (nx20 : Nat) : Prop :=
  CNDC (nth xs18 5)
  (FA 2 (nth xs18 1) fun v22 =>
  LD false 1 v22 H19 fun v23 =>
  FA 2 (nth xs18 2) fun v24 =>
  LD false 1 v24 H19 fun v25 =>
  BS BinOp.add v23 v25 fun v26 =>
  ACalls Tryd.prog 9 [v26] H19 nx20 (cell_Two_k2 xs18 Q))
  (JN (cell_Two_j1 Q) (cell_Two_b1 xs18 H19 nx20))
def cell_Two_b2 (xs1 : List AV) (H2 : Heap) (nx3 : Nat) (j21 : J3) : Prop :=
  FA 0 (nth xs1 1) fun v110 =>
  LD false 1 v110 H2 fun v111 =>
  BI BinOp.eql v111 (AV.int IntKind.i64 1) fun v112 =>
  CND v112
  (FA 0 (nth xs1 2) fun v113 =>
  LD false 1 v113 H2 fun v114 =>
  BI BinOp.eql v114 (AV.int IntKind.i64 1) fun v115 =>
  CND v115
  (BI BinOp.eql (nth xs1 0) (AV.int IntKind.i64 1) fun v116 =>
  j21 [nth xs1 0, nth xs1 1, nth xs1 2, nth xs1 3, AV.clo 36 [], v116] H2 nx3)
  (j21 [nth xs1 0, nth xs1 1, nth xs1 2, nth xs1 3, AV.clo 36 [], AV.bool false] H2 nx3))
  (j21 [nth xs1 0, nth xs1 1, nth xs1 2, nth xs1 3, AV.clo 36 [], AV.bool false] H2 nx3)
def cell_Two_j3 (Q : AV → Heap → Nat → Prop) (xs1 : List AV) (H2 : Heap) (nx3 : Nat) : Prop :=
  CNDC (nth xs1 4)
  (ST 3 (nth xs1 3) (AV.agg [AV.int IntKind.i64 0, AV.int IntKind.i64 0, AV.str []]) H2 fun H5 =>
  LD true 3 (nth xs1 3) H5 fun v6 =>
  Q (AV.tup [v6, AV.int IntKind.i64 1]) H5 nx3)
  (BI BinOp.eql (nth xs1 0) (AV.int IntKind.i64 5) fun v7 =>
  CNDC v7
  (LD true 3 (nth xs1 1) H2 fun v8 =>
  LD true 3 (nth xs1 2) H2 fun v9 =>
  gd (eqsT 25) (
  BA [AV.int IntKind.i64 0, AV.int IntKind.i64 0, AV.str []] BinOp.eql v8 v9 fun v10 =>
  ACalls Tryd.prog 36 [v10] H2 nx3 (cell_Two_k1 xs1 Q)))
  (JN (cell_Two_j2 Q) (cell_Two_b2 xs1 H2 nx3)))
def cell_Two_b3 (a0 : AV) (nx : Nat) (H : Heap) (a1 : AV) (a2 : AV) (j4 : J3) : Prop :=
  BI BinOp.lss a0 (AV.int IntKind.i64 1) fun v117 =>
  CND v117
  (j4 [a0, AV.ptr nx 0, AV.ptr (nx + 1) 0, AV.ptr (nx + 2) 0, AV.bool true] (((H.put nx (some (AObj.row a1.cells.length a1.cells))).put ((nx + 1)) (some (AObj.row a2.cells.length a2.cells))).put ((nx + 2)) (some (AObj.row 3 [AV.int IntKind.i64 0, AV.int IntKind.i64 0, AV.str []]))) (nx + 3))
  (BI BinOp.gtr a0 (AV.int IntKind.i64 5) fun v118 =>
  j4 [a0, AV.ptr nx 0, AV.ptr (nx + 1) 0, AV.ptr (nx + 2) 0, v118] (((H.put nx (some (AObj.row a1.cells.length a1.cells))).put ((nx + 1)) (some (AObj.row a2.cells.length a2.cells))).put ((nx + 2)) (some (AObj.row 3 [AV.int IntKind.i64 0, AV.int IntKind.i64 0, AV.str []]))) (nx + 3))
def cell_Two_vc (a0 a1 a2 : AV) (H : Heap) (nx : Nat) (Q : AV → Heap → Nat → Prop) : Prop :=
  a1.sure = true ∧
  a2.sure = true ∧
  JN (cell_Two_j3 Q) (cell_Two_b3 a0 nx H a1 a2)
theorem cell_Two_eq (a0 a1 a2 : AV) (H : Heap) (nx : Nat) (Q : AV → Heap → Nat → Prop) : body Tryd.prog tab eqsT (lvOf cell_Two_lv) Tryd.f13 (codeOf Tryd.f13) [a0, a1, a2] H nx Q = cell_Two_vc a0 a1 a2 H nx Q := by kernel_rfl
theorem cell_Two_calls (a0 a1 a2 : AV) (H : Heap) (nx : Nat) (Q : AV → Heap → Nat → Prop) : cell_Two_vc a0 a1 a2 H nx Q → ACalls Tryd.prog 13 [a0, a1, a2] H nx Q :=
  acalls_eq (lv := lvOf cell_Two_lv) (c := codeOf Tryd.f13) tabOk eqsOk mixed Tryd.func13 (by kernel_rfl) (by kernel_rfl) (by kernel_rfl) (by kernel_rfl) (cell_Two_eq a0 a1 a2 H nx Q)

/-- wanderstaff/zwref1.Two$1 -/
def zwref1_Two_1_lv : List (Nat × Nat × List Nat) := []
def zwref1_Two_1_vc (a0 : AV) (H : Heap) (nx : Nat) (Q : AV → Heap → Nat → Prop) : Prop :=
  keyFit (AK.bool) (AV.bool true) = true ∧
  MU (AV.amap (nx + 1)) (AV.bool true) (AV.int IntKind.i64 1) ((H.put nx (some (AObj.row 3 [AV.int IntKind.i64 0, AV.int IntKind.i64 0, AV.str []]))).put ((nx + 1)) (some (AObj.mp []))) fun H1 =>
  keyFit (AK.bool) (AV.bool false) = true ∧
  MU (AV.amap (nx + 1)) (AV.bool false) (AV.int IntKind.i64 0) H1 fun H2 =>
  keyFit (AK.bool) a0 = true ∧
  LK [AV.int IntKind.i64 0] false (AV.amap (nx + 1)) a0 false H2 fun v3 =>
  BD (placeOf tab [(3, 0), (3, 1), (9, 2)]) [AV.int IntKind.i64 0, AV.int IntKind.i64 0, AV.str []] [(1, v3)] fun v4 =>
  ST 3 (AV.ptr nx 0) v4 H2 fun H5 =>
  LD true 3 (AV.ptr nx 0) H5 fun v6 =>
  Q (AV.tup [v6, AV.int IntKind.i64 0]) H5 (nx + 2)
theorem zwref1_Two_1_eq (a0 : AV) (H : Heap) (nx : Nat) (Q : AV → Heap → Nat → Prop) : body Tryd.prog tab eqsT (lvOf zwref1_Two_1_lv) Tryd.f37 (codeOf Tryd.f37) [a0] H nx Q = zwref1_Two_1_vc a0 H nx Q := by kernel_rfl
theorem zwref1_Two_1_calls (a0 : AV) (H : Heap) (nx : Nat) (Q : AV → Heap → Nat → Prop) : zwref1_Two_1_vc a0 H nx Q → ACalls Tryd.prog 37 [a0] H nx Q :=
  acalls_eq (lv := lvOf zwref1_Two_1_lv) (c := codeOf Tryd.f37) tabOk eqsOk mixed Tryd.func37 (by kernel_rfl) (by kernel_rfl) (by kernel_rfl) (by kernel_rfl) (zwref1_Two_1_eq a0 H nx Q)

/-- wanderstaff/zwref1.Two -/
def zwref1_Two_lv : List (Nat × Nat × List Nat) := [(0, 2, [0, 4, 5, 6, 8, 14]), (3, 12, [0, 4, 5, 6, 8])]
def zwref1_Two_k1 (xs1 : List AV) (Q : AV → Heap → Nat → Prop) (v23 : AV) (H24 : Heap) (nx25 : Nat) : Prop :=
  EX v23 0 fun v26 =>
  EX v23 1 fun v27 =>
  ST 3 (nth xs1 3) v26 H24 fun H28 =>
  LD true 3 (nth xs1 3) H28 fun v29 =>
  Q (AV.tup [v29, v27]) H28 nx25
def zwref1_Two_k2 (xs1 : List AV) (Q : AV → Heap → Nat → Prop) (v30 : AV) (H31 : Heap) (nx32 : Nat) : Prop :=
  EX v30 0 fun v33 =>
  EX v30 1 fun v34 =>
  ST 3 (nth xs1 3) v33 H31 fun H35 =>
  LD true 3 (nth xs1 3) H35 fun v36 =>
  Q (AV.tup [v36, v34]) H35 nx32
def zwref1_Two_k3 (xs1 : List AV) (Q : AV → Heap → Nat → Prop) (v37 : AV) (H38 : Heap) (nx39 : Nat) : Prop :=
  EX v37 0 fun v40 =>
  EX v37 1 fun v41 =>
  ST 3 (nth xs1 3) v40 H38 fun H42 =>
  LD true 3 (nth xs1 3) H42 fun v43 =>
  Q (AV.tup [v43, v41]) H42 nx39
def zwref1_Two_k4 (xs44 : List AV) (Q : AV → Heap → Nat → Prop) (v67 : AV) (H68 : Heap) (nx69 : Nat) : Prop :=
  ST 3 (nth xs44 3) v67 H68 fun H70 =>
  LD true 3 (nth xs44 3) H70 fun v71 =>
  Q (AV.tup [v71, AV.int IntKind.i64 0]) H70 nx69
def zwref1_Two_k5 (xs44 : List AV) (Q : AV → Heap → Nat → Prop) (v78 : AV) (H79 : Heap) (nx80 : Nat) : Prop :=
  ST 3 (nth xs44 3) v78 H79 fun H81 =>
  LD true 3 (nth xs44 3) H81 fun v82 =>
  Q (AV.tup [v82, AV.int IntKind.i64 0]) H81 nx80
def zwref1_Two_k6 (xs44 : List AV) (Q : AV → Heap → Nat → Prop) (v89 : AV) (H90 : Heap) (nx91 : Nat) : Prop :=
  ST 3 (nth xs44 3) v89 H90 fun H92 =>
  LD true 3 (nth xs44 3) H92 fun v93 =>
  Q (AV.tup [v93, AV.int IntKind.i64 0]) H92 nx91
def zwref1_Two_k7 (xs44 : List AV) (Q : AV → Heap → Nat → Prop) (v99 : AV) (H100 : Heap) (nx101 : Nat) : Prop :=
  EX v99 0 fun v102 =>
  EX v99 1 fun v103 =>
  ST 3 (nth xs44 3) v102 H100 fun H104 =>
  LD true 3 (nth xs44 3) H104 fun v105 =>
  Q (AV.tup [v105, v103]) H104 nx101
def zwref1_Two_k8 (xs1 : List AV) (Q : AV → Heap → Nat → Prop) (v118 : AV) (H119 : Heap) (nx120 : Nat) : Prop :=
  ST 3 (nth xs1 3) v118 H119 fun H121 =>
  LD true 3 (nth xs1 3) H121 fun v122 =>
  Q (AV.tup [v122, AV.int IntKind.i64 0]) H121 nx120
def zwref1_Two_k9 (xs1 : List AV) (Q : AV → Heap → Nat → Prop) (v129 : AV) (H130 : Heap) (nx131 : Nat) : Prop :=
  EX v129 0 fun v132 =>
  EX v129 1 fun v133 =>
  ST 3 (nth xs1 3) v132 H130 fun H134 =>
  LD true 3 (nth xs1 3) H134 fun v135 =>
  Q (AV.tup [v135, v133]) H134 nx131
def zwref1_Two_j1 (Q : AV → Heap → Nat → Prop) (xs44 : List AV) (H45 : Heap) (nx46 : Nat) : Prop :=
  FA 0 (nth xs44 1) fun v48 =>
  LD false 1 v48 H45 fun v49 =>
  FA 0 (nth xs44 2) fun v50 =>
  LD false 1 v50 H45 fun v51 =>
  BI BinOp.add v49 v51 fun v52 =>
  BI BinOp.neq v52 (AV.int IntKind.i64 0) fun v53 =>
  CND v53
  (ST 3 (nth xs44 3) (AV.agg [AV.int IntKind.i64 0, AV.int IntKind.i64 0, AV.str []]) H45 fun H54 =>
  LD true 3 (nth xs44 3) H54 fun v55 =>
  Q (AV.tup [v55, AV.int IntKind.i64 11]) H54 nx46)
  (FA 0 (nth xs44 1) fun v56 =>
  LD false 1 v56 H45 fun v57 =>
  BI BinOp.neq v57 (AV.int IntKind.i64 0) fun v58 =>
  CNDC v58
  (ST 3 (nth xs44 3) (AV.agg [AV.int IntKind.i64 0, AV.int IntKind.i64 0, AV.str []]) H45 fun H59 =>
  LD true 3 (nth xs44 3) H59 fun v60 =>
  Q (AV.tup [v60, AV.int IntKind.i64 11]) H59 nx46)
  (BI BinOp.eql (nth xs44 0) (AV.int IntKind.i64 1) fun v61 =>
  CNDC v61
  (FA 1 (nth xs44 1) fun v62 =>
  LD false 1 v62 H45 fun v63 =>
  FA 1 (nth xs44 2) fun v64 =>
  LD false 1 v64 H45 fun v65 =>
  BI BinOp.add v63 v65 fun v66 =>
  ACalls Tryd.prog 8 [v66] H45 nx46 (zwref1_Two_k4 xs44 Q))
  (BI BinOp.eql (nth xs44 0) (AV.int IntKind.i64 2) fun v72 =>
  CNDC v72
  (FA 1 (nth xs44 1) fun v73 =>
  LD false 1 v73 H45 fun v74 =>
  FA 1 (nth xs44 2) fun v75 =>
  LD false 1 v75 H45 fun v76 =>
  BI BinOp.sub v74 v76 fun v77 =>
  ACalls Tryd.prog 8 [v77] H45 nx46 (zwref1_Two_k5 xs44 Q))
  (BI BinOp.eql (nth xs44 0) (AV.int IntKind.i64 3) fun v83 =>
  CNDC v83
  (FA 1 (nth xs44 1) fun v84 =>
  LD false 1 v84 H45 fun v85 =>
  FA 1 (nth xs44 2) fun v86 =>
  LD false 1 v86 H45 fun v87 =>
  BI BinOp.mul v85 v87 fun v88 =>
  ACalls Tryd.prog 8 [v88] H45 nx46 (zwref1_Two_k6 xs44 Q))
  (FA 1 (nth xs44 1) fun v94 =>
  LD false 1 v94 H45 fun v95 =>
  FA 1 (nth xs44 2) fun v96 =>
  LD false 1 v96 H45 fun v97 =>
  BI BinOp.lss v95 v97 fun v98 =>
  CALL Tryd.prog (nth xs44 4) [v98] H45 nx46 (zwref1_Two_k7 xs44 Q))))))
def zwref1_Two_b1 (xs1 : List AV) (H2 : Heap) (nx3 : Nat) (Q : AV → Heap → Nat → Prop) (j47 : J3) : Prop :=
  FA 0 (nth xs1 1) fun v106 =>
  LD false 1 v106 H2 fun v107 =>
  BI BinOp.eql v107 (AV.int IntKind.i64 1) fun v108 =>
  CND v108
  (FA 0 (nth xs1 2) fun v109 =>
  LD false 1 v109 H2 fun v110 =>
  BI BinOp.eql v110 (AV.int IntKind.i64 1) fun v111 =>
  CNDC v111
  (BI BinOp.eql (nth xs1 0) (AV.int IntKind.i64 1) fun v112 =>
  CNDC v112
  (FA 2 (nth xs1 1) fun v113 =>
  LD false 1 v113 H2 fun v114 =>
  FA 2 (nth xs1 2) fun v115 =>
  LD false 1 v115 H2 fun v116 =>
  BS BinOp.add v114 v116 fun v117 =>
  ACalls Tryd.prog 10 [v117] H2 nx3 (zwref1_Two_k8 xs1 Q))
  (BI BinOp.eql (nth xs1 0) (AV.int IntKind.i64 4) fun v123 =>
  CNDC v123
  (FA 2 (nth xs1 1) fun v124 =>
  LD false 1 v124 H2 fun v125 =>
  FA 2 (nth xs1 2) fun v126 =>
  LD false 1 v126 H2 fun v127 =>
  BS BinOp.lss v125 v127 fun v128 =>
  CALL Tryd.prog (nth xs1 4) [v128] H2 nx3 (zwref1_Two_k9 xs1 Q))
  (j47 [nth xs1 0, nth xs1 1, nth xs1 2, nth xs1 3, nth xs1 4] H2 nx3)))
  (j47 [nth xs1 0, nth xs1 1, nth xs1 2, nth xs1 3, nth xs1 4] H2 nx3))
  (j47 [nth xs1 0, nth xs1 1, nth xs1 2, nth xs1 3, nth xs1 4] H2 nx3)
def zwref1_Two_j2 (Q : AV → Heap → Nat → Prop) (xs1 : List AV) (H2 : Heap) (nx3 : Nat) : Prop :=
  CNDC (nth xs1 5)
  (ST 3 (nth xs1 3) (AV.agg [AV.int IntKind.i64 0, AV.int IntKind.i64 0, AV.str []]) H2 fun H5 =>
  LD true 3 (nth xs1 3) H5 fun v6 =>
  Q (AV.tup [v6, AV.int IntKind.i64 1]) H5 nx3)
  (BI BinOp.eql (nth xs1 0) (AV.int IntKind.i64 5) fun v7 =>
  CNDC v7
  (FA 0 (nth xs1 1) fun v8 =>
  LD false 1 v8 H2 fun v9 =>
  FA 0 (nth xs1 2) fun v10 =>
  LD false 1 v10 H2 fun v11 =>
  BI BinOp.eql v9 v11 fun v12 =>
  CND v12
  (FA 1 (nth xs1 1) fun v13 =>
  LD false 1 v13 H2 fun v14 =>
  FA 1 (nth xs1 2) fun v15 =>
  LD false 1 v15 H2 fun v16 =>
  BI BinOp.eql v14 v16 fun v17 =>
  CND v17
  (FA 2 (nth xs1 1) fun v18 =>
  LD false 1 v18 H2 fun v19 =>
  FA 2 (nth xs1 2) fun v20 =>
  LD false 1 v20 H2 fun v21 =>
  BS BinOp.eql v19 v21 fun v22 =>
  CALL Tryd.prog (nth xs1 4) [v22] H2 nx3 (zwref1_Two_k1 xs1 Q))
  (CALL Tryd.prog (nth xs1 4) [AV.bool false] H2 nx3 (zwref1_Two_k2 xs1 Q)))
  (CALL Tryd.prog (nth xs1 4) [AV.bool false] H2 nx3 (zwref1_Two_k3 xs1 Q)))
  (JN (zwref1_Two_j1 Q) (zwref1_Two_b1 xs1 H2 nx3 Q)))
def zwref1_Two_b2 (a0 : AV) (nx : Nat) (H : Heap) (a1 : AV) (a2 : AV) (j4 : J3) : Prop :=
  BI BinOp.lss a0 (AV.int IntKind.i64 1) fun v136 =>
  CND v136
  (j4 [a0, AV.ptr nx 0, AV.ptr (nx + 1) 0, AV.ptr (nx + 2) 0, AV.clo 37 [], AV.bool true] (((H.put nx (some (AObj.row a1.cells.length a1.cells))).put ((nx + 1)) (some (AObj.row a2.cells.length a2.cells))).put ((nx + 2)) (some (AObj.row 3 [AV.int IntKind.i64 0, AV.int IntKind.i64 0, AV.str []]))) (nx + 3))
  (BI BinOp.gtr a0 (AV.int IntKind.i64 5) fun v137 =>
  j4 [a0, AV.ptr nx 0, AV.ptr (nx + 1) 0, AV.ptr (nx + 2) 0, AV.clo 37 [], v137] (((H.put nx (some (AObj.row a1.cells.length a1.cells))).put ((nx + 1)) (some (AObj.row a2.cells.length a2.cells))).put ((nx + 2)) (some (AObj.row 3 [AV.int IntKind.i64 0, AV.int IntKind.i64 0, AV.str []]))) (nx + 3))
def zwref1_Two_vc (a0 a1 a2 : AV) (H : Heap) (nx : Nat) (Q : AV → Heap → Nat → Prop) : Prop :=
  a1.sure = true ∧
  a2.sure = true ∧
  JN (zwref1_Two_j2 Q) (zwref1_Two_b2 a0 nx H a1 a2)
theorem zwref1_Two_eq (a0 a1 a2 : AV) (H : Heap) (nx : Nat) (Q : AV → Heap → Nat → Prop) : body Tryd.prog tab eqsT (lvOf zwref1_Two_lv) Tryd.f14 (codeOf Tryd.f14) [a0, a1, a2] H nx Q = zwref1_Two_vc a0 a1 a2 H nx Q := by kernel_rfl
theorem zwref1_Two_calls (a0 a1 a2 : AV) (H : Heap) (nx : Nat) (Q : AV → Heap → Nat → Prop) : zwref1_Two_vc a0 a1 a2 H nx Q → ACalls Tryd.prog 14 [a0, a1, a2] H nx Q :=
  acalls_eq (lv := lvOf zwref1_Two_lv) (c := codeOf Tryd.f14) tabOk eqsOk mixed Tryd.func14 (by kernel_rfl) (by kernel_rfl) (by kernel_rfl) (by kernel_rfl) (zwref1_Two_eq a0 a1 a2 H nx Q)

/-- wanderstaff/zwref1.Right -/
def zwref1_Right_lv : List (Nat × Nat × List Nat) := [(2, 2, [0, 9, 10, 11]), (2, 8, [0, 21, 22, 23])]
def zwref1_Right_k1 (Q : AV → Heap → Nat → Prop) (xs3 : List AV) (K2 : J3) (v12 : AV) (H13 : Heap) (nx14 : Nat) : Prop :=
  BI BinOp.neq v12 (AV.int IntKind.i64 0) fun v15 =>
  CNDC v15
  (Q (AV.bool false) H13 nx14)
  (BI BinOp.add (nth xs3 3) (AV.int IntKind.i64 1) fun v16 =>
  K2 [nth xs3 0, nth xs3 1, nth xs3 2, v16] H13 nx14)
def zwref1_Right_k2 (Q : AV → Heap → Nat → Prop) (xs19 : List AV) (K18 : J3) (v34 : AV) (H35 : Heap) (nx36 : Nat) : Prop :=
  BI BinOp.neq v34 (AV.int IntKind.i64 0) fun v37 =>
  CNDC v37
  (Q (AV.bool false) H35 nx36)
  (BI BinOp.add (nth xs19 3) (AV.int IntKind.i64 1) fun v38 =>
  K18 [nth xs19 0, nth xs19 1, nth xs19 2, v38] H35 nx36)
def zwref1_Right_k3 (Q : AV → Heap → Nat → Prop) (nx21 : Nat) (xs19 : List AV) (K18 : J3) (v28 : AV) (H29 : Heap) (nx30 : Nat) : Prop :=
  BI BinOp.neq v28 (AV.int IntKind.i64 0) fun v31 =>
  CND v31
  (Q (AV.bool false) H29 nx30)
  (LD true 3 (AV.ptr nx21 3) H29 fun v32 =>
  LNL (nth xs19 0) fun v33 =>
  ACalls Tryd.prog 12 [v32, v33] H29 nx30 (zwref1_Right_k2 Q xs19 K18))
def zwref1_Right_l1 (Q : AV → Heap → Nat → Prop) (K18 : J3) (xs19 : List AV) (H20 : Heap) (nx21 : Nat) : Prop :=
  BI BinOp.lss (nth xs19 3) (nth xs19 2) fun v22 =>
  CNDC v22
  (IA 6 (nth xs19 1) (nth xs19 3) fun v23 =>
  LD true 6 v23 H20 fun v24 =>
  ST 6 (AV.ptr nx21 0) v24 (H20.put nx21 (some (AObj.row 6 [AV.int IntKind.i64 0, AV.int IntKind.i64 0, AV.str [], AV.int IntKind.i64 0, AV.int IntKind.i64 0, AV.str []]))) fun H25 =>
  LD true 3 (AV.ptr nx21 0) H25 fun v26 =>
  LNL (nth xs19 0) fun v27 =>
  ACalls Tryd.prog 12 [v26, v27] H25 (nx21 + 1) (zwref1_Right_k3 Q nx21 xs19 K18))
  (Q (AV.bool true) H20 nx21)
def zwref1_Right_l2 (Q : AV → Heap → Nat → Prop) (K2 : J3) (xs3 : List AV) (H4 : Heap) (nx5 : Nat) : Prop :=
  BI BinOp.lss (nth xs3 3) (nth xs3 2) fun v6 =>
  CNDC v6
  (IA 3 (nth xs3 1) (nth xs3 3) fun v7 =>
  LD true 3 v7 H4 fun v8 =>
  ST 3 (AV.ptr nx5 0) v8 (H4.put nx5 (some (AObj.row 3 [AV.int IntKind.i64 0, AV.int IntKind.i64 0, AV.str []]))) fun H9 =>
  LD true 3 (AV.ptr nx5 0) H9 fun v10 =>
  LNL (nth xs3 0) fun v11 =>
  ACalls Tryd.prog 12 [v10, v11] H9 (nx5 + 1) (zwref1_Right_k1 Q xs3 K2))
  (LNL (nth xs3 0) fun v17 =>
  LP (zwref1_Right_l1 Q) [nth xs3 0, nth xs3 0, v17, AV.int IntKind.i64 0] H4 nx5)
def zwref1_Right_vc (a0 a1 : AV) (H : Heap) (nx : Nat) (Q : AV → Heap → Nat → Prop) : Prop :=
  LNL a1 fun v1 =>
  LP (zwref1_Right_l2 Q) [a0, a1, v1, AV.int IntKind.i64 0] H nx
theorem zwref1_Right_eq (a0 a1 : AV) (H : Heap) (nx : Nat) (Q : AV → Heap → Nat → Prop) : body Tryd.prog tab eqsT (lvOf zwref1_Right_lv) Tryd.f15 (codeOf Tryd.f15) [a0, a1] H nx Q = zwref1_Right_vc a0 a1 H nx Q := by kernel_rfl
theorem zwref1_Right_calls (a0 a1 : AV) (H : Heap) (nx : Nat) (Q : AV → Heap → Nat → Prop) : zwref1_Right_vc a0 a1 H nx Q → ACalls Tryd.prog 15 [a0, a1] H nx Q :=
  acalls_eq (lv := lvOf zwref1_Right_lv) (c := codeOf Tryd.f15) tabOk eqsOk mixed Tryd.func15 (by kernel_rfl) (by kernel_rfl) (by kernel_rfl) (by kernel_rfl) (zwref1_Right_eq a0 a1 H nx Q)

/-- slices.Clone[[]wanderstaff/api.Value,wanderstaff/api.Value] -/
def slices_Clone_Value_lv : List (Nat × Nat × List Nat) := []
def slices_Clone_Value_vc (a0 : AV) (H : Heap) (nx : Nat) (Q : AV → Heap → Nat → Prop) : Prop :=
  BL BinOp.eql a0 AV.nils fun v1 =>
  CNDC v1
  (Q AV.nils H nx)
  (APP 3 32 (AV.slc nx 0 0) a0 (H.put nx (some (AObj.row 3 []))) (nx + 1) fun v2 H3 nx4 =>
  Q v2 H3 nx4)
theorem slices_Clone_Value_eq (a0 : AV) (H : Heap) (nx : Nat) (Q : AV → Heap → Nat → Prop) : body Tryd.prog tab eqsT (lvOf slices_Clone_Value_lv) Tryd.f39 (codeOf Tryd.f39) [a0] H nx Q = slices_Clone_Value_vc a0 H nx Q := by kernel_rfl
theorem slices_Clone_Value_calls (a0 : AV) (H : Heap) (nx : Nat) (Q : AV → Heap → Nat → Prop) : slices_Clone_Value_vc a0 H nx Q → ACalls Tryd.prog 39 [a0] H nx Q :=
  acalls_eq (lv := lvOf slices_Clone_Value_lv) (c := codeOf Tryd.f39) tabOk eqsOk mixed Tryd.func39 (by kernel_rfl) (by kernel_rfl) (by kernel_rfl) (by kernel_rfl) (slices_Clone_Value_eq a0 H nx Q)

/-- wanderstaff/cell.Canon -/
def cell_Canon_lv : List (Nat × Nat × List Nat) := [(2, 7, [0, 7, 8, 9, 10, 19, 20]), (2, 10, [0, 7, 8, 9, 10, 19, 20])]
def cell_Canon_k1 (v38 : AV) (xs19 : List AV) (nx36 : Nat) (H37 : Heap) (rd39 : List Nat) (K18 : J3) (v42 : AV) (rd43 : List Nat) (fr44 : List Nat) (D45 : Delta) : Prop :=
  BD (placeOf tab [(25, 0), (25, 3)]) [AV.int IntKind.i64 0, AV.int IntKind.i64 0, AV.str [], AV.int IntKind.i64 0, AV.int IntKind.i64 0, AV.str []] [(0, v38), (1, v42)] fun v46 =>
  BSL 1 6 [AV.int IntKind.i64 0, AV.int IntKind.i64 0, AV.str [], AV.int IntKind.i64 0, AV.int IntKind.i64 0, AV.str []] [(0, v46)] fun cells47 =>
  APPEND 6 64 (nth xs19 2) (AV.slc ((nx36 + 1) + fr44.length) 0 1) ((H37.apply D45).put (((nx36 + 1) + fr44.length)) (some (AObj.row 6 cells47))) (((nx36 + 1) + fr44.length) + 1) fun v48 rd49 fr50 D51 =>
  disjK (domD D45) [] (
  disjK (domD D45) rd39 (
  ((nx36 + 1) + fr44.length) ∉ [] ∧
  K18 [nth xs19 0, nth xs19 1, v48, nth xs19 3, nth xs19 4, nth xs19 5, nth xs19 6] (((H37.apply D45).put (((nx36 + 1) + fr44.length)) (some (AObj.row 6 cells47))).apply D51) ((((nx36 + 1) + fr44.length) + 1) + fr50.length)))
def cell_Canon_k2 (nx21 : Nat) (xs19 : List AV) (K18 : J3) (v34 : AV) (H35 : Heap) (nx36 : Nat) : Prop :=
  ST 3 (AV.ptr nx36 0) v34 (H35.put nx36 (some (AObj.row 3 [AV.int IntKind.i64 0, AV.int IntKind.i64 0, AV.str []]))) fun H37 =>
  LDR true 3 (AV.ptr nx36 0) H37 fun v38 rd39 =>
  LDR true 3 (AV.ptr nx21 3) H37 fun v40 rd41 =>
  CALLD Tryd.prog (nth xs19 3) [v40] H37 (nx36 + 1) (cell_Canon_k1 v38 xs19 nx36 H37 rd39 K18)
def cell_Canon_l1 (K6 : J3) (K18 : J3) (xs19 : List AV) (H20 : Heap) (nx21 : Nat) : Prop :=
  LNL (nth xs19 2) fun v22 =>
  LD false 1 (nth xs19 1) H20 fun v23 =>
  LNL v23 fun v24 =>
  BI BinOp.lss v22 v24 fun v25 =>
  CNDC v25
  (LD false 1 (nth xs19 1) H20 fun v26 =>
  LNL (nth xs19 2) fun v27 =>
  IA 1 v26 v27 fun v28 =>
  LD false 1 v28 H20 fun v29 =>
  IA 6 (nth xs19 0) v29 fun v30 =>
  LD true 6 v30 H20 fun v31 =>
  ST 6 (AV.ptr nx21 0) v31 (H20.put nx21 (some (AObj.row 6 [AV.int IntKind.i64 0, AV.int IntKind.i64 0, AV.str [], AV.int IntKind.i64 0, AV.int IntKind.i64 0, AV.str []]))) fun H32 =>
  LD true 3 (AV.ptr nx21 0) H32 fun v33 =>
  CALL Tryd.prog (nth xs19 3) [v33] H32 (nx21 + 1) (cell_Canon_k2 nx21 xs19 K18))
  (BI BinOp.add (nth xs19 6) (AV.int IntKind.i64 1) fun v52 =>
  K6 [nth xs19 0, nth xs19 1, nth xs19 2, nth xs19 3, nth xs19 4, nth xs19 5, v52] H20 nx21)
def cell_Canon_k3 (xs7 : List AV) (K6 : J3) (v13 : AV) (H14 : Heap) (nx15 : Nat) : Prop :=
  IA 3 (nth xs7 4) (nth xs7 6) fun v16 =>
  ST 3 v16 v13 H14 fun H17 =>
  LP (cell_Canon_l1 K6) [nth xs7 0, nth xs7 1, nth xs7 2, nth xs7 3, nth xs7 4, nth xs7 5, nth xs7 6] H17 nx15
def cell_Canon_l2 (Q : AV → Heap → Nat → Prop) (K6 : J3) (xs7 : List AV) (H8 : Heap) (nx9 : Nat) : Prop :=
  BI BinOp.lss (nth xs7 6) (nth xs7 5) fun v10 =>
  CNDC v10
  (IA 3 (nth xs7 4) (nth xs7 6) fun v11 =>
  LD true 3 v11 H8 fun v12 =>
  CALL Tryd.prog (nth xs7 3) [v12] H8 nx9 (cell_Canon_k3 xs7 K6))
  (Q (AV.tup [nth xs7 4, nth xs7 2]) H8 nx9)
def cell_Canon_k4 (Q : AV → Heap → Nat → Prop) (a0 : AV) (nx : Nat) (v2 : AV) (H3 : Heap) (nx4 : Nat) : Prop :=
  LNL v2 fun v5 =>
  LP (cell_Canon_l2 Q) [a0, AV.ptr (nx + 2) 0, AV.nils, AV.clo 38 [AV.ptr (nx + 1) 0, AV.ptr (nx + 2) 0], v2, v5, AV.int IntKind.i64 0] H3 nx4
def cell_Canon_vc (a0 a1 : AV) (H : Heap) (nx : Nat) (Q : AV → Heap → Nat → Prop) : Prop :=
  ST 1 (AV.ptr (nx + 1) 0) (AV.amap nx) ((H.put nx (some (AObj.mp []))).put ((nx + 1)) (some (AObj.row 1 [AV.nilm]))) fun H1 =>
  ACalls Tryd.prog 39 [a1] (H1.put ((nx + 2)) (some (AObj.row 1 [AV.nils]))) (nx + 3) (cell_Canon_k4 Q a0 nx)
theorem cell_Canon_eq (a0 a1 : AV) (H : Heap) (nx : Nat) (Q : AV → Heap → Nat → Prop) : body Tryd.prog tab eqsT (lvOf cell_Canon_lv) Tryd.f16 (codeOf Tryd.f16) [a0, a1] H nx Q = cell_Canon_vc a0 a1 H nx Q := by kernel_rfl
theorem cell_Canon_calls (a0 a1 : AV) (H : Heap) (nx : Nat) (Q : AV → Heap → Nat → Prop) : cell_Canon_vc a0 a1 H nx Q → ACalls Tryd.prog 16 [a0, a1] H nx Q :=
  acalls_eq (lv := lvOf cell_Canon_lv) (c := codeOf Tryd.f16) tabOk eqsOk mixed Tryd.func16 (by kernel_rfl) (by kernel_rfl) (by kernel_rfl) (by kernel_rfl) (cell_Canon_eq a0 a1 H nx Q)

/-- wanderstaff/zwref1.Canon -/
def zwref1_Canon_lv : List (Nat × Nat × List Nat) := [(2, 3, [0, 1, 6, 24, 25]), (2, 11, [0, 1, 6, 8, 9, 10, 33, 34, 35]), (2, 14, [0, 1, 6, 8, 9, 10, 33, 34, 35]), (2, 22, [0, 8, 13, 14, 70, 71, 72]), (2, 28, [0, 13, 14, 17, 83, 84, 85])]
def zwref1_Canon_k1 (xs29 : List AV) (K28 : J3) (v50 : AV) (H51 : Heap) (nx52 : Nat) : Prop :=
  BI BinOp.add (nth xs29 5) (AV.int IntKind.i64 1) fun v53 =>
  K28 [nth xs29 0, nth xs29 1, nth xs29 2, nth xs29 3, nth xs29 4, v53, nth xs29 6, nth xs29 7, nth xs29 8] H51 nx52
def zwref1_Canon_k2 (xs29 : List AV) (K28 : J3) (v41 : AV) (H42 : Heap) (nx43 : Nat) : Prop :=
  LD false 1 (nth xs29 3) H42 fun v44 =>
  IA 1 v44 (nth xs29 5) fun v45 =>
  LD false 1 v45 H42 fun v46 =>
  IA 6 (nth xs29 0) v46 fun v47 =>
  FA 3 v47 fun v48 =>
  LD true 3 v48 H42 fun v49 =>
  CALL Tryd.prog (nth xs29 4) [v49] H42 nx43 (zwref1_Canon_k1 xs29 K28)
def zwref1_Canon_l1 (K16 : J3) (K28 : J3) (xs29 : List AV) (H30 : Heap) (nx31 : Nat) : Prop :=
  LD false 1 (nth xs29 3) H30 fun v32 =>
  LNL v32 fun v33 =>
  BI BinOp.lss (nth xs29 5) v33 fun v34 =>
  CNDC v34
  (LD false 1 (nth xs29 3) H30 fun v35 =>
  IA 1 v35 (nth xs29 5) fun v36 =>
  LD false 1 v36 H30 fun v37 =>
  IA 6 (nth xs29 0) v37 fun v38 =>
  FA 0 v38 fun v39 =>
  LD true 3 v39 H30 fun v40 =>
  CALL Tryd.prog (nth xs29 4) [v40] H30 nx31 (zwref1_Canon_k2 xs29 K28))
  (BI BinOp.add (nth xs29 8) (AV.int IntKind.i64 1) fun v54 =>
  K16 [nth xs29 0, nth xs29 1, nth xs29 2, nth xs29 3, nth xs29 4, nth xs29 5, nth xs29 6, nth xs29 7, v54] H30 nx31)
def zwref1_Canon_k3 (K16 : J3) (xs17 : List AV) (v25 : AV) (H26 : Heap) (nx27 : Nat) : Prop :=
  LP (zwref1_Canon_l1 K16) [nth xs17 0, nth xs17 1, nth xs17 2, nth xs17 3, nth xs17 4, nth xs17 5, nth xs17 6, nth xs17 7, nth xs17 8] H26 nx27
def zwref1_Canon_k4 (xs57 : List AV) (K56 : J3) (v65 : AV) (H66 : Heap) (nx67 : Nat) : Prop :=
  BSL 1 3 [AV.int IntKind.i64 0, AV.int IntKind.i64 0, AV.str []] [(0, v65)] fun cells68 =>
  APP 3 32 (nth xs57 3) (AV.slc nx67 0 1) (H66.put nx67 (some (AObj.row 3 cells68))) (nx67 + 1) fun v69 H70 nx71 =>
  BI BinOp.add (nth xs57 6) (AV.int IntKind.i64 1) fun v72 =>
  K56 [nth xs57 0, nth xs57 1, nth xs57 2, v69, nth xs57 4, nth xs57 5, v72] H70 nx71
def zwref1_Canon_k5 (v86 : AV) (xs76 : List AV) (nx78 : Nat) (fr88 : List Nat) (H77 : Heap) (D89 : Delta) (rd93 : List Nat) (K75 : J3) (v94 : AV) (rd95 : List Nat) (fr96 : List Nat) (D97 : Delta) : Prop :=
  BD (placeOf tab [(25, 0), (25, 3)]) [AV.int IntKind.i64 0, AV.int IntKind.i64 0, AV.str [], AV.int IntKind.i64 0, AV.int IntKind.i64 0, AV.str []] [(0, v86), (1, v94)] fun v98 =>
  BSL 1 6 [AV.int IntKind.i64 0, AV.int IntKind.i64 0, AV.str [], AV.int IntKind.i64 0, AV.int IntKind.i64 0, AV.str []] [(0, v98)] fun cells99 =>
  APPEND 6 64 (nth xs76 3) (AV.slc ((nx78 + fr88.length) + fr96.length) 0 1) (((H77.apply D89).apply D97).put (((nx78 + fr88.length) + fr96.length)) (some (AObj.row 6 cells99))) (((nx78 + fr88.length) + fr96.length) + 1) fun v100 rd101 fr102 D103 =>
  disjK (domD D89) [] (
  disjK (domD D89) [] (
  disjK (domD D89) [] (
  disjK (domD D89) [] (
  disjK (domD D89) [] (
  disjK (domD D89) [] (
  disjK (domD D89) [] (
  disjK (domD D89) [] (
  disjK (domD D89) [] (
  disjK (domD D89) [] (
  disjK (domD D89) [] (
  disjK (domD D89) rd93 (
  disjK (domD D89) [] (
  disjK (domD D97) [] (
  ((nx78 + fr88.length) + fr96.length) ∉ [] ∧
  BI BinOp.add (nth xs76 6) (AV.int IntKind.i64 1) fun v104 =>
  K75 [nth xs76 0, nth xs76 1, nth xs76 2, v100, nth xs76 4, nth xs76 5, v104] ((((H77.apply D89).apply D97).put (((nx78 + fr88.length) + fr96.length)) (some (AObj.row 6 cells99))).apply D103) ((((nx78 + fr88.length) + fr96.length) + 1) + fr102.length)))))))))))))))
def zwref1_Canon_k6 (xs76 : List AV) (v81 : AV) (H77 : Heap) (nx78 : Nat) (K75 : J3) (v86 : AV) (rd87 : List Nat) (fr88 : List Nat) (D89 : Delta) : Prop :=
  IA 6 (nth xs76 0) v81 fun v90 =>
  FA 3 v90 fun v91 =>
  LDR true 3 v91 (H77.apply D89) fun v92 rd93 =>
  CALLD Tryd.prog (nth xs76 1) [v92] (H77.apply D89) (nx78 + fr88.length) (zwref1_Canon_k5 v86 xs76 nx78 fr88 H77 D89 rd93 K75)
def zwref1_Canon_l2 (Q : AV → Heap → Nat → Prop) (K75 : J3) (xs76 : List AV) (H77 : Heap) (nx78 : Nat) : Prop :=
  BI BinOp.lss (nth xs76 6) (nth xs76 5) fun v79 =>
  CNDC v79
  (IA 1 (nth xs76 4) (nth xs76 6) fun v80 =>
  LD false 1 v80 H77 fun v81 =>
  IA 6 (nth xs76 0) v81 fun v82 =>
  FA 0 v82 fun v83 =>
  LDR true 3 v83 H77 fun v84 rd85 =>
  CALLD Tryd.prog (nth xs76 1) [v84] H77 nx78 (zwref1_Canon_k6 xs76 v81 H77 nx78 K75))
  (Q (AV.tup [nth xs76 2, nth xs76 3]) H77 nx78)
def zwref1_Canon_l3 (Q : AV → Heap → Nat → Prop) (K56 : J3) (xs57 : List AV) (H58 : Heap) (nx59 : Nat) : Prop :=
  BI BinOp.lss (nth xs57 6) (nth xs57 5) fun v60 =>
  CNDC v60
  (IA 3 (nth xs57 4) (nth xs57 6) fun v61 =>
  LD true 3 v61 H58 fun v62 =>
  ST 3 (AV.ptr nx59 0) v62 (H58.put nx59 (some (AObj.row 3 [AV.int IntKind.i64 0, AV.int IntKind.i64 0, AV.str []]))) fun H63 =>
  LD true 3 (AV.ptr nx59 0) H63 fun v64 =>
  CALL Tryd.prog (nth xs57 2) [v64] H63 (nx59 + 1) (zwref1_Canon_k4 xs57 K56))
  (LD false 1 (nth xs57 1) H58 fun v73 =>
  LNL v73 fun v74 =>
  LP (zwref1_Canon_l2 Q) [nth xs57 0, nth xs57 2, nth xs57 3, AV.nils, v73, v74, AV.int IntKind.i64 0] H58 nx59)
def zwref1_Canon_l4 (Q : AV → Heap → Nat → Prop) (K16 : J3) (xs17 : List AV) (H18 : Heap) (nx19 : Nat) : Prop :=
  BI BinOp.lss (nth xs17 8) (nth xs17 7) fun v20 =>
  CNDC v20
  (IA 3 (nth xs17 6) (nth xs17 8) fun v21 =>
  LD true 3 v21 H18 fun v22 =>
  ST 3 (AV.ptr nx19 0) v22 (H18.put nx19 (some (AObj.row 3 [AV.int IntKind.i64 0, AV.int IntKind.i64 0, AV.str []]))) fun H23 =>
  LD true 3 (AV.ptr nx19 0) H23 fun v24 =>
  CALL Tryd.prog (nth xs17 4) [v24] H23 (nx19 + 1) (zwref1_Canon_k3 K16 xs17))
  (LNL (nth xs17 1) fun v55 =>
  LP (zwref1_Canon_l3 Q) [nth xs17 0, nth xs17 3, AV.clo 41 [nth xs17 2], AV.nils, nth xs17 1, v55, AV.int IntKind.i64 0] H18 nx19)
def zwref1_Canon_l5 (Q : AV → Heap → Nat → Prop) (K6 : J3) (xs7 : List AV) (H8 : Heap) (nx9 : Nat) : Prop :=
  BI BinOp.lss (nth xs7 4) (nth xs7 3) fun v10 =>
  CNDC v10
  (LD false 1 (nth xs7 2) H8 fun v11 =>
  IA 1 v11 (nth xs7 4) fun v12 =>
  ST 1 v12 (AV.int IntKind.i64 (-1)) H8 fun H13 =>
  BI BinOp.add (nth xs7 4) (AV.int IntKind.i64 1) fun v14 =>
  K6 [nth xs7 0, nth xs7 1, nth xs7 2, nth xs7 3, v14] H13 nx9)
  (LNL (nth xs7 1) fun v15 =>
  LP (zwref1_Canon_l4 Q) [nth xs7 0, nth xs7 1, nth xs7 2, AV.ptr nx9 0, AV.clo 40 [nth xs7 2, AV.ptr nx9 0], AV.int IntKind.i64 0, nth xs7 1, v15, AV.int IntKind.i64 0] (H8.put nx9 (some (AObj.row 1 [AV.nils]))) (nx9 + 1))
def zwref1_Canon_vc (a0 a1 : AV) (H : Heap) (nx : Nat) (Q : AV → Heap → Nat → Prop) : Prop :=
  LNL a0 fun v1 =>
  MK 8 v1 v1 fun n2 =>
  ST 1 (AV.ptr (nx + 1) 0) (AV.slc nx 0 n2) ((H.put nx (some (AObj.row 1 (List.replicate n2 [AV.int IntKind.i64 0]).flatten))).put ((nx + 1)) (some (AObj.row 1 [AV.nils]))) fun H3 =>
  LD false 1 (AV.ptr (nx + 1) 0) H3 fun v4 =>
  LNL v4 fun v5 =>
  LP (zwref1_Canon_l5 Q) [a0, a1, AV.ptr (nx + 1) 0, v5, AV.int IntKind.i64 0] H3 (nx + 2)
theorem zwref1_Canon_eq (a0 a1 : AV) (H : Heap) (nx : Nat) (Q : AV → Heap → Nat → Prop) : body Tryd.prog tab eqsT (lvOf zwref1_Canon_lv) Tryd.f17 (codeOf Tryd.f17) [a0, a1] H nx Q = zwref1_Canon_vc a0 a1 H nx Q := by kernel_rfl
theorem zwref1_Canon_calls (a0 a1 : AV) (H : Heap) (nx : Nat) (Q : AV → Heap → Nat → Prop) : zwref1_Canon_vc a0 a1 H nx Q → ACalls Tryd.prog 17 [a0, a1] H nx Q :=
  acalls_eq (lv := lvOf zwref1_Canon_lv) (c := codeOf Tryd.f17) tabOk eqsOk mixed Tryd.func17 (by kernel_rfl) (by kernel_rfl) (by kernel_rfl) (by kernel_rfl) (zwref1_Canon_eq a0 a1 H nx Q)

/-- wanderstaff/cell.Show -/
def cell_Show_lv : List (Nat × Nat × List Nat) := []
def cell_Show_k1 (Q : AV → Heap → Nat → Prop) (v4 : AV) (H5 : Heap) (nx6 : Nat) : Prop :=
  Q v4 H5 nx6
def cell_Show_k2 (v28 : AV) (D26 : Delta) (rd30 : List Nat) (rd34 : List Nat) (Q : AV → Heap → Nat → Prop) (H : Heap) (nx : Nat) (a1 : AV) (fr25 : List Nat) (v36 : AV) (rd37 : List Nat) (fr38 : List Nat) (D39 : Delta) : Prop :=
  BS BinOp.add v28 v36 fun v40 =>
  BS BinOp.add v40 (AV.str [41]) fun v41 =>
  disjK (domD D26) [] (
  disjK (domD D26) [] (
  disjK (domD D26) [] (
  disjK (domD D26) [] (
  disjK (domD D26) [] (
  disjK (domD D26) [] (
  disjK (domD D26) rd30 (
  disjK (domD D26) [] (
  disjK (domD D26) [] (
  disjK (domD D26) [] (
  disjK (domD D26) [] (
  disjK (domD D26) [] (
  disjK (domD D26) rd34 (
  disjK (domD D26) [] (
  disjK (domD D26) [] (
  disjK (domD D26) [] (
  disjK (domD D26) [] (
  disjK (domD D26) [] (
  disjK (domD D39) [] (
  disjK (domD D39) [] (
  Q v41 (((H.put nx (some (AObj.row a1.cells.length a1.cells))).apply D26).apply D39) (((nx + 1) + fr25.length) + fr38.length)))))))))))))))))))))
def cell_Show_k3 (nx : Nat) (H : Heap) (a1 : AV) (a0 : AV) (a2 : AV) (Q : AV → Heap → Nat → Prop) (v23 : AV) (rd24 : List Nat) (fr25 : List Nat) (D26 : Delta) : Prop :=
  BS BinOp.add (AV.str [40]) v23 fun v27 =>
  BS BinOp.add v27 (AV.str [32]) fun v28 =>
  LDR false 1 (AV.ptr nx 1) ((H.put nx (some (AObj.row a1.cells.length a1.cells))).apply D26) fun v29 rd30 =>
  IA 6 a0 v29 fun v31 =>
  FA 3 v31 fun v32 =>
  LDR true 3 v32 ((H.put nx (some (AObj.row a1.cells.length a1.cells))).apply D26) fun v33 rd34 =>
  BI BinOp.sub a2 (AV.int IntKind.i64 1) fun v35 =>
  CALLD Tryd.prog (AV.clo 18 []) [a0, v33, v35] ((H.put nx (some (AObj.row a1.cells.length a1.cells))).apply D26) ((nx + 1) + fr25.length) (cell_Show_k2 v28 D26 rd30 rd34 Q H nx a1 fr25)
def cell_Show_vc (a0 a1 a2 : AV) (H : Heap) (nx : Nat) (Q : AV → Heap → Nat → Prop) : Prop :=
  a1.sure = true ∧
  LD false 1 (AV.ptr nx 0) (H.put nx (some (AObj.row a1.cells.length a1.cells))) fun v1 =>
  BI BinOp.eql v1 (AV.int IntKind.i64 0) fun v2 =>
  CNDC v2
  (LD false 1 (AV.ptr nx 1) (H.put nx (some (AObj.row a1.cells.length a1.cells))) fun v3 =>
  ACalls Tryd.prog 42 [v3] (H.put nx (some (AObj.row a1.cells.length a1.cells))) (nx + 1) (cell_Show_k1 Q))
  (LD false 1 (AV.ptr nx 0) (H.put nx (some (AObj.row a1.cells.length a1.cells))) fun v7 =>
  BI BinOp.eql v7 (AV.int IntKind.i64 1) fun v8 =>
  CNDC v8
  (LD false 1 (AV.ptr nx 2) (H.put nx (some (AObj.row a1.cells.length a1.cells))) fun v9 =>
  Q v9 (H.put nx (some (AObj.row a1.cells.length a1.cells))) (nx + 1))
  (BI BinOp.leq a2 (AV.int IntKind.i64 0) fun v10 =>
  CND v10
  (Q (AV.str [46, 46]) (H.put nx (some (AObj.row a1.cells.length a1.cells))) (nx + 1))
  (LD false 1 (AV.ptr nx 1) (H.put nx (some (AObj.row a1.cells.length a1.cells))) fun v11 =>
  BI BinOp.lss v11 (AV.int IntKind.i64 0) fun v12 =>
  CND v12
  (Q (AV.str [46, 46]) (H.put nx (some (AObj.row a1.cells.length a1.cells))) (nx + 1))
  (LD false 1 (AV.ptr nx 1) (H.put nx (some (AObj.row a1.cells.length a1.cells))) fun v13 =>
  LNL a0 fun v14 =>
  BI BinOp.geq v13 v14 fun v15 =>
  CNDC v15
  (Q (AV.str [46, 46]) (H.put nx (some (AObj.row a1.cells.length a1.cells))) (nx + 1))
  (LDR false 1 (AV.ptr nx 1) (H.put nx (some (AObj.row a1.cells.length a1.cells))) fun v16 rd17 =>
  IA 6 a0 v16 fun v18 =>
  FA 0 v18 fun v19 =>
  LDR true 3 v19 (H.put nx (some (AObj.row a1.cells.length a1.cells))) fun v20 rd21 =>
  BI BinOp.sub a2 (AV.int IntKind.i64 1) fun v22 =>
  CALLD Tryd.prog (AV.clo 18 []) [a0, v20, v22] (H.put nx (some (AObj.row a1.cells.length a1.cells))) (nx + 1) (cell_Show_k3 nx H a1 a0 a2 Q))))))
theorem cell_Show_eq (a0 a1 a2 : AV) (H : Heap) (nx : Nat) (Q : AV → Heap → Nat → Prop) : body Tryd.prog tab eqsT (lvOf cell_Show_lv) Tryd.f18 (codeOf Tryd.f18) [a0, a1, a2] H nx Q = cell_Show_vc a0 a1 a2 H nx Q := by kernel_rfl
theorem cell_Show_calls (a0 a1 a2 : AV) (H : Heap) (nx : Nat) (Q : AV → Heap → Nat → Prop) : cell_Show_vc a0 a1 a2 H nx Q → ACalls Tryd.prog 18 [a0, a1, a2] H nx Q :=
  acalls_eq (lv := lvOf cell_Show_lv) (c := codeOf Tryd.f18) tabOk eqsOk mixed Tryd.func18 (by kernel_rfl) (by kernel_rfl) (by kernel_rfl) (by kernel_rfl) (cell_Show_eq a0 a1 a2 H nx Q)

/-- wanderstaff/zwref1.Show -/
def zwref1_Show_lv : List (Nat × Nat × List Nat) := []
def zwref1_Show_k1 (Q : AV → Heap → Nat → Prop) (v4 : AV) (H5 : Heap) (nx6 : Nat) : Prop :=
  Q v4 H5 nx6
def zwref1_Show_k2 (v28 : AV) (D26 : Delta) (rd30 : List Nat) (Q : AV → Heap → Nat → Prop) (H19 : Heap) (nx : Nat) (fr25 : List Nat) (v32 : AV) (rd33 : List Nat) (fr34 : List Nat) (D35 : Delta) : Prop :=
  BS BinOp.add v28 v32 fun v36 =>
  BS BinOp.add v36 (AV.str [41]) fun v37 =>
  disjK (domD D26) [] (
  disjK (domD D26) [] (
  disjK (domD D26) [] (
  disjK (domD D26) [] (
  disjK (domD D26) rd30 (
  disjK (domD D26) [] (
  disjK (domD D26) [] (
  disjK (domD D26) [] (
  disjK (domD D26) [] (
  disjK (domD D26) [] (
  disjK (domD D35) [] (
  disjK (domD D35) [] (
  Q v37 ((H19.apply D26).apply D35) (((nx + 2) + fr25.length) + fr34.length)))))))))))))
def zwref1_Show_k3 (nx : Nat) (H19 : Heap) (a2 : AV) (a0 : AV) (Q : AV → Heap → Nat → Prop) (v23 : AV) (rd24 : List Nat) (fr25 : List Nat) (D26 : Delta) : Prop :=
  BS BinOp.add (AV.str [40]) v23 fun v27 =>
  BS BinOp.add v27 (AV.str [32]) fun v28 =>
  LDR true 3 (AV.ptr (nx + 1) 3) (H19.apply D26) fun v29 rd30 =>
  BI BinOp.sub a2 (AV.int IntKind.i64 1) fun v31 =>
  CALLD Tryd.prog (AV.clo 19 []) [a0, v29, v31] (H19.apply D26) ((nx + 2) + fr25.length) (zwref1_Show_k2 v28 D26 rd30 Q H19 nx fr25)
def zwref1_Show_vc (a0 a1 a2 : AV) (H : Heap) (nx : Nat) (Q : AV → Heap → Nat → Prop) : Prop :=
  a1.sure = true ∧
  LD false 1 (AV.ptr nx 0) (H.put nx (some (AObj.row a1.cells.length a1.cells))) fun v1 =>
  BI BinOp.eql v1 (AV.int IntKind.i64 0) fun v2 =>
  CNDC v2
  (LD false 1 (AV.ptr nx 1) (H.put nx (some (AObj.row a1.cells.length a1.cells))) fun v3 =>
  ACalls Tryd.prog 42 [v3] (H.put nx (some (AObj.row a1.cells.length a1.cells))) (nx + 1) (zwref1_Show_k1 Q))
  (LD false 1 (AV.ptr nx 0) (H.put nx (some (AObj.row a1.cells.length a1.cells))) fun v7 =>
  BI BinOp.eql v7 (AV.int IntKind.i64 1) fun v8 =>
  CNDC v8
  (LD false 1 (AV.ptr nx 2) (H.put nx (some (AObj.row a1.cells.length a1.cells))) fun v9 =>
  Q v9 (H.put nx (some (AObj.row a1.cells.length a1.cells))) (nx + 1))
  (BI BinOp.lss a2 (AV.int IntKind.i64 1) fun v10 =>
  CND v10
  (Q (AV.str [46, 46]) (H.put nx (some (AObj.row a1.cells.length a1.cells))) (nx + 1))
  (LD false 1 (AV.ptr nx 1) (H.put nx (some (AObj.row a1.cells.length a1.cells))) fun v11 =>
  BI BinOp.lss v11 (AV.int IntKind.i64 0) fun v12 =>
  CND v12
  (Q (AV.str [46, 46]) (H.put nx (some (AObj.row a1.cells.length a1.cells))) (nx + 1))
  (LD false 1 (AV.ptr nx 1) (H.put nx (some (AObj.row a1.cells.length a1.cells))) fun v13 =>
  LNL a0 fun v14 =>
  BI BinOp.geq v13 v14 fun v15 =>
  CNDC v15
  (Q (AV.str [46, 46]) (H.put nx (some (AObj.row a1.cells.length a1.cells))) (nx + 1))
  (LD false 1 (AV.ptr nx 1) (H.put nx (some (AObj.row a1.cells.length a1.cells))) fun v16 =>
  IA 6 a0 v16 fun v17 =>
  LD true 6 v17 (H.put nx (some (AObj.row a1.cells.length a1.cells))) fun v18 =>
  ST 6 (AV.ptr (nx + 1) 0) v18 ((H.put nx (some (AObj.row a1.cells.length a1.cells))).put ((nx + 1)) (some (AObj.row 6 [AV.int IntKind.i64 0, AV.int IntKind.i64 0, AV.str [], AV.int IntKind.i64 0, AV.int IntKind.i64 0, AV.str []]))) fun H19 =>
  LDR true 3 (AV.ptr (nx + 1) 0) H19 fun v20 rd21 =>
  BI BinOp.sub a2 (AV.int IntKind.i64 1) fun v22 =>
  CALLD Tryd.prog (AV.clo 19 []) [a0, v20, v22] H19 (nx + 2) (zwref1_Show_k3 nx H19 a2 a0 Q))))))
theorem zwref1_Show_eq (a0 a1 a2 : AV) (H : Heap) (nx : Nat) (Q : AV → Heap → Nat → Prop) : body Tryd.prog tab eqsT (lvOf zwref1_Show_lv) Tryd.f19 (codeOf Tryd.f19) [a0, a1, a2] H nx Q = zwref1_Show_vc a0 a1 a2 H nx Q := by kernel_rfl
theorem zwref1_Show_calls (a0 a1 a2 : AV) (H : Heap) (nx : Nat) (Q : AV → Heap → Nat → Prop) : zwref1_Show_vc a0 a1 a2 H nx Q → ACalls Tryd.prog 19 [a0, a1, a2] H nx Q :=
  acalls_eq (lv := lvOf zwref1_Show_lv) (c := codeOf Tryd.f19) tabOk eqsOk mixed Tryd.func19 (by kernel_rfl) (by kernel_rfl) (by kernel_rfl) (by kernel_rfl) (zwref1_Show_eq a0 a1 a2 H nx Q)

/-- wanderstaff/zwref1.SameValues -/
def zwref1_SameValues_lv : List (Nat × Nat × List Nat) := [(2, 4, [0, 1, 12, 13])]
def zwref1_SameValues_l1 (Q : AV → Heap → Nat → Prop) (K5 : J3) (xs6 : List AV) (H7 : Heap) (nx8 : Nat) : Prop :=
  BI BinOp.lss (nth xs6 3) (nth xs6 2) fun v9 =>
  CNDC v9
  (IA 3 (nth xs6 0) (nth xs6 3) fun v10 =>
  LDR true 3 v10 H7 fun v11 rd12 =>
  IA 3 (nth xs6 1) (nth xs6 3) fun v13 =>
  LDR true 3 v13 H7 fun v14 rd15 =>
  gd (eqsT 25) (
  BA [AV.int IntKind.i64 0, AV.int IntKind.i64 0, AV.str []] BinOp.neq v11 v14 fun v16 =>
  CNDC v16
  (Q (AV.bool false) H7 nx8)
  (BI BinOp.add (nth xs6 3) (AV.int IntKind.i64 1) fun v17 =>
  K5 [nth xs6 0, nth xs6 1, nth xs6 2, v17] H7 nx8)))
  (Q (AV.bool true) H7 nx8)
def zwref1_SameValues_vc (a0 a1 : AV) (H : Heap) (nx : Nat) (Q : AV → Heap → Nat → Prop) : Prop :=
  LNL a0 fun v1 =>
  LNL a1 fun v2 =>
  BI BinOp.neq v1 v2 fun v3 =>
  CNDC v3
  (Q (AV.bool false) H nx)
  (LNL a0 fun v4 =>
  LP (zwref1_SameValues_l1 Q) [a0, a1, v4, AV.int IntKind.i64 0] H nx)
theorem zwref1_SameValues_eq (a0 a1 : AV) (H : Heap) (nx : Nat) (Q : AV → Heap → Nat → Prop) : body Tryd.prog tab eqsT (lvOf zwref1_SameValues_lv) Tryd.f20 (codeOf Tryd.f20) [a0, a1] H nx Q = zwref1_SameValues_vc a0 a1 H nx Q := by kernel_rfl
theorem zwref1_SameValues_calls (a0 a1 : AV) (H : Heap) (nx : Nat) (Q : AV → Heap → Nat → Prop) : zwref1_SameValues_vc a0 a1 H nx Q → ACalls Tryd.prog 20 [a0, a1] H nx Q :=
  acalls_eq (lv := lvOf zwref1_SameValues_lv) (c := codeOf Tryd.f20) tabOk eqsOk mixed Tryd.func20 (by kernel_rfl) (by kernel_rfl) (by kernel_rfl) (by kernel_rfl) (zwref1_SameValues_eq a0 a1 H nx Q)

/-- wanderstaff/zwref1.SameCells -/
def zwref1_SameCells_lv : List (Nat × Nat × List Nat) := [(2, 4, [0, 1, 12, 13])]
def zwref1_SameCells_l1 (Q : AV → Heap → Nat → Prop) (K5 : J3) (xs6 : List AV) (H7 : Heap) (nx8 : Nat) : Prop :=
  BI BinOp.lss (nth xs6 3) (nth xs6 2) fun v9 =>
  CNDC v9
  (IA 6 (nth xs6 0) (nth xs6 3) fun v10 =>
  LDR true 6 v10 H7 fun v11 rd12 =>
  IA 6 (nth xs6 1) (nth xs6 3) fun v13 =>
  LDR true 6 v13 H7 fun v14 rd15 =>
  gd (eqsT 43) (
  BA [AV.int IntKind.i64 0, AV.int IntKind.i64 0, AV.str [], AV.int IntKind.i64 0, AV.int IntKind.i64 0, AV.str []] BinOp.neq v11 v14 fun v16 =>
  CNDC v16
  (Q (AV.bool false) H7 nx8)
  (BI BinOp.add (nth xs6 3) (AV.int IntKind.i64 1) fun v17 =>
  K5 [nth xs6 0, nth xs6 1, nth xs6 2, v17] H7 nx8)))
  (Q (AV.bool true) H7 nx8)
def zwref1_SameCells_vc (a0 a1 : AV) (H : Heap) (nx : Nat) (Q : AV → Heap → Nat → Prop) : Prop :=
  LNL a0 fun v1 =>
  LNL a1 fun v2 =>
  BI BinOp.neq v1 v2 fun v3 =>
  CNDC v3
  (Q (AV.bool false) H nx)
  (LNL a0 fun v4 =>
  LP (zwref1_SameCells_l1 Q) [a0, a1, v4, AV.int IntKind.i64 0] H nx)
theorem zwref1_SameCells_eq (a0 a1 : AV) (H : Heap) (nx : Nat) (Q : AV → Heap → Nat → Prop) : body Tryd.prog tab eqsT (lvOf zwref1_SameCells_lv) Tryd.f21 (codeOf Tryd.f21) [a0, a1] H nx Q = zwref1_SameCells_vc a0 a1 H nx Q := by kernel_rfl
theorem zwref1_SameCells_calls (a0 a1 : AV) (H : Heap) (nx : Nat) (Q : AV → Heap → Nat → Prop) : zwref1_SameCells_vc a0 a1 H nx Q → ACalls Tryd.prog 21 [a0, a1] H nx Q :=
  acalls_eq (lv := lvOf zwref1_SameCells_lv) (c := codeOf Tryd.f21) tabOk eqsOk mixed Tryd.func21 (by kernel_rfl) (by kernel_rfl) (by kernel_rfl) (by kernel_rfl) (zwref1_SameCells_eq a0 a1 H nx Q)

/-- wanderstaff/zwlaw1.CellTells -/
def zwlaw1_CellTells_lv : List (Nat × Nat × List Nat) := []
def zwlaw1_CellTells_k1 (D94 : Delta) (rd96 : List Nat) (Q : AV → Heap → Nat → Prop) (H85 : Heap) (D100 : Delta) (D105 : Delta) (nx86 : Nat) (fr93 : List Nat) (fr99 : List Nat) (fr104 : List Nat) (v106 : AV) (rd107 : List Nat) (fr108 : List Nat) (D109 : Delta) : Prop :=
  disjK (domD D94) [] (
  disjK (domD D94) [] (
  disjK (domD D94) rd96 (
  disjK (domD D94) [] (
  disjK (domD D94) [] (
  disjK (domD D94) [] (
  Q v106 ((((H85.apply D94).apply D100).apply D105).apply D109) ((((nx86 + fr93.length) + fr99.length) + fr104.length) + fr108.length)))))))
def zwlaw1_CellTells_k2 (v83 : AV) (v88 : AV) (H85 : Heap) (D94 : Delta) (D100 : Delta) (nx86 : Nat) (fr93 : List Nat) (fr99 : List Nat) (rd96 : List Nat) (Q : AV → Heap → Nat → Prop) (v102 : AV) (rd103 : List Nat) (fr104 : List Nat) (D105 : Delta) : Prop :=
  CND v102
  (CALLD Tryd.prog (AV.clo 21 []) [v83, v88] (((H85.apply D94).apply D100).apply D105) (((nx86 + fr93.length) + fr99.length) + fr104.length) (zwlaw1_CellTells_k1 D94 rd96 Q H85 D100 D105 nx86 fr93 fr99 fr104))
  (disjK (domD D94) [] (
  disjK (domD D94) [] (
  disjK (domD D94) rd96 (
  disjK (domD D94) [] (
  disjK (domD D94) [] (
  disjK (domD D94) [] (
  Q (AV.bool false) (((H85.apply D94).apply D100).apply D105) (((nx86 + fr93.length) + fr99.length) + fr104.length))))))))
def zwlaw1_CellTells_k3 (v91 : AV) (v82 : AV) (v87 : AV) (H85 : Heap) (D94 : Delta) (nx86 : Nat) (fr93 : List Nat) (v83 : AV) (v88 : AV) (rd96 : List Nat) (Q : AV → Heap → Nat → Prop) (v97 : AV) (rd98 : List Nat) (fr99 : List Nat) (D100 : Delta) : Prop :=
  BS BinOp.eql v91 v97 fun v101 =>
  CND v101
  (CALLD Tryd.prog (AV.clo 20 []) [v82, v87] ((H85.apply D94).apply D100) ((nx86 + fr93.length) + fr99.length) (zwlaw1_CellTells_k2 v83 v88 H85 D94 D100 nx86 fr93 fr99 rd96 Q))
  (disjK (domD D94) [] (
  disjK (domD D94) [] (
  disjK (domD D94) rd96 (
  disjK (domD D94) [] (
  disjK (domD D94) [] (
  disjK (domD D94) [] (
  Q (AV.bool false) ((H85.apply D94).apply D100) ((nx86 + fr93.length) + fr99.length))))))))
def zwlaw1_CellTells_k4 (nx : Nat) (H85 : Heap) (a0 : AV) (a7 : AV) (nx86 : Nat) (v82 : AV) (v87 : AV) (v83 : AV) (v88 : AV) (Q : AV → Heap → Nat → Prop) (v91 : AV) (rd92 : List Nat) (fr93 : List Nat) (D94 : Delta) : Prop :=
  LDR true 3 (AV.ptr (nx + 1) 0) (H85.apply D94) fun v95 rd96 =>
  CALLD Tryd.prog (AV.clo 19 []) [a0, v95, a7] (H85.apply D94) (nx86 + fr93.length) (zwlaw1_CellTells_k3 v91 v82 v87 H85 D94 nx86 fr93 v83 v88 rd96 Q)
def zwlaw1_CellTells_k5 (nx : Nat) (a0 : AV) (a7 : AV) (v82 : AV) (v83 : AV) (Q : AV → Heap → Nat → Prop) (v84 : AV) (H85 : Heap) (nx86 : Nat) : Prop :=
  EX v84 0 fun v87 =>
  EX v84 1 fun v88 =>
  LDR true 3 (AV.ptr (nx + 1) 0) H85 fun v89 rd90 =>
  CALLD Tryd.prog (AV.clo 18 []) [a0, v89, a7] H85 nx86 (zwlaw1_CellTells_k4 nx H85 a0 a7 nx86 v82 v87 v83 v88 Q)
def zwlaw1_CellTells_k6 (a0 : AV) (a1 : AV) (nx : Nat) (a7 : AV) (Q : AV → Heap → Nat → Prop) (v79 : AV) (H80 : Heap) (nx81 : Nat) : Prop :=
  EX v79 0 fun v82 =>
  EX v79 1 fun v83 =>
  ACalls Tryd.prog 17 [a0, a1] H80 nx81 (zwlaw1_CellTells_k5 nx a0 a7 v82 v83 Q)
def zwlaw1_CellTells_k7 (nx54 : Nat) (D65 : Delta) (rd67 : List Nat) (fr64 : List Nat) (rd63 : List Nat) (D72 : Delta) (Q : AV → Heap → Nat → Prop) (H57 : Heap) (cells68 : List AV) (fr71 : List Nat) (a7 : AV) (a0 : AV) (a1 : AV) (nx : Nat) (v73 : AV) (rd74 : List Nat) (fr75 : List Nat) (D76 : Delta) : Prop :=
  UO UnOp.not v73 fun v77 =>
  CND v77
  ((nx54 + 1) ∉ [] ∧
  (nx54 + 1) ∉ [] ∧
  (nx54 + 1) ∉ [] ∧
  disjK (domD D65) [] (
  (nx54 + 1) ∉ rd67 ∧
  (nx54 + 1) ∉ [] ∧
  disjK (domD D65) rd67 (
  disjK (domD D65) [] (
  ((nx54 + 2) + fr64.length) ∉ [] ∧
  (nx54 + 1) ∉ [] ∧
  (nx54 + 1) ∉ [((nx54 + 2) + fr64.length)] ∧
  ((nx54 + 2) + fr64.length) ∉ [] ∧
  ((nx54 + 2) + fr64.length) ∉ [] ∧
  disjK (domD D65) [] (
  disjK (domD D65) [((nx54 + 2) + fr64.length)] (
  ((nx54 + 2) + fr64.length) ∉ rd63 ∧
  disjK (domD D72) [] (
  Q (AV.bool true) (((((H57.put ((nx54 + 1)) (some (AObj.row 3 []))).apply D65).put (((nx54 + 2) + fr64.length)) (some (AObj.row 3 cells68))).apply D72).apply D76) (((((nx54 + 2) + fr64.length) + 1) + fr71.length) + fr75.length))))))))
  (BI BinOp.gtr a7 (AV.int IntKind.i64 5) fun v78 =>
  (nx54 + 1) ∉ [] ∧
  (nx54 + 1) ∉ [] ∧
  (nx54 + 1) ∉ [] ∧
  disjK (domD D65) [] (
  (nx54 + 1) ∉ rd67 ∧
  (nx54 + 1) ∉ [] ∧
  disjK (domD D65) rd67 (
  disjK (domD D65) [] (
  ((nx54 + 2) + fr64.length) ∉ [] ∧
  (nx54 + 1) ∉ [] ∧
  (nx54 + 1) ∉ [((nx54 + 2) + fr64.length)] ∧
  ((nx54 + 2) + fr64.length) ∉ [] ∧
  ((nx54 + 2) + fr64.length) ∉ [] ∧
  disjK (domD D65) [] (
  disjK (domD D65) [((nx54 + 2) + fr64.length)] (
  ((nx54 + 2) + fr64.length) ∉ rd63 ∧
  disjK (domD D72) [] (
  CNDC v78
  (Q (AV.bool true) (((((H57.put ((nx54 + 1)) (some (AObj.row 3 []))).apply D65).put (((nx54 + 2) + fr64.length)) (some (AObj.row 3 cells68))).apply D72).apply D76) (((((nx54 + 2) + fr64.length) + 1) + fr71.length) + fr75.length))
  (ACalls Tryd.prog 16 [a0, a1] (((((H57.put ((nx54 + 1)) (some (AObj.row 3 []))).apply D65).put (((nx54 + 2) + fr64.length)) (some (AObj.row 3 cells68))).apply D72).apply D76) (((((nx54 + 2) + fr64.length) + 1) + fr71.length) + fr75.length) (zwlaw1_CellTells_k6 a0 a1 nx a7 Q)))))))))
def zwlaw1_CellTells_k8 (v48 : AV) (Q : AV → Heap → Nat → Prop) (nx46 : Nat) (a1 : AV) (nx : Nat) (a0 : AV) (a7 : AV) (v52 : AV) (H53 : Heap) (nx54 : Nat) : Prop :=
  EX v52 0 fun v55 =>
  EX v52 1 fun v56 =>
  ST 3 (AV.ptr nx54 0) v55 (H53.put nx54 (some (AObj.row 3 [AV.int IntKind.i64 0, AV.int IntKind.i64 0, AV.str []]))) fun H57 =>
  BI BinOp.neq v48 v56 fun v58 =>
  CND v58
  (Q (AV.bool false) H57 (nx54 + 1))
  (LD true 3 (AV.ptr nx46 0) H57 fun v59 =>
  LD true 3 (AV.ptr nx54 0) H57 fun v60 =>
  gd (eqsT 25) (
  BA [AV.int IntKind.i64 0, AV.int IntKind.i64 0, AV.str []] BinOp.neq v59 v60 fun v61 =>
  CNDC v61
  (Q (AV.bool false) H57 (nx54 + 1))
  (APPEND 3 32 (AV.slc (nx54 + 1) 0 0) a1 (H57.put ((nx54 + 1)) (some (AObj.row 3 []))) (nx54 + 2) fun v62 rd63 fr64 D65 =>
  LDR true 3 (AV.ptr (nx + 1) 0) ((H57.put ((nx54 + 1)) (some (AObj.row 3 []))).apply D65) fun v66 rd67 =>
  BSL 1 3 [AV.int IntKind.i64 0, AV.int IntKind.i64 0, AV.str []] [(0, v66)] fun cells68 =>
  APPEND 3 32 v62 (AV.slc ((nx54 + 2) + fr64.length) 0 1) (((H57.put ((nx54 + 1)) (some (AObj.row 3 []))).apply D65).put (((nx54 + 2) + fr64.length)) (some (AObj.row 3 cells68))) (((nx54 + 2) + fr64.length) + 1) fun v69 rd70 fr71 D72 =>
  CALLD Tryd.prog (AV.clo 15 []) [a0, v69] ((((H57.put ((nx54 + 1)) (some (AObj.row 3 []))).apply D65).put (((nx54 + 2) + fr64.length)) (some (AObj.row 3 cells68))).apply D72) ((((nx54 + 2) + fr64.length) + 1) + fr71.length) (zwlaw1_CellTells_k7 nx54 D65 rd67 fr64 rd63 D72 Q H57 cells68 fr71 a7 a0 a1 nx))))
def zwlaw1_CellTells_k9 (nx : Nat) (a4 : AV) (Q : AV → Heap → Nat → Prop) (a1 : AV) (a0 : AV) (a7 : AV) (v44 : AV) (H45 : Heap) (nx46 : Nat) : Prop :=
  EX v44 0 fun v47 =>
  EX v44 1 fun v48 =>
  ST 3 (AV.ptr nx46 0) v47 (H45.put nx46 (some (AObj.row 3 [AV.int IntKind.i64 0, AV.int IntKind.i64 0, AV.str []]))) fun H49 =>
  LD true 3 (AV.ptr nx 0) H49 fun v50 =>
  LD true 3 (AV.ptr (nx + 1) 0) H49 fun v51 =>
  ACalls Tryd.prog 14 [a4, v50, v51] H49 (nx46 + 1) (zwlaw1_CellTells_k8 v48 Q nx46 a1 nx a0 a7)
def zwlaw1_CellTells_k10 (D142 : Delta) (rd144 : List Nat) (Q : AV → Heap → Nat → Prop) (H133 : Heap) (D148 : Delta) (D153 : Delta) (nx134 : Nat) (fr141 : List Nat) (fr147 : List Nat) (fr152 : List Nat) (v154 : AV) (rd155 : List Nat) (fr156 : List Nat) (D157 : Delta) : Prop :=
  disjK (domD D142) [] (
  disjK (domD D142) [] (
  disjK (domD D142) rd144 (
  disjK (domD D142) [] (
  disjK (domD D142) [] (
  disjK (domD D142) [] (
  Q v154 ((((H133.apply D142).apply D148).apply D153).apply D157) ((((nx134 + fr141.length) + fr147.length) + fr152.length) + fr156.length)))))))
def zwlaw1_CellTells_k11 (v131 : AV) (v136 : AV) (H133 : Heap) (D142 : Delta) (D148 : Delta) (nx134 : Nat) (fr141 : List Nat) (fr147 : List Nat) (rd144 : List Nat) (Q : AV → Heap → Nat → Prop) (v150 : AV) (rd151 : List Nat) (fr152 : List Nat) (D153 : Delta) : Prop :=
  CND v150
  (CALLD Tryd.prog (AV.clo 21 []) [v131, v136] (((H133.apply D142).apply D148).apply D153) (((nx134 + fr141.length) + fr147.length) + fr152.length) (zwlaw1_CellTells_k10 D142 rd144 Q H133 D148 D153 nx134 fr141 fr147 fr152))
  (disjK (domD D142) [] (
  disjK (domD D142) [] (
  disjK (domD D142) rd144 (
  disjK (domD D142) [] (
  disjK (domD D142) [] (
  disjK (domD D142) [] (
  Q (AV.bool false) (((H133.apply D142).apply D148).apply D153) (((nx134 + fr141.length) + fr147.length) + fr152.length))))))))
def zwlaw1_CellTells_k12 (v139 : AV) (v130 : AV) (v135 : AV) (H133 : Heap) (D142 : Delta) (nx134 : Nat) (fr141 : List Nat) (v131 : AV) (v136 : AV) (rd144 : List Nat) (Q : AV → Heap → Nat → Prop) (v145 : AV) (rd146 : List Nat) (fr147 : List Nat) (D148 : Delta) : Prop :=
  BS BinOp.eql v139 v145 fun v149 =>
  CND v149
  (CALLD Tryd.prog (AV.clo 20 []) [v130, v135] ((H133.apply D142).apply D148) ((nx134 + fr141.length) + fr147.length) (zwlaw1_CellTells_k11 v131 v136 H133 D142 D148 nx134 fr141 fr147 rd144 Q))
  (disjK (domD D142) [] (
  disjK (domD D142) [] (
  disjK (domD D142) rd144 (
  disjK (domD D142) [] (
  disjK (domD D142) [] (
  disjK (domD D142) [] (
  Q (AV.bool false) ((H133.apply D142).apply D148) ((nx134 + fr141.length) + fr147.length))))))))
def zwlaw1_CellTells_k13 (nx : Nat) (H133 : Heap) (a0 : AV) (a7 : AV) (nx134 : Nat) (v130 : AV) (v135 : AV) (v131 : AV) (v136 : AV) (Q : AV → Heap → Nat → Prop) (v139 : AV) (rd140 : List Nat) (fr141 : List Nat) (D142 : Delta) : Prop :=
  LDR true 3 (AV.ptr (nx + 1) 0) (H133.apply D142) fun v143 rd144 =>
  CALLD Tryd.prog (AV.clo 19 []) [a0, v143, a7] (H133.apply D142) (nx134 + fr141.length) (zwlaw1_CellTells_k12 v139 v130 v135 H133 D142 nx134 fr141 v131 v136 rd144 Q)
def zwlaw1_CellTells_k14 (nx : Nat) (a0 : AV) (a7 : AV) (v130 : AV) (v131 : AV) (Q : AV → Heap → Nat → Prop) (v132 : AV) (H133 : Heap) (nx134 : Nat) : Prop :=
  EX v132 0 fun v135 =>
  EX v132 1 fun v136 =>
  LDR true 3 (AV.ptr (nx + 1) 0) H133 fun v137 rd138 =>
  CALLD Tryd.prog (AV.clo 18 []) [a0, v137, a7] H133 nx134 (zwlaw1_CellTells_k13 nx H133 a0 a7 nx134 v130 v135 v131 v136 Q)
def zwlaw1_CellTells_k15 (a0 : AV) (a1 : AV) (nx : Nat) (a7 : AV) (Q : AV → Heap → Nat → Prop) (v127 : AV) (H128 : Heap) (nx129 : Nat) : Prop :=
  EX v127 0 fun v130 =>
  EX v127 1 fun v131 =>
  ACalls Tryd.prog 17 [a0, a1] H128 nx129 (zwlaw1_CellTells_k14 nx a0 a7 v130 v131 Q)
def zwlaw1_CellTells_k16 (nx40 : Nat) (D113 : Delta) (rd115 : List Nat) (fr112 : List Nat) (rd111 : List Nat) (D120 : Delta) (Q : AV → Heap → Nat → Prop) (H39 : Heap) (cells116 : List AV) (fr119 : List Nat) (a7 : AV) (a0 : AV) (a1 : AV) (nx : Nat) (v121 : AV) (rd122 : List Nat) (fr123 : List Nat) (D124 : Delta) : Prop :=
  UO UnOp.not v121 fun v125 =>
  CND v125
  (nx40 ∉ [] ∧
  nx40 ∉ [] ∧
  nx40 ∉ [] ∧
  disjK (domD D113) [] (
  nx40 ∉ rd115 ∧
  nx40 ∉ [] ∧
  disjK (domD D113) rd115 (
  disjK (domD D113) [] (
  ((nx40 + 1) + fr112.length) ∉ [] ∧
  nx40 ∉ [] ∧
  nx40 ∉ [((nx40 + 1) + fr112.length)] ∧
  ((nx40 + 1) + fr112.length) ∉ [] ∧
  ((nx40 + 1) + fr112.length) ∉ [] ∧
  disjK (domD D113) [] (
  disjK (domD D113) [((nx40 + 1) + fr112.length)] (
  ((nx40 + 1) + fr112.length) ∉ rd111 ∧
  disjK (domD D120) [] (
  Q (AV.bool true) (((((H39.put nx40 (some (AObj.row 3 []))).apply D113).put (((nx40 + 1) + fr112.length)) (some (AObj.row 3 cells116))).apply D120).apply D124) (((((nx40 + 1) + fr112.length) + 1) + fr119.length) + fr123.length))))))))
  (BI BinOp.gtr a7 (AV.int IntKind.i64 5) fun v126 =>
  nx40 ∉ [] ∧
  nx40 ∉ [] ∧
  nx40 ∉ [] ∧
  disjK (domD D113) [] (
  nx40 ∉ rd115 ∧
  nx40 ∉ [] ∧
  disjK (domD D113) rd115 (
  disjK (domD D113) [] (
  ((nx40 + 1) + fr112.length) ∉ [] ∧
  nx40 ∉ [] ∧
  nx40 ∉ [((nx40 + 1) + fr112.length)] ∧
  ((nx40 + 1) + fr112.length) ∉ [] ∧
  ((nx40 + 1) + fr112.length) ∉ [] ∧
  disjK (domD D113) [] (
  disjK (domD D113) [((nx40 + 1) + fr112.length)] (
  ((nx40 + 1) + fr112.length) ∉ rd111 ∧
  disjK (domD D120) [] (
  CNDC v126
  (Q (AV.bool true) (((((H39.put nx40 (some (AObj.row 3 []))).apply D113).put (((nx40 + 1) + fr112.length)) (some (AObj.row 3 cells116))).apply D120).apply D124) (((((nx40 + 1) + fr112.length) + 1) + fr119.length) + fr123.length))
  (ACalls Tryd.prog 16 [a0, a1] (((((H39.put nx40 (some (AObj.row 3 []))).apply D113).put (((nx40 + 1) + fr112.length)) (some (AObj.row 3 cells116))).apply D120).apply D124) (((((nx40 + 1) + fr112.length) + 1) + fr119.length) + fr123.length) (zwlaw1_CellTells_k15 a0 a1 nx a7 Q)))))))))
def zwlaw1_CellTells_k17 (nx : Nat) (a4 : AV) (Q : AV → Heap → Nat → Prop) (a1 : AV) (a0 : AV) (a7 : AV) (v38 : AV) (H39 : Heap) (nx40 : Nat) : Prop :=
  BI BinOp.eql v38 (AV.int IntKind.i64 0) fun v41 =>
  CNDC v41
  (LD true 3 (AV.ptr nx 0) H39 fun v42 =>
  LD true 3 (AV.ptr (nx + 1) 0) H39 fun v43 =>
  ACalls Tryd.prog 13 [a4, v42, v43] H39 nx40 (zwlaw1_CellTells_k9 nx a4 Q a1 a0 a7))
  (APPEND 3 32 (AV.slc nx40 0 0) a1 (H39.put nx40 (some (AObj.row 3 []))) (nx40 + 1) fun v110 rd111 fr112 D113 =>
  LDR true 3 (AV.ptr (nx + 1) 0) ((H39.put nx40 (some (AObj.row 3 []))).apply D113) fun v114 rd115 =>
  BSL 1 3 [AV.int IntKind.i64 0, AV.int IntKind.i64 0, AV.str []] [(0, v114)] fun cells116 =>
  APPEND 3 32 v110 (AV.slc ((nx40 + 1) + fr112.length) 0 1) (((H39.put nx40 (some (AObj.row 3 []))).apply D113).put (((nx40 + 1) + fr112.length)) (some (AObj.row 3 cells116))) (((nx40 + 1) + fr112.length) + 1) fun v117 rd118 fr119 D120 =>
  CALLD Tryd.prog (AV.clo 15 []) [a0, v117] ((((H39.put nx40 (some (AObj.row 3 []))).apply D113).put (((nx40 + 1) + fr112.length)) (some (AObj.row 3 cells116))).apply D120) ((((nx40 + 1) + fr112.length) + 1) + fr119.length) (zwlaw1_CellTells_k16 nx40 D113 rd115 fr112 rd111 D120 Q H39 cells116 fr119 a7 a0 a1 nx))
def zwlaw1_CellTells_k18 (D190 : Delta) (rd192 : List Nat) (Q : AV → Heap → Nat → Prop) (H181 : Heap) (D196 : Delta) (D201 : Delta) (nx182 : Nat) (fr189 : List Nat) (fr195 : List Nat) (fr200 : List Nat) (v202 : AV) (rd203 : List Nat) (fr204 : List Nat) (D205 : Delta) : Prop :=
  disjK (domD D190) [] (
  disjK (domD D190) [] (
  disjK (domD D190) rd192 (
  disjK (domD D190) [] (
  disjK (domD D190) [] (
  disjK (domD D190) [] (
  Q v202 ((((H181.apply D190).apply D196).apply D201).apply D205) ((((nx182 + fr189.length) + fr195.length) + fr200.length) + fr204.length)))))))
def zwlaw1_CellTells_k19 (v179 : AV) (v184 : AV) (H181 : Heap) (D190 : Delta) (D196 : Delta) (nx182 : Nat) (fr189 : List Nat) (fr195 : List Nat) (rd192 : List Nat) (Q : AV → Heap → Nat → Prop) (v198 : AV) (rd199 : List Nat) (fr200 : List Nat) (D201 : Delta) : Prop :=
  CND v198
  (CALLD Tryd.prog (AV.clo 21 []) [v179, v184] (((H181.apply D190).apply D196).apply D201) (((nx182 + fr189.length) + fr195.length) + fr200.length) (zwlaw1_CellTells_k18 D190 rd192 Q H181 D196 D201 nx182 fr189 fr195 fr200))
  (disjK (domD D190) [] (
  disjK (domD D190) [] (
  disjK (domD D190) rd192 (
  disjK (domD D190) [] (
  disjK (domD D190) [] (
  disjK (domD D190) [] (
  Q (AV.bool false) (((H181.apply D190).apply D196).apply D201) (((nx182 + fr189.length) + fr195.length) + fr200.length))))))))
def zwlaw1_CellTells_k20 (v187 : AV) (v178 : AV) (v183 : AV) (H181 : Heap) (D190 : Delta) (nx182 : Nat) (fr189 : List Nat) (v179 : AV) (v184 : AV) (rd192 : List Nat) (Q : AV → Heap → Nat → Prop) (v193 : AV) (rd194 : List Nat) (fr195 : List Nat) (D196 : Delta) : Prop :=
  BS BinOp.eql v187 v193 fun v197 =>
  CND v197
  (CALLD Tryd.prog (AV.clo 20 []) [v178, v183] ((H181.apply D190).apply D196) ((nx182 + fr189.length) + fr195.length) (zwlaw1_CellTells_k19 v179 v184 H181 D190 D196 nx182 fr189 fr195 rd192 Q))
  (disjK (domD D190) [] (
  disjK (domD D190) [] (
  disjK (domD D190) rd192 (
  disjK (domD D190) [] (
  disjK (domD D190) [] (
  disjK (domD D190) [] (
  Q (AV.bool false) ((H181.apply D190).apply D196) ((nx182 + fr189.length) + fr195.length))))))))
def zwlaw1_CellTells_k21 (nx : Nat) (H181 : Heap) (a0 : AV) (a7 : AV) (nx182 : Nat) (v178 : AV) (v183 : AV) (v179 : AV) (v184 : AV) (Q : AV → Heap → Nat → Prop) (v187 : AV) (rd188 : List Nat) (fr189 : List Nat) (D190 : Delta) : Prop :=
  LDR true 3 (AV.ptr (nx + 1) 0) (H181.apply D190) fun v191 rd192 =>
  CALLD Tryd.prog (AV.clo 19 []) [a0, v191, a7] (H181.apply D190) (nx182 + fr189.length) (zwlaw1_CellTells_k20 v187 v178 v183 H181 D190 nx182 fr189 v179 v184 rd192 Q)
def zwlaw1_CellTells_k22 (nx : Nat) (a0 : AV) (a7 : AV) (v178 : AV) (v179 : AV) (Q : AV → Heap → Nat → Prop) (v180 : AV) (H181 : Heap) (nx182 : Nat) : Prop :=
  EX v180 0 fun v183 =>
  EX v180 1 fun v184 =>
  LDR true 3 (AV.ptr (nx + 1) 0) H181 fun v185 rd186 =>
  CALLD Tryd.prog (AV.clo 18 []) [a0, v185, a7] H181 nx182 (zwlaw1_CellTells_k21 nx H181 a0 a7 nx182 v178 v183 v179 v184 Q)
def zwlaw1_CellTells_k23 (a0 : AV) (a1 : AV) (nx : Nat) (a7 : AV) (Q : AV → Heap → Nat → Prop) (v175 : AV) (H176 : Heap) (nx177 : Nat) : Prop :=
  EX v175 0 fun v178 =>
  EX v175 1 fun v179 =>
  ACalls Tryd.prog 17 [a0, a1] H176 nx177 (zwlaw1_CellTells_k22 nx a0 a7 v178 v179 Q)
def zwlaw1_CellTells_k24 (nx35 : Nat) (D161 : Delta) (rd163 : List Nat) (fr160 : List Nat) (rd159 : List Nat) (D168 : Delta) (Q : AV → Heap → Nat → Prop) (H34 : Heap) (cells164 : List AV) (fr167 : List Nat) (a7 : AV) (a0 : AV) (a1 : AV) (nx : Nat) (v169 : AV) (rd170 : List Nat) (fr171 : List Nat) (D172 : Delta) : Prop :=
  UO UnOp.not v169 fun v173 =>
  CND v173
  (nx35 ∉ [] ∧
  nx35 ∉ [] ∧
  nx35 ∉ [] ∧
  disjK (domD D161) [] (
  nx35 ∉ rd163 ∧
  nx35 ∉ [] ∧
  disjK (domD D161) rd163 (
  disjK (domD D161) [] (
  ((nx35 + 1) + fr160.length) ∉ [] ∧
  nx35 ∉ [] ∧
  nx35 ∉ [((nx35 + 1) + fr160.length)] ∧
  ((nx35 + 1) + fr160.length) ∉ [] ∧
  ((nx35 + 1) + fr160.length) ∉ [] ∧
  disjK (domD D161) [] (
  disjK (domD D161) [((nx35 + 1) + fr160.length)] (
  ((nx35 + 1) + fr160.length) ∉ rd159 ∧
  disjK (domD D168) [] (
  Q (AV.bool true) (((((H34.put nx35 (some (AObj.row 3 []))).apply D161).put (((nx35 + 1) + fr160.length)) (some (AObj.row 3 cells164))).apply D168).apply D172) (((((nx35 + 1) + fr160.length) + 1) + fr167.length) + fr171.length))))))))
  (BI BinOp.gtr a7 (AV.int IntKind.i64 5) fun v174 =>
  nx35 ∉ [] ∧
  nx35 ∉ [] ∧
  nx35 ∉ [] ∧
  disjK (domD D161) [] (
  nx35 ∉ rd163 ∧
  nx35 ∉ [] ∧
  disjK (domD D161) rd163 (
  disjK (domD D161) [] (
  ((nx35 + 1) + fr160.length) ∉ [] ∧
  nx35 ∉ [] ∧
  nx35 ∉ [((nx35 + 1) + fr160.length)] ∧
  ((nx35 + 1) + fr160.length) ∉ [] ∧
  ((nx35 + 1) + fr160.length) ∉ [] ∧
  disjK (domD D161) [] (
  disjK (domD D161) [((nx35 + 1) + fr160.length)] (
  ((nx35 + 1) + fr160.length) ∉ rd159 ∧
  disjK (domD D168) [] (
  CNDC v174
  (Q (AV.bool true) (((((H34.put nx35 (some (AObj.row 3 []))).apply D161).put (((nx35 + 1) + fr160.length)) (some (AObj.row 3 cells164))).apply D168).apply D172) (((((nx35 + 1) + fr160.length) + 1) + fr167.length) + fr171.length))
  (ACalls Tryd.prog 16 [a0, a1] (((((H34.put nx35 (some (AObj.row 3 []))).apply D161).put (((nx35 + 1) + fr160.length)) (some (AObj.row 3 cells164))).apply D168).apply D172) (((((nx35 + 1) + fr160.length) + 1) + fr167.length) + fr171.length) (zwlaw1_CellTells_k23 a0 a1 nx a7 Q)))))))))
def zwlaw1_CellTells_k25 (nx : Nat) (a4 : AV) (Q : AV → Heap → Nat → Prop) (a1 : AV) (a0 : AV) (a7 : AV) (v33 : AV) (H34 : Heap) (nx35 : Nat) : Prop :=
  BI BinOp.eql v33 (AV.int IntKind.i64 0) fun v36 =>
  CND v36
  (LD true 3 (AV.ptr (nx + 1) 0) H34 fun v37 =>
  ACalls Tryd.prog 12 [v37, AV.int IntKind.i64 1073741824] H34 nx35 (zwlaw1_CellTells_k17 nx a4 Q a1 a0 a7))
  (APPEND 3 32 (AV.slc nx35 0 0) a1 (H34.put nx35 (some (AObj.row 3 []))) (nx35 + 1) fun v158 rd159 fr160 D161 =>
  LDR true 3 (AV.ptr (nx + 1) 0) ((H34.put nx35 (some (AObj.row 3 []))).apply D161) fun v162 rd163 =>
  BSL 1 3 [AV.int IntKind.i64 0, AV.int IntKind.i64 0, AV.str []] [(0, v162)] fun cells164 =>
  APPEND 3 32 v158 (AV.slc ((nx35 + 1) + fr160.length) 0 1) (((H34.put nx35 (some (AObj.row 3 []))).apply D161).put (((nx35 + 1) + fr160.length)) (some (AObj.row 3 cells164))) (((nx35 + 1) + fr160.length) + 1) fun v165 rd166 fr167 D168 =>
  CALLD Tryd.prog (AV.clo 15 []) [a0, v165] ((((H34.put nx35 (some (AObj.row 3 []))).apply D161).put (((nx35 + 1) + fr160.length)) (some (AObj.row 3 cells164))).apply D168) ((((nx35 + 1) + fr160.length) + 1) + fr167.length) (zwlaw1_CellTells_k24 nx35 D161 rd163 fr160 rd159 D168 Q H34 cells164 fr167 a7 a0 a1 nx))
def zwlaw1_CellTells_k26 (v21 : AV) (D4 : Delta) (D13 : Delta) (D24 : Delta) (rd26 : List Nat) (Q : AV → Heap → Nat → Prop) (H : Heap) (nx : Nat) (a2 : AV) (a3 : AV) (D8 : Delta) (D17 : Delta) (fr3 : List Nat) (fr7 : List Nat) (fr12 : List Nat) (fr16 : List Nat) (fr23 : List Nat) (a4 : AV) (a1 : AV) (a0 : AV) (a7 : AV) (v27 : AV) (rd28 : List Nat) (fr29 : List Nat) (D30 : Delta) : Prop :=
  BI BinOp.neq v21 v27 fun v31 =>
  disjK (domD D4) [] (
  disjK (domD D4) [] (
  disjK (domD D13) [] (
  disjK (domD D13) [] (
  disjK (domD D24) rd26 (
  disjK (domD D24) [] (
  disjK (domD D24) [] (
  disjK (domD D24) [] (
  CNDC v31
  (Q (AV.bool false) ((((((((H.put nx (some (AObj.row a2.cells.length a2.cells))).put ((nx + 1)) (some (AObj.row a3.cells.length a3.cells))).apply D4).apply D8).apply D13).apply D17).apply D24).apply D30) (((((((nx + 2) + fr3.length) + fr7.length) + fr12.length) + fr16.length) + fr23.length) + fr29.length))
  (LD true 3 (AV.ptr nx 0) ((((((((H.put nx (some (AObj.row a2.cells.length a2.cells))).put ((nx + 1)) (some (AObj.row a3.cells.length a3.cells))).apply D4).apply D8).apply D13).apply D17).apply D24).apply D30) fun v32 =>
  ACalls Tryd.prog 12 [v32, AV.int IntKind.i64 1073741824] ((((((((H.put nx (some (AObj.row a2.cells.length a2.cells))).put ((nx + 1)) (some (AObj.row a3.cells.length a3.cells))).apply D4).apply D8).apply D13).apply D17).apply D24).apply D30) (((((((nx + 2) + fr3.length) + fr7.length) + fr12.length) + fr16.length) + fr23.length) + fr29.length) (zwlaw1_CellTells_k25 nx a4 Q a1 a0 a7))))))))))
def zwlaw1_CellTells_k27 (nx : Nat) (H : Heap) (a2 : AV) (a3 : AV) (D4 : Delta) (D8 : Delta) (D13 : Delta) (D17 : Delta) (a5 : AV) (fr3 : List Nat) (fr7 : List Nat) (fr12 : List Nat) (fr16 : List Nat) (Q : AV → Heap → Nat → Prop) (a4 : AV) (a1 : AV) (a0 : AV) (a7 : AV) (v21 : AV) (rd22 : List Nat) (fr23 : List Nat) (D24 : Delta) : Prop :=
  LDR true 3 (AV.ptr nx 0) (((((((H.put nx (some (AObj.row a2.cells.length a2.cells))).put ((nx + 1)) (some (AObj.row a3.cells.length a3.cells))).apply D4).apply D8).apply D13).apply D17).apply D24) fun v25 rd26 =>
  CALLD Tryd.prog (AV.clo 12 []) [v25, a5] (((((((H.put nx (some (AObj.row a2.cells.length a2.cells))).put ((nx + 1)) (some (AObj.row a3.cells.length a3.cells))).apply D4).apply D8).apply D13).apply D17).apply D24) ((((((nx + 2) + fr3.length) + fr7.length) + fr12.length) + fr16.length) + fr23.length) (zwlaw1_CellTells_k26 v21 D4 D13 D24 rd26 Q H nx a2 a3 D8 D17 fr3 fr7 fr12 fr16 fr23 a4 a1 a0 a7)
def zwlaw1_CellTells_k28 (v10 : AV) (D4 : Delta) (D13 : Delta) (Q : AV → Heap → Nat → Prop) (H : Heap) (nx : Nat) (a2 : AV) (a3 : AV) (D8 : Delta) (fr3 : List Nat) (fr7 : List Nat) (fr12 : List Nat) (a5 : AV) (a4 : AV) (a1 : AV) (a0 : AV) (a7 : AV) (v14 : AV) (rd15 : List Nat) (fr16 : List Nat) (D17 : Delta) : Prop :=
  gd (eqsT 25) (
  BA [AV.int IntKind.i64 0, AV.int IntKind.i64 0, AV.str []] BinOp.neq v10 v14 fun v18 =>
  CND v18
  (disjK (domD D4) [] (
  disjK (domD D4) [] (
  disjK (domD D13) [] (
  disjK (domD D13) [] (
  Q (AV.bool false) ((((((H.put nx (some (AObj.row a2.cells.length a2.cells))).put ((nx + 1)) (some (AObj.row a3.cells.length a3.cells))).apply D4).apply D8).apply D13).apply D17) (((((nx + 2) + fr3.length) + fr7.length) + fr12.length) + fr16.length))))))
  (LDR true 3 (AV.ptr nx 0) ((((((H.put nx (some (AObj.row a2.cells.length a2.cells))).put ((nx + 1)) (some (AObj.row a3.cells.length a3.cells))).apply D4).apply D8).apply D13).apply D17) fun v19 rd20 =>
  CALLD Tryd.prog (AV.clo 11 []) [v19, a5] ((((((H.put nx (some (AObj.row a2.cells.length a2.cells))).put ((nx + 1)) (some (AObj.row a3.cells.length a3.cells))).apply D4).apply D8).apply D13).apply D17) (((((nx + 2) + fr3.length) + fr7.length) + fr12.length) + fr16.length) (zwlaw1_CellTells_k27 nx H a2 a3 D4 D8 D13 D17 a5 fr3 fr7 fr12 fr16 Q a4 a1 a0 a7)))
def zwlaw1_CellTells_k29 (a6 : AV) (H : Heap) (nx : Nat) (a2 : AV) (a3 : AV) (D4 : Delta) (D8 : Delta) (fr3 : List Nat) (fr7 : List Nat) (Q : AV → Heap → Nat → Prop) (a5 : AV) (a4 : AV) (a1 : AV) (a0 : AV) (a7 : AV) (v10 : AV) (rd11 : List Nat) (fr12 : List Nat) (D13 : Delta) : Prop :=
  CALLD Tryd.prog (AV.clo 10 []) [a6] (((((H.put nx (some (AObj.row a2.cells.length a2.cells))).put ((nx + 1)) (some (AObj.row a3.cells.length a3.cells))).apply D4).apply D8).apply D13) ((((nx + 2) + fr3.length) + fr7.length) + fr12.length) (zwlaw1_CellTells_k28 v10 D4 D13 Q H nx a2 a3 D8 fr3 fr7 fr12 a5 a4 a1 a0 a7)
def zwlaw1_CellTells_k30 (v1 : AV) (D4 : Delta) (Q : AV → Heap → Nat → Prop) (H : Heap) (nx : Nat) (a2 : AV) (a3 : AV) (fr3 : List Nat) (a6 : AV) (a5 : AV) (a4 : AV) (a1 : AV) (a0 : AV) (a7 : AV) (v5 : AV) (rd6 : List Nat) (fr7 : List Nat) (D8 : Delta) : Prop :=
  gd (eqsT 25) (
  BA [AV.int IntKind.i64 0, AV.int IntKind.i64 0, AV.str []] BinOp.neq v1 v5 fun v9 =>
  CND v9
  (disjK (domD D4) [] (
  disjK (domD D4) [] (
  Q (AV.bool false) ((((H.put nx (some (AObj.row a2.cells.length a2.cells))).put ((nx + 1)) (some (AObj.row a3.cells.length a3.cells))).apply D4).apply D8) (((nx + 2) + fr3.length) + fr7.length))))
  (CALLD Tryd.prog (AV.clo 9 []) [a6] ((((H.put nx (some (AObj.row a2.cells.length a2.cells))).put ((nx + 1)) (some (AObj.row a3.cells.length a3.cells))).apply D4).apply D8) (((nx + 2) + fr3.length) + fr7.length) (zwlaw1_CellTells_k29 a6 H nx a2 a3 D4 D8 fr3 fr7 Q a5 a4 a1 a0 a7)))
def zwlaw1_CellTells_k31 (a5 : AV) (H : Heap) (nx : Nat) (a2 : AV) (a3 : AV) (Q : AV → Heap → Nat → Prop) (a6 : AV) (a4 : AV) (a1 : AV) (a0 : AV) (a7 : AV) (v1 : AV) (rd2 : List Nat) (fr3 : List Nat) (D4 : Delta) : Prop :=
  CALLD Tryd.prog (AV.clo 8 []) [a5] (((H.put nx (some (AObj.row a2.cells.length a2.cells))).put ((nx + 1)) (some (AObj.row a3.cells.length a3.cells))).apply D4) ((nx + 2) + fr3.length) (zwlaw1_CellTells_k30 v1 D4 Q H nx a2 a3 fr3 a6 a5 a4 a1 a0 a7)
def zwlaw1_CellTells_vc (a0 a1 a2 a3 a4 a5 a6 a7 : AV) (H : Heap) (nx : Nat) (Q : AV → Heap → Nat → Prop) : Prop :=
  a2.sure = true ∧
  a3.sure = true ∧
  CALLD Tryd.prog (AV.clo 7 []) [a5] ((H.put nx (some (AObj.row a2.cells.length a2.cells))).put ((nx + 1)) (some (AObj.row a3.cells.length a3.cells))) (nx + 2) (zwlaw1_CellTells_k31 a5 H nx a2 a3 Q a6 a4 a1 a0 a7)
theorem zwlaw1_CellTells_eq (a0 a1 a2 a3 a4 a5 a6 a7 : AV) (H : Heap) (nx : Nat) (Q : AV → Heap → Nat → Prop) : body Tryd.prog tab eqsT (lvOf zwlaw1_CellTells_lv) Tryd.f3 (codeOf Tryd.f3) [a0, a1, a2, a3, a4, a5, a6, a7] H nx Q = zwlaw1_CellTells_vc a0 a1 a2 a3 a4 a5 a6 a7 H nx Q := by kernel_rfl
theorem zwlaw1_CellTells_calls (a0 a1 a2 a3 a4 a5 a6 a7 : AV) (H : Heap) (nx : Nat) (Q : AV → Heap → Nat → Prop) : zwlaw1_CellTells_vc a0 a1 a2 a3 a4 a5 a6 a7 H nx Q → ACalls Tryd.prog 3 [a0, a1, a2, a3, a4, a5, a6, a7] H nx Q :=
  acalls_eq (lv := lvOf zwlaw1_CellTells_lv) (c := codeOf Tryd.f3) tabOk eqsOk mixed Tryd.func3 (by kernel_rfl) (by kernel_rfl) (by kernel_rfl) (by kernel_rfl) (zwlaw1_CellTells_eq a0 a1 a2 a3 a4 a5 a6 a7 H nx Q)

/-- wanderstaff/zwlaw1.alive -/
def zwlaw1_alive_lv : List (Nat × Nat × List Nat) := []
def zwlaw1_alive_k1 (D33 : Delta) (rd29 : List Nat) (Q : AV → Heap → Nat → Prop) (H23 : Heap) (D56 : Delta) (nx24 : Nat) (fr32 : List Nat) (fr55 : List Nat) (v58 : AV) (rd59 : List Nat) (fr60 : List Nat) (D61 : Delta) : Prop :=
  BI BinOp.eql v58 (AV.int IntKind.i64 6) fun v62 =>
  disjK (domD D33) rd29 (
  Q v62 (((H23.apply D33).apply D56).apply D61) (((nx24 + fr32.length) + fr55.length) + fr60.length))
def zwlaw1_alive_k2 (H23 : Heap) (D33 : Delta) (nx24 : Nat) (fr32 : List Nat) (rd29 : List Nat) (Q : AV → Heap → Nat → Prop) (v53 : AV) (rd54 : List Nat) (fr55 : List Nat) (D56 : Delta) : Prop :=
  BS BinOp.eql v53 (AV.str [40, 97, 32, 40, 97, 32, 46, 46, 41, 41]) fun v57 =>
  CND v57
  (CALLD Tryd.prog (AV.clo 11 []) [AV.agg [AV.int IntKind.i64 2, AV.int IntKind.i64 2, AV.str []], AV.int IntKind.i64 2] ((H23.apply D33).apply D56) ((nx24 + fr32.length) + fr55.length) (zwlaw1_alive_k1 D33 rd29 Q H23 D56 nx24 fr32 fr55))
  (disjK (domD D33) rd29 (
  Q (AV.bool false) ((H23.apply D33).apply D56) ((nx24 + fr32.length) + fr55.length)))
def zwlaw1_alive_k3 (v28 : AV) (nx9 : Nat) (H23 : Heap) (v25 : AV) (v26 : AV) (nx19 : Nat) (nx24 : Nat) (rd29 : List Nat) (Q : AV → Heap → Nat → Prop) (v30 : AV) (rd31 : List Nat) (fr32 : List Nat) (D33 : Delta) : Prop :=
  gd (eqsT 25) (
  BA [AV.int IntKind.i64 0, AV.int IntKind.i64 0, AV.str []] BinOp.eql v28 v30 fun v34 =>
  CND v34
  (LDR false 1 (AV.ptr nx9 1) (H23.apply D33) fun v35 rd36 =>
  BI BinOp.eql v35 (AV.int IntKind.i64 5) fun v37 =>
  CND v37
  (LNL v25 fun v38 =>
  BI BinOp.eql v38 (AV.int IntKind.i64 1) fun v39 =>
  CND v39
  (IA 3 v25 (AV.int IntKind.i64 0) fun v40 =>
  FA 1 v40 fun v41 =>
  LDR false 1 v41 (H23.apply D33) fun v42 rd43 =>
  BI BinOp.eql v42 (AV.int IntKind.i64 0) fun v44 =>
  CND v44
  (LNL v26 fun v45 =>
  BI BinOp.eql v45 (AV.int IntKind.i64 1) fun v46 =>
  CND v46
  (IA 6 v26 (AV.int IntKind.i64 0) fun v47 =>
  FA 3 v47 fun v48 =>
  FA 1 v48 fun v49 =>
  LDR false 1 v49 (H23.apply D33) fun v50 rd51 =>
  BI BinOp.eql v50 (AV.int IntKind.i64 0) fun v52 =>
  CND v52
  (CALLD Tryd.prog (AV.clo 18 []) [AV.slc nx19 0 2, AV.agg [AV.int IntKind.i64 2, AV.int IntKind.i64 1, AV.str []], AV.int IntKind.i64 2] (H23.apply D33) (nx24 + fr32.length) (zwlaw1_alive_k2 H23 D33 nx24 fr32 rd29 Q))
  (disjK (domD D33) rd29 (
  Q (AV.bool false) (H23.apply D33) (nx24 + fr32.length))))
  (disjK (domD D33) rd29 (
  Q (AV.bool false) (H23.apply D33) (nx24 + fr32.length))))
  (disjK (domD D33) rd29 (
  Q (AV.bool false) (H23.apply D33) (nx24 + fr32.length))))
  (disjK (domD D33) rd29 (
  Q (AV.bool false) (H23.apply D33) (nx24 + fr32.length))))
  (disjK (domD D33) rd29 (
  Q (AV.bool false) (H23.apply D33) (nx24 + fr32.length))))
  (disjK (domD D33) rd29 (
  Q (AV.bool false) (H23.apply D33) (nx24 + fr32.length))))
def zwlaw1_alive_k4 (v11 : AV) (nx9 : Nat) (nx19 : Nat) (Q : AV → Heap → Nat → Prop) (v22 : AV) (H23 : Heap) (nx24 : Nat) : Prop :=
  EX v22 0 fun v25 =>
  EX v22 1 fun v26 =>
  BI BinOp.eql v11 (AV.int IntKind.i64 0) fun v27 =>
  CND v27
  (LDR true 3 (AV.ptr nx9 0) H23 fun v28 rd29 =>
  CALLD Tryd.prog (AV.clo 7 []) [AV.int IntKind.i64 5] H23 nx24 (zwlaw1_alive_k3 v28 nx9 H23 v25 v26 nx19 nx24 rd29 Q))
  (Q (AV.bool false) H23 nx24)
def zwlaw1_alive_k5 (v16 : AV) (v11 : AV) (nx9 : Nat) (Q : AV → Heap → Nat → Prop) (v17 : AV) (H18 : Heap) (nx19 : Nat) : Prop :=
  BD (placeOf tab [(25, 0), (25, 3)]) [AV.int IntKind.i64 0, AV.int IntKind.i64 0, AV.str [], AV.int IntKind.i64 0, AV.int IntKind.i64 0, AV.str []] [(0, v17), (1, AV.agg [AV.int IntKind.i64 2, AV.int IntKind.i64 1, AV.str []])] fun v20 =>
  BSL 2 6 [AV.int IntKind.i64 0, AV.int IntKind.i64 0, AV.str [], AV.int IntKind.i64 0, AV.int IntKind.i64 0, AV.str []] [(0, v16), (1, v20)] fun cells21 =>
  ACalls Tryd.prog 16 [AV.slc nx19 0 2, AV.slc (nx19 + 1) 0 1] ((H18.put nx19 (some (AObj.row 6 cells21))).put ((nx19 + 1)) (some (AObj.row 3 [AV.int IntKind.i64 2, AV.int IntKind.i64 1, AV.str []]))) (nx19 + 2) (zwlaw1_alive_k4 v11 nx9 nx19 Q)
def zwlaw1_alive_k6 (v11 : AV) (nx9 : Nat) (Q : AV → Heap → Nat → Prop) (v13 : AV) (H14 : Heap) (nx15 : Nat) : Prop :=
  BD (placeOf tab [(25, 0), (25, 3)]) [AV.int IntKind.i64 0, AV.int IntKind.i64 0, AV.str [], AV.int IntKind.i64 0, AV.int IntKind.i64 0, AV.str []] [(0, v13)] fun v16 =>
  ACalls Tryd.prog 9 [AV.str [97]] H14 nx15 (zwlaw1_alive_k5 v16 v11 nx9 Q)
def zwlaw1_alive_k7 (Q : AV → Heap → Nat → Prop) (v7 : AV) (H8 : Heap) (nx9 : Nat) : Prop :=
  EX v7 0 fun v10 =>
  EX v7 1 fun v11 =>
  ST 3 (AV.ptr nx9 0) v10 (H8.put nx9 (some (AObj.row 3 [AV.int IntKind.i64 0, AV.int IntKind.i64 0, AV.str []]))) fun H12 =>
  ACalls Tryd.prog 7 [AV.int IntKind.i64 9] H12 (nx9 + 1) (zwlaw1_alive_k6 v11 nx9 Q)
def zwlaw1_alive_k8 (v1 : AV) (Q : AV → Heap → Nat → Prop) (v4 : AV) (H5 : Heap) (nx6 : Nat) : Prop :=
  ACalls Tryd.prog 13 [AV.int IntKind.i64 1, v1, v4] H5 nx6 (zwlaw1_alive_k7 Q)
def zwlaw1_alive_k9 (Q : AV → Heap → Nat → Prop) (v1 : AV) (H2 : Heap) (nx3 : Nat) : Prop :=
  ACalls Tryd.prog 7 [AV.int IntKind.i64 3] H2 nx3 (zwlaw1_alive_k8 v1 Q)
def zwlaw1_alive_vc (H : Heap) (nx : Nat) (Q : AV → Heap → Nat → Prop) : Prop :=
  ACalls Tryd.prog 7 [AV.int IntKind.i64 2] H nx (zwlaw1_alive_k9 Q)
theorem zwlaw1_alive_eq (H : Heap) (nx : Nat) (Q : AV → Heap → Nat → Prop) : body Tryd.prog tab eqsT (lvOf zwlaw1_alive_lv) Tryd.f22 (codeOf Tryd.f22) [] H nx Q = zwlaw1_alive_vc  H nx Q := by kernel_rfl
theorem zwlaw1_alive_calls (H : Heap) (nx : Nat) (Q : AV → Heap → Nat → Prop) : zwlaw1_alive_vc  H nx Q → ACalls Tryd.prog 22 [] H nx Q :=
  acalls_eq (lv := lvOf zwlaw1_alive_lv) (c := codeOf Tryd.f22) tabOk eqsOk mixed Tryd.func22 (by kernel_rfl) (by kernel_rfl) (by kernel_rfl) (by kernel_rfl) (zwlaw1_alive_eq  H nx Q)

/-- wanderstaff/zwlaw1.CellCanon -/
def zwlaw1_CellCanon_lv : List (Nat × Nat × List Nat) := [(2, 9, [0, 1, 2, 7, 8, 47, 48])]
def zwlaw1_CellCanon_k1 (v34 : AV) (D37 : Delta) (rd40 : List Nat) (Q : AV → Heap → Nat → Prop) (H28 : Heap) (nx29 : Nat) (fr36 : List Nat) (xs27 : List AV) (K26 : J3) (v41 : AV) (rd42 : List Nat) (fr43 : List Nat) (D44 : Delta) : Prop :=
  BS BinOp.neq v34 v41 fun v45 =>
  disjK (domD D37) [] (
  disjK (domD D37) [] (
  disjK (domD D37) [] (
  disjK (domD D37) [] (
  disjK (domD D37) [] (
  disjK (domD D37) [] (
  disjK (domD D37) [] (
  disjK (domD D37) [] (
  disjK (domD D37) rd40 (
  disjK (domD D37) [] (
  disjK (domD D37) [] (
  disjK (domD D37) [] (
  CNDC v45
  (Q (AV.bool false) ((H28.apply D37).apply D44) ((nx29 + fr36.length) + fr43.length))
  (BI BinOp.add (nth xs27 6) (AV.int IntKind.i64 1) fun v46 =>
  K26 [nth xs27 0, nth xs27 1, nth xs27 2, nth xs27 3, nth xs27 4, nth xs27 5, v46] ((H28.apply D37).apply D44) ((nx29 + fr36.length) + fr43.length))))))))))))))
def zwlaw1_CellCanon_k2 (xs27 : List AV) (H28 : Heap) (nx29 : Nat) (Q : AV → Heap → Nat → Prop) (K26 : J3) (v34 : AV) (rd35 : List Nat) (fr36 : List Nat) (D37 : Delta) : Prop :=
  IA 3 (nth xs27 3) (nth xs27 6) fun v38 =>
  LDR true 3 v38 (H28.apply D37) fun v39 rd40 =>
  CALLD Tryd.prog (AV.clo 19 []) [nth xs27 4, v39, nth xs27 2] (H28.apply D37) (nx29 + fr36.length) (zwlaw1_CellCanon_k1 v34 D37 rd40 Q H28 nx29 fr36 xs27 K26)
def zwlaw1_CellCanon_k3 (Q : AV → Heap → Nat → Prop) (v55 : AV) (H56 : Heap) (nx57 : Nat) : Prop :=
  Q v55 H56 nx57
def zwlaw1_CellCanon_k4 (xs27 : List AV) (v51 : AV) (Q : AV → Heap → Nat → Prop) (v52 : AV) (H53 : Heap) (nx54 : Nat) : Prop :=
  CND v52
  (ACalls Tryd.prog 21 [nth xs27 4, v51] H53 nx54 (zwlaw1_CellCanon_k3 Q))
  (Q (AV.bool false) H53 nx54)
def zwlaw1_CellCanon_k5 (xs27 : List AV) (Q : AV → Heap → Nat → Prop) (v47 : AV) (H48 : Heap) (nx49 : Nat) : Prop :=
  EX v47 0 fun v50 =>
  EX v47 1 fun v51 =>
  ACalls Tryd.prog 20 [nth xs27 3, v50] H48 nx49 (zwlaw1_CellCanon_k4 xs27 v51 Q)
def zwlaw1_CellCanon_l1 (Q : AV → Heap → Nat → Prop) (K26 : J3) (xs27 : List AV) (H28 : Heap) (nx29 : Nat) : Prop :=
  BI BinOp.lss (nth xs27 6) (nth xs27 5) fun v30 =>
  CNDC v30
  (IA 3 (nth xs27 1) (nth xs27 6) fun v31 =>
  LDR true 3 v31 H28 fun v32 rd33 =>
  CALLD Tryd.prog (AV.clo 19 []) [nth xs27 0, v32, nth xs27 2] H28 nx29 (zwlaw1_CellCanon_k2 xs27 H28 nx29 Q K26))
  (ACalls Tryd.prog 16 [nth xs27 4, nth xs27 3] H28 nx29 (zwlaw1_CellCanon_k5 xs27 Q))
def zwlaw1_CellCanon_k6 (Q : AV → Heap → Nat → Prop) (a1 : AV) (a0 : AV) (a2 : AV) (v13 : AV) (v14 : AV) (v21 : AV) (H22 : Heap) (nx23 : Nat) : Prop :=
  UO UnOp.not v21 fun v24 =>
  CNDC v24
  (Q (AV.bool false) H22 nx23)
  (LNL a1 fun v25 =>
  LP (zwlaw1_CellCanon_l1 Q) [a0, a1, a2, v13, v14, v25, AV.int IntKind.i64 0] H22 nx23)
def zwlaw1_CellCanon_k7 (a1 : AV) (Q : AV → Heap → Nat → Prop) (a0 : AV) (a2 : AV) (v10 : AV) (H11 : Heap) (nx12 : Nat) : Prop :=
  EX v10 0 fun v13 =>
  EX v10 1 fun v14 =>
  LNL v13 fun v15 =>
  LNL a1 fun v16 =>
  BI BinOp.neq v15 v16 fun v17 =>
  CND v17
  (Q (AV.bool false) H11 nx12)
  (LNL v14 fun v18 =>
  LNL a0 fun v19 =>
  BI BinOp.gtr v18 v19 fun v20 =>
  CND v20
  (Q (AV.bool false) H11 nx12)
  (ACalls Tryd.prog 15 [v14, v13] H11 nx12 (zwlaw1_CellCanon_k6 Q a1 a0 a2 v13 v14)))
def zwlaw1_CellCanon_k8 (Q : AV → Heap → Nat → Prop) (a2 : AV) (a0 : AV) (a1 : AV) (v5 : AV) (H6 : Heap) (nx7 : Nat) : Prop :=
  UO UnOp.not v5 fun v8 =>
  CND v8
  (Q (AV.bool true) H6 nx7)
  (BI BinOp.gtr a2 (AV.int IntKind.i64 5) fun v9 =>
  CNDC v9
  (Q (AV.bool true) H6 nx7)
  (ACalls Tryd.prog 16 [a0, a1] H6 nx7 (zwlaw1_CellCanon_k7 a1 Q a0 a2)))
def zwlaw1_CellCanon_k9 (Q : AV → Heap → Nat → Prop) (a0 : AV) (a1 : AV) (a2 : AV) (v1 : AV) (H2 : Heap) (nx3 : Nat) : Prop :=
  UO UnOp.not v1 fun v4 =>
  CNDC v4
  (Q (AV.bool false) H2 nx3)
  (ACalls Tryd.prog 15 [a0, a1] H2 nx3 (zwlaw1_CellCanon_k8 Q a2 a0 a1))
def zwlaw1_CellCanon_vc (a0 a1 a2 : AV) (H : Heap) (nx : Nat) (Q : AV → Heap → Nat → Prop) : Prop :=
  ACalls Tryd.prog 22 [] H nx (zwlaw1_CellCanon_k9 Q a0 a1 a2)
theorem zwlaw1_CellCanon_eq (a0 a1 a2 : AV) (H : Heap) (nx : Nat) (Q : AV → Heap → Nat → Prop) : body Tryd.prog tab eqsT (lvOf zwlaw1_CellCanon_lv) Tryd.f4 (codeOf Tryd.f4) [a0, a1, a2] H nx Q = zwlaw1_CellCanon_vc a0 a1 a2 H nx Q := by kernel_rfl
theorem zwlaw1_CellCanon_calls (a0 a1 a2 : AV) (H : Heap) (nx : Nat) (Q : AV → Heap → Nat → Prop) : zwlaw1_CellCanon_vc a0 a1 a2 H nx Q → ACalls Tryd.prog 4 [a0, a1, a2] H nx Q :=
  acalls_eq (lv := lvOf zwlaw1_CellCanon_lv) (c := codeOf Tryd.f4) tabOk eqsOk mixed Tryd.func4 (by kernel_rfl) (by kernel_rfl) (by kernel_rfl) (by kernel_rfl) (zwlaw1_CellCanon_eq a0 a1 a2 H nx Q)

/-- wanderstaff/zwlaw1.CellMoved -/
def zwlaw1_CellMoved_lv : List (Nat × Nat × List Nat) := [(2, 9, [0, 1, 5, 7, 8, 9, 40, 41, 42]), (2, 15, [0, 1, 8, 9, 12, 64, 65, 66])]
def zwlaw1_CellMoved_k1 (v35 : AV) (xs20 : List AV) (v32 : AV) (H26 : Heap) (D38 : Delta) (rd28 : List Nat) (rd31 : List Nat) (rd40 : List Nat) (K19 : J3) (nx22 : Nat) (fr37 : List Nat) (v41 : AV) (rd42 : List Nat) (fr43 : List Nat) (D44 : Delta) : Prop :=
  BD (placeOf tab [(25, 0), (25, 3)]) [AV.int IntKind.i64 0, AV.int IntKind.i64 0, AV.str [], AV.int IntKind.i64 0, AV.int IntKind.i64 0, AV.str []] [(0, v35), (1, v41)] fun v45 =>
  IA 6 (nth xs20 5) v32 fun v46 =>
  STORE 6 v46 v45 ((H26.apply D38).apply D44) fun v47 rd48 fr49 D50 =>
  disjK (domD D38) [] (
  disjK (domD D38) [] (
  disjK (domD D38) rd28 (
  disjK (domD D38) [] (
  disjK (domD D38) rd31 (
  disjK (domD D38) [] (
  disjK (domD D38) [] (
  disjK (domD D38) [] (
  disjK (domD D38) [] (
  disjK (domD D38) [] (
  disjK (domD D38) rd40 (
  disjK (domD D38) [] (
  disjK (domD D44) [] (
  disjK (domD D44) [] (
  disjK (domD D44) rd28 (
  disjK (domD D44) [] (
  disjK (domD D44) rd31 (
  disjK (domD D44) [] (
  BI BinOp.add (nth xs20 8) (AV.int IntKind.i64 1) fun v51 =>
  K19 [nth xs20 0, nth xs20 1, nth xs20 2, nth xs20 3, nth xs20 4, nth xs20 5, nth xs20 6, nth xs20 7, v51] (((H26.apply D38).apply D44).apply D50) ((((nx22 + 1) + fr37.length) + fr43.length) + fr49.length)))))))))))))))))))
def zwlaw1_CellMoved_k2 (nx22 : Nat) (H26 : Heap) (xs20 : List AV) (v32 : AV) (rd28 : List Nat) (rd31 : List Nat) (K19 : J3) (v35 : AV) (rd36 : List Nat) (fr37 : List Nat) (D38 : Delta) : Prop :=
  LDR true 3 (AV.ptr nx22 3) (H26.apply D38) fun v39 rd40 =>
  CALLD Tryd.prog (nth xs20 4) [v39] (H26.apply D38) ((nx22 + 1) + fr37.length) (zwlaw1_CellMoved_k1 v35 xs20 v32 H26 D38 rd28 rd31 rd40 K19 nx22 fr37)
def zwlaw1_CellMoved_k3 (xs54 : List AV) (K53 : J3) (v62 : AV) (H63 : Heap) (nx64 : Nat) : Prop :=
  BSL 1 3 [AV.int IntKind.i64 0, AV.int IntKind.i64 0, AV.str []] [(0, v62)] fun cells65 =>
  APP 3 32 (nth xs54 4) (AV.slc nx64 0 1) (H63.put nx64 (some (AObj.row 3 cells65))) (nx64 + 1) fun v66 H67 nx68 =>
  BI BinOp.add (nth xs54 7) (AV.int IntKind.i64 1) fun v69 =>
  K53 [nth xs54 0, nth xs54 1, nth xs54 2, nth xs54 3, v66, nth xs54 5, nth xs54 6, v69] H67 nx68
def zwlaw1_CellMoved_k4 (Q : AV → Heap → Nat → Prop) (v83 : AV) (H84 : Heap) (nx85 : Nat) : Prop :=
  Q v83 H84 nx85
def zwlaw1_CellMoved_k5 (v74 : AV) (v79 : AV) (Q : AV → Heap → Nat → Prop) (v80 : AV) (H81 : Heap) (nx82 : Nat) : Prop :=
  CND v80
  (ACalls Tryd.prog 21 [v74, v79] H81 nx82 (zwlaw1_CellMoved_k4 Q))
  (Q (AV.bool false) H81 nx82)
def zwlaw1_CellMoved_k6 (v73 : AV) (v74 : AV) (Q : AV → Heap → Nat → Prop) (v75 : AV) (H76 : Heap) (nx77 : Nat) : Prop :=
  EX v75 0 fun v78 =>
  EX v75 1 fun v79 =>
  ACalls Tryd.prog 20 [v73, v78] H76 nx77 (zwlaw1_CellMoved_k5 v74 v79 Q)
def zwlaw1_CellMoved_k7 (xs54 : List AV) (Q : AV → Heap → Nat → Prop) (v70 : AV) (H71 : Heap) (nx72 : Nat) : Prop :=
  EX v70 0 fun v73 =>
  EX v70 1 fun v74 =>
  ACalls Tryd.prog 16 [nth xs54 3, nth xs54 4] H71 nx72 (zwlaw1_CellMoved_k6 v73 v74 Q)
def zwlaw1_CellMoved_l1 (Q : AV → Heap → Nat → Prop) (K53 : J3) (xs54 : List AV) (H55 : Heap) (nx56 : Nat) : Prop :=
  BI BinOp.lss (nth xs54 7) (nth xs54 6) fun v57 =>
  CNDC v57
  (IA 3 (nth xs54 5) (nth xs54 7) fun v58 =>
  LD true 3 v58 H55 fun v59 =>
  ST 3 (AV.ptr nx56 0) v59 (H55.put nx56 (some (AObj.row 3 [AV.int IntKind.i64 0, AV.int IntKind.i64 0, AV.str []]))) fun H60 =>
  LD true 3 (AV.ptr nx56 0) H60 fun v61 =>
  CALL Tryd.prog (nth xs54 2) [v61] H60 (nx56 + 1) (zwlaw1_CellMoved_k3 xs54 K53))
  (ACalls Tryd.prog 16 [nth xs54 0, nth xs54 1] H55 nx56 (zwlaw1_CellMoved_k7 xs54 Q))
def zwlaw1_CellMoved_l2 (Q : AV → Heap → Nat → Prop) (K19 : J3) (xs20 : List AV) (H21 : Heap) (nx22 : Nat) : Prop :=
  BI BinOp.lss (nth xs20 8) (nth xs20 7) fun v23 =>
  CNDC v23
  (IA 6 (nth xs20 6) (nth xs20 8) fun v24 =>
  LD true 6 v24 H21 fun v25 =>
  ST 6 (AV.ptr nx22 0) v25 (H21.put nx22 (some (AObj.row 6 [AV.int IntKind.i64 0, AV.int IntKind.i64 0, AV.str [], AV.int IntKind.i64 0, AV.int IntKind.i64 0, AV.str []]))) fun H26 =>
  LDR false 1 (nth xs20 2) H26 fun v27 rd28 =>
  BI BinOp.add (nth xs20 8) v27 fun v29 =>
  LDR false 1 (nth xs20 3) H26 fun v30 rd31 =>
  BI BinOp.rem v29 v30 fun v32 =>
  LDR true 3 (AV.ptr nx22 0) H26 fun v33 rd34 =>
  CALLD Tryd.prog (nth xs20 4) [v33] H26 (nx22 + 1) (zwlaw1_CellMoved_k2 nx22 H26 xs20 v32 rd28 rd31 K19))
  (LNL (nth xs20 1) fun v52 =>
  LP (zwlaw1_CellMoved_l1 Q) [nth xs20 0, nth xs20 1, nth xs20 4, nth xs20 5, AV.nils, nth xs20 1, v52, AV.int IntKind.i64 0] H21 nx22)
def zwlaw1_CellMoved_k8 (Q : AV → Heap → Nat → Prop) (nx : Nat) (a0 : AV) (a1 : AV) (v5 : AV) (H6 : Heap) (nx7 : Nat) : Prop :=
  UO UnOp.not v5 fun v8 =>
  CND v8
  (Q (AV.bool true) H6 nx7)
  (LD false 1 (AV.ptr nx 0) H6 fun v9 =>
  BI BinOp.lss v9 (AV.int IntKind.i64 0) fun v10 =>
  CND v10
  (Q (AV.bool true) H6 nx7)
  (LD false 1 (AV.ptr nx 0) H6 fun v11 =>
  LNL a0 fun v12 =>
  BI BinOp.geq v11 v12 fun v13 =>
  CNDC v13
  (Q (AV.bool true) H6 nx7)
  (LNL a0 fun v14 =>
  ST 1 (AV.ptr nx7 0) v14 (H6.put nx7 (some (AObj.row 1 [AV.int IntKind.i64 0]))) fun H15 =>
  LD false 1 (AV.ptr nx7 0) H15 fun v16 =>
  MK 64 v16 v16 fun n17 =>
  LNL a0 fun v18 =>
  LP (zwlaw1_CellMoved_l2 Q) [a0, a1, AV.ptr nx 0, AV.ptr nx7 0, AV.clo 23 [AV.ptr nx 0, AV.ptr nx7 0], AV.slc (nx7 + 1) 0 n17, a0, v18, AV.int IntKind.i64 0] (H15.put ((nx7 + 1)) (some (AObj.row 6 (List.replicate n17 [AV.int IntKind.i64 0, AV.int IntKind.i64 0, AV.str [], AV.int IntKind.i64 0, AV.int IntKind.i64 0, AV.str []]).flatten))) (nx7 + 2))))
def zwlaw1_CellMoved_k9 (Q : AV → Heap → Nat → Prop) (a0 : AV) (a1 : AV) (nx : Nat) (v1 : AV) (H2 : Heap) (nx3 : Nat) : Prop :=
  UO UnOp.not v1 fun v4 =>
  CNDC v4
  (Q (AV.bool false) H2 nx3)
  (ACalls Tryd.prog 15 [a0, a1] H2 nx3 (zwlaw1_CellMoved_k8 Q nx a0 a1))
def zwlaw1_CellMoved_vc (a0 a1 a2 : AV) (H : Heap) (nx : Nat) (Q : AV → Heap → Nat → Prop) : Prop :=
  a2.sure = true ∧
  ACalls Tryd.prog 22 [] (H.put nx (some (AObj.row a2.cells.length a2.cells))) (nx + 1) (zwlaw1_CellMoved_k9 Q a0 a1 nx)
theorem zwlaw1_CellMoved_eq (a0 a1 a2 : AV) (H : Heap) (nx : Nat) (Q : AV → Heap → Nat → Prop) : body Tryd.prog tab eqsT (lvOf zwlaw1_CellMoved_lv) Tryd.f5 (codeOf Tryd.f5) [a0, a1, a2] H nx Q = zwlaw1_CellMoved_vc a0 a1 a2 H nx Q := by kernel_rfl
theorem zwlaw1_CellMoved_calls (a0 a1 a2 : AV) (H : Heap) (nx : Nat) (Q : AV → Heap → Nat → Prop) : zwlaw1_CellMoved_vc a0 a1 a2 H nx Q → ACalls Tryd.prog 5 [a0, a1, a2] H nx Q :=
  acalls_eq (lv := lvOf zwlaw1_CellMoved_lv) (c := codeOf Tryd.f5) tabOk eqsOk mixed Tryd.func5 (by kernel_rfl) (by kernel_rfl) (by kernel_rfl) (by kernel_rfl) (zwlaw1_CellMoved_eq a0 a1 a2 H nx Q)

/-- wanderstaff/cell.Canon$1 -/
def cell_Canon_1_lv : List (Nat × Nat × List Nat) := []
def cell_Canon_1_vc (a0 a1 a2 : AV) (H : Heap) (nx : Nat) (Q : AV → Heap → Nat → Prop) : Prop :=
  a0.sure = true ∧
  LD false 1 (AV.ptr nx 0) ((H.put nx (some (AObj.row a0.cells.length a0.cells))).put ((nx + 1)) (some (AObj.row 3 [AV.int IntKind.i64 0, AV.int IntKind.i64 0, AV.str []]))) fun v1 =>
  BI BinOp.neq v1 (AV.int IntKind.i64 2) fun v2 =>
  CNDC v2
  (LD true 3 (AV.ptr nx 0) ((H.put nx (some (AObj.row a0.cells.length a0.cells))).put ((nx + 1)) (some (AObj.row 3 [AV.int IntKind.i64 0, AV.int IntKind.i64 0, AV.str []]))) fun v3 =>
  ST 3 (AV.ptr (nx + 1) 0) v3 ((H.put nx (some (AObj.row a0.cells.length a0.cells))).put ((nx + 1)) (some (AObj.row 3 [AV.int IntKind.i64 0, AV.int IntKind.i64 0, AV.str []]))) fun H4 =>
  LD true 3 (AV.ptr (nx + 1) 0) H4 fun v5 =>
  Q v5 H4 (nx + 2))
  (LD false 1 a1 ((H.put nx (some (AObj.row a0.cells.length a0.cells))).put ((nx + 1)) (some (AObj.row 3 [AV.int IntKind.i64 0, AV.int IntKind.i64 0, AV.str []]))) fun v6 =>
  LD false 1 (AV.ptr nx 1) ((H.put nx (some (AObj.row a0.cells.length a0.cells))).put ((nx + 1)) (some (AObj.row 3 [AV.int IntKind.i64 0, AV.int IntKind.i64 0, AV.str []]))) fun v7 =>
  keyFit (AK.int IntKind.i64) v7 = true ∧
  LK [AV.int IntKind.i64 0] false v6 v7 true ((H.put nx (some (AObj.row a0.cells.length a0.cells))).put ((nx + 1)) (some (AObj.row 3 [AV.int IntKind.i64 0, AV.int IntKind.i64 0, AV.str []]))) fun v8 =>
  EX v8 0 fun v9 =>
  EX v8 1 fun v10 =>
  UO UnOp.not v10 fun v11 =>
  CNDC v11
  (LD false 1 a2 ((H.put nx (some (AObj.row a0.cells.length a0.cells))).put ((nx + 1)) (some (AObj.row 3 [AV.int IntKind.i64 0, AV.int IntKind.i64 0, AV.str []]))) fun v12 =>
  LNL v12 fun v13 =>
  LD false 1 a1 ((H.put nx (some (AObj.row a0.cells.length a0.cells))).put ((nx + 1)) (some (AObj.row 3 [AV.int IntKind.i64 0, AV.int IntKind.i64 0, AV.str []]))) fun v14 =>
  LD false 1 (AV.ptr nx 1) ((H.put nx (some (AObj.row a0.cells.length a0.cells))).put ((nx + 1)) (some (AObj.row 3 [AV.int IntKind.i64 0, AV.int IntKind.i64 0, AV.str []]))) fun v15 =>
  keyFit (AK.int IntKind.i64) v15 = true ∧
  MU v14 v15 v13 ((H.put nx (some (AObj.row a0.cells.length a0.cells))).put ((nx + 1)) (some (AObj.row 3 [AV.int IntKind.i64 0, AV.int IntKind.i64 0, AV.str []]))) fun H16 =>
  LD false 1 a2 H16 fun v17 =>
  LD false 1 (AV.ptr nx 1) H16 fun v18 =>
  BSL 1 1 [AV.int IntKind.i64 0] [(0, v18)] fun cells19 =>
  APP 1 8 v17 (AV.slc (nx + 2) 0 1) (H16.put ((nx + 2)) (some (AObj.row 1 cells19))) (nx + 3) fun v20 H21 nx22 =>
  ST 1 a2 v20 H21 fun H23 =>
  ST 1 (AV.ptr nx 1) v13 H23 fun H24 =>
  LD true 3 (AV.ptr nx 0) H24 fun v25 =>
  ST 3 (AV.ptr (nx + 1) 0) v25 H24 fun H26 =>
  LD true 3 (AV.ptr (nx + 1) 0) H26 fun v27 =>
  Q v27 H26 nx22)
  (ST 1 (AV.ptr nx 1) v9 ((H.put nx (some (AObj.row a0.cells.length a0.cells))).put ((nx + 1)) (some (AObj.row 3 [AV.int IntKind.i64 0, AV.int IntKind.i64 0, AV.str []]))) fun H28 =>
  LD true 3 (AV.ptr nx 0) H28 fun v29 =>
  ST 3 (AV.ptr (nx + 1) 0) v29 H28 fun H30 =>
  LD true 3 (AV.ptr (nx + 1) 0) H30 fun v31 =>
  Q v31 H30 (nx + 2)))
theorem cell_Canon_1_eq (a0 a1 a2 : AV) (H : Heap) (nx : Nat) (Q : AV → Heap → Nat → Prop) : body Tryd.prog tab eqsT (lvOf cell_Canon_1_lv) Tryd.f38 (codeOf Tryd.f38) [a0, a1, a2] H nx Q = cell_Canon_1_vc a0 a1 a2 H nx Q := by kernel_rfl
theorem cell_Canon_1_calls (a0 a1 a2 : AV) (H : Heap) (nx : Nat) (Q : AV → Heap → Nat → Prop) : cell_Canon_1_vc a0 a1 a2 H nx Q → ACalls Tryd.prog 38 [a0, a1, a2] H nx Q :=
  acalls_eq (lv := lvOf cell_Canon_1_lv) (c := codeOf Tryd.f38) tabOk eqsOk mixed Tryd.func38 (by kernel_rfl) (by kernel_rfl) (by kernel_rfl) (by kernel_rfl) (cell_Canon_1_eq a0 a1 a2 H nx Q)

/-- wanderstaff/zwref1.Canon$1 -/
def zwref1_Canon_1_lv : List (Nat × Nat × List Nat) := []
def zwref1_Canon_1_vc (a0 a1 a2 : AV) (H : Heap) (nx : Nat) (Q : AV → Heap → Nat → Prop) : Prop :=
  a0.sure = true ∧
  LD false 1 (AV.ptr nx 0) (H.put nx (some (AObj.row a0.cells.length a0.cells))) fun v1 =>
  BI BinOp.eql v1 (AV.int IntKind.i64 2) fun v2 =>
  CND v2
  (LD false 1 a1 (H.put nx (some (AObj.row a0.cells.length a0.cells))) fun v3 =>
  LD false 1 (AV.ptr nx 1) (H.put nx (some (AObj.row a0.cells.length a0.cells))) fun v4 =>
  IA 1 v3 v4 fun v5 =>
  LD false 1 v5 (H.put nx (some (AObj.row a0.cells.length a0.cells))) fun v6 =>
  BI BinOp.lss v6 (AV.int IntKind.i64 0) fun v7 =>
  CNDC v7
  (LD false 1 a1 (H.put nx (some (AObj.row a0.cells.length a0.cells))) fun v8 =>
  LD false 1 (AV.ptr nx 1) (H.put nx (some (AObj.row a0.cells.length a0.cells))) fun v9 =>
  LD false 1 a2 (H.put nx (some (AObj.row a0.cells.length a0.cells))) fun v10 =>
  LNL v10 fun v11 =>
  IA 1 v8 v9 fun v12 =>
  ST 1 v12 v11 (H.put nx (some (AObj.row a0.cells.length a0.cells))) fun H13 =>
  LD false 1 a2 H13 fun v14 =>
  LD false 1 (AV.ptr nx 1) H13 fun v15 =>
  BSL 1 1 [AV.int IntKind.i64 0] [(0, v15)] fun cells16 =>
  APP 1 8 v14 (AV.slc (nx + 1) 0 1) (H13.put ((nx + 1)) (some (AObj.row 1 cells16))) (nx + 2) fun v17 H18 nx19 =>
  ST 1 a2 v17 H18 fun H20 =>
  Q (AV.tup []) H20 nx19)
  (Q (AV.tup []) (H.put nx (some (AObj.row a0.cells.length a0.cells))) (nx + 1)))
  (Q (AV.tup []) (H.put nx (some (AObj.row a0.cells.length a0.cells))) (nx + 1))
theorem zwref1_Canon_1_eq (a0 a1 a2 : AV) (H : Heap) (nx : Nat) (Q : AV → Heap → Nat → Prop) : body Tryd.prog tab eqsT (lvOf zwref1_Canon_1_lv) Tryd.f40 (codeOf Tryd.f40) [a0, a1, a2] H nx Q = zwref1_Canon_1_vc a0 a1 a2 H nx Q := by kernel_rfl
theorem zwref1_Canon_1_calls (a0 a1 a2 : AV) (H : Heap) (nx : Nat) (Q : AV → Heap → Nat → Prop) : zwref1_Canon_1_vc a0 a1 a2 H nx Q → ACalls Tryd.prog 40 [a0, a1, a2] H nx Q :=
  acalls_eq (lv := lvOf zwref1_Canon_1_lv) (c := codeOf Tryd.f40) tabOk eqsOk mixed Tryd.func40 (by kernel_rfl) (by kernel_rfl) (by kernel_rfl) (by kernel_rfl) (zwref1_Canon_1_eq a0 a1 a2 H nx Q)

/-- wanderstaff/zwref1.Canon$2 -/
def zwref1_Canon_2_lv : List (Nat × Nat × List Nat) := []
def zwref1_Canon_2_vc (a0 a1 : AV) (H : Heap) (nx : Nat) (Q : AV → Heap → Nat → Prop) : Prop :=
  a0.sure = true ∧
  LD false 1 (AV.ptr nx 0) ((H.put nx (some (AObj.row a0.cells.length a0.cells))).put ((nx + 1)) (some (AObj.row 3 [AV.int IntKind.i64 0, AV.int IntKind.i64 0, AV.str []]))) fun v1 =>
  BI BinOp.eql v1 (AV.int IntKind.i64 2) fun v2 =>
  CNDC v2
  (LD false 1 a1 ((H.put nx (some (AObj.row a0.cells.length a0.cells))).put ((nx + 1)) (some (AObj.row 3 [AV.int IntKind.i64 0, AV.int IntKind.i64 0, AV.str []]))) fun v3 =>
  LD false 1 (AV.ptr nx 1) ((H.put nx (some (AObj.row a0.cells.length a0.cells))).put ((nx + 1)) (some (AObj.row 3 [AV.int IntKind.i64 0, AV.int IntKind.i64 0, AV.str []]))) fun v4 =>
  IA 1 v3 v4 fun v5 =>
  LD false 1 v5 ((H.put nx (some (AObj.row a0.cells.length a0.cells))).put ((nx + 1)) (some (AObj.row 3 [AV.int IntKind.i64 0, AV.int IntKind.i64 0, AV.str []]))) fun v6 =>
  ST 1 (AV.ptr nx 1) v6 ((H.put nx (some (AObj.row a0.cells.length a0.cells))).put ((nx + 1)) (some (AObj.row 3 [AV.int IntKind.i64 0, AV.int IntKind.i64 0, AV.str []]))) fun H7 =>
  LD true 3 (AV.ptr nx 0) H7 fun v8 =>
  ST 3 (AV.ptr (nx + 1) 0) v8 H7 fun H9 =>
  LD true 3 (AV.ptr (nx + 1) 0) H9 fun v10 =>
  Q v10 H9 (nx + 2))
  (LD true 3 (AV.ptr nx 0) ((H.put nx (some (AObj.row a0.cells.length a0.cells))).put ((nx + 1)) (some (AObj.row 3 [AV.int IntKind.i64 0, AV.int IntKind.i64 0, AV.str []]))) fun v11 =>
  ST 3 (AV.ptr (nx + 1) 0) v11 ((H.put nx (some (AObj.row a0.cells.length a0.cells))).put ((nx + 1)) (some (AObj.row 3 [AV.int IntKind.i64 0, AV.int IntKind.i64 0, AV.str []]))) fun H12 =>
  LD true 3 (AV.ptr (nx + 1) 0) H12 fun v13 =>
  Q v13 H12 (nx + 2))
theorem zwref1_Canon_2_eq (a0 a1 : AV) (H : Heap) (nx : Nat) (Q : AV → Heap → Nat → Prop) : body Tryd.prog tab eqsT (lvOf zwref1_Canon_2_lv) Tryd.f41 (codeOf Tryd.f41) [a0, a1] H nx Q = zwref1_Canon_2_vc a0 a1 H nx Q := by kernel_rfl
theorem zwref1_Canon_2_calls (a0 a1 : AV) (H : Heap) (nx : Nat) (Q : AV → Heap → Nat → Prop) : zwref1_Canon_2_vc a0 a1 H nx Q → ACalls Tryd.prog 41 [a0, a1] H nx Q :=
  acalls_eq (lv := lvOf zwref1_Canon_2_lv) (c := codeOf Tryd.f41) tabOk eqsOk mixed Tryd.func41 (by kernel_rfl) (by kernel_rfl) (by kernel_rfl) (by kernel_rfl) (zwref1_Canon_2_eq a0 a1 H nx Q)

/-- wanderstaff/zwlaw1.CellMoved$1 -/
def zwlaw1_CellMoved_1_lv : List (Nat × Nat × List Nat) := []
def zwlaw1_CellMoved_1_vc (a0 a1 a2 : AV) (H : Heap) (nx : Nat) (Q : AV → Heap → Nat → Prop) : Prop :=
  a0.sure = true ∧
  LD false 1 (AV.ptr nx 0) ((H.put nx (some (AObj.row a0.cells.length a0.cells))).put ((nx + 1)) (some (AObj.row 3 [AV.int IntKind.i64 0, AV.int IntKind.i64 0, AV.str []]))) fun v1 =>
  BI BinOp.eql v1 (AV.int IntKind.i64 2) fun v2 =>
  CNDC v2
  (LD false 1 (AV.ptr nx 1) ((H.put nx (some (AObj.row a0.cells.length a0.cells))).put ((nx + 1)) (some (AObj.row 3 [AV.int IntKind.i64 0, AV.int IntKind.i64 0, AV.str []]))) fun v3 =>
  LD false 1 a1 ((H.put nx (some (AObj.row a0.cells.length a0.cells))).put ((nx + 1)) (some (AObj.row 3 [AV.int IntKind.i64 0, AV.int IntKind.i64 0, AV.str []]))) fun v4 =>
  BI BinOp.add v3 v4 fun v5 =>
  LD false 1 a2 ((H.put nx (some (AObj.row a0.cells.length a0.cells))).put ((nx + 1)) (some (AObj.row 3 [AV.int IntKind.i64 0, AV.int IntKind.i64 0, AV.str []]))) fun v6 =>
  BI BinOp.rem v5 v6 fun v7 =>
  ST 1 (AV.ptr nx 1) v7 ((H.put nx (some (AObj.row a0.cells.length a0.cells))).put ((nx + 1)) (some (AObj.row 3 [AV.int IntKind.i64 0, AV.int IntKind.i64 0, AV.str []]))) fun H8 =>
  LD true 3 (AV.ptr nx 0) H8 fun v9 =>
  ST 3 (AV.ptr (nx + 1) 0) v9 H8 fun H10 =>
  LD true 3 (AV.ptr (nx + 1) 0) H10 fun v11 =>
  Q v11 H10 (nx + 2))
  (LD true 3 (AV.ptr nx 0) ((H.put nx (some (AObj.row a0.cells.length a0.cells))).put ((nx + 1)) (some (AObj.row 3 [AV.int IntKind.i64 0, AV.int IntKind.i64 0, AV.str []]))) fun v12 =>
  ST 3 (AV.ptr (nx + 1) 0) v12 ((H.put nx (some (AObj.row a0.cells.length a0.cells))).put ((nx + 1)) (some (AObj.row 3 [AV.int IntKind.i64 0, AV.int IntKind.i64 0, AV.str []]))) fun H13 =>
  LD true 3 (AV.ptr (nx + 1) 0) H13 fun v14 =>
  Q v14 H13 (nx + 2))
theorem zwlaw1_CellMoved_1_eq (a0 a1 a2 : AV) (H : Heap) (nx : Nat) (Q : AV → Heap → Nat → Prop) : body Tryd.prog tab eqsT (lvOf zwlaw1_CellMoved_1_lv) Tryd.f23 (codeOf Tryd.f23) [a0, a1, a2] H nx Q = zwlaw1_CellMoved_1_vc a0 a1 a2 H nx Q := by kernel_rfl
theorem zwlaw1_CellMoved_1_calls (a0 a1 a2 : AV) (H : Heap) (nx : Nat) (Q : AV → Heap → Nat → Prop) : zwlaw1_CellMoved_1_vc a0 a1 a2 H nx Q → ACalls Tryd.prog 23 [a0, a1, a2] H nx Q :=
  acalls_eq (lv := lvOf zwlaw1_CellMoved_1_lv) (c := codeOf Tryd.f23) tabOk eqsOk mixed Tryd.func23 (by kernel_rfl) (by kernel_rfl) (by kernel_rfl) (by kernel_rfl) (zwlaw1_CellMoved_1_eq a0 a1 a2 H nx Q)

end Go.Proofs.YtejohcohkgcmhaaDoor
