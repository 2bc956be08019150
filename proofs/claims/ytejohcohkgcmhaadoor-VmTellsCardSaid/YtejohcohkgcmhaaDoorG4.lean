/- What is to be shown of each function, written out. What a call made may be forgotten, or is never written again: then it is read by value. How what is to be shown is taken apart. More of how what is to be shown is taken apart. Maps, and more. Calls that only read: what they are handed may be owned. How Go data lies in memory, as Lean data: a predicate with the set of blocks that it rests on. The plain data of the program: values, cells, code, programs, agents; and how they lie in memory. What is wrong with values, programs, and agents: plain functions. -/
import Derived.Test.YtejohcohkgcmhaaDoorG3
import Derived.IntWalk
import Derived.WalkKit
import Derived.Deep.Slices
namespace Go.Proofs.YtejohcohkgcmhaaDoor
open Go Go.RowKit
@[simp] theorem zawe : zf tab 2 = 1 := by kernel_rfl
@[simp] theorem zawd : zf tab 3 = 1 := by kernel_rfl
@[simp] theorem zawc : zf tab 4 = 1 := by kernel_rfl
@[simp] theorem zawb : zf tab 5 = 1 := by kernel_rfl
@[simp] theorem zawa : zf tab 6 = 1 := by kernel_rfl
@[simp] theorem zavz : zf tab 9 = 1 := by kernel_rfl
@[simp] theorem zauw : zf tab 12 = 1 := by kernel_rfl
@[simp] theorem zauv : zf tab 17 = 1 := by kernel_rfl
@[simp] theorem zauu : zf tab 22 = 1 := by kernel_rfl
@[simp] theorem zaut : zf tab 23 = 1 := by kernel_rfl
@[simp] theorem zaus : zf tab 25 = 3 := by kernel_rfl
@[simp] theorem zaur : zf tab 28 = 1 := by kernel_rfl
@[simp] theorem zauq : zf tab 44 = 1 := by kernel_rfl
@[simp] theorem zaup : zf tab 45 = 1 := by kernel_rfl
@[simp] theorem zauo : zf tab 47 = 2 := by kernel_rfl
@[simp] theorem zaun : zf tab 48 = 1 := by kernel_rfl
@[simp] theorem zaum : zf tab 50 = 3 := by kernel_rfl
@[simp] theorem zaul : zf tab 52 = 9 := by kernel_rfl
@[simp] theorem zauk : zf tab 53 = 1 := by kernel_rfl
@[simp] theorem zauj : zf tab 58 = 3 := by kernel_rfl
@[simp] theorem zaui : zf tab 79 = 1 := by kernel_rfl
@[simp] theorem zauh : zf tab 87 = 1 := by kernel_rfl
@[simp] theorem zatl : zf tab 125 = 1 := by kernel_rfl
@[simp] theorem zatk : zf tab 136 = 0 := by kernel_rfl
@[simp] theorem zatj : zf tab 140 = 1 := by kernel_rfl
@[simp] theorem zati : zf tab 141 = 1 := by kernel_rfl
@[simp] theorem zath : zf tab 142 = 1 := by kernel_rfl
@[simp] theorem zatg : zf tab 143 = 1 := by kernel_rfl
@[simp] theorem zatf : zf tab 144 = 1 := by kernel_rfl
@[simp] theorem zate : zf tab 145 = 1 := by kernel_rfl
def zym : List (Nat × Nat × List Nat) := []
def zqb (a0 : AV) (H : Heap) (nx : Nat) (Q : AV → Heap → Nat → Prop) : Prop :=
  BI BinOp.rem a0 (AV.int IntKind.i64 1073741825) fun v1 =>
  BD (zu tab [(3, 0), (3, 1), (9, 2)]) [AV.int IntKind.i64 0, AV.int IntKind.i64 0, AV.str []] [(1, v1)] fun v2 =>
  ST 3 (AV.ptr nx 0) v2 (H.put nx (some (AObj.row 3 [AV.int IntKind.i64 0, AV.int IntKind.i64 0, AV.str []]))) fun H3 =>
  LD true 3 (AV.ptr nx 0) H3 fun v4 =>
  Q v4 H3 (nx + 1)
theorem zahu (a0 : AV) (H : Heap) (nx : Nat) (Q : AV → Heap → Nat → Prop) : body Tryd.prog tab eqsT (lvOf zym) Tryd.f7 (zd Tryd.f7) [a0] H nx Q = zqb a0 H nx Q := by kernel_rfl
theorem zacv (a0 : AV) (H : Heap) (nx : Nat) (Q : AV → Heap → Nat → Prop) : zqb a0 H nx Q → za Tryd.prog 7 [a0] H nx Q :=
  zh (lv := lvOf zym) (c := zd Tryd.f7) zw zx mixed Tryd.func7 (by kernel_rfl) (by kernel_rfl) (by kernel_rfl) (by kernel_rfl) (zahu a0 H nx Q)
def zos : List (Nat × Nat × List Nat) := [(2, 2, [0, 3])]
def zot (Q : AV → Heap → Nat → Prop) (K1 : J3) (xs2 : List AV) (H3 : Heap) (nx4 : Nat) : Prop :=
  BI BinOp.geq (nth xs2 0) (nth xs2 1) fun v5 =>
  CND v5
  (BI BinOp.quo (nth xs2 0) (nth xs2 1) fun v6 =>
  BI BinOp.mul v6 (nth xs2 1) fun v7 =>
  BI BinOp.sub (nth xs2 0) v7 fun v8 =>
  K1 [v8, nth xs2 1] H3 nx4)
  (UO UnOp.neg (nth xs2 1) fun v9 =>
  BI BinOp.leq (nth xs2 0) v9 fun v10 =>
  CNDC v10
  (BI BinOp.quo (nth xs2 0) (nth xs2 1) fun v11 =>
  BI BinOp.mul v11 (nth xs2 1) fun v12 =>
  BI BinOp.sub (nth xs2 0) v12 fun v13 =>
  K1 [v13, nth xs2 1] H3 nx4)
  (Q (nth xs2 0) H3 nx4))
def zic (a0 : AV) (H : Heap) (nx : Nat) (Q : AV → Heap → Nat → Prop) : Prop :=
  LP (zot Q) [a0, AV.int IntKind.i64 1073741825] H nx
theorem zaam (a0 : AV) (H : Heap) (nx : Nat) (Q : AV → Heap → Nat → Prop) : body Tryd.prog tab eqsT (lvOf zos) Tryd.f35 (zd Tryd.f35) [a0] H nx Q = zic a0 H nx Q := by kernel_rfl
theorem ztx (a0 : AV) (H : Heap) (nx : Nat) (Q : AV → Heap → Nat → Prop) : zic a0 H nx Q → za Tryd.prog 35 [a0] H nx Q :=
  zh (lv := lvOf zos) (c := zd Tryd.f35) zw zx mixed Tryd.func35 (by kernel_rfl) (by kernel_rfl) (by kernel_rfl) (by kernel_rfl) (zaam a0 H nx Q)
def ztd : List (Nat × Nat × List Nat) := []
def zte (nx : Nat) (Q : AV → Heap → Nat → Prop) (v1 : AV) (H2 : Heap) (nx3 : Nat) : Prop :=
  BD (zu tab [(3, 0), (3, 1), (9, 2)]) [AV.int IntKind.i64 0, AV.int IntKind.i64 0, AV.str []] [(1, v1)] fun v4 =>
  ST 3 (AV.ptr nx 0) v4 H2 fun H5 =>
  LD true 3 (AV.ptr nx 0) H5 fun v6 =>
  Q v6 H5 nx3
def zkt (a0 : AV) (H : Heap) (nx : Nat) (Q : AV → Heap → Nat → Prop) : Prop :=
  za Tryd.prog 35 [a0] (H.put nx (some (AObj.row 3 [AV.int IntKind.i64 0, AV.int IntKind.i64 0, AV.str []]))) (nx + 1) (zte nx Q)
theorem zael (a0 : AV) (H : Heap) (nx : Nat) (Q : AV → Heap → Nat → Prop) : body Tryd.prog tab eqsT (lvOf ztd) Tryd.f8 (zd Tryd.f8) [a0] H nx Q = zkt a0 H nx Q := by kernel_rfl
theorem zyt (a0 : AV) (H : Heap) (nx : Nat) (Q : AV → Heap → Nat → Prop) : zkt a0 H nx Q → za Tryd.prog 8 [a0] H nx Q :=
  zh (lv := lvOf ztd) (c := zd Tryd.f8) zw zx mixed Tryd.func8 (by kernel_rfl) (by kernel_rfl) (by kernel_rfl) (by kernel_rfl) (zael a0 H nx Q)
def zvk : List (Nat × Nat × List Nat) := []
def znx (a0 : AV) (H : Heap) (nx : Nat) (Q : AV → Heap → Nat → Prop) : Prop :=
  LNS a0 fun v1 =>
  MM true v1 (AV.int IntKind.i64 60) fun v2 =>
  SLS a0 none (some v2) fun v3 =>
  BD (zu tab [(3, 0), (3, 1), (9, 2)]) [AV.int IntKind.i64 0, AV.int IntKind.i64 0, AV.str []] [(0, AV.int IntKind.i64 1), (2, v3)] fun v4 =>
  ST 3 (AV.ptr nx 0) v4 (H.put nx (some (AObj.row 3 [AV.int IntKind.i64 0, AV.int IntKind.i64 0, AV.str []]))) fun H5 =>
  LD true 3 (AV.ptr nx 0) H5 fun v6 =>
  Q v6 H5 (nx + 1)
theorem zagr (a0 : AV) (H : Heap) (nx : Nat) (Q : AV → Heap → Nat → Prop) : body Tryd.prog tab eqsT (lvOf zvk) Tryd.f9 (zd Tryd.f9) [a0] H nx Q = znx a0 H nx Q := by kernel_rfl
theorem zabm (a0 : AV) (H : Heap) (nx : Nat) (Q : AV → Heap → Nat → Prop) : znx a0 H nx Q → za Tryd.prog 9 [a0] H nx Q :=
  zh (lv := lvOf zvk) (c := zd Tryd.f9) zw zx mixed Tryd.func9 (by kernel_rfl) (by kernel_rfl) (by kernel_rfl) (by kernel_rfl) (zagr a0 H nx Q)
def zqm : List (Nat × Nat × List Nat) := []
def zjc (a0 : AV) (H : Heap) (nx : Nat) (Q : AV → Heap → Nat → Prop) : Prop :=
  LNS a0 fun v1 =>
  BI BinOp.gtr v1 (AV.int IntKind.i64 60) fun v2 =>
  CNDC v2
  (SLS a0 none (some (AV.int IntKind.i64 60)) fun v3 =>
  BD (zu tab [(3, 0), (3, 1), (9, 2)]) [AV.int IntKind.i64 0, AV.int IntKind.i64 0, AV.str []] [(0, AV.int IntKind.i64 1), (2, v3)] fun v4 =>
  ST 3 (AV.ptr nx 0) v4 (H.put nx (some (AObj.row 3 [AV.int IntKind.i64 0, AV.int IntKind.i64 0, AV.str []]))) fun H5 =>
  LD true 3 (AV.ptr nx 0) H5 fun v6 =>
  Q v6 H5 (nx + 1))
  (BD (zu tab [(3, 0), (3, 1), (9, 2)]) [AV.int IntKind.i64 0, AV.int IntKind.i64 0, AV.str []] [(0, AV.int IntKind.i64 1), (2, a0)] fun v7 =>
  ST 3 (AV.ptr nx 0) v7 (H.put nx (some (AObj.row 3 [AV.int IntKind.i64 0, AV.int IntKind.i64 0, AV.str []]))) fun H8 =>
  LD true 3 (AV.ptr nx 0) H8 fun v9 =>
  Q v9 H8 (nx + 1))
theorem zacd (a0 : AV) (H : Heap) (nx : Nat) (Q : AV → Heap → Nat → Prop) : body Tryd.prog tab eqsT (lvOf zqm) Tryd.f10 (zd Tryd.f10) [a0] H nx Q = zjc a0 H nx Q := by kernel_rfl
theorem zwv (a0 : AV) (H : Heap) (nx : Nat) (Q : AV → Heap → Nat → Prop) : zjc a0 H nx Q → za Tryd.prog 10 [a0] H nx Q :=
  zh (lv := lvOf zqm) (c := zd Tryd.f10) zw zx mixed Tryd.func10 (by kernel_rfl) (by kernel_rfl) (by kernel_rfl) (by kernel_rfl) (zacd a0 H nx Q)
def zhz : List (Nat × Nat × List Nat) := []
def zed (a0 a1 : AV) (H : Heap) (nx : Nat) (Q : AV → Heap → Nat → Prop) : Prop :=
  a0.sure = true ∧
  LD false 1 (AV.ptr nx 0) (H.put nx (some (AObj.row a0.cells.length a0.cells))) fun v1 =>
  BI BinOp.eql v1 (AV.int IntKind.i64 0) fun v2 =>
  CNDC v2
  (LD false 1 (AV.ptr nx 1) (H.put nx (some (AObj.row a0.cells.length a0.cells))) fun v3 =>
  BI BinOp.lss v3 (AV.int IntKind.i64 (-1073741824)) fun v4 =>
  CND v4
  (Q (AV.int IntKind.i64 3) (H.put nx (some (AObj.row a0.cells.length a0.cells))) (nx + 1))
  (LD false 1 (AV.ptr nx 1) (H.put nx (some (AObj.row a0.cells.length a0.cells))) fun v5 =>
  BI BinOp.gtr v5 (AV.int IntKind.i64 1073741824) fun v6 =>
  CNDC v6
  (Q (AV.int IntKind.i64 3) (H.put nx (some (AObj.row a0.cells.length a0.cells))) (nx + 1))
  (LD false 1 (AV.ptr nx 2) (H.put nx (some (AObj.row a0.cells.length a0.cells))) fun v7 =>
  BS BinOp.neq v7 (AV.str []) fun v8 =>
  CNDC v8
  (Q (AV.int IntKind.i64 2) (H.put nx (some (AObj.row a0.cells.length a0.cells))) (nx + 1))
  (Q (AV.int IntKind.i64 0) (H.put nx (some (AObj.row a0.cells.length a0.cells))) (nx + 1)))))
  (BI BinOp.eql v1 (AV.int IntKind.i64 1) fun v9 =>
  CNDC v9
  (LD false 1 (AV.ptr nx 2) (H.put nx (some (AObj.row a0.cells.length a0.cells))) fun v10 =>
  LNS v10 fun v11 =>
  BI BinOp.gtr v11 (AV.int IntKind.i64 60) fun v12 =>
  CNDC v12
  (Q (AV.int IntKind.i64 4) (H.put nx (some (AObj.row a0.cells.length a0.cells))) (nx + 1))
  (LD false 1 (AV.ptr nx 1) (H.put nx (some (AObj.row a0.cells.length a0.cells))) fun v13 =>
  BI BinOp.neq v13 (AV.int IntKind.i64 0) fun v14 =>
  CNDC v14
  (Q (AV.int IntKind.i64 2) (H.put nx (some (AObj.row a0.cells.length a0.cells))) (nx + 1))
  (Q (AV.int IntKind.i64 0) (H.put nx (some (AObj.row a0.cells.length a0.cells))) (nx + 1))))
  (BI BinOp.eql v1 (AV.int IntKind.i64 2) fun v15 =>
  CNDC v15
  (LD false 1 (AV.ptr nx 1) (H.put nx (some (AObj.row a0.cells.length a0.cells))) fun v16 =>
  BI BinOp.lss v16 (AV.int IntKind.i64 0) fun v17 =>
  CND v17
  (Q (AV.int IntKind.i64 6) (H.put nx (some (AObj.row a0.cells.length a0.cells))) (nx + 1))
  (LD false 1 (AV.ptr nx 1) (H.put nx (some (AObj.row a0.cells.length a0.cells))) fun v18 =>
  BI BinOp.geq v18 a1 fun v19 =>
  CNDC v19
  (Q (AV.int IntKind.i64 6) (H.put nx (some (AObj.row a0.cells.length a0.cells))) (nx + 1))
  (LD false 1 (AV.ptr nx 2) (H.put nx (some (AObj.row a0.cells.length a0.cells))) fun v20 =>
  BS BinOp.neq v20 (AV.str []) fun v21 =>
  CNDC v21
  (Q (AV.int IntKind.i64 2) (H.put nx (some (AObj.row a0.cells.length a0.cells))) (nx + 1))
  (Q (AV.int IntKind.i64 0) (H.put nx (some (AObj.row a0.cells.length a0.cells))) (nx + 1)))))
  (Q (AV.int IntKind.i64 1) (H.put nx (some (AObj.row a0.cells.length a0.cells))) (nx + 1))))
theorem zrd (a0 a1 : AV) (H : Heap) (nx : Nat) (Q : AV → Heap → Nat → Prop) : body Tryd.prog tab eqsT (lvOf zhz) Tryd.f12 (zd Tryd.f12) [a0, a1] H nx Q = zed a0 a1 H nx Q := by kernel_rfl
theorem zoa (a0 a1 : AV) (H : Heap) (nx : Nat) (Q : AV → Heap → Nat → Prop) : zed a0 a1 H nx Q → za Tryd.prog 12 [a0, a1] H nx Q :=
  zh (lv := lvOf zhz) (c := zd Tryd.f12) zw zx mixed Tryd.func12 (by kernel_rfl) (by kernel_rfl) (by kernel_rfl) (by kernel_rfl) (zrd a0 a1 H nx Q)
def zth : List (Nat × Nat × List Nat) := []
def zkz (a0 : AV) (H : Heap) (nx : Nat) (Q : AV → Heap → Nat → Prop) : Prop :=
  CNDC a0
  (ST 3 (AV.ptr nx 0) (AV.agg [AV.int IntKind.i64 0, AV.int IntKind.i64 1, AV.str []]) (H.put nx (some (AObj.row 3 [AV.int IntKind.i64 0, AV.int IntKind.i64 0, AV.str []]))) fun H1 =>
  LD true 3 (AV.ptr nx 0) H1 fun v2 =>
  Q (AV.tup [v2, AV.int IntKind.i64 0]) H1 (nx + 1))
  (ST 3 (AV.ptr nx 0) (AV.agg [AV.int IntKind.i64 0, AV.int IntKind.i64 0, AV.str []]) (H.put nx (some (AObj.row 3 [AV.int IntKind.i64 0, AV.int IntKind.i64 0, AV.str []]))) fun H3 =>
  LD true 3 (AV.ptr nx 0) H3 fun v4 =>
  Q (AV.tup [v4, AV.int IntKind.i64 0]) H3 (nx + 1))
theorem zaes (a0 : AV) (H : Heap) (nx : Nat) (Q : AV → Heap → Nat → Prop) : body Tryd.prog tab eqsT (lvOf zth) Tryd.f36 (zd Tryd.f36) [a0] H nx Q = zkz a0 H nx Q := by kernel_rfl
theorem zzn (a0 : AV) (H : Heap) (nx : Nat) (Q : AV → Heap → Nat → Prop) : zkz a0 H nx Q → za Tryd.prog 36 [a0] H nx Q :=
  zh (lv := lvOf zth) (c := zd Tryd.f36) zw zx mixed Tryd.func36 (by kernel_rfl) (by kernel_rfl) (by kernel_rfl) (by kernel_rfl) (zaes a0 H nx Q)
def zye : List (Nat × Nat × List Nat) := [(0, 1, [0, 4, 5, 6, 14]), (0, 6, [0, 4, 5, 6, 8, 26]), (0, 8, [0, 4, 5, 6, 8, 45])]
def zyl (xs1 : List AV) (Q : AV → Heap → Nat → Prop) (v11 : AV) (H12 : Heap) (nx13 : Nat) : Prop :=
  EX v11 0 fun v14 =>
  EX v11 1 fun v15 =>
  ST 3 (nth xs1 3) v14 H12 fun H16 =>
  LD true 3 (nth xs1 3) H16 fun v17 =>
  Q (AV.tup [v17, v15]) H16 nx13
def zyk (xs18 : List AV) (Q : AV → Heap → Nat → Prop) (v27 : AV) (H28 : Heap) (nx29 : Nat) : Prop :=
  ST 3 (nth xs18 3) v27 H28 fun H30 =>
  LD true 3 (nth xs18 3) H30 fun v31 =>
  Q (AV.tup [v31, AV.int IntKind.i64 0]) H30 nx29
def zyj (xs32 : List AV) (Q : AV → Heap → Nat → Prop) (v41 : AV) (H42 : Heap) (nx43 : Nat) : Prop :=
  EX v41 0 fun v44 =>
  EX v41 1 fun v45 =>
  ST 3 (nth xs32 3) v44 H42 fun H46 =>
  LD true 3 (nth xs32 3) H46 fun v47 =>
  Q (AV.tup [v47, v45]) H46 nx43
def zyi (xs32 : List AV) (Q : AV → Heap → Nat → Prop) (v64 : AV) (H65 : Heap) (nx66 : Nat) : Prop :=
  ST 3 (nth xs32 3) v64 H65 fun H67 =>
  LD true 3 (nth xs32 3) H67 fun v68 =>
  Q (AV.tup [v68, AV.int IntKind.i64 0]) H67 nx66
def zyh (xs32 : List AV) (Q : AV → Heap → Nat → Prop) (v75 : AV) (H76 : Heap) (nx77 : Nat) : Prop :=
  ST 3 (nth xs32 3) v75 H76 fun H78 =>
  LD true 3 (nth xs32 3) H78 fun v79 =>
  Q (AV.tup [v79, AV.int IntKind.i64 0]) H78 nx77
def zyg (xs32 : List AV) (Q : AV → Heap → Nat → Prop) (v86 : AV) (H87 : Heap) (nx88 : Nat) : Prop :=
  ST 3 (nth xs32 3) v86 H87 fun H89 =>
  LD true 3 (nth xs32 3) H89 fun v90 =>
  Q (AV.tup [v90, AV.int IntKind.i64 0]) H89 nx88
def zyf (xs32 : List AV) (Q : AV → Heap → Nat → Prop) (v96 : AV) (H97 : Heap) (nx98 : Nat) : Prop :=
  EX v96 0 fun v99 =>
  EX v96 1 fun v100 =>
  ST 3 (nth xs32 3) v99 H97 fun H101 =>
  LD true 3 (nth xs32 3) H101 fun v102 =>
  Q (AV.tup [v102, v100]) H101 nx98
def zeq (Q : AV → Heap → Nat → Prop) (xs32 : List AV) (H33 : Heap) (nx34 : Nat) : Prop :=
  CNDC (nth xs32 5)
  (FA 2 (nth xs32 1) fun v36 =>
  LD false 1 v36 H33 fun v37 =>
  FA 2 (nth xs32 2) fun v38 =>
  LD false 1 v38 H33 fun v39 =>
  BS BinOp.lss v37 v39 fun v40 =>
  CALL Tryd.prog (nth xs32 4) [v40] H33 nx34 (zyj xs32 Q))
  (FA 0 (nth xs32 1) fun v48 =>
  LD false 1 v48 H33 fun v49 =>
  BI BinOp.neq v49 (AV.int IntKind.i64 0) fun v50 =>
  CND v50
  (ST 3 (nth xs32 3) (AV.agg [AV.int IntKind.i64 0, AV.int IntKind.i64 0, AV.str []]) H33 fun H51 =>
  LD true 3 (nth xs32 3) H51 fun v52 =>
  Q (AV.tup [v52, AV.int IntKind.i64 11]) H51 nx34)
  (FA 0 (nth xs32 2) fun v53 =>
  LD false 1 v53 H33 fun v54 =>
  BI BinOp.neq v54 (AV.int IntKind.i64 0) fun v55 =>
  CNDC v55
  (ST 3 (nth xs32 3) (AV.agg [AV.int IntKind.i64 0, AV.int IntKind.i64 0, AV.str []]) H33 fun H56 =>
  LD true 3 (nth xs32 3) H56 fun v57 =>
  Q (AV.tup [v57, AV.int IntKind.i64 11]) H56 nx34)
  (BI BinOp.eql (nth xs32 0) (AV.int IntKind.i64 1) fun v58 =>
  CNDC v58
  (FA 1 (nth xs32 1) fun v59 =>
  LD false 1 v59 H33 fun v60 =>
  FA 1 (nth xs32 2) fun v61 =>
  LD false 1 v61 H33 fun v62 =>
  BI BinOp.add v60 v62 fun v63 =>
  za Tryd.prog 7 [v63] H33 nx34 (zyi xs32 Q))
  (BI BinOp.eql (nth xs32 0) (AV.int IntKind.i64 2) fun v69 =>
  CNDC v69
  (FA 1 (nth xs32 1) fun v70 =>
  LD false 1 v70 H33 fun v71 =>
  FA 1 (nth xs32 2) fun v72 =>
  LD false 1 v72 H33 fun v73 =>
  BI BinOp.sub v71 v73 fun v74 =>
  za Tryd.prog 7 [v74] H33 nx34 (zyh xs32 Q))
  (BI BinOp.eql (nth xs32 0) (AV.int IntKind.i64 3) fun v80 =>
  CNDC v80
  (FA 1 (nth xs32 1) fun v81 =>
  LD false 1 v81 H33 fun v82 =>
  FA 1 (nth xs32 2) fun v83 =>
  LD false 1 v83 H33 fun v84 =>
  BI BinOp.mul v82 v84 fun v85 =>
  za Tryd.prog 7 [v85] H33 nx34 (zyg xs32 Q))
  (FA 1 (nth xs32 1) fun v91 =>
  LD false 1 v91 H33 fun v92 =>
  FA 1 (nth xs32 2) fun v93 =>
  LD false 1 v93 H33 fun v94 =>
  BI BinOp.lss v92 v94 fun v95 =>
  CALL Tryd.prog (nth xs32 4) [v95] H33 nx34 (zyf xs32 Q)))))))
def zju (xs18 : List AV) (H19 : Heap) (nx20 : Nat) (j35 : J3) : Prop :=
  FA 0 (nth xs18 1) fun v103 =>
  LD false 1 v103 H19 fun v104 =>
  BI BinOp.eql v104 (AV.int IntKind.i64 1) fun v105 =>
  CND v105
  (FA 0 (nth xs18 2) fun v106 =>
  LD false 1 v106 H19 fun v107 =>
  BI BinOp.eql v107 (AV.int IntKind.i64 1) fun v108 =>
  CND v108
  (BI BinOp.eql (nth xs18 0) (AV.int IntKind.i64 4) fun v109 =>
  j35 [nth xs18 0, nth xs18 1, nth xs18 2, nth xs18 3, nth xs18 4, v109] H19 nx20)
  (j35 [nth xs18 0, nth xs18 1, nth xs18 2, nth xs18 3, nth xs18 4, AV.bool false] H19 nx20))
  (j35 [nth xs18 0, nth xs18 1, nth xs18 2, nth xs18 3, nth xs18 4, AV.bool false] H19 nx20)
def zjr (Q : AV → Heap → Nat → Prop) (xs18 : List AV) (H19 : Heap) (nx20 : Nat) : Prop :=
  CNDC (nth xs18 5)
  (FA 2 (nth xs18 1) fun v22 =>
  LD false 1 v22 H19 fun v23 =>
  FA 2 (nth xs18 2) fun v24 =>
  LD false 1 v24 H19 fun v25 =>
  BS BinOp.add v23 v25 fun v26 =>
  za Tryd.prog 9 [v26] H19 nx20 (zyk xs18 Q))
  (JN (zeq Q) (zju xs18 H19 nx20))
def zjt (xs1 : List AV) (H2 : Heap) (nx3 : Nat) (j21 : J3) : Prop :=
  FA 0 (nth xs1 1) fun v110 =>
  LD false 1 v110 H2 fun v111 =>
  BI BinOp.eql v111 (AV.int IntKind.i64 1) fun v112 =>
  CND v112
  (FA 0 (nth xs1 2) fun v113 =>
  LD false 1 v113 H2 fun v114 =>
  BI BinOp.eql v114 (AV.int IntKind.i64 1) fun v115 =>
  CND v115
  (BI BinOp.eql (nth xs1 0) (AV.int IntKind.i64 1) fun v116 =>
  j21 [nth xs1 0, nth xs1 1, nth xs1 2, nth xs1 3, AV.clo 36 [], v116] H2 nx3)
  (j21 [nth xs1 0, nth xs1 1, nth xs1 2, nth xs1 3, AV.clo 36 [], AV.bool false] H2 nx3))
  (j21 [nth xs1 0, nth xs1 1, nth xs1 2, nth xs1 3, AV.clo 36 [], AV.bool false] H2 nx3)
def zjq (Q : AV → Heap → Nat → Prop) (xs1 : List AV) (H2 : Heap) (nx3 : Nat) : Prop :=
  CNDC (nth xs1 4)
  (ST 3 (nth xs1 3) (AV.agg [AV.int IntKind.i64 0, AV.int IntKind.i64 0, AV.str []]) H2 fun H5 =>
  LD true 3 (nth xs1 3) H5 fun v6 =>
  Q (AV.tup [v6, AV.int IntKind.i64 1]) H5 nx3)
  (BI BinOp.eql (nth xs1 0) (AV.int IntKind.i64 5) fun v7 =>
  CNDC v7
  (LD true 3 (nth xs1 1) H2 fun v8 =>
  LD true 3 (nth xs1 2) H2 fun v9 =>
  gd (eqsT 25) (
  BA [AV.int IntKind.i64 0, AV.int IntKind.i64 0, AV.str []] BinOp.eql v8 v9 fun v10 =>
  za Tryd.prog 36 [v10] H2 nx3 (zyl xs1 Q)))
  (JN (zjr Q) (zjt xs1 H2 nx3)))
def zjs (a0 : AV) (nx : Nat) (H : Heap) (a1 : AV) (a2 : AV) (j4 : J3) : Prop :=
  BI BinOp.lss a0 (AV.int IntKind.i64 1) fun v117 =>
  CND v117
  (j4 [a0, AV.ptr nx 0, AV.ptr (nx + 1) 0, AV.ptr (nx + 2) 0, AV.bool true] (((H.put nx (some (AObj.row a1.cells.length a1.cells))).put ((nx + 1)) (some (AObj.row a2.cells.length a2.cells))).put ((nx + 2)) (some (AObj.row 3 [AV.int IntKind.i64 0, AV.int IntKind.i64 0, AV.str []]))) (nx + 3))
  (BI BinOp.gtr a0 (AV.int IntKind.i64 5) fun v118 =>
  j4 [a0, AV.ptr nx 0, AV.ptr (nx + 1) 0, AV.ptr (nx + 2) 0, v118] (((H.put nx (some (AObj.row a1.cells.length a1.cells))).put ((nx + 1)) (some (AObj.row a2.cells.length a2.cells))).put ((nx + 2)) (some (AObj.row 3 [AV.int IntKind.i64 0, AV.int IntKind.i64 0, AV.str []]))) (nx + 3))
def zgk (a0 a1 a2 : AV) (H : Heap) (nx : Nat) (Q : AV → Heap → Nat → Prop) : Prop :=
  a1.sure = true ∧
  a2.sure = true ∧
  JN (zjq Q) (zjs a0 nx H a1 a2)
theorem zaht (a0 a1 a2 : AV) (H : Heap) (nx : Nat) (Q : AV → Heap → Nat → Prop) : body Tryd.prog tab eqsT (lvOf zye) Tryd.f13 (zd Tryd.f13) [a0, a1, a2] H nx Q = zgk a0 a1 a2 H nx Q := by kernel_rfl
theorem zacu (a0 a1 a2 : AV) (H : Heap) (nx : Nat) (Q : AV → Heap → Nat → Prop) : zgk a0 a1 a2 H nx Q → za Tryd.prog 13 [a0, a1, a2] H nx Q :=
  zh (lv := lvOf zye) (c := zd Tryd.f13) zw zx mixed Tryd.func13 (by kernel_rfl) (by kernel_rfl) (by kernel_rfl) (by kernel_rfl) (zaht a0 a1 a2 H nx Q)
def zor : List (Nat × Nat × List Nat) := []
def zia (a0 : AV) (H : Heap) (nx : Nat) (Q : AV → Heap → Nat → Prop) : Prop :=
  zaf (AK.bool) (AV.bool true) = true ∧
  MU (AV.amap (nx + 1)) (AV.bool true) (AV.int IntKind.i64 1) ((H.put nx (some (AObj.row 3 [AV.int IntKind.i64 0, AV.int IntKind.i64 0, AV.str []]))).put ((nx + 1)) (some (AObj.mp []))) fun H1 =>
  zaf (AK.bool) (AV.bool false) = true ∧
  MU (AV.amap (nx + 1)) (AV.bool false) (AV.int IntKind.i64 0) H1 fun H2 =>
  zaf (AK.bool) a0 = true ∧
  LK [AV.int IntKind.i64 0] false (AV.amap (nx + 1)) a0 false H2 fun v3 =>
  BD (zu tab [(3, 0), (3, 1), (9, 2)]) [AV.int IntKind.i64 0, AV.int IntKind.i64 0, AV.str []] [(1, v3)] fun v4 =>
  ST 3 (AV.ptr nx 0) v4 H2 fun H5 =>
  LD true 3 (AV.ptr nx 0) H5 fun v6 =>
  Q (AV.tup [v6, AV.int IntKind.i64 0]) H5 (nx + 2)
theorem zaal (a0 : AV) (H : Heap) (nx : Nat) (Q : AV → Heap → Nat → Prop) : body Tryd.prog tab eqsT (lvOf zor) Tryd.f37 (zd Tryd.f37) [a0] H nx Q = zia a0 H nx Q := by kernel_rfl
theorem ztw (a0 : AV) (H : Heap) (nx : Nat) (Q : AV → Heap → Nat → Prop) : zia a0 H nx Q → za Tryd.prog 37 [a0] H nx Q :=
  zh (lv := lvOf zor) (c := zd Tryd.f37) zw zx mixed Tryd.func37 (by kernel_rfl) (by kernel_rfl) (by kernel_rfl) (by kernel_rfl) (zaal a0 H nx Q)
def zst : List (Nat × Nat × List Nat) := [(0, 2, [0, 4, 5, 6, 8, 14]), (3, 12, [0, 4, 5, 6, 8])]
def ztc (xs1 : List AV) (Q : AV → Heap → Nat → Prop) (v23 : AV) (H24 : Heap) (nx25 : Nat) : Prop :=
  EX v23 0 fun v26 =>
  EX v23 1 fun v27 =>
  ST 3 (nth xs1 3) v26 H24 fun H28 =>
  LD true 3 (nth xs1 3) H28 fun v29 =>
  Q (AV.tup [v29, v27]) H28 nx25
def ztb (xs1 : List AV) (Q : AV → Heap → Nat → Prop) (v30 : AV) (H31 : Heap) (nx32 : Nat) : Prop :=
  EX v30 0 fun v33 =>
  EX v30 1 fun v34 =>
  ST 3 (nth xs1 3) v33 H31 fun H35 =>
  LD true 3 (nth xs1 3) H35 fun v36 =>
  Q (AV.tup [v36, v34]) H35 nx32
def zta (xs1 : List AV) (Q : AV → Heap → Nat → Prop) (v37 : AV) (H38 : Heap) (nx39 : Nat) : Prop :=
  EX v37 0 fun v40 =>
  EX v37 1 fun v41 =>
  ST 3 (nth xs1 3) v40 H38 fun H42 =>
  LD true 3 (nth xs1 3) H42 fun v43 =>
  Q (AV.tup [v43, v41]) H42 nx39
def zsz (xs44 : List AV) (Q : AV → Heap → Nat → Prop) (v67 : AV) (H68 : Heap) (nx69 : Nat) : Prop :=
  ST 3 (nth xs44 3) v67 H68 fun H70 =>
  LD true 3 (nth xs44 3) H70 fun v71 =>
  Q (AV.tup [v71, AV.int IntKind.i64 0]) H70 nx69
def zsy (xs44 : List AV) (Q : AV → Heap → Nat → Prop) (v78 : AV) (H79 : Heap) (nx80 : Nat) : Prop :=
  ST 3 (nth xs44 3) v78 H79 fun H81 =>
  LD true 3 (nth xs44 3) H81 fun v82 =>
  Q (AV.tup [v82, AV.int IntKind.i64 0]) H81 nx80
def zsx (xs44 : List AV) (Q : AV → Heap → Nat → Prop) (v89 : AV) (H90 : Heap) (nx91 : Nat) : Prop :=
  ST 3 (nth xs44 3) v89 H90 fun H92 =>
  LD true 3 (nth xs44 3) H92 fun v93 =>
  Q (AV.tup [v93, AV.int IntKind.i64 0]) H92 nx91
def zsw (xs44 : List AV) (Q : AV → Heap → Nat → Prop) (v99 : AV) (H100 : Heap) (nx101 : Nat) : Prop :=
  EX v99 0 fun v102 =>
  EX v99 1 fun v103 =>
  ST 3 (nth xs44 3) v102 H100 fun H104 =>
  LD true 3 (nth xs44 3) H104 fun v105 =>
  Q (AV.tup [v105, v103]) H104 nx101
def zsv (xs1 : List AV) (Q : AV → Heap → Nat → Prop) (v118 : AV) (H119 : Heap) (nx120 : Nat) : Prop :=
  ST 3 (nth xs1 3) v118 H119 fun H121 =>
  LD true 3 (nth xs1 3) H121 fun v122 =>
  Q (AV.tup [v122, AV.int IntKind.i64 0]) H121 nx120
def zsu (xs1 : List AV) (Q : AV → Heap → Nat → Prop) (v129 : AV) (H130 : Heap) (nx131 : Nat) : Prop :=
  EX v129 0 fun v132 =>
  EX v129 1 fun v133 =>
  ST 3 (nth xs1 3) v132 H130 fun H134 =>
  LD true 3 (nth xs1 3) H134 fun v135 =>
  Q (AV.tup [v135, v133]) H134 nx131
def zel (Q : AV → Heap → Nat → Prop) (xs44 : List AV) (H45 : Heap) (nx46 : Nat) : Prop :=
  FA 0 (nth xs44 1) fun v48 =>
  LD false 1 v48 H45 fun v49 =>
  FA 0 (nth xs44 2) fun v50 =>
  LD false 1 v50 H45 fun v51 =>
  BI BinOp.add v49 v51 fun v52 =>
  BI BinOp.neq v52 (AV.int IntKind.i64 0) fun v53 =>
  CND v53
  (ST 3 (nth xs44 3) (AV.agg [AV.int IntKind.i64 0, AV.int IntKind.i64 0, AV.str []]) H45 fun H54 =>
  LD true 3 (nth xs44 3) H54 fun v55 =>
  Q (AV.tup [v55, AV.int IntKind.i64 11]) H54 nx46)
  (FA 0 (nth xs44 1) fun v56 =>
  LD false 1 v56 H45 fun v57 =>
  BI BinOp.neq v57 (AV.int IntKind.i64 0) fun v58 =>
  CNDC v58
  (ST 3 (nth xs44 3) (AV.agg [AV.int IntKind.i64 0, AV.int IntKind.i64 0, AV.str []]) H45 fun H59 =>
  LD true 3 (nth xs44 3) H59 fun v60 =>
  Q (AV.tup [v60, AV.int IntKind.i64 11]) H59 nx46)
  (BI BinOp.eql (nth xs44 0) (AV.int IntKind.i64 1) fun v61 =>
  CNDC v61
  (FA 1 (nth xs44 1) fun v62 =>
  LD false 1 v62 H45 fun v63 =>
  FA 1 (nth xs44 2) fun v64 =>
  LD false 1 v64 H45 fun v65 =>
  BI BinOp.add v63 v65 fun v66 =>
  za Tryd.prog 8 [v66] H45 nx46 (zsz xs44 Q))
  (BI BinOp.eql (nth xs44 0) (AV.int IntKind.i64 2) fun v72 =>
  CNDC v72
  (FA 1 (nth xs44 1) fun v73 =>
  LD false 1 v73 H45 fun v74 =>
  FA 1 (nth xs44 2) fun v75 =>
  LD false 1 v75 H45 fun v76 =>
  BI BinOp.sub v74 v76 fun v77 =>
  za Tryd.prog 8 [v77] H45 nx46 (zsy xs44 Q))
  (BI BinOp.eql (nth xs44 0) (AV.int IntKind.i64 3) fun v83 =>
  CNDC v83
  (FA 1 (nth xs44 1) fun v84 =>
  LD false 1 v84 H45 fun v85 =>
  FA 1 (nth xs44 2) fun v86 =>
  LD false 1 v86 H45 fun v87 =>
  BI BinOp.mul v85 v87 fun v88 =>
  za Tryd.prog 8 [v88] H45 nx46 (zsx xs44 Q))
  (FA 1 (nth xs44 1) fun v94 =>
  LD false 1 v94 H45 fun v95 =>
  FA 1 (nth xs44 2) fun v96 =>
  LD false 1 v96 H45 fun v97 =>
  BI BinOp.lss v95 v97 fun v98 =>
  CALL Tryd.prog (nth xs44 4) [v98] H45 nx46 (zsw xs44 Q))))))
def zgs (xs1 : List AV) (H2 : Heap) (nx3 : Nat) (Q : AV → Heap → Nat → Prop) (j47 : J3) : Prop :=
  FA 0 (nth xs1 1) fun v106 =>
  LD false 1 v106 H2 fun v107 =>
  BI BinOp.eql v107 (AV.int IntKind.i64 1) fun v108 =>
  CND v108
  (FA 0 (nth xs1 2) fun v109 =>
  LD false 1 v109 H2 fun v110 =>
  BI BinOp.eql v110 (AV.int IntKind.i64 1) fun v111 =>
  CNDC v111
  (BI BinOp.eql (nth xs1 0) (AV.int IntKind.i64 1) fun v112 =>
  CNDC v112
  (FA 2 (nth xs1 1) fun v113 =>
  LD false 1 v113 H2 fun v114 =>
  FA 2 (nth xs1 2) fun v115 =>
  LD false 1 v115 H2 fun v116 =>
  BS BinOp.add v114 v116 fun v117 =>
  za Tryd.prog 10 [v117] H2 nx3 (zsv xs1 Q))
  (BI BinOp.eql (nth xs1 0) (AV.int IntKind.i64 4) fun v123 =>
  CNDC v123
  (FA 2 (nth xs1 1) fun v124 =>
  LD false 1 v124 H2 fun v125 =>
  FA 2 (nth xs1 2) fun v126 =>
  LD false 1 v126 H2 fun v127 =>
  BS BinOp.lss v125 v127 fun v128 =>
  CALL Tryd.prog (nth xs1 4) [v128] H2 nx3 (zsu xs1 Q))
  (j47 [nth xs1 0, nth xs1 1, nth xs1 2, nth xs1 3, nth xs1 4] H2 nx3)))
  (j47 [nth xs1 0, nth xs1 1, nth xs1 2, nth xs1 3, nth xs1 4] H2 nx3))
  (j47 [nth xs1 0, nth xs1 1, nth xs1 2, nth xs1 3, nth xs1 4] H2 nx3)
def zgq (Q : AV → Heap → Nat → Prop) (xs1 : List AV) (H2 : Heap) (nx3 : Nat) : Prop :=
  CNDC (nth xs1 5)
  (ST 3 (nth xs1 3) (AV.agg [AV.int IntKind.i64 0, AV.int IntKind.i64 0, AV.str []]) H2 fun H5 =>
  LD true 3 (nth xs1 3) H5 fun v6 =>
  Q (AV.tup [v6, AV.int IntKind.i64 1]) H5 nx3)
  (BI BinOp.eql (nth xs1 0) (AV.int IntKind.i64 5) fun v7 =>
  CNDC v7
  (FA 0 (nth xs1 1) fun v8 =>
  LD false 1 v8 H2 fun v9 =>
  FA 0 (nth xs1 2) fun v10 =>
  LD false 1 v10 H2 fun v11 =>
  BI BinOp.eql v9 v11 fun v12 =>
  CND v12
  (FA 1 (nth xs1 1) fun v13 =>
  LD false 1 v13 H2 fun v14 =>
  FA 1 (nth xs1 2) fun v15 =>
  LD false 1 v15 H2 fun v16 =>
  BI BinOp.eql v14 v16 fun v17 =>
  CND v17
  (FA 2 (nth xs1 1) fun v18 =>
  LD false 1 v18 H2 fun v19 =>
  FA 2 (nth xs1 2) fun v20 =>
  LD false 1 v20 H2 fun v21 =>
  BS BinOp.eql v19 v21 fun v22 =>
  CALL Tryd.prog (nth xs1 4) [v22] H2 nx3 (ztc xs1 Q))
  (CALL Tryd.prog (nth xs1 4) [AV.bool false] H2 nx3 (ztb xs1 Q)))
  (CALL Tryd.prog (nth xs1 4) [AV.bool false] H2 nx3 (zta xs1 Q)))
  (JN (zel Q) (zgs xs1 H2 nx3 Q)))
def zgr (a0 : AV) (nx : Nat) (H : Heap) (a1 : AV) (a2 : AV) (j4 : J3) : Prop :=
  BI BinOp.lss a0 (AV.int IntKind.i64 1) fun v136 =>
  CND v136
  (j4 [a0, AV.ptr nx 0, AV.ptr (nx + 1) 0, AV.ptr (nx + 2) 0, AV.clo 37 [], AV.bool true] (((H.put nx (some (AObj.row a1.cells.length a1.cells))).put ((nx + 1)) (some (AObj.row a2.cells.length a2.cells))).put ((nx + 2)) (some (AObj.row 3 [AV.int IntKind.i64 0, AV.int IntKind.i64 0, AV.str []]))) (nx + 3))
  (BI BinOp.gtr a0 (AV.int IntKind.i64 5) fun v137 =>
  j4 [a0, AV.ptr nx 0, AV.ptr (nx + 1) 0, AV.ptr (nx + 2) 0, AV.clo 37 [], v137] (((H.put nx (some (AObj.row a1.cells.length a1.cells))).put ((nx + 1)) (some (AObj.row a2.cells.length a2.cells))).put ((nx + 2)) (some (AObj.row 3 [AV.int IntKind.i64 0, AV.int IntKind.i64 0, AV.str []]))) (nx + 3))
def zek (a0 a1 a2 : AV) (H : Heap) (nx : Nat) (Q : AV → Heap → Nat → Prop) : Prop :=
  a1.sure = true ∧
  a2.sure = true ∧
  JN (zgq Q) (zgr a0 nx H a1 a2)
theorem zaek (a0 a1 a2 : AV) (H : Heap) (nx : Nat) (Q : AV → Heap → Nat → Prop) : body Tryd.prog tab eqsT (lvOf zst) Tryd.f14 (zd Tryd.f14) [a0, a1, a2] H nx Q = zek a0 a1 a2 H nx Q := by kernel_rfl
theorem zys (a0 a1 a2 : AV) (H : Heap) (nx : Nat) (Q : AV → Heap → Nat → Prop) : zek a0 a1 a2 H nx Q → za Tryd.prog 14 [a0, a1, a2] H nx Q :=
  zh (lv := lvOf zst) (c := zd Tryd.f14) zw zx mixed Tryd.func14 (by kernel_rfl) (by kernel_rfl) (by kernel_rfl) (by kernel_rfl) (zaek a0 a1 a2 H nx Q)
def zhl : List (Nat × Nat × List Nat) := []
def zcg (a0 : AV) (H : Heap) (nx : Nat) (Q : AV → Heap → Nat → Prop) : Prop :=
  BL BinOp.eql a0 AV.nils fun v1 =>
  CNDC v1
  (Q AV.nils H nx)
  (APP 3 32 (AV.slc nx 0 0) a0 (H.put nx (some (AObj.row 3 []))) (nx + 1) fun v2 H3 nx4 =>
  Q v2 H3 nx4)
theorem zqs (a0 : AV) (H : Heap) (nx : Nat) (Q : AV → Heap → Nat → Prop) : body Tryd.prog tab eqsT (lvOf zhl) Tryd.f39 (zd Tryd.f39) [a0] H nx Q = zcg a0 H nx Q := by kernel_rfl
theorem znl (a0 : AV) (H : Heap) (nx : Nat) (Q : AV → Heap → Nat → Prop) : zcg a0 H nx Q → za Tryd.prog 39 [a0] H nx Q :=
  zh (lv := lvOf zhl) (c := zd Tryd.f39) zw zx mixed Tryd.func39 (by kernel_rfl) (by kernel_rfl) (by kernel_rfl) (by kernel_rfl) (zqs a0 H nx Q)
def zti : List (Nat × Nat × List Nat) := [(2, 7, [0, 7, 8, 9, 10, 19, 20]), (2, 10, [0, 7, 8, 9, 10, 19, 20])]
def zgx (v38 : AV) (xs19 : List AV) (nx36 : Nat) (H37 : Heap) (rd39 : List Nat) (K18 : J3) (v42 : AV) (_ : List Nat) (fr44 : List Nat) (D45 : ze) : Prop :=
  BD (zu tab [(25, 0), (25, 3)]) [AV.int IntKind.i64 0, AV.int IntKind.i64 0, AV.str [], AV.int IntKind.i64 0, AV.int IntKind.i64 0, AV.str []] [(0, v38), (1, v42)] fun v46 =>
  BSL 1 6 [AV.int IntKind.i64 0, AV.int IntKind.i64 0, AV.str [], AV.int IntKind.i64 0, AV.int IntKind.i64 0, AV.str []] [(0, v46)] fun cells47 =>
  zaj 6 64 (nth xs19 2) (AV.slc ((nx36 + 1) + fr44.length) 0 1) ((H37.apply D45).put (((nx36 + 1) + fr44.length)) (some (AObj.row 6 cells47))) (((nx36 + 1) + fr44.length) + 1) fun v48 _ fr50 D51 =>
  zb (domD D45) [] (
  zb (domD D45) rd39 (
  ((nx36 + 1) + fr44.length) ∉ [] ∧
  K18 [nth xs19 0, nth xs19 1, v48, nth xs19 3, nth xs19 4, nth xs19 5, nth xs19 6] (((H37.apply D45).put (((nx36 + 1) + fr44.length)) (some (AObj.row 6 cells47))).apply D51) ((((nx36 + 1) + fr44.length) + 1) + fr50.length)))
def ztk (nx21 : Nat) (xs19 : List AV) (K18 : J3) (v34 : AV) (H35 : Heap) (nx36 : Nat) : Prop :=
  ST 3 (AV.ptr nx36 0) v34 (H35.put nx36 (some (AObj.row 3 [AV.int IntKind.i64 0, AV.int IntKind.i64 0, AV.str []]))) fun H37 =>
  LDR true 3 (AV.ptr nx36 0) H37 fun v38 rd39 =>
  LDR true 3 (AV.ptr nx21 3) H37 fun v40 _ =>
  zn Tryd.prog (nth xs19 3) [v40] H37 (nx36 + 1) (zgx v38 xs19 nx36 H37 rd39 K18)
def zen (K6 : J3) (K18 : J3) (xs19 : List AV) (H20 : Heap) (nx21 : Nat) : Prop :=
  LNL (nth xs19 2) fun v22 =>
  LD false 1 (nth xs19 1) H20 fun v23 =>
  LNL v23 fun v24 =>
  BI BinOp.lss v22 v24 fun v25 =>
  CNDC v25
  (LD false 1 (nth xs19 1) H20 fun v26 =>
  LNL (nth xs19 2) fun v27 =>
  IA 1 v26 v27 fun v28 =>
  LD false 1 v28 H20 fun v29 =>
  IA 6 (nth xs19 0) v29 fun v30 =>
  LD true 6 v30 H20 fun v31 =>
  ST 6 (AV.ptr nx21 0) v31 (H20.put nx21 (some (AObj.row 6 [AV.int IntKind.i64 0, AV.int IntKind.i64 0, AV.str [], AV.int IntKind.i64 0, AV.int IntKind.i64 0, AV.str []]))) fun H32 =>
  LD true 3 (AV.ptr nx21 0) H32 fun v33 =>
  CALL Tryd.prog (nth xs19 3) [v33] H32 (nx21 + 1) (ztk nx21 xs19 K18))
  (BI BinOp.add (nth xs19 6) (AV.int IntKind.i64 1) fun v52 =>
  K6 [nth xs19 0, nth xs19 1, nth xs19 2, nth xs19 3, nth xs19 4, nth xs19 5, v52] H20 nx21)
def ztj (xs7 : List AV) (K6 : J3) (v13 : AV) (H14 : Heap) (nx15 : Nat) : Prop :=
  IA 3 (nth xs7 4) (nth xs7 6) fun v16 =>
  ST 3 v16 v13 H14 fun H17 =>
  LP (zen K6) [nth xs7 0, nth xs7 1, nth xs7 2, nth xs7 3, nth xs7 4, nth xs7 5, nth xs7 6] H17 nx15
def zgw (Q : AV → Heap → Nat → Prop) (K6 : J3) (xs7 : List AV) (H8 : Heap) (nx9 : Nat) : Prop :=
  BI BinOp.lss (nth xs7 6) (nth xs7 5) fun v10 =>
  CNDC v10
  (IA 3 (nth xs7 4) (nth xs7 6) fun v11 =>
  LD true 3 v11 H8 fun v12 =>
  CALL Tryd.prog (nth xs7 3) [v12] H8 nx9 (ztj xs7 K6))
  (Q (AV.tup [nth xs7 4, nth xs7 2]) H8 nx9)
def zlb (Q : AV → Heap → Nat → Prop) (a0 : AV) (nx : Nat) (v2 : AV) (H3 : Heap) (nx4 : Nat) : Prop :=
  LNL v2 fun v5 =>
  LP (zgw Q) [a0, AV.ptr (nx + 2) 0, AV.nils, AV.clo 38 [AV.ptr (nx + 1) 0, AV.ptr (nx + 2) 0], v2, v5, AV.int IntKind.i64 0] H3 nx4
def zla (a0 a1 : AV) (H : Heap) (nx : Nat) (Q : AV → Heap → Nat → Prop) : Prop :=
  ST 1 (AV.ptr (nx + 1) 0) (AV.amap nx) ((H.put nx (some (AObj.mp []))).put ((nx + 1)) (some (AObj.row 1 [AV.nilm]))) fun H1 =>
  za Tryd.prog 39 [a1] (H1.put ((nx + 2)) (some (AObj.row 1 [AV.nils]))) (nx + 3) (zlb Q a0 nx)
theorem zaet (a0 a1 : AV) (H : Heap) (nx : Nat) (Q : AV → Heap → Nat → Prop) : body Tryd.prog tab eqsT (lvOf zti) Tryd.f16 (zd Tryd.f16) [a0, a1] H nx Q = zla a0 a1 H nx Q := by kernel_rfl
theorem zzo (a0 a1 : AV) (H : Heap) (nx : Nat) (Q : AV → Heap → Nat → Prop) : zla a0 a1 H nx Q → za Tryd.prog 16 [a0, a1] H nx Q :=
  zh (lv := lvOf zti) (c := zd Tryd.f16) zw zx mixed Tryd.func16 (by kernel_rfl) (by kernel_rfl) (by kernel_rfl) (by kernel_rfl) (zaet a0 a1 H nx Q)
def zou : List (Nat × Nat × List Nat) := [(2, 3, [0, 1, 6, 24, 25]), (2, 11, [0, 1, 6, 8, 9, 10, 33, 34, 35]), (2, 14, [0, 1, 6, 8, 9, 10, 33, 34, 35]), (2, 22, [0, 8, 13, 14, 70, 71, 72]), (2, 28, [0, 13, 14, 17, 83, 84, 85])]
def zpa (xs29 : List AV) (K28 : J3) (_ : AV) (H51 : Heap) (nx52 : Nat) : Prop :=
  BI BinOp.add (nth xs29 5) (AV.int IntKind.i64 1) fun v53 =>
  K28 [nth xs29 0, nth xs29 1, nth xs29 2, nth xs29 3, nth xs29 4, v53, nth xs29 6, nth xs29 7, nth xs29 8] H51 nx52
def zoz (xs29 : List AV) (K28 : J3) (_ : AV) (H42 : Heap) (nx43 : Nat) : Prop :=
  LD false 1 (nth xs29 3) H42 fun v44 =>
  IA 1 v44 (nth xs29 5) fun v45 =>
  LD false 1 v45 H42 fun v46 =>
  IA 6 (nth xs29 0) v46 fun v47 =>
  FA 3 v47 fun v48 =>
  LD true 3 v48 H42 fun v49 =>
  CALL Tryd.prog (nth xs29 4) [v49] H42 nx43 (zpa xs29 K28)
def zcv (K16 : J3) (K28 : J3) (xs29 : List AV) (H30 : Heap) (nx31 : Nat) : Prop :=
  LD false 1 (nth xs29 3) H30 fun v32 =>
  LNL v32 fun v33 =>
  BI BinOp.lss (nth xs29 5) v33 fun v34 =>
  CNDC v34
  (LD false 1 (nth xs29 3) H30 fun v35 =>
  IA 1 v35 (nth xs29 5) fun v36 =>
  LD false 1 v36 H30 fun v37 =>
  IA 6 (nth xs29 0) v37 fun v38 =>
  FA 0 v38 fun v39 =>
  LD true 3 v39 H30 fun v40 =>
  CALL Tryd.prog (nth xs29 4) [v40] H30 nx31 (zoz xs29 K28))
  (BI BinOp.add (nth xs29 8) (AV.int IntKind.i64 1) fun v54 =>
  K16 [nth xs29 0, nth xs29 1, nth xs29 2, nth xs29 3, nth xs29 4, nth xs29 5, nth xs29 6, nth xs29 7, v54] H30 nx31)
def zoy (K16 : J3) (xs17 : List AV) (v25 : AV) (H26 : Heap) (nx27 : Nat) : Prop :=
  LP (zcv K16) [nth xs17 0, nth xs17 1, nth xs17 2, nth xs17 3, nth xs17 4, nth xs17 5, nth xs17 6, nth xs17 7, nth xs17 8] H26 nx27
def zox (xs57 : List AV) (K56 : J3) (v65 : AV) (H66 : Heap) (nx67 : Nat) : Prop :=
  BSL 1 3 [AV.int IntKind.i64 0, AV.int IntKind.i64 0, AV.str []] [(0, v65)] fun cells68 =>
  APP 3 32 (nth xs57 3) (AV.slc nx67 0 1) (H66.put nx67 (some (AObj.row 3 cells68))) (nx67 + 1) fun v69 H70 nx71 =>
  BI BinOp.add (nth xs57 6) (AV.int IntKind.i64 1) fun v72 =>
  K56 [nth xs57 0, nth xs57 1, nth xs57 2, v69, nth xs57 4, nth xs57 5, v72] H70 nx71
def zow (v86 : AV) (xs76 : List AV) (nx78 : Nat) (fr88 : List Nat) (H77 : Heap) (D89 : ze) (rd93 : List Nat) (K75 : J3) (v94 : AV) (_ : List Nat) (fr96 : List Nat) (D97 : ze) : Prop :=
  BD (zu tab [(25, 0), (25, 3)]) [AV.int IntKind.i64 0, AV.int IntKind.i64 0, AV.str [], AV.int IntKind.i64 0, AV.int IntKind.i64 0, AV.str []] [(0, v86), (1, v94)] fun v98 =>
  BSL 1 6 [AV.int IntKind.i64 0, AV.int IntKind.i64 0, AV.str [], AV.int IntKind.i64 0, AV.int IntKind.i64 0, AV.str []] [(0, v98)] fun cells99 =>
  zaj 6 64 (nth xs76 3) (AV.slc ((nx78 + fr88.length) + fr96.length) 0 1) (((H77.apply D89).apply D97).put (((nx78 + fr88.length) + fr96.length)) (some (AObj.row 6 cells99))) (((nx78 + fr88.length) + fr96.length) + 1) fun v100 _ fr102 D103 =>
  zb (domD D89) [] (
  zb (domD D89) [] (
  zb (domD D89) [] (
  zb (domD D89) [] (
  zb (domD D89) [] (
  zb (domD D89) [] (
  zb (domD D89) [] (
  zb (domD D89) [] (
  zb (domD D89) [] (
  zb (domD D89) [] (
  zb (domD D89) [] (
  zb (domD D89) rd93 (
  zb (domD D89) [] (
  zb (domD D97) [] (
  ((nx78 + fr88.length) + fr96.length) ∉ [] ∧
  BI BinOp.add (nth xs76 6) (AV.int IntKind.i64 1) fun v104 =>
  K75 [nth xs76 0, nth xs76 1, nth xs76 2, v100, nth xs76 4, nth xs76 5, v104] ((((H77.apply D89).apply D97).put (((nx78 + fr88.length) + fr96.length)) (some (AObj.row 6 cells99))).apply D103) ((((nx78 + fr88.length) + fr96.length) + 1) + fr102.length)))))))))))))))
def zov (xs76 : List AV) (v81 : AV) (H77 : Heap) (nx78 : Nat) (K75 : J3) (v86 : AV) (_ : List Nat) (fr88 : List Nat) (D89 : ze) : Prop :=
  IA 6 (nth xs76 0) v81 fun v90 =>
  FA 3 v90 fun v91 =>
  LDR true 3 v91 (H77.apply D89) fun v92 rd93 =>
  zn Tryd.prog (nth xs76 1) [v92] (H77.apply D89) (nx78 + fr88.length) (zow v86 xs76 nx78 fr88 H77 D89 rd93 K75)
def zcu (Q : AV → Heap → Nat → Prop) (K75 : J3) (xs76 : List AV) (H77 : Heap) (nx78 : Nat) : Prop :=
  BI BinOp.lss (nth xs76 6) (nth xs76 5) fun v79 =>
  CNDC v79
  (IA 1 (nth xs76 4) (nth xs76 6) fun v80 =>
  LD false 1 v80 H77 fun v81 =>
  IA 6 (nth xs76 0) v81 fun v82 =>
  FA 0 v82 fun v83 =>
  LDR true 3 v83 H77 fun v84 _ =>
  zn Tryd.prog (nth xs76 1) [v84] H77 nx78 (zov xs76 v81 H77 nx78 K75))
  (Q (AV.tup [nth xs76 2, nth xs76 3]) H77 nx78)
def zct (Q : AV → Heap → Nat → Prop) (K56 : J3) (xs57 : List AV) (H58 : Heap) (nx59 : Nat) : Prop :=
  BI BinOp.lss (nth xs57 6) (nth xs57 5) fun v60 =>
  CNDC v60
  (IA 3 (nth xs57 4) (nth xs57 6) fun v61 =>
  LD true 3 v61 H58 fun v62 =>
  ST 3 (AV.ptr nx59 0) v62 (H58.put nx59 (some (AObj.row 3 [AV.int IntKind.i64 0, AV.int IntKind.i64 0, AV.str []]))) fun H63 =>
  LD true 3 (AV.ptr nx59 0) H63 fun v64 =>
  CALL Tryd.prog (nth xs57 2) [v64] H63 (nx59 + 1) (zox xs57 K56))
  (LD false 1 (nth xs57 1) H58 fun v73 =>
  LNL v73 fun v74 =>
  LP (zcu Q) [nth xs57 0, nth xs57 2, nth xs57 3, AV.nils, v73, v74, AV.int IntKind.i64 0] H58 nx59)
def zcs (Q : AV → Heap → Nat → Prop) (K16 : J3) (xs17 : List AV) (H18 : Heap) (nx19 : Nat) : Prop :=
  BI BinOp.lss (nth xs17 8) (nth xs17 7) fun v20 =>
  CNDC v20
  (IA 3 (nth xs17 6) (nth xs17 8) fun v21 =>
  LD true 3 v21 H18 fun v22 =>
  ST 3 (AV.ptr nx19 0) v22 (H18.put nx19 (some (AObj.row 3 [AV.int IntKind.i64 0, AV.int IntKind.i64 0, AV.str []]))) fun H23 =>
  LD true 3 (AV.ptr nx19 0) H23 fun v24 =>
  CALL Tryd.prog (nth xs17 4) [v24] H23 (nx19 + 1) (zoy K16 xs17))
  (LNL (nth xs17 1) fun v55 =>
  LP (zct Q) [nth xs17 0, nth xs17 3, AV.clo 41 [nth xs17 2], AV.nils, nth xs17 1, v55, AV.int IntKind.i64 0] H18 nx19)
def zid (Q : AV → Heap → Nat → Prop) (K6 : J3) (xs7 : List AV) (H8 : Heap) (nx9 : Nat) : Prop :=
  BI BinOp.lss (nth xs7 4) (nth xs7 3) fun v10 =>
  CNDC v10
  (LD false 1 (nth xs7 2) H8 fun v11 =>
  IA 1 v11 (nth xs7 4) fun v12 =>
  ST 1 v12 (AV.int IntKind.i64 (-1)) H8 fun H13 =>
  BI BinOp.add (nth xs7 4) (AV.int IntKind.i64 1) fun v14 =>
  K6 [nth xs7 0, nth xs7 1, nth xs7 2, nth xs7 3, v14] H13 nx9)
  (LNL (nth xs7 1) fun v15 =>
  LP (zcs Q) [nth xs7 0, nth xs7 1, nth xs7 2, AV.ptr nx9 0, AV.clo 40 [nth xs7 2, AV.ptr nx9 0], AV.int IntKind.i64 0, nth xs7 1, v15, AV.int IntKind.i64 0] (H8.put nx9 (some (AObj.row 1 [AV.nils]))) (nx9 + 1))
def zew (a0 a1 : AV) (H : Heap) (nx : Nat) (Q : AV → Heap → Nat → Prop) : Prop :=
  LNL a0 fun v1 =>
  MK 8 v1 v1 fun n2 =>
  ST 1 (AV.ptr (nx + 1) 0) (AV.slc nx 0 n2) ((H.put nx (some (AObj.row 1 (List.replicate n2 [AV.int IntKind.i64 0]).flatten))).put ((nx + 1)) (some (AObj.row 1 [AV.nils]))) fun H3 =>
  LD false 1 (AV.ptr (nx + 1) 0) H3 fun v4 =>
  LNL v4 fun v5 =>
  LP (zid Q) [a0, a1, AV.ptr (nx + 1) 0, v5, AV.int IntKind.i64 0] H3 (nx + 2)
theorem zaan (a0 a1 : AV) (H : Heap) (nx : Nat) (Q : AV → Heap → Nat → Prop) : body Tryd.prog tab eqsT (lvOf zou) Tryd.f17 (zd Tryd.f17) [a0, a1] H nx Q = zew a0 a1 H nx Q := by kernel_rfl
theorem zty (a0 a1 : AV) (H : Heap) (nx : Nat) (Q : AV → Heap → Nat → Prop) : zew a0 a1 H nx Q → za Tryd.prog 17 [a0, a1] H nx Q :=
  zh (lv := lvOf zou) (c := zd Tryd.f17) zw zx mixed Tryd.func17 (by kernel_rfl) (by kernel_rfl) (by kernel_rfl) (by kernel_rfl) (zaan a0 a1 H nx Q)
def zvl : List (Nat × Nat × List Nat) := []
def zvo (Q : AV → Heap → Nat → Prop) (v4 : AV) (H5 : Heap) (nx6 : Nat) : Prop :=
  Q v4 H5 nx6
def zvn (v28 : AV) (D26 : ze) (rd30 : List Nat) (rd34 : List Nat) (Q : AV → Heap → Nat → Prop) (H : Heap) (nx : Nat) (a1 : AV) (fr25 : List Nat) (v36 : AV) (_ : List Nat) (fr38 : List Nat) (D39 : ze) : Prop :=
  BS BinOp.add v28 v36 fun v40 =>
  BS BinOp.add v40 (AV.str [41]) fun v41 =>
  zb (domD D26) [] (
  zb (domD D26) [] (
  zb (domD D26) [] (
  zb (domD D26) [] (
  zb (domD D26) [] (
  zb (domD D26) [] (
  zb (domD D26) rd30 (
  zb (domD D26) [] (
  zb (domD D26) [] (
  zb (domD D26) [] (
  zb (domD D26) [] (
  zb (domD D26) [] (
  zb (domD D26) rd34 (
  zb (domD D26) [] (
  zb (domD D26) [] (
  zb (domD D26) [] (
  zb (domD D26) [] (
  zb (domD D26) [] (
  zb (domD D39) [] (
  zb (domD D39) [] (
  Q v41 (((H.put nx (some (AObj.row a1.cells.length a1.cells))).apply D26).apply D39) (((nx + 1) + fr25.length) + fr38.length)))))))))))))))))))))
def zvm (nx : Nat) (H : Heap) (a1 : AV) (a0 : AV) (a2 : AV) (Q : AV → Heap → Nat → Prop) (v23 : AV) (_ : List Nat) (fr25 : List Nat) (D26 : ze) : Prop :=
  BS BinOp.add (AV.str [40]) v23 fun v27 =>
  BS BinOp.add v27 (AV.str [32]) fun v28 =>
  LDR false 1 (AV.ptr nx 1) ((H.put nx (some (AObj.row a1.cells.length a1.cells))).apply D26) fun v29 rd30 =>
  IA 6 a0 v29 fun v31 =>
  FA 3 v31 fun v32 =>
  LDR true 3 v32 ((H.put nx (some (AObj.row a1.cells.length a1.cells))).apply D26) fun v33 rd34 =>
  BI BinOp.sub a2 (AV.int IntKind.i64 1) fun v35 =>
  zn Tryd.prog (AV.clo 18 []) [a0, v33, v35] ((H.put nx (some (AObj.row a1.cells.length a1.cells))).apply D26) ((nx + 1) + fr25.length) (zvn v28 D26 rd30 rd34 Q H nx a1 fr25)
def zdv (a0 a1 a2 : AV) (H : Heap) (nx : Nat) (Q : AV → Heap → Nat → Prop) : Prop :=
  a1.sure = true ∧
  LD false 1 (AV.ptr nx 0) (H.put nx (some (AObj.row a1.cells.length a1.cells))) fun v1 =>
  BI BinOp.eql v1 (AV.int IntKind.i64 0) fun v2 =>
  CNDC v2
  (LD false 1 (AV.ptr nx 1) (H.put nx (some (AObj.row a1.cells.length a1.cells))) fun v3 =>
  za Tryd.prog 42 [v3] (H.put nx (some (AObj.row a1.cells.length a1.cells))) (nx + 1) (zvo Q))
  (LD false 1 (AV.ptr nx 0) (H.put nx (some (AObj.row a1.cells.length a1.cells))) fun v7 =>
  BI BinOp.eql v7 (AV.int IntKind.i64 1) fun v8 =>
  CNDC v8
  (LD false 1 (AV.ptr nx 2) (H.put nx (some (AObj.row a1.cells.length a1.cells))) fun v9 =>
  Q v9 (H.put nx (some (AObj.row a1.cells.length a1.cells))) (nx + 1))
  (BI BinOp.leq a2 (AV.int IntKind.i64 0) fun v10 =>
  CND v10
  (Q (AV.str [46, 46]) (H.put nx (some (AObj.row a1.cells.length a1.cells))) (nx + 1))
  (LD false 1 (AV.ptr nx 1) (H.put nx (some (AObj.row a1.cells.length a1.cells))) fun v11 =>
  BI BinOp.lss v11 (AV.int IntKind.i64 0) fun v12 =>
  CND v12
  (Q (AV.str [46, 46]) (H.put nx (some (AObj.row a1.cells.length a1.cells))) (nx + 1))
  (LD false 1 (AV.ptr nx 1) (H.put nx (some (AObj.row a1.cells.length a1.cells))) fun v13 =>
  LNL a0 fun v14 =>
  BI BinOp.geq v13 v14 fun v15 =>
  CNDC v15
  (Q (AV.str [46, 46]) (H.put nx (some (AObj.row a1.cells.length a1.cells))) (nx + 1))
  (LDR false 1 (AV.ptr nx 1) (H.put nx (some (AObj.row a1.cells.length a1.cells))) fun v16 _ =>
  IA 6 a0 v16 fun v18 =>
  FA 0 v18 fun v19 =>
  LDR true 3 v19 (H.put nx (some (AObj.row a1.cells.length a1.cells))) fun v20 _ =>
  BI BinOp.sub a2 (AV.int IntKind.i64 1) fun v22 =>
  zn Tryd.prog (AV.clo 18 []) [a0, v20, v22] (H.put nx (some (AObj.row a1.cells.length a1.cells))) (nx + 1) (zvm nx H a1 a0 a2 Q))))))
theorem zags (a0 a1 a2 : AV) (H : Heap) (nx : Nat) (Q : AV → Heap → Nat → Prop) : body Tryd.prog tab eqsT (lvOf zvl) Tryd.f18 (zd Tryd.f18) [a0, a1, a2] H nx Q = zdv a0 a1 a2 H nx Q := by kernel_rfl
theorem zabn (a0 a1 a2 : AV) (H : Heap) (nx : Nat) (Q : AV → Heap → Nat → Prop) : zdv a0 a1 a2 H nx Q → za Tryd.prog 18 [a0, a1, a2] H nx Q :=
  zh (lv := lvOf zvl) (c := zd Tryd.f18) zw zx mixed Tryd.func18 (by kernel_rfl) (by kernel_rfl) (by kernel_rfl) (by kernel_rfl) (zags a0 a1 a2 H nx Q)
def zqn : List (Nat × Nat × List Nat) := []
def zqq (Q : AV → Heap → Nat → Prop) (v4 : AV) (H5 : Heap) (nx6 : Nat) : Prop :=
  Q v4 H5 nx6
def zqp (v28 : AV) (D26 : ze) (rd30 : List Nat) (Q : AV → Heap → Nat → Prop) (H19 : Heap) (nx : Nat) (fr25 : List Nat) (v32 : AV) (_ : List Nat) (fr34 : List Nat) (D35 : ze) : Prop :=
  BS BinOp.add v28 v32 fun v36 =>
  BS BinOp.add v36 (AV.str [41]) fun v37 =>
  zb (domD D26) [] (
  zb (domD D26) [] (
  zb (domD D26) [] (
  zb (domD D26) [] (
  zb (domD D26) rd30 (
  zb (domD D26) [] (
  zb (domD D26) [] (
  zb (domD D26) [] (
  zb (domD D26) [] (
  zb (domD D26) [] (
  zb (domD D35) [] (
  zb (domD D35) [] (
  Q v37 ((H19.apply D26).apply D35) (((nx + 2) + fr25.length) + fr34.length)))))))))))))
def zqo (nx : Nat) (H19 : Heap) (a2 : AV) (a0 : AV) (Q : AV → Heap → Nat → Prop) (v23 : AV) (_ : List Nat) (fr25 : List Nat) (D26 : ze) : Prop :=
  BS BinOp.add (AV.str [40]) v23 fun v27 =>
  BS BinOp.add v27 (AV.str [32]) fun v28 =>
  LDR true 3 (AV.ptr (nx + 1) 3) (H19.apply D26) fun v29 rd30 =>
  BI BinOp.sub a2 (AV.int IntKind.i64 1) fun v31 =>
  zn Tryd.prog (AV.clo 19 []) [a0, v29, v31] (H19.apply D26) ((nx + 2) + fr25.length) (zqp v28 D26 rd30 Q H19 nx fr25)
def zcm (a0 a1 a2 : AV) (H : Heap) (nx : Nat) (Q : AV → Heap → Nat → Prop) : Prop :=
  a1.sure = true ∧
  LD false 1 (AV.ptr nx 0) (H.put nx (some (AObj.row a1.cells.length a1.cells))) fun v1 =>
  BI BinOp.eql v1 (AV.int IntKind.i64 0) fun v2 =>
  CNDC v2
  (LD false 1 (AV.ptr nx 1) (H.put nx (some (AObj.row a1.cells.length a1.cells))) fun v3 =>
  za Tryd.prog 42 [v3] (H.put nx (some (AObj.row a1.cells.length a1.cells))) (nx + 1) (zqq Q))
  (LD false 1 (AV.ptr nx 0) (H.put nx (some (AObj.row a1.cells.length a1.cells))) fun v7 =>
  BI BinOp.eql v7 (AV.int IntKind.i64 1) fun v8 =>
  CNDC v8
  (LD false 1 (AV.ptr nx 2) (H.put nx (some (AObj.row a1.cells.length a1.cells))) fun v9 =>
  Q v9 (H.put nx (some (AObj.row a1.cells.length a1.cells))) (nx + 1))
  (BI BinOp.lss a2 (AV.int IntKind.i64 1) fun v10 =>
  CND v10
  (Q (AV.str [46, 46]) (H.put nx (some (AObj.row a1.cells.length a1.cells))) (nx + 1))
  (LD false 1 (AV.ptr nx 1) (H.put nx (some (AObj.row a1.cells.length a1.cells))) fun v11 =>
  BI BinOp.lss v11 (AV.int IntKind.i64 0) fun v12 =>
  CND v12
  (Q (AV.str [46, 46]) (H.put nx (some (AObj.row a1.cells.length a1.cells))) (nx + 1))
  (LD false 1 (AV.ptr nx 1) (H.put nx (some (AObj.row a1.cells.length a1.cells))) fun v13 =>
  LNL a0 fun v14 =>
  BI BinOp.geq v13 v14 fun v15 =>
  CNDC v15
  (Q (AV.str [46, 46]) (H.put nx (some (AObj.row a1.cells.length a1.cells))) (nx + 1))
  (LD false 1 (AV.ptr nx 1) (H.put nx (some (AObj.row a1.cells.length a1.cells))) fun v16 =>
  IA 6 a0 v16 fun v17 =>
  LD true 6 v17 (H.put nx (some (AObj.row a1.cells.length a1.cells))) fun v18 =>
  ST 6 (AV.ptr (nx + 1) 0) v18 ((H.put nx (some (AObj.row a1.cells.length a1.cells))).put ((nx + 1)) (some (AObj.row 6 [AV.int IntKind.i64 0, AV.int IntKind.i64 0, AV.str [], AV.int IntKind.i64 0, AV.int IntKind.i64 0, AV.str []]))) fun H19 =>
  LDR true 3 (AV.ptr (nx + 1) 0) H19 fun v20 _ =>
  BI BinOp.sub a2 (AV.int IntKind.i64 1) fun v22 =>
  zn Tryd.prog (AV.clo 19 []) [a0, v20, v22] H19 (nx + 2) (zqo nx H19 a2 a0 Q))))))
theorem zace (a0 a1 a2 : AV) (H : Heap) (nx : Nat) (Q : AV → Heap → Nat → Prop) : body Tryd.prog tab eqsT (lvOf zqn) Tryd.f19 (zd Tryd.f19) [a0, a1, a2] H nx Q = zcm a0 a1 a2 H nx Q := by kernel_rfl
theorem zww (a0 a1 a2 : AV) (H : Heap) (nx : Nat) (Q : AV → Heap → Nat → Prop) : zcm a0 a1 a2 H nx Q → za Tryd.prog 19 [a0, a1, a2] H nx Q :=
  zh (lv := lvOf zqn) (c := zd Tryd.f19) zw zx mixed Tryd.func19 (by kernel_rfl) (by kernel_rfl) (by kernel_rfl) (by kernel_rfl) (zace a0 a1 a2 H nx Q)
def zib : List (Nat × Nat × List Nat) := [(2, 4, [0, 1, 12, 13])]
def zee (Q : AV → Heap → Nat → Prop) (K5 : J3) (xs6 : List AV) (H7 : Heap) (nx8 : Nat) : Prop :=
  BI BinOp.lss (nth xs6 3) (nth xs6 2) fun v9 =>
  CNDC v9
  (IA 3 (nth xs6 0) (nth xs6 3) fun v10 =>
  LDR true 3 v10 H7 fun v11 _ =>
  IA 3 (nth xs6 1) (nth xs6 3) fun v13 =>
  LDR true 3 v13 H7 fun v14 _ =>
  gd (eqsT 25) (
  BA [AV.int IntKind.i64 0, AV.int IntKind.i64 0, AV.str []] BinOp.neq v11 v14 fun v16 =>
  CNDC v16
  (Q (AV.bool false) H7 nx8)
  (BI BinOp.add (nth xs6 3) (AV.int IntKind.i64 1) fun v17 =>
  K5 [nth xs6 0, nth xs6 1, nth xs6 2, v17] H7 nx8)))
  (Q (AV.bool true) H7 nx8)
def zci (a0 a1 : AV) (H : Heap) (nx : Nat) (Q : AV → Heap → Nat → Prop) : Prop :=
  LNL a0 fun v1 =>
  LNL a1 fun v2 =>
  BI BinOp.neq v1 v2 fun v3 =>
  CNDC v3
  (Q (AV.bool false) H nx)
  (LNL a0 fun v4 =>
  LP (zee Q) [a0, a1, v4, AV.int IntKind.i64 0] H nx)
theorem zre (a0 a1 : AV) (H : Heap) (nx : Nat) (Q : AV → Heap → Nat → Prop) : body Tryd.prog tab eqsT (lvOf zib) Tryd.f20 (zd Tryd.f20) [a0, a1] H nx Q = zci a0 a1 H nx Q := by kernel_rfl
theorem zob (a0 a1 : AV) (H : Heap) (nx : Nat) (Q : AV → Heap → Nat → Prop) : zci a0 a1 H nx Q → za Tryd.prog 20 [a0, a1] H nx Q :=
  zh (lv := lvOf zib) (c := zd Tryd.f20) zw zx mixed Tryd.func20 (by kernel_rfl) (by kernel_rfl) (by kernel_rfl) (by kernel_rfl) (zre a0 a1 H nx Q)
def ziv : List (Nat × Nat × List Nat) := [(2, 4, [0, 1, 12, 13])]
def zev (Q : AV → Heap → Nat → Prop) (K5 : J3) (xs6 : List AV) (H7 : Heap) (nx8 : Nat) : Prop :=
  BI BinOp.lss (nth xs6 3) (nth xs6 2) fun v9 =>
  CNDC v9
  (IA 6 (nth xs6 0) (nth xs6 3) fun v10 =>
  LDR true 6 v10 H7 fun v11 _ =>
  IA 6 (nth xs6 1) (nth xs6 3) fun v13 =>
  LDR true 6 v13 H7 fun v14 _ =>
  gd (eqsT 43) (
  BA [AV.int IntKind.i64 0, AV.int IntKind.i64 0, AV.str [], AV.int IntKind.i64 0, AV.int IntKind.i64 0, AV.str []] BinOp.neq v11 v14 fun v16 =>
  CNDC v16
  (Q (AV.bool false) H7 nx8)
  (BI BinOp.add (nth xs6 3) (AV.int IntKind.i64 1) fun v17 =>
  K5 [nth xs6 0, nth xs6 1, nth xs6 2, v17] H7 nx8)))
  (Q (AV.bool true) H7 nx8)
def zcp (a0 a1 : AV) (H : Heap) (nx : Nat) (Q : AV → Heap → Nat → Prop) : Prop :=
  LNL a0 fun v1 =>
  LNL a1 fun v2 =>
  BI BinOp.neq v1 v2 fun v3 =>
  CNDC v3
  (Q (AV.bool false) H nx)
  (LNL a0 fun v4 =>
  LP (zev Q) [a0, a1, v4, AV.int IntKind.i64 0] H nx)
theorem ztp (a0 a1 : AV) (H : Heap) (nx : Nat) (Q : AV → Heap → Nat → Prop) : body Tryd.prog tab eqsT (lvOf ziv) Tryd.f21 (zd Tryd.f21) [a0, a1] H nx Q = zcp a0 a1 H nx Q := by kernel_rfl
theorem zpu (a0 a1 : AV) (H : Heap) (nx : Nat) (Q : AV → Heap → Nat → Prop) : zcp a0 a1 H nx Q → za Tryd.prog 21 [a0, a1] H nx Q :=
  zh (lv := lvOf ziv) (c := zd Tryd.f21) zw zx mixed Tryd.func21 (by kernel_rfl) (by kernel_rfl) (by kernel_rfl) (by kernel_rfl) (ztp a0 a1 H nx Q)
def zpo : List (Nat × Nat × List Nat) := []
def zch (a0 a1 a2 : AV) (H : Heap) (nx : Nat) (Q : AV → Heap → Nat → Prop) : Prop :=
  a0.sure = true ∧
  LD false 1 (AV.ptr nx 0) ((H.put nx (some (AObj.row a0.cells.length a0.cells))).put ((nx + 1)) (some (AObj.row 3 [AV.int IntKind.i64 0, AV.int IntKind.i64 0, AV.str []]))) fun v1 =>
  BI BinOp.neq v1 (AV.int IntKind.i64 2) fun v2 =>
  CNDC v2
  (LD true 3 (AV.ptr nx 0) ((H.put nx (some (AObj.row a0.cells.length a0.cells))).put ((nx + 1)) (some (AObj.row 3 [AV.int IntKind.i64 0, AV.int IntKind.i64 0, AV.str []]))) fun v3 =>
  ST 3 (AV.ptr (nx + 1) 0) v3 ((H.put nx (some (AObj.row a0.cells.length a0.cells))).put ((nx + 1)) (some (AObj.row 3 [AV.int IntKind.i64 0, AV.int IntKind.i64 0, AV.str []]))) fun H4 =>
  LD true 3 (AV.ptr (nx + 1) 0) H4 fun v5 =>
  Q v5 H4 (nx + 2))
  (LD false 1 a1 ((H.put nx (some (AObj.row a0.cells.length a0.cells))).put ((nx + 1)) (some (AObj.row 3 [AV.int IntKind.i64 0, AV.int IntKind.i64 0, AV.str []]))) fun v6 =>
  LD false 1 (AV.ptr nx 1) ((H.put nx (some (AObj.row a0.cells.length a0.cells))).put ((nx + 1)) (some (AObj.row 3 [AV.int IntKind.i64 0, AV.int IntKind.i64 0, AV.str []]))) fun v7 =>
  zaf (AK.int IntKind.i64) v7 = true ∧
  LK [AV.int IntKind.i64 0] false v6 v7 true ((H.put nx (some (AObj.row a0.cells.length a0.cells))).put ((nx + 1)) (some (AObj.row 3 [AV.int IntKind.i64 0, AV.int IntKind.i64 0, AV.str []]))) fun v8 =>
  EX v8 0 fun v9 =>
  EX v8 1 fun v10 =>
  UO UnOp.not v10 fun v11 =>
  CNDC v11
  (LD false 1 a2 ((H.put nx (some (AObj.row a0.cells.length a0.cells))).put ((nx + 1)) (some (AObj.row 3 [AV.int IntKind.i64 0, AV.int IntKind.i64 0, AV.str []]))) fun v12 =>
  LNL v12 fun v13 =>
  LD false 1 a1 ((H.put nx (some (AObj.row a0.cells.length a0.cells))).put ((nx + 1)) (some (AObj.row 3 [AV.int IntKind.i64 0, AV.int IntKind.i64 0, AV.str []]))) fun v14 =>
  LD false 1 (AV.ptr nx 1) ((H.put nx (some (AObj.row a0.cells.length a0.cells))).put ((nx + 1)) (some (AObj.row 3 [AV.int IntKind.i64 0, AV.int IntKind.i64 0, AV.str []]))) fun v15 =>
  zaf (AK.int IntKind.i64) v15 = true ∧
  MU v14 v15 v13 ((H.put nx (some (AObj.row a0.cells.length a0.cells))).put ((nx + 1)) (some (AObj.row 3 [AV.int IntKind.i64 0, AV.int IntKind.i64 0, AV.str []]))) fun H16 =>
  LD false 1 a2 H16 fun v17 =>
  LD false 1 (AV.ptr nx 1) H16 fun v18 =>
  BSL 1 1 [AV.int IntKind.i64 0] [(0, v18)] fun cells19 =>
  APP 1 8 v17 (AV.slc (nx + 2) 0 1) (H16.put ((nx + 2)) (some (AObj.row 1 cells19))) (nx + 3) fun v20 H21 nx22 =>
  ST 1 a2 v20 H21 fun H23 =>
  ST 1 (AV.ptr nx 1) v13 H23 fun H24 =>
  LD true 3 (AV.ptr nx 0) H24 fun v25 =>
  ST 3 (AV.ptr (nx + 1) 0) v25 H24 fun H26 =>
  LD true 3 (AV.ptr (nx + 1) 0) H26 fun v27 =>
  Q v27 H26 nx22)
  (ST 1 (AV.ptr nx 1) v9 ((H.put nx (some (AObj.row a0.cells.length a0.cells))).put ((nx + 1)) (some (AObj.row 3 [AV.int IntKind.i64 0, AV.int IntKind.i64 0, AV.str []]))) fun H28 =>
  LD true 3 (AV.ptr nx 0) H28 fun v29 =>
  ST 3 (AV.ptr (nx + 1) 0) v29 H28 fun H30 =>
  LD true 3 (AV.ptr (nx + 1) 0) H30 fun v31 =>
  Q v31 H30 (nx + 2)))
theorem zabo (a0 a1 a2 : AV) (H : Heap) (nx : Nat) (Q : AV → Heap → Nat → Prop) : body Tryd.prog tab eqsT (lvOf zpo) Tryd.f38 (zd Tryd.f38) [a0, a1, a2] H nx Q = zch a0 a1 a2 H nx Q := by kernel_rfl
theorem zvp (a0 a1 a2 : AV) (H : Heap) (nx : Nat) (Q : AV → Heap → Nat → Prop) : zch a0 a1 a2 H nx Q → za Tryd.prog 38 [a0, a1, a2] H nx Q :=
  zh (lv := lvOf zpo) (c := zd Tryd.f38) zw zx mixed Tryd.func38 (by kernel_rfl) (by kernel_rfl) (by kernel_rfl) (by kernel_rfl) (zabo a0 a1 a2 H nx Q)
def zlj : List (Nat × Nat × List Nat) := []
def zbp (a0 a1 a2 : AV) (H : Heap) (nx : Nat) (Q : AV → Heap → Nat → Prop) : Prop :=
  a0.sure = true ∧
  LD false 1 (AV.ptr nx 0) (H.put nx (some (AObj.row a0.cells.length a0.cells))) fun v1 =>
  BI BinOp.eql v1 (AV.int IntKind.i64 2) fun v2 =>
  CND v2
  (LD false 1 a1 (H.put nx (some (AObj.row a0.cells.length a0.cells))) fun v3 =>
  LD false 1 (AV.ptr nx 1) (H.put nx (some (AObj.row a0.cells.length a0.cells))) fun v4 =>
  IA 1 v3 v4 fun v5 =>
  LD false 1 v5 (H.put nx (some (AObj.row a0.cells.length a0.cells))) fun v6 =>
  BI BinOp.lss v6 (AV.int IntKind.i64 0) fun v7 =>
  CNDC v7
  (LD false 1 a1 (H.put nx (some (AObj.row a0.cells.length a0.cells))) fun v8 =>
  LD false 1 (AV.ptr nx 1) (H.put nx (some (AObj.row a0.cells.length a0.cells))) fun v9 =>
  LD false 1 a2 (H.put nx (some (AObj.row a0.cells.length a0.cells))) fun v10 =>
  LNL v10 fun v11 =>
  IA 1 v8 v9 fun v12 =>
  ST 1 v12 v11 (H.put nx (some (AObj.row a0.cells.length a0.cells))) fun H13 =>
  LD false 1 a2 H13 fun v14 =>
  LD false 1 (AV.ptr nx 1) H13 fun v15 =>
  BSL 1 1 [AV.int IntKind.i64 0] [(0, v15)] fun cells16 =>
  APP 1 8 v14 (AV.slc (nx + 1) 0 1) (H13.put ((nx + 1)) (some (AObj.row 1 cells16))) (nx + 2) fun v17 H18 nx19 =>
  ST 1 a2 v17 H18 fun H20 =>
  Q (AV.tup []) H20 nx19)
  (Q (AV.tup []) (H.put nx (some (AObj.row a0.cells.length a0.cells))) (nx + 1)))
  (Q (AV.tup []) (H.put nx (some (AObj.row a0.cells.length a0.cells))) (nx + 1))
theorem zwy (a0 a1 a2 : AV) (H : Heap) (nx : Nat) (Q : AV → Heap → Nat → Prop) : body Tryd.prog tab eqsT (lvOf zlj) Tryd.f40 (zd Tryd.f40) [a0, a1, a2] H nx Q = zbp a0 a1 a2 H nx Q := by kernel_rfl
theorem zrg (a0 a1 a2 : AV) (H : Heap) (nx : Nat) (Q : AV → Heap → Nat → Prop) : zbp a0 a1 a2 H nx Q → za Tryd.prog 40 [a0, a1, a2] H nx Q :=
  zh (lv := lvOf zlj) (c := zd Tryd.f40) zw zx mixed Tryd.func40 (by kernel_rfl) (by kernel_rfl) (by kernel_rfl) (by kernel_rfl) (zwy a0 a1 a2 H nx Q)
def zli : List (Nat × Nat × List Nat) := []
def zdg (a0 a1 : AV) (H : Heap) (nx : Nat) (Q : AV → Heap → Nat → Prop) : Prop :=
  a0.sure = true ∧
  LD false 1 (AV.ptr nx 0) ((H.put nx (some (AObj.row a0.cells.length a0.cells))).put ((nx + 1)) (some (AObj.row 3 [AV.int IntKind.i64 0, AV.int IntKind.i64 0, AV.str []]))) fun v1 =>
  BI BinOp.eql v1 (AV.int IntKind.i64 2) fun v2 =>
  CNDC v2
  (LD false 1 a1 ((H.put nx (some (AObj.row a0.cells.length a0.cells))).put ((nx + 1)) (some (AObj.row 3 [AV.int IntKind.i64 0, AV.int IntKind.i64 0, AV.str []]))) fun v3 =>
  LD false 1 (AV.ptr nx 1) ((H.put nx (some (AObj.row a0.cells.length a0.cells))).put ((nx + 1)) (some (AObj.row 3 [AV.int IntKind.i64 0, AV.int IntKind.i64 0, AV.str []]))) fun v4 =>
  IA 1 v3 v4 fun v5 =>
  LD false 1 v5 ((H.put nx (some (AObj.row a0.cells.length a0.cells))).put ((nx + 1)) (some (AObj.row 3 [AV.int IntKind.i64 0, AV.int IntKind.i64 0, AV.str []]))) fun v6 =>
  ST 1 (AV.ptr nx 1) v6 ((H.put nx (some (AObj.row a0.cells.length a0.cells))).put ((nx + 1)) (some (AObj.row 3 [AV.int IntKind.i64 0, AV.int IntKind.i64 0, AV.str []]))) fun H7 =>
  LD true 3 (AV.ptr nx 0) H7 fun v8 =>
  ST 3 (AV.ptr (nx + 1) 0) v8 H7 fun H9 =>
  LD true 3 (AV.ptr (nx + 1) 0) H9 fun v10 =>
  Q v10 H9 (nx + 2))
  (LD true 3 (AV.ptr nx 0) ((H.put nx (some (AObj.row a0.cells.length a0.cells))).put ((nx + 1)) (some (AObj.row 3 [AV.int IntKind.i64 0, AV.int IntKind.i64 0, AV.str []]))) fun v11 =>
  ST 3 (AV.ptr (nx + 1) 0) v11 ((H.put nx (some (AObj.row a0.cells.length a0.cells))).put ((nx + 1)) (some (AObj.row 3 [AV.int IntKind.i64 0, AV.int IntKind.i64 0, AV.str []]))) fun H12 =>
  LD true 3 (AV.ptr (nx + 1) 0) H12 fun v13 =>
  Q v13 H12 (nx + 2))
theorem zwx (a0 a1 : AV) (H : Heap) (nx : Nat) (Q : AV → Heap → Nat → Prop) : body Tryd.prog tab eqsT (lvOf zli) Tryd.f41 (zd Tryd.f41) [a0, a1] H nx Q = zdg a0 a1 H nx Q := by kernel_rfl
theorem zrf (a0 a1 : AV) (H : Heap) (nx : Nat) (Q : AV → Heap → Nat → Prop) : zdg a0 a1 H nx Q → za Tryd.prog 41 [a0, a1] H nx Q :=
  zh (lv := lvOf zli) (c := zd Tryd.f41) zw zx mixed Tryd.func41 (by kernel_rfl) (by kernel_rfl) (by kernel_rfl) (by kernel_rfl) (zwx a0 a1 H nx Q)
def zgh : List (Nat × Nat × List Nat) := []
def zdd (a0 : AV) (H : Heap) (nx : Nat) (Q : AV → Heap → Nat → Prop) : Prop :=
  BL BinOp.eql a0 AV.nils fun v1 =>
  CNDC v1
  (Q AV.nils H nx)
  (APP 3 32 AV.zs a0 (H.put nx (some (AObj.row 3 []))) (nx + 1) fun v2 H3 nx4 =>
  Q v2 H3 nx4)
theorem zpv (a0 : AV) (H : Heap) (nx : Nat) (Q : AV → Heap → Nat → Prop) : body Tryd.prog tabZ eqsZ (lvOf zgh) Tryd.f39 (zd Tryd.f39) [a0] H nx Q = zdd a0 H nx Q := by kernel_rfl
theorem zmj (a0 : AV) (H : Heap) (nx : Nat) (Q : AV → Heap → Nat → Prop) : zdd a0 H nx Q → za Tryd.prog 39 [a0] H nx Q :=
  zh (lv := lvOf zgh) (c := zd Tryd.f39) zara zark mixed Tryd.func39 (by kernel_rfl) (by kernel_rfl) (by kernel_rfl) (by kernel_rfl) (zpv a0 H nx Q)
end Go.Proofs.YtejohcohkgcmhaaDoor
namespace Go.Proofs.YtejohcohkgcmhaaDoor
open Go Go.RowKit
inductive Bel (A : Nat → Prop) : AV → Prop
  | junk : Bel A .junk
  | und : Bel A .und
  | int (k : IntKind) (n : Int) : Bel A (.int k n)
  | bool (b : Bool) : Bel A (.bool b)
  | bany : Bel A .bany
  | str (s : List UInt8) : Bel A (.str s)
  | nilp : Bel A .nilp
  | nils : Bel A .nils
  | nilf : Bel A .nilf
  | nilm : Bel A .nilm
  | zs : Bel A .zs
  | ptr (g off : Nat) : A g → Bel A (.ptr g off)
  | slc (g off len : Nat) : A g → Bel A (.slc g off len)
  | amap (g : Nat) : A g → Bel A (.amap g)
  | ro (xs : List (List AV)) : (∀ (i : Nat) (x : List AV) (j : Nat) (v : AV), xs[i]? = some x → x[j]? = some v → Bel A v) → Bel A (.ro xs)
  | rop (cs : List AV) (o : Nat) : (∀ (j : Nat) (v : AV), cs[j]? = some v → Bel A v) → Bel A (.rop cs o)
  | agg (xs : List AV) : (∀ (j : Nat) (v : AV), xs[j]? = some v → Bel A v) → Bel A (.agg xs)
  | tup (xs : List AV) : (∀ (j : Nat) (v : AV), xs[j]? = some v → Bel A v) → Bel A (.tup xs)
  | clo (f : FuncId) (xs : List AV) : (∀ (j : Nat) (v : AV), xs[j]? = some v → Bel A v) → Bel A (.clo f xs)
def BelO (A : Nat → Prop) : AObj → Prop
  | .row _ cells => ∀ (j : Nat) x, cells[j]? = some x → Bel A x
  | .mp es => ∀ (j : Nat) kv, es[j]? = some kv → Bel A kv.1 ∧ Bel A kv.2
theorem VRel.bel {K : zy} {ρ : Nat → Loc} {A : Nat → Prop} {v : AV} {c : Value} (h : VRel K ρ A v c) : Bel A v := by
  induction h with
  | junk v => exact .junk
  | und => exact .und
  | int k n => exact .int k n
  | bool b => exact .bool b
  | bany b => exact .bany
  | str s => exact .str s
  | nilp => exact .nilp
  | nils => exact .nils
  | nilf => exact .nilf
  | nilm => exact .nilm
  | zs a => exact .zs
  | ptr g off a hg ha => exact .ptr g off hg
  | slc g off len cap a hg h1 h2 => exact .slc g off len hg
  | amap g r hg hr => exact .amap g hg
  | ro xs a len cap sz b off C h1 h2 h3 h4 h5 _ ih => exact .ro xs ih
  | rop cs o b p a C h1 h2 _ ih => exact .rop cs o ih
  | agg xs cs h1 _ ih =>
    exact .agg xs fun j v hv => by
      have hlt := (List.getElem?_eq_some_iff.1 hv).1
      exact ih j v _ hv (Array.getElem?_eq_getElem (by omega))
  | tup xs cs h1 _ ih =>
    exact .tup xs fun j v hv => by
      have hlt := (List.getElem?_eq_some_iff.1 hv).1
      exact ih j v _ hv (Array.getElem?_eq_getElem (by omega))
  | clo f xs cs h1 _ ih =>
    exact .clo f xs fun j v hv => by
      have hlt := (List.getElem?_eq_some_iff.1 hv).1
      exact ih j v _ hv (Array.getElem?_eq_getElem (by omega))
theorem VRel.restrict {K : zy} {ρ : Nat → Loc} {A A' : Nat → Prop} {v : AV} {c : Value} (h : VRel K ρ A v c) : Bel A' v → VRel K ρ A' v c := by
  induction h with
  | junk v => exact fun _ => .junk v
  | und => exact fun _ => .und
  | int k n => exact fun _ => .int k n
  | bool b => exact fun _ => .bool b
  | bany b => exact fun _ => .bany b
  | str s => exact fun _ => .str s
  | nilp => exact fun _ => .nilp
  | nils => exact fun _ => .nils
  | nilf => exact fun _ => .nilf
  | nilm => exact fun _ => .nilm
  | zs a => exact fun _ => .zs a
  | ptr g off a hg ha => intro hb; cases hb with | ptr _ _ h => exact .ptr g off a h ha
  | slc g off len cap a hg h1 h2 => intro hb; cases hb with | slc _ _ _ h => exact .slc g off len cap a h h1 h2
  | amap g r hg hr => intro hb; cases hb with | amap _ h => exact .amap g r h hr
  | ro xs a len cap sz b off C h1 h2 h3 h4 h5 _ ih => intro hb; cases hb with | ro _ h => exact .ro xs a len cap sz b off C h1 h2 h3 h4 h5 fun i x j v hx hv => ih i x j v hx hv (h i x j v hx hv)
  | rop cs o b p a C h1 h2 _ ih => intro hb; cases hb with | rop _ _ h => exact .rop cs o b p a C h1 h2 fun j v hv => ih j v hv (h j v hv)
  | agg xs cs h1 _ ih => intro hb; cases hb with | agg _ h => exact .agg xs cs h1 fun j v c hv hc => ih j v c hv hc (h j v hv)
  | tup xs cs h1 _ ih => intro hb; cases hb with | tup _ h => exact .tup xs cs h1 fun j v c hv hc => ih j v c hv hc (h j v hv)
  | clo f xs cs h1 _ ih => intro hb; cases hb with | clo _ _ h => exact .clo f xs cs h1 fun j v c hv hc => ih j v c hv hc (h j v hv)
inductive Frz (H : Heap) (nx : Nat) : AV → AV → Prop
  | same (v : AV) : Bel (· < nx) v → Frz H nx v v
  | nils : Frz H nx .nils (.ro [])
  | zs : Frz H nx .zs (.ro [])
  | slc (g off len sz : Nat) (cells : List AV) (xs : List (List AV)) : nx ≤ g → H g = some (.row sz cells) → off + len * sz ≤ cells.length → xs.length = len → (∀ x ∈ xs, x.length = sz) →
      (U : Nat → Nat → AV) → (∀ (i : Nat) (x : List AV) (j : Nat) (v : AV), xs[i]? = some x → x[j]? = some v → cells[off + i * sz + j]? = some (U i j)) →
      (∀ (i : Nat) (x : List AV) (j : Nat) (v : AV), xs[i]? = some x → x[j]? = some v → Frz H nx (U i j) v) → Frz H nx (.slc g off len) (.ro xs)
  | agg (xs ys : List AV) : ys.length = xs.length → (∀ (j : Nat) (v u : AV), xs[j]? = some v → ys[j]? = some u → Frz H nx v u) → Frz H nx (.agg xs) (.agg ys)
  | tup (xs ys : List AV) : ys.length = xs.length → (∀ (j : Nat) (v u : AV), xs[j]? = some v → ys[j]? = some u → Frz H nx v u) → Frz H nx (.tup xs) (.tup ys)
theorem Frz.rel {A : Nat → Prop} {ρ : Nat → Loc} {H H0 : Heap} {w : World} {nx : Nat} (s : Sim A ρ H w) (h0 : ∀ g o, H0 g = some o → g < nx ∧ H g = some o) {v u : AV} (h : Frz H nx v u) :
    ∀ (c : Value), VRel (Kof ρ H w) ρ A v c → VRel (Kof ρ H0 w) ρ (· < nx) u c := by
  have hK : ∀ b o, Kof ρ H w b = some o → Kof ρ H0 w b = some o := fun b o hb => by
    obtain ⟨h1, h2⟩ := zac.1 hb
    refine zac.2 ⟨fun g hg => ?_, h2⟩
    obtain ⟨o', ho'⟩ := Option.isSome_iff_exists.1 hg
    exact h1 g (by rw [(h0 g o' ho').2]; rfl)
  induction h with
  | same v hb => exact fun c hc => (hc.restrict hb).mono hK (fun _ h => ⟨rfl, h⟩)
  | nils =>
    intro c hc
    cases hc
    exact .ro [] none 0 0 0 0 0 (fun _ _ => undef) rfl (Nat.le_refl _) (fun h => absurd rfl h) (fun x hx => by cases hx) (fun i x j v hx => by simp at hx) (fun i x j v hx => by simp at hx)
  | zs =>
    intro c hc
    cases hc with
    | zs a => exact .ro [] a 0 0 0 0 0 (fun _ _ => undef) rfl (Nat.le_refl _) (fun h => absurd rfl h) (fun x hx => by cases hx) (fun i x j v hx => by simp at hx) (fun i x j v hx => by simp at hx)
  | slc g off len sz cells xs hg hH hle hl hsz U hU _ ih =>
    intro c hc
    cases hc with
    | slc _ _ _ cap a hA hcl hcap =>
      obtain ⟨cc, el, lo, hi, q1, q2, q3, q4, q5, q6⟩ := s.obj g _ hH
      have hKb : Kof ρ H0 w (ρ g).block = some (.cells cc el (lo, hi)) := by
        refine zac.2 ⟨fun x hx e => ?_, q1⟩
        obtain ⟨o', ho'⟩ := Option.isSome_iff_exists.1 hx
        obtain ⟨h1, h2⟩ := h0 x o' ho'
        have := s.inj x g (by rw [h2]; rfl) (by rw [hH]; rfl) e
        omega
      have hex : ∀ (i : Nat) (x : List AV) (j : Nat) (v : AV), xs[i]? = some x → x[j]? = some v → ∃ cv, cc[(ρ g).base + (off + i * sz + j)]? = some cv ∧ VRel (Kof ρ H w) ρ A (U i j) cv := fun i x j v hx hv => q6 _ _ (hU i x j v hx hv)
      refine .ro xs a len cap sz (ρ g).block ((ρ g).base + off) (fun i j => (cc[(ρ g).base + (off + i * sz + j)]?).getD undef) hl.symm hcl (fun hne => ?_) hsz (fun i x j v hx hv => ?_) (fun i x j v hx hv => ?_)
      · have hpos : 0 < xs.length := List.length_pos_iff.2 hne
        exact (hcap (by omega)).2
      · obtain ⟨cv, h1, h2⟩ := hex i x j v hx hv
        unfold zgu
        rw [hKb]
        simp only [h1, Option.getD_some]
        rw [← h1]; congr 1; omega
      · obtain ⟨cv, h1, h2⟩ := hex i x j v hx hv
        rw [h1]
        exact ih i x j v hx hv cv h2
  | agg xs ys hl _ ih =>
    intro c hc
    cases hc with
    | agg _ cs h1 h2 =>
    exact .agg ys cs (by omega) fun j v c hv hc => by
        have hlt := (List.getElem?_eq_some_iff.1 hv).1
        have hx : xs[j]? = some (xs[j]'(by omega)) := List.getElem?_eq_getElem (by omega)
        exact ih j _ v hx hv c (h2 j _ c hx hc)
  | tup xs ys hl _ ih =>
    intro c hc
    cases hc with
    | tup _ cs h1 h2 =>
    exact .tup ys cs (by omega) fun j v c hv hc => by
        have hlt := (List.getElem?_eq_some_iff.1 hv).1
        have hx : xs[j]? = some (xs[j]'(by omega)) := List.getElem?_eq_getElem (by omega)
        exact ih j _ v hx hv c (h2 j _ c hx hc)
theorem za.gc {P : Program} {f : FuncId} {args : List AV} {H : Heap} {nx : Nat} {Q : AV → Heap → Nat → Prop} {R : AV → Heap → Prop} (h : za P f args H nx Q)
    (hq : ∀ v H' nx', Q v H' nx' → ∃ r H0, R r H0 ∧ Frz H' nx v r ∧ (∀ g o, H0 g = some o → g < nx ∧ H' g = some o ∧ (H g = some o ∨ BelO (· < nx) o))) :
    za P f args H nx fun v H' nx' => R v H' ∧ nx' = nx := by
  intro ρ w cargs s ha
  refine zal (h ρ w cargs s ha) fun cv w' ⟨v, H', nx', ρ', q1, q2, q3, q4⟩ => ?_
  obtain ⟨r, H0, hR, hF, h0⟩ := hq v H' nx' q1
  have h0' : ∀ g o, H0 g = some o → g < nx ∧ H' g = some o := fun g o ho => ⟨(h0 g o ho).1, (h0 g o ho).2.1⟩
  have hK : ∀ b o, Kof ρ' H' w' b = some o → Kof ρ' H0 w' b = some o := fun b o hb => by
    obtain ⟨h1, h2⟩ := zac.1 hb
    refine zac.2 ⟨fun g hg => ?_, h2⟩
    obtain ⟨o', ho'⟩ := Option.isSome_iff_exists.1 hg
    exact h1 g (by rw [(h0' g o' ho').2]; rfl)
  refine ⟨r, H0, nx, ρ', ⟨hR, rfl⟩, ⟨fun g o ho => (h0 g o ho).1, fun g o ho => ?_, fun x y hx hy hb => ?_, q2.lay.mono hK⟩, hF.rel q2 h0' cv q3, ⟨fun g hg => ⟨(q4.agree g hg).1, hg⟩, fun b o hb => hK b o (q4.k b o hb), q4.os, q4.tape, q4.output, q4.size⟩⟩
  · obtain ⟨hg, hH', hbel⟩ := h0 g o ho
    have hobj := q2.obj g o hH'
    have hcells : BelO (· < nx) o := by
      rcases hbel with hs | hb
      · have := s.obj g o hs
        cases o with
        | row sz cells =>
          obtain ⟨_, _, _, _, _, _, _, _, _, p6⟩ := this
          intro j x hx
          obtain ⟨cv, _, hv⟩ := p6 j x hx
          exact hv.bel
        | mp es =>
          obtain ⟨en, cl, p1, p2, p3⟩ := this
          intro j kv hkv
          have hlt := (List.getElem?_eq_some_iff.1 hkv).1
          obtain ⟨a1, a2⟩ := p3 j kv _ hkv (Array.getElem?_eq_getElem (by omega))
          exact ⟨a1.bel, a2.bel⟩
      · exact hb
    cases o with
    | row sz cells =>
      obtain ⟨c, el, lo, hi, p1, p2, p3, p4, p5, p6⟩ := hobj
      exact ⟨c, el, lo, hi, p1, p2, p3, p4, p5, fun j x hx => let ⟨cv, a1, a2⟩ := p6 j x hx; ⟨cv, a1, (a2.restrict (hcells j x hx)).mono hK (fun _ h => ⟨rfl, h⟩)⟩⟩
    | mp es =>
      obtain ⟨en, cl, p1, p2, p3⟩ := hobj
      exact ⟨en, cl, p1, p2, fun j kv x hkv hx => let ⟨a1, a2⟩ := p3 j kv x hkv hx; ⟨(a1.restrict (hcells j kv hkv).1).mono hK (fun _ h => ⟨rfl, h⟩), (a2.restrict (hcells j kv hkv).2).mono hK (fun _ h => ⟨rfl, h⟩)⟩⟩
  · obtain ⟨o1, ho1⟩ := Option.isSome_iff_exists.1 hx
    obtain ⟨o2, ho2⟩ := Option.isSome_iff_exists.1 hy
    exact q2.inj x y (by rw [(h0' x o1 ho1).2]; rfl) (by rw [(h0' y o2 ho2).2]; rfl) hb
def QC (P : Program) (f : FuncId) (args : List AV) (r : AV) : Prop := ∀ H nx, za P f args H nx fun v H' nx' => v = r ∧ H' = H ∧ nx' = nx
theorem za.tidy {P : Program} {f : FuncId} {args : List AV} {H : Heap} {nx : Nat} {Q : AV → Heap → Nat → Prop} (h : (∀ g o, H g = some o → g < nx) → za P f args H nx Q) : za P f args H nx Q :=
  fun ρ w cargs s ha => h (fun g o ho => s.live g o ho) ρ w cargs s ha
theorem QC.of {P : Program} {f : FuncId} {args : List AV} {r : AV} (h : ∀ H nx, za P f args H nx fun v H' _ => Frz H' nx v r ∧ ∀ g, g < nx → H' g = H g) : QC P f args r := by
  intro H nx
  refine za.tidy fun hlive => ?_
  refine (za.gc (R := fun v H' => v = r ∧ H' = H) (h H nx) fun v H' nx' ⟨h1, h2⟩ => ⟨r, H, ⟨rfl, rfl⟩, h1, fun g o ho => ⟨hlive g o ho, by rw [h2 g (hlive g o ho)]; exact ho, .inl ho⟩⟩).mono fun v H' nx' ⟨⟨a, b⟩, c⟩ => ⟨a, b, c⟩
theorem Bel.mono {A B : Nat → Prop} {v : AV} (h : Bel A v) (hAB : ∀ g, A g → B g) : Bel B v := by
  induction h with
  | junk => exact .junk
  | und => exact .und
  | int k n => exact .int k n
  | bool b => exact .bool b
  | bany => exact .bany
  | str s => exact .str s
  | nilp => exact .nilp
  | nils => exact .nils
  | nilf => exact .nilf
  | nilm => exact .nilm
  | zs => exact .zs
  | ptr g off h => exact .ptr g off (hAB g h)
  | slc g off len h => exact .slc g off len (hAB g h)
  | amap g h => exact .amap g (hAB g h)
  | ro xs _ ih => exact .ro xs ih
  | rop cs o _ ih => exact .rop cs o ih
  | agg xs _ ih => exact .agg xs ih
  | tup xs _ ih => exact .tup xs ih
  | clo f xs _ ih => exact .clo f xs ih
theorem zat.restrict {K : zy} {ρ : Nat → Loc} {A A' : Nat → Prop} {w : World} {l : Loc} {o : AObj} (h : zat K ρ A w l o) (hb : BelO A' o) : zat K ρ A' w l o := by
  cases o with
  | row sz cells =>
    obtain ⟨c, el, lo, hi, p1, p2, p3, p4, p5, p6⟩ := h
    exact ⟨c, el, lo, hi, p1, p2, p3, p4, p5, fun j x hx => let ⟨cv, a1, a2⟩ := p6 j x hx; ⟨cv, a1, a2.restrict (hb j x hx)⟩⟩
  | mp es =>
    obtain ⟨en, cl, p1, p2, p3⟩ := h
    exact ⟨en, cl, p1, p2, fun j kv x hkv hx => let ⟨a1, a2⟩ := p3 j kv x hkv hx; ⟨a1.restrict (hb j kv hkv).1, a2.restrict (hb j kv hkv).2⟩⟩
theorem zat.bel {K : zy} {ρ : Nat → Loc} {A : Nat → Prop} {w : World} {l : Loc} {o : AObj} (h : zat K ρ A w l o) : BelO A o := by
  cases o with
  | row sz cells =>
    obtain ⟨_, _, _, _, _, _, _, _, _, p6⟩ := h
    intro j x hx
    obtain ⟨cv, _, hv⟩ := p6 j x hx
    exact hv.bel
  | mp es =>
    obtain ⟨en, cl, p1, p2, p3⟩ := h
    intro j kv hkv
    have hlt := (List.getElem?_eq_some_iff.1 hkv).1
    obtain ⟨a1, a2⟩ := p3 j kv _ hkv (Array.getElem?_eq_getElem (by omega))
    exact ⟨a1.bel, a2.bel⟩
theorem LC.of_qc {P : Program} {f : FuncId} {args : List AV} {r : AV} (h : QC P f args r) (hr : Bel (fun _ => False) r) (H0 : Heap) : LC P f args H0 [] [] [] r := by
  intro A ρ H w cargs ⟨N, hN⟩ s ha _ _
  have sN : Sim (· < N) ρ H w := ⟨fun g o ho => hN g (s.live g o ho), fun g o ho => (s.obj g o ho).mono rfl (fun _ _ h => h) (fun g hg => ⟨rfl, hN g hg⟩), s.inj, s.lay⟩
  have aN : LRel (Kof ρ H w) ρ (· < N) args cargs.toList := ⟨ha.1, fun j v c hv hc => (ha.2 j v c hv hc).mono (fun _ _ h => h) (fun g hg => ⟨rfl, hN g hg⟩)⟩
  refine zal (h H N ρ w cargs sN aN) fun cv w' ⟨r', H', nx', ρ', ⟨q0, q1, q2⟩, q3, q4, q5⟩ => ?_
  subst q0; subst q1; subst q2
  have hA : (fun x => A x ∨ x ∈ ([] : List Nat)) = A := by funext x; simp
  refine ⟨ρ', ?_, ?_, ?_⟩
  · rw [hA]
    exact ⟨s.live, fun g o ho => (q3.obj g o ho).restrict (s.obj g o ho).bel, q3.inj, q3.lay⟩
  · rw [hA]
    exact q4.restrict (hr.mono fun _ h => h.elim)
  · rw [hA]
    exact ⟨fun g hg => ⟨(q5.agree g (hN g hg)).1, hg⟩, q5.k, q5.os, q5.tape, q5.output, q5.size⟩
theorem zn.of_qc {P : Program} {f : FuncId} {args cap : List AV} {r : AV} {H : Heap} {nx : Nat} {k : Kt} (h : QC P f (args ++ cap) r) (hr : Bel (fun _ => False) r) (hk : k r [] [] []) : zn P (.clo f cap) args H nx k :=
  ⟨r, [], [], [], .inl rfl, LC.of_qc h hr H, hk⟩
end Go.Proofs.YtejohcohkgcmhaaDoor
namespace Go.Proofs.YtejohcohkgcmhaaDoor
open Go Go.RowKit
theorem JN.same {J : J3} {B : J3 → Prop} (h : B J) : JN J B := ⟨J, fun _ _ _ h => h, h⟩
theorem JN.cut {J : J3} {B : J3 → Prop} (I : J3) (h1 : ∀ xs H nx, I xs H nx → J xs H nx) (h2 : B I) : JN J B := ⟨I, h1, h2⟩
theorem LP.mk {F : J3 → J3} {xs : List AV} {H : Heap} {nx : Nat} (I : Nat → J3) (n : Nat) (h0 : I n xs H nx) (hs : ∀ n xs H nx, I n xs H nx → F (fun xs H nx => ∃ m, m < n ∧ I m xs H nx) xs H nx) : LP F xs H nx := ⟨I, n, h0, hs⟩
@[simp] theorem zbah (x : AV) (xs : List AV) : nth (x :: xs) 0 = x := rfl
@[simp] theorem zbag (x y : AV) (xs : List AV) : nth (x :: y :: xs) 1 = y := rfl
@[simp] theorem zbaf (x y z : AV) (xs : List AV) : nth (x :: y :: z :: xs) 2 = z := rfl
@[simp] theorem zbae (x y z a : AV) (xs : List AV) : nth (x :: y :: z :: a :: xs) 3 = a := rfl
@[simp] theorem zbad (x y z a b : AV) (xs : List AV) : nth (x :: y :: z :: a :: b :: xs) 4 = b := rfl
@[simp] theorem zbac (x y z a b c : AV) (xs : List AV) : nth (x :: y :: z :: a :: b :: c :: xs) 5 = c := rfl
@[simp] theorem zbab (x y z a b c d : AV) (xs : List AV) : nth (x :: y :: z :: a :: b :: c :: d :: xs) 6 = d := rfl
@[simp] theorem zbaa (x y z a b c d e : AV) (xs : List AV) : nth (x :: y :: z :: a :: b :: c :: d :: e :: xs) 7 = e := rfl
@[simp] theorem zazz (x y z a b c d e f : AV) (xs : List AV) : nth (x :: y :: z :: a :: b :: c :: d :: e :: f :: xs) 8 = f := rfl
@[simp] theorem zazy (x y z a b c d e f g : AV) (xs : List AV) : nth (x :: y :: z :: a :: b :: c :: d :: e :: f :: g :: xs) 9 = g := rfl
def OPTK {α : Type} (o : Option α) (k : α → Prop) : Prop := ∃ v, o = some v ∧ k v
@[simp ↓] theorem optk {α : Type} {v : α} {k : α → Prop} : OPTK (some v) k = k v := by simp [OPTK]
@[simp ↓] theorem zaku {α : Type} {k : α → Prop} : OPTK none k = False := by simp [OPTK]
@[congr] theorem zaxa {α : Type} {o o' : Option α} {k : α → Prop} (h : o = o') : OPTK o k = OPTK o' k := by rw [h]
def ROWK (o : Option AObj) (k : Nat → List AV → Prop) : Prop := ∃ s cs, o = some (.row s cs) ∧ k s cs
@[simp ↓] theorem rowk {s : Nat} {cs : List AV} {k : Nat → List AV → Prop} : ROWK (some (.row s cs)) k = k s cs := by
  apply propext; constructor
  · rintro ⟨s', cs', h, hk⟩; cases h; exact hk
  · exact fun h => ⟨s, cs, rfl, h⟩
@[congr] theorem zawz {o o' : Option AObj} {k : Nat → List AV → Prop} (h : o = o') : ROWK o k = ROWK o' k := by rw [h]
def MAPK (o : Option AObj) (k : List (AV × AV) → Prop) : Prop := ∃ es, o = some (.mp es) ∧ k es
@[simp ↓] theorem mapk {es : List (AV × AV)} {k : List (AV × AV) → Prop} : MAPK (some (.mp es)) k = k es := by
  apply propext; constructor
  · rintro ⟨es', h, hk⟩; cases h; exact hk
  · exact fun h => ⟨es, rfl, h⟩
@[congr] theorem zaxy {o o' : Option AObj} {k : List (AV × AV) → Prop} (h : o = o') : MAPK o k = MAPK o' k := by rw [h]
section
variable {x x' y y' z z' : AV} {k : AV → Prop} {H H' : Heap} {nx nx' : Nat}
@[congr] theorem pk_c (h : x = x') (h2 : y = y') (h3 : z = z') : PK x y z k = PK x' y' z' k := by rw [h, h2, h3]
@[congr] theorem bi_c {op : BinOp} (h : x = x') (h2 : y = y') : BI op x y k = BI op x' y' k := by rw [h, h2]
@[congr] theorem bs_c {op : BinOp} (h : x = x') (h2 : y = y') : BS op x y k = BS op x' y' k := by rw [h, h2]
@[congr] theorem bb_c {op : BinOp} (h : x = x') (h2 : y = y') : BB op x y k = BB op x' y' k := by rw [h, h2]
@[congr] theorem ba_c {s : List AV} {op : BinOp} (h : x = x') (h2 : y = y') : BA s op x y k = BA s op x' y' k := by rw [h, h2]
@[congr] theorem bp_c {op : BinOp} (h : x = x') (h2 : y = y') : BP op x y k = BP op x' y' k := by rw [h, h2]
@[congr] theorem uo_c {op : UnOp} (h : x = x') : UO op x k = UO op x' k := by rw [h]
@[congr] theorem cv_c {ki : IntKind} (h : x = x') : CV ki x k = CV ki x' k := by rw [h]
@[congr] theorem ld_c {g : Bool} {s : Nat} (h : x = x') (h2 : H = H') : LD g s x H k = LD g s x' H' k := by rw [h, h2]
@[congr] theorem zbam {g : Bool} {s : Nat} {kr : AV → List Nat → Prop} (h : x = x') (h2 : H = H') : LDR g s x H kr = LDR g s x' H' kr := by rw [h, h2]
@[congr] theorem st_c {s : Nat} {kh : Heap → Prop} (h : x = x') (h3 : y = y') (h2 : H = H') : ST s x y H kh = ST s x' y' H' kh := by rw [h, h2, h3]
@[congr] theorem zavs {s : Nat} {kt : Kt} (h : x = x') (h3 : y = y') (h2 : H = H') : zad s x y H kt = zad s x' y' H' kt := by rw [h, h2, h3]
@[congr] theorem nc_c (h : x = x') : NC x k = NC x' k := by rw [h]
@[congr] theorem fa_c {o : Nat} (h : x = x') : FA o x k = FA o x' k := by rw [h]
@[congr] theorem fi_c {g : Bool} {s o : Nat} (h : x = x') : FI g s o x k = FI g s o x' k := by rw [h]
@[congr] theorem ia_c {s : Nat} (h : x = x') (h2 : y = y') : IA s x y k = IA s x' y' k := by rw [h, h2]
@[congr] theorem aa_c {s l : Nat} (h : x = x') (h2 : y = y') : AA s l x y k = AA s l x' y' k := by rw [h, h2]
@[congr] theorem ix_c (h : x = x') (h2 : y = y') : IX x y k = IX x' y' k := by rw [h, h2]
@[congr] theorem ai_c {g : Bool} {s l : Nat} (h : x = x') (h2 : y = y') : AI g s l x y k = AI g s l x' y' k := by rw [h, h2]
@[congr] theorem zbai (h : x = x') : LNS x k = LNS x' k := by rw [h]
@[congr] theorem zbak (h : x = x') : LNL x k = LNL x' k := by rw [h]
@[congr] theorem zbaj (h : x = x') (h2 : H = H') : LNM x H k = LNM x' H' k := by rw [h, h2]
@[congr] theorem ex_c {i : Nat} (h : x = x') : EX x i k = EX x' i k := by rw [h]
@[congr] theorem bd_c {pl : Nat → Option (Nat × Nat)} {zs : List AV} {ps ps' : List (Nat × AV)} (h : ps = ps') : BD pl zs ps k = BD pl zs ps' k := by rw [h]
@[congr] theorem zbav {l s : Nat} {zs : List AV} {ps ps' : List (Nat × AV)} {kc : List AV → Prop} (h : ps = ps') : BSL l s zs ps kc = BSL l s zs ps' kc := by rw [h]
@[congr] theorem mk_c {b : Nat} {kn : Nat → Prop} (h : x = x') (h2 : y = y') : MK b x y kn = MK b x' y' kn := by rw [h, h2]
@[congr] theorem mm_c {b : Bool} (h : x = x') (h2 : y = y') : MM b x y k = MM b x' y' k := by rw [h, h2]
@[congr] theorem zazu {s n : Nat} {lo lo' hi hi' : Option AV} (h : x = x') (h2 : lo = lo') (h3 : hi = hi') (h4 : H = H') : SLP s n x lo hi H k = SLP s n x' lo' hi' H' k := by rw [h, h2, h3, h4]
@[congr] theorem zbau (h : x = x') (h2 : H = H') : CBS x H k = CBS x' H' k := by rw [h, h2]
@[congr] theorem zbaq {ks : List UInt8 → Prop} (h : x = x') : CSB x ks = CSB x' ks := by rw [h]
@[congr] theorem zazt {lo lo' hi hi' : Option AV} (h : x = x') (h2 : lo = lo') (h3 : hi = hi') : SLS x lo hi k = SLS x' lo' hi' k := by rw [h, h2, h3]
@[congr] theorem sl_c {s : Nat} {lo lo' hi hi' : Option AV} (h : x = x') (h2 : lo = lo') (h3 : hi = hi') (h4 : H = H') : SL s x lo hi H k = SL s x' lo' hi' H' k := by rw [h, h2, h3, h4]
@[congr] theorem zavv {s : Nat} {lo lo' hi hi' : Option AV} {kt : Kt} (h : x = x') (h2 : lo = lo') (h3 : hi = hi') (h4 : H = H') : zay s x lo hi H kt = zay s x' lo' hi' H' kt := by rw [h, h2, h3, h4]
@[congr] theorem zazx {w w' : AV} (h : x = x') (h2 : y = y') (h3 : z = z') (h4 : w = w') : SL0 x y z w k = SL0 x' y' z' w' k := by rw [h, h2, h3, h4]
@[congr] theorem lk_c {zs : List AV} {g o : Bool} (h : x = x') (h2 : y = y') (h3 : H = H') : LK zs g x y o H k = LK zs g x' y' o H' k := by rw [h, h2, h3]
@[congr] theorem zaya {zs : List AV} {g o : Bool} {kt : Kt} (h : x = x') (h2 : y = y') (h3 : H = H') : LOOK zs g x y o H kt = LOOK zs g x' y' o H' kt := by rw [h, h2, h3]
@[congr] theorem mu_c {kh : Heap → Prop} (h : x = x') (h2 : y = y') (h3 : z = z') (h4 : H = H') : MU x y z H kh = MU x' y' z' H' kh := by rw [h, h2, h3, h4]
@[congr] theorem zaxv {kt : Kt} (h : x = x') (h2 : y = y') (h3 : z = z') (h4 : H = H') : MUPD x y z H kt = MUPD x' y' z' H' kt := by rw [h, h2, h3, h4]
@[congr] theorem zbaz {e b : Nat} {kk : AV → Heap → Nat → Prop} (h : x = x') (h2 : y = y') (h3 : H = H') (h4 : nx = nx') : APP e b x y H nx kk = APP e b x' y' H' nx' kk := by rw [h, h2, h3, h4]
@[congr] theorem zavn {e b : Nat} {kt : Kt} (h : x = x') (h2 : y = y') (h3 : H = H') (h4 : nx = nx') : zaj e b x y H nx kt = zaj e b x' y' H' nx' kt := by rw [h, h2, h3, h4]
@[congr] theorem cp_c {e : Nat} {kh : AV → Heap → Prop} (h : x = x') (h2 : y = y') (h3 : H = H') : CP e x y H kh = CP e x' y' H' kh := by rw [h, h2, h3]
@[congr] theorem zayl {e : Nat} {kt : Kt} (h : x = x') (h2 : y = y') (h3 : H = H') : COPY e x y H kt = COPY e x' y' H' kt := by rw [h, h2, h3]
@[congr] theorem zbat {A B : Prop} (h : x = x') : CND x A B = CND x' A B := by rw [h]
@[congr] theorem zaym {A B : Prop} (h : x = x') : CNDC x A B = CNDC x' A B := by rw [h]
@[congr] theorem bl_c {op : BinOp} (h : x = x') (h2 : y = y') : BL op x y k = BL op x' y' k := by rw [h, h2]
@[congr] theorem zayn {P : Program} {bs bs' : List AV} {kk : AV → Heap → Nat → Prop} (h : x = x') (h2 : bs = bs') (h3 : H = H') (h4 : nx = nx') : CALL P x bs H nx kk = CALL P x' bs' H' nx' kk := by rw [h, h2, h3, h4]
@[congr] theorem zawr {P : Program} {bs bs' : List AV} {kt : Kt} (h : x = x') (h2 : bs = bs') (h3 : H = H') (h4 : nx = nx') : zn P x bs H nx kt = zn P x' bs' H' nx' kt := by rw [h, h2, h3, h4]
@[congr] theorem zavo {P : Program} {f : FuncId} {bs bs' : List AV} {kk : AV → Heap → Nat → Prop} (h2 : bs = bs') (h3 : H = H') (h4 : nx = nx') : za P f bs H nx kk = za P f bs' H' nx' kk := by rw [h2, h3, h4]
@[congr] theorem jn_c {J : J3} {B : J3 → Prop} : JN J B = JN J B := rfl
@[congr] theorem lp_c {F : J3 → J3} {xs xs' : List AV} (h : xs = xs') (h3 : H = H') (h4 : nx = nx') : LP F xs H nx = LP F xs' H' nx' := by rw [h, h3, h4]
@[congr] theorem zawo {l l' m m' : List Nat} {A : Prop} (h : l = l') (h2 : m = m') : zb l m A = zb l' m' A := by rw [h, h2]
@[congr] theorem zawu {p p' v v' : AV} {D D' : ze} {rd rd' : List Nat} {A : Prop} (h : p = p') (h2 : v = v') (h3 : D = D') (h4 : rd = rd') : SOFT p v D rd A = SOFT p' v' D' rd' A := by rw [h, h2, h3, h4]
@[congr] theorem zawq {g g' q q' : Nat} {v v' : AV} {D D' : ze} {A : Prop} (h : g = g') (h2 : q = q') (h3 : v = v') (h4 : D = D') : zim g q v D A = zim g' q' v' D' A := by rw [h, h2, h3, h4]
@[congr] theorem gd_c {b b' : Bool} {A : Prop} (h : b = b') : gd b A = gd b' A := by rw [h]
end
@[simp ↓] theorem zbar (A B : Prop) : CND (.bool true) A B = A := rfl
@[simp ↓] theorem zbas (A B : Prop) : CND (.bool false) A B = B := rfl
@[simp ↓ low] theorem cnd (b : Bool) (A B : Prop) : CND (.bool b) A B = ((b = true → A) ∧ (b = false → B)) := propext zaoh
@[simp ↓] theorem zarn (A B : Prop) : CNDC (.bool true) A B = A := rfl
@[simp ↓] theorem zalp (A B : Prop) : CNDC (.bool false) A B = B := rfl
@[simp ↓] theorem zagp (A B : Prop) : CNDC .bany A B = (A ∧ B) := rfl
@[simp ↓ low] theorem cndc (b : Bool) (A B : Prop) : CNDC (.bool b) A B = ((b = true → A) ∧ (b = false → B)) := by cases b <;> simp
@[simp ↓] theorem pk (b : Bool) (x y : AV) (k : AV → Prop) : PK (.bool b) x y k = k (bif b then x else y) := rfl
variable {ki : IntKind} {a b : Int} {k : AV → Prop}
@[simp ↓] theorem zazh : BI .add (.int ki a) (.int ki b) k = k (.int ki (ki.wrap (a + b))) := by simp [BI, BINI, IBIN, zbf, PURE, qk]
@[simp ↓] theorem zayv : BI .sub (.int ki a) (.int ki b) k = k (.int ki (ki.wrap (a - b))) := by simp [BI, BINI, IBIN, zbf, PURE, qk]
@[simp ↓] theorem zazb : BI .mul (.int ki a) (.int ki b) k = k (.int ki (ki.wrap (a * b))) := by simp [BI, BINI, IBIN, zbf, PURE, qk]
@[simp ↓] theorem zayz : BI .quo (.int ki a) (.int ki b) k = (b ≠ 0 ∧ k (.int ki (ki.wrap (a.tdiv b)))) := by simp [BI, BINI, IBIN, zbf, PURE, qk]
@[simp ↓] theorem zayy : BI .rem (.int ki a) (.int ki b) k = (b ≠ 0 ∧ k (.int ki (a.tmod b))) := by simp [BI, BINI, IBIN, zbf, PURE, qk]
@[simp ↓] theorem zayx {kj : IntKind} : BI .shl (.int ki a) (.int kj b) k = (0 ≤ b ∧ k (.int ki (ki.wrap (a * 2 ^ (min b.toNat ki.bits))))) := by simp [BI, BINI, IBIN, zbf, PURE, qk]
@[simp ↓] theorem zayw {kj : IntKind} : BI .shr (.int ki a) (.int kj b) k = (0 ≤ b ∧ k (.int ki (a.fdiv (2 ^ (min b.toNat ki.bits))))) := by simp [BI, BINI, IBIN, zbf, PURE, qk]
@[simp ↓] theorem zarr : BI .eql (.int ki a) (.int ki b) k = k (.bool (decide (a = b))) := by simp [BI, BINI, IBIN, icmp, zbf, PURE, qk]; rfl
@[simp ↓] theorem zaza : BI .neq (.int ki a) (.int ki b) k = k (.bool (!decide (a = b))) := by simp [BI, BINI, IBIN, icmp, zbf, PURE, qk]; rfl
@[simp ↓] theorem zazc : BI .lss (.int ki a) (.int ki b) k = k (.bool (decide (a < b))) := by simp [BI, BINI, IBIN, icmp, zbf, PURE, qk]
@[simp ↓] theorem zazd : BI .leq (.int ki a) (.int ki b) k = k (.bool (decide (a ≤ b))) := by simp [BI, BINI, IBIN, icmp, zbf, PURE, qk]
@[simp ↓] theorem zaze : BI .gtr (.int ki a) (.int ki b) k = k (.bool (decide (b < a))) := by simp [BI, BINI, IBIN, icmp, zbf, PURE, qk]
@[simp ↓] theorem zazf : BI .geq (.int ki a) (.int ki b) k = k (.bool (decide (b ≤ a))) := by simp [BI, BINI, IBIN, icmp, zbf, PURE, qk]
@[simp ↓] theorem zazg : BI .and (.int ki a) (.int ki b) k = k (.int ki (ki.wrap (BitVec.ofInt ki.bits a &&& BitVec.ofInt ki.bits b).toNat)) := by simp [BI, BINI, IBIN, zsa, zbf, PURE, qk]
@[simp ↓] theorem zbax : BI .or (.int ki a) (.int ki b) k = k (.int ki (ki.wrap (BitVec.ofInt ki.bits a ||| BitVec.ofInt ki.bits b).toNat)) := by simp [BI, BINI, IBIN, zsa, zbf, PURE, qk]
@[simp ↓] theorem zayu : BI .xor (.int ki a) (.int ki b) k = k (.int ki (ki.wrap (BitVec.ofInt ki.bits a ^^^ BitVec.ofInt ki.bits b).toNat)) := by simp [BI, BINI, IBIN, zsa, zbf, PURE, qk]
@[simp ↓] theorem cv (kj : IntKind) : CV kj (.int ki a) k = k (.int kj (kj.wrap a)) := rfl
@[simp ↓] theorem zaws (c : Bool) : UO .not (.bool c) k = k (.bool (!c)) := rfl
@[simp ↓] theorem zawt : UO .neg (.int ki a) k = k (.int ki (ki.wrap (0 - a))) := rfl
@[simp ↓] theorem zayr (s t : List UInt8) : BS .eql (.str s) (.str t) k = k (.bool (decide (s = t))) := by
  have : (s == t) = decide (s = t) := by rw [Bool.eq_iff_iff]; simp
  rw [← this]; rfl
@[simp ↓] theorem zayp (s t : List UInt8) : BS .neq (.str s) (.str t) k = k (.bool (!decide (s = t))) := by
  have : (s == t) = decide (s = t) := by rw [Bool.eq_iff_iff]; simp
  rw [← this]; rfl
@[simp ↓] theorem zayq (s t : List UInt8) : BS .lss (.str s) (.str t) k = k (.bool (Op.bytesLess s t)) := rfl
@[simp ↓] theorem zays (s t : List UInt8) : BS .add (.str s) (.str t) k = (s.length + t.length ≤ 9223372036854775807 ∧ k (.str (s ++ t))) := rfl
@[simp ↓] theorem zazj (c d : Bool) : BB .eql (.bool c) (.bool d) k = k (.bool (c == d)) := by simp [BB, BINB, zdb, PURE, qk]
@[simp ↓] theorem zazi (c d : Bool) : BB .neq (.bool c) (.bool d) k = k (.bool (c != d)) := by simp [BB, BINB, zdb, PURE, qk]; rfl
@[simp ↓] theorem zaxw : MM true (.int ki a) (.int ki b) k = k (.int ki (min a b)) := by
  have : (if b < a then b else a) = min a b := by split <;> omega
  simp [MM, zip, PURE, qk, this]
@[simp ↓] theorem zarg : MM false (.int ki a) (.int ki b) k = k (.int ki (max a b)) := by
  have : (if b > a then b else a) = max a b := by split <;> omega
  simp only [MM, zip, PURE, qk, cond_false, this, true_and]
@[simp ↓] theorem zawp (s : List UInt8) (ks : List UInt8 → Prop) : CSB (.str s) ks = ks s := rfl
@[simp ↓] theorem zazl (zs xs ys : List AV) : BA zs .eql (.agg xs) (.agg ys) k = ((zl zs xs).isSome = true ∧ OPTK (zl xs ys) fun t => k (.bool t)) := by
  simp only [BA, BINA, zdb, PURE, qk, OPTK]
  cases zl xs ys <;> simp
@[simp ↓] theorem zazk (zs xs ys : List AV) : BA zs .neq (.agg xs) (.agg ys) k = ((zl zs xs).isSome = true ∧ OPTK (zl xs ys) fun t => k (.bool (!t))) := by
  simp only [BA, BINA, zdb, PURE, qk, OPTK]
  cases zl xs ys <;> simp
@[simp] theorem zasa : zl [] [] = some true := rfl
@[simp] theorem zasb {ki : IntKind} {a b : Int} {r s : List AV} : zl (.int ki a :: r) (.int ki b :: s) = (zl r s).map (fun t => a == b && t) := by simp [zl]
@[simp] theorem zarz {a b : List UInt8} {r s : List AV} : zl (.str a :: r) (.str b :: s) = (zl r s).map (fun t => a == b && t) := rfl
@[simp] theorem zarl {a b : Bool} {r s : List AV} : zl (.bool a :: r) (.bool b :: s) = (zl r s).map (fun t => a == b && t) := rfl
@[simp ↓] theorem zasz (xs : List (List AV)) : BL .eql (.ro xs) .nils k = ((xs = [] → k .bany) ∧ (xs ≠ [] → k (.bool false))) := by simp [BL, BINL, zdb, PURE, qk]
@[simp ↓] theorem zaro (g o n : Nat) : BL .eql (.slc g o n) .nils k = ((n = 0 → k .bany) ∧ (n ≠ 0 → k (.bool false))) := by simp [BL, BINL, zdb, PURE, qk]
@[simp ↓] theorem zbaw : BL .eql .zs .nils k = k .bany := by simp [BL, BINL, zdb, PURE, qk]
@[simp ↓] theorem zarp : BL .eql .nils .nils k = k (.bool true) := by simp [BL, BINL, zdb, PURE, qk]
@[simp ↓] theorem lns (s : List UInt8) : LNS (.str s) k = k (.int .i64 (s.length : Int)) := rfl
@[simp ↓] theorem zayc (xs : List (List AV)) : LNL (.ro xs) k = k (.int .i64 (xs.length : Int)) := rfl
@[simp ↓] theorem zawk (g off len : Nat) : LNL (.slc g off len) k = k (.int .i64 (len : Int)) := rfl
@[simp ↓] theorem zavd : LNL .nils k = k (.int .i64 0) := rfl
@[simp ↓] theorem zayb : LNL .zs k = k (.int .i64 0) := rfl
@[simp ↓] theorem zaye (s : List UInt8) (n : Int) : IX (.str s) (.int ki n) k = (0 ≤ n ∧ n < s.length ∧ k (.int .u8 ((s.getD n.toNat 0).toNat : Int))) := rfl
@[simp ↓] theorem zaot (esz : Nat) (xs : List (List AV)) (n : Int) : IA esz (.ro xs) (.int ki n) k = (0 ≤ n ∧ n < xs.length ∧ (xs.getD n.toNat []).length = esz ∧ k (.rop (xs.getD n.toNat []) 0)) := rfl
@[simp ↓] theorem zarj (esz g off len : Nat) (n : Int) : IA esz (.slc g off len) (.int ki n) k = (0 ≤ n ∧ n < len ∧ k (.ptr g (off + n.toNat * esz))) := rfl
@[simp ↓] theorem zayi (o : Nat) (cs : List AV) (q : Nat) : FA o (.rop cs q) k = k (.rop cs (q + o)) := rfl
@[simp ↓] theorem zayj (o g q : Nat) : FA o (.ptr g q) k = k (.ptr g (q + o)) := rfl
@[simp ↓] theorem zaxr (cs : List AV) (q : Nat) : NC (.rop cs q) k = k (.rop cs q) := rfl
@[simp ↓] theorem zaxs (g q : Nat) : NC (.ptr g q) k = k (.ptr g q) := rfl
@[simp] theorem zatx : (AV.int ki a).cells = [AV.int ki a] := rfl
@[simp] theorem zatu (s : List UInt8) : (AV.str s).cells = [AV.str s] := rfl
@[simp] theorem zasu (c : Bool) : (AV.bool c).cells = [AV.bool c] := rfl
@[simp] theorem zalv (xs : List AV) : (AV.agg xs).cells = xs := rfl
@[simp] theorem zatv (g o n : Nat) : (AV.slc g o n).cells = [AV.slc g o n] := rfl
@[simp] theorem zavm (xs : List (List AV)) : (AV.ro xs).cells = [AV.ro xs] := rfl
@[simp] theorem zauc : (AV.int ki a).sure = true := rfl
@[simp] theorem zatz (s : List UInt8) : (AV.str s).sure = true := rfl
@[simp] theorem zasv : AV.bany.cells = [AV.bany] := rfl
@[simp] theorem zatc (c : Bool) : (AV.bool c).sure = true := rfl
@[simp] theorem zamq (xs : List AV) : (AV.agg xs).sure = true := rfl
@[simp] theorem zaua (g o n : Nat) : (AV.slc g o n).sure = true := rfl
@[simp] theorem zavq (xs : List (List AV)) : (AV.ro xs).sure = true := rfl
@[simp] theorem zawi : (AV.int ki a).one = true := rfl
@[simp] theorem zawf (s : List UInt8) : (AV.str s).one = true := rfl
@[simp] theorem zava (c : Bool) : (AV.bool c).one = true := rfl
@[simp] theorem zawg (g o n : Nat) : (AV.slc g o n).one = true := rfl
@[simp] theorem zaxc (xs : List (List AV)) : (AV.ro xs).one = true := rfl
@[simp ↓] theorem zayk (vs : List AV) (i : Nat) : EX (.tup vs) i k = OPTK vs[i]? k := by
  simp only [EX, EXTR, PURE, qk, OPTK]
  cases vs[i]? <;> simp
theorem i64w {n : Int} (h : -9223372036854775808 ≤ n ∧ n ≤ 9223372036854775807) : IntKind.i64.wrap n = n := IntWalk.i64_in n h
theorem zsc {H : Heap} {nx : Nat} {c : Bool} : Frz H nx (.bool c) (.bool c) := .same _ (.bool _)
end Go.Proofs.YtejohcohkgcmhaaDoor
namespace Go.Proofs.YtejohcohkgcmhaaDoor
open Go Go.RowKit
section
variable {k : AV → Prop} {ki : IntKind} {A : Prop}
@[simp ↓] theorem zayd (sz : Nat) (cs : List AV) (q : Nat) (H : Heap) : LD false sz (.rop cs q) H k = OPTK cs[q]? k := by
  simp only [LD, LOAD, rdp, ldv, cond_false, qk, OPTK]
  cases cs[q]? <;> simp
@[simp ↓] theorem zajj (sz : Nat) (cs : List AV) (q : Nat) (H : Heap) : LD true sz (.rop cs q) H k = (q + sz ≤ cs.length ∧ k (.agg ((cs.drop q).take sz))) := by
  simp only [LD, LOAD, rdp, ldv, cond_true, qk]
  by_cases h : q + sz ≤ cs.length <;> simp [h]
theorem zfj {o : Option AObj} {kr : Nat → List AV → Prop} (h : ∀ s cs, o = some (.row s cs) → (A ↔ kr s cs)) (hn : (∀ s cs, o ≠ some (.row s cs)) → ¬ A) : A = ROWK o kr := by
  apply propext; constructor
  · intro ha
    by_cases he : ∃ s cs, o = some (.row s cs)
    · obtain ⟨s, cs, he⟩ := he; exact ⟨s, cs, he, (h s cs he).1 ha⟩
    · exact absurd ha (hn fun s cs e => he ⟨s, cs, e⟩)
  · rintro ⟨s, cs, he, hk⟩; exact (h s cs he).2 hk
@[simp ↓] theorem ld_p {sz g q : Nat} {H : Heap} : LD false sz (.ptr g q) H k = ROWK (H g) fun _ cs => OPTK cs[q]? k := by
  refine zfj (fun s cs h => ?_) fun h => ?_
  · simp only [LD, LOAD, rdp, qk, h, ldv, cond_false, OPTK]; cases hq : cs[q]? <;> simp [hq]
  · simp only [LD, LOAD, rdp, qk]
    exact id
@[simp ↓] theorem zane {sz g q : Nat} {H : Heap} : LD true sz (.ptr g q) H k = ROWK (H g) fun _ cs => q + sz ≤ cs.length ∧ k (.agg ((cs.drop q).take sz)) := by
  refine zfj (fun s cs h => ?_) fun h => ?_
  · simp only [LD, LOAD, rdp, qk, h, ldv, cond_true]; by_cases hq : q + sz ≤ cs.length <;> simp [hq]
  · simp only [LD, LOAD, rdp, qk]
    exact id
@[simp ↓] theorem zawl {kr : AV → List Nat → Prop} (sz : Nat) (cs : List AV) (q : Nat) (H : Heap) : LDR false sz (.rop cs q) H kr = OPTK cs[q]? fun v => kr v [] := by
  simp only [LDR, LOAD, rdp, ldv, cond_false, OPTK]
  cases cs[q]? <;> simp
@[simp ↓] theorem zary {kr : AV → List Nat → Prop} (sz : Nat) (cs : List AV) (q : Nat) (H : Heap) : LDR true sz (.rop cs q) H kr = (q + sz ≤ cs.length ∧ kr (.agg ((cs.drop q).take sz)) []) := by
  simp only [LDR, LOAD, rdp, ldv, cond_true]
  by_cases h : q + sz ≤ cs.length <;> simp [h]
@[simp ↓] theorem zbal {kr : AV → List Nat → Prop} {sz g q : Nat} {H : Heap} : LDR false sz (.ptr g q) H kr = ROWK (H g) fun _ cs => OPTK cs[q]? fun v => kr v [g] := by
  refine zfj (fun s cs h => ?_) fun h => ?_
  · simp only [LDR, LOAD, rdp, h, ldv, cond_false, OPTK]; cases hq : cs[q]? <;> simp [hq]
  · simp only [LDR, LOAD, rdp]
    exact id
@[simp ↓] theorem zatm {kr : AV → List Nat → Prop} {sz g q : Nat} {H : Heap} : LDR true sz (.ptr g q) H kr = ROWK (H g) fun _ cs => q + sz ≤ cs.length ∧ kr (.agg ((cs.drop q).take sz)) [g] := by
  refine zfj (fun s cs h => ?_) fun h => ?_
  · simp only [LDR, LOAD, rdp, h, ldv, cond_true]; by_cases hq : q + sz ≤ cs.length <;> simp [hq]
  · simp only [LDR, LOAD, rdp]
    exact id
@[simp ↓] theorem st_p {sz g q : Nat} {H : Heap} {v : AV} {kh : Heap → Prop} :
    ST sz (.ptr g q) v H kh = ROWK (H g) fun es cs => v.cells.length = sz ∧ q + sz ≤ cs.length ∧ v.cells.all AV.one = true ∧ v.sure = true ∧ kh (H.put g (some (.row es (zav cs q v.cells)))) := by
  refine zfj (fun s cs h => ?_) fun h => ?_
  · simp only [ST, zad, h, Heap.apply]
  · simp only [ST, zad]
    exact id
@[simp ↓] theorem zavr {sz g q : Nat} {H : Heap} {v : AV} {kt : Kt} :
    zad sz (.ptr g q) v H kt = ROWK (H g) fun es cs => v.cells.length = sz ∧ q + sz ≤ cs.length ∧ v.cells.all AV.one = true ∧ v.sure = true ∧ kt .und [g] [] [(g, some (.row es (zav cs q v.cells)))] := by
  refine zfj (fun s cs h => ?_) fun h => ?_
  · simp only [zad, h]
  · simp only [zad]
    exact id
@[simp ↓] theorem zbay {pl : Nat → Option (Nat × Nat)} {z : List AV} {ps : List (Nat × AV)} : BD pl z ps k = OPTK (zcj pl z ps) fun cells => k (.agg cells) := by
  simp only [BD, zjv, PURE, qk, OPTK]
  cases zcj pl z ps <;> simp
@[simp ↓] theorem zayo {len esz : Nat} {z : List AV} {ps : List (Nat × AV)} {kc : List AV → Prop} : BSL len esz z ps kc = OPTK (zcj (fun i => some (i * esz, esz)) ((List.replicate len z).flatten) ps) kc := by
  simp only [BSL, OPTK]
  cases zcj (fun i => some (i * esz, esz)) ((List.replicate len z).flatten) ps <;> simp
@[simp] theorem zatr {pl : Nat → Option (Nat × Nat)} {z : List AV} : zcj pl z [] = some z := rfl
@[simp ↓] theorem zasr {pl : Nat → Option (Nat × Nat)} {z : List AV} {i : Nat} {v : AV} {r : List (Nat × AV)} {kc : List AV → Prop} : OPTK (zcj pl z ((i, v) :: r)) kc =
    OPTK (pl i) fun p => v.cells.length = p.2 ∧ p.1 + p.2 ≤ z.length ∧ v.sure = true ∧ OPTK (zcj pl (zav z p.1 v.cells) r) kc := by
  have e : zcj pl z ((i, v) :: r) = match pl i with
    | none => none
    | some (off, size) => if v.cells.length = size ∧ off + size ≤ z.length ∧ v.sure = true then zcj pl (zav z off v.cells) r else none := rfl
  rw [e]
  cases pl i with
  | none => simp
  | some p =>
    obtain ⟨off, size⟩ := p
    simp only [optk]
    by_cases h : v.cells.length = size ∧ off + size ≤ z.length ∧ v.sure = true
    · rw [if_pos h]; simp [h]
    · rw [if_neg h]
      rw [zaku]
      apply propext
      constructor
      · intro h; exact h.elim
      · rintro ⟨h1, h2, h3, _⟩; exact h ⟨h1, h2, h3⟩
@[simp] theorem zase {T : Nat → Option AT} {fs : List (Nat × Nat)} {i : Nat} : zu T fs i = match fs[i]? with | some (t, off) => some (off, zf T t) | none => none := rfl
@[simp ↓] theorem zaxx {b : Nat} {k1 k2 : IntKind} {n m : Int} {kn : Nat → Prop} : MK b (.int k1 n) (.int k2 m) kn = (m = n ∧ 0 ≤ n ∧ n ≤ 140737488355328 ∧ n.toNat * b ≤ 140737488355328 ∧ kn n.toNat) := rfl
@[simp ↓] theorem zayg {s o : Nat} {xs : List AV} : FI false s o (.agg xs) k = OPTK xs[o]? k := by
  simp only [FI, zgz, zaba, ldv, cond_false, PURE, qk, OPTK]
  cases xs[o]? <;> simp
@[simp ↓] theorem zayh {s o : Nat} {xs : List AV} : FI true s o (.agg xs) k = (o + s ≤ xs.length ∧ k (.agg ((xs.drop o).take s))) := by
  simp only [FI, zgz, zaba, ldv, cond_true, PURE, qk]
  by_cases h : o + s ≤ xs.length <;> simp [h]
@[simp ↓] theorem zazq {s l : Nat} {xs : List AV} {n : Int} : AI false s l (.agg xs) (.int ki n) k = (0 ≤ n ∧ n < l ∧ OPTK xs[n.toNat * s]? k) := by
  simp only [AI, znz, zgz, zaba, ldv, cond_false, PURE, qk, OPTK]
  cases xs[n.toNat * s]? <;> simp
@[simp ↓] theorem zazs {s l g o : Nat} {n : Int} : AA s l (.ptr g o) (.int ki n) k = (0 ≤ n ∧ n < l ∧ k (.ptr g (o + n.toNat * s))) := rfl
@[simp ↓] theorem zazr {s l o : Nat} {cs : List AV} {n : Int} : AA s l (.rop cs o) (.int ki n) k = (0 ≤ n ∧ n < l ∧ k (.rop cs (o + n.toNat * s))) := rfl
@[simp ↓] theorem zavc : LNL (.ro []) k = k (.int .i64 0) := rfl
@[simp ↓] theorem zaxt {f : FuncId} {c : List AV} : NC (.clo f c) k = k (.clo f c) := rfl
@[simp] theorem zbb {H : Heap} : H.apply [] = H := rfl
@[simp] theorem zar {H : Heap} {g : Nat} {o : Option AObj} {r : ze} : H.apply ((g, o) :: r) = (H.put g o).apply r := rfl
@[simp ↓] theorem zaln {l : List Nat} {A : Prop} : zb [] l A = A := rfl
@[simp ↓] theorem zajw {g : Nat} {r l : List Nat} {A : Prop} : zb (g :: r) l A = (g ∉ l ∧ zb r l A) := rfl
@[simp ↓] theorem zaug {g q : Nat} {v : AV} {D : ze} {rd : List Nat} {A : Prop} : SOFT (.ptr g q) v D rd A = zim g q v D A := rfl
@[simp ↓] theorem zauf {cs : List AV} {q : Nat} {v : AV} {D : ze} {rd : List Nat} {A : Prop} : SOFT (.rop cs q) v D rd A = zb (domD D) rd A := rfl
@[simp ↓] theorem zaty {g q : Nat} {v : AV} {A : Prop} : zim g q v [] A = A := rfl
@[simp ↓] theorem zasx {g q x : Nat} {o : Option AObj} {v : AV} {r : ze} {A : Prop} : zim g q v ((x, o) :: r) A = ((x = g → zdw o q v) ∧ zim g q v r A) := rfl
@[simp] theorem zasy {s q : Nat} {cs : List AV} {v : AV} : zdw (some (.row s cs)) q v = (cs[q]? = some v) := by
  apply propext
  exact ⟨fun ⟨_, _, h, h2⟩ => by cases h; exact h2, fun h => ⟨s, cs, rfl, h⟩⟩
@[simp] theorem zavk : domD [] = [] := rfl
@[simp] theorem zatt {g : Nat} {o : Option AObj} {r : ze} : domD ((g, o) :: r) = g :: domD r := rfl
@[simp ↓] theorem zawm {A : Prop} : gd true A = A := rfl
@[simp] theorem zatw (g o : Nat) : (AV.ptr g o).cells = [AV.ptr g o] := rfl
@[simp] theorem zast : AV.nils.cells = [AV.nils] := rfl
@[simp] theorem zasw (g : Nat) : (AV.amap g).cells = [AV.amap g] := rfl
@[simp] theorem zaub (g o : Nat) : (AV.ptr g o).sure = true := rfl
@[simp] theorem zatb : AV.nils.sure = true := rfl
@[simp] theorem zatd (g : Nat) : (AV.amap g).sure = true := rfl
@[simp] theorem zawh (g o : Nat) : (AV.ptr g o).one = true := rfl
@[simp] theorem zauz : AV.nils.one = true := rfl
@[simp] theorem zavb (g : Nat) : (AV.amap g).one = true := rfl
@[simp] theorem zaud (f : FuncId) (c : List AV) : (AV.clo f c).sure = true := rfl
@[simp] theorem zawj (f : FuncId) (c : List AV) : (AV.clo f c).one = true := rfl
@[simp] theorem zakh (cs : List AV) (o : Nat) (vs : List AV) : zav cs o vs = cs.take o ++ vs ++ cs.drop (o + vs.length) := rfl
@[simp] theorem zaxq (x0 x1 x2 x3 x4 x5 x6 x7 x8 x9 x10 : AV) (xs : List AV) : nth (x0 :: x1 :: x2 :: x3 :: x4 :: x5 :: x6 :: x7 :: x8 :: x9 :: x10 :: xs) 10 = x10 := rfl
@[simp] theorem zaxp (x0 x1 x2 x3 x4 x5 x6 x7 x8 x9 x10 x11 : AV) (xs : List AV) : nth (x0 :: x1 :: x2 :: x3 :: x4 :: x5 :: x6 :: x7 :: x8 :: x9 :: x10 :: x11 :: xs) 11 = x11 := rfl
@[simp] theorem zaxo (x0 x1 x2 x3 x4 x5 x6 x7 x8 x9 x10 x11 x12 : AV) (xs : List AV) : nth (x0 :: x1 :: x2 :: x3 :: x4 :: x5 :: x6 :: x7 :: x8 :: x9 :: x10 :: x11 :: x12 :: xs) 12 = x12 := rfl
@[simp] theorem zaxn (x0 x1 x2 x3 x4 x5 x6 x7 x8 x9 x10 x11 x12 x13 : AV) (xs : List AV) : nth (x0 :: x1 :: x2 :: x3 :: x4 :: x5 :: x6 :: x7 :: x8 :: x9 :: x10 :: x11 :: x12 :: x13 :: xs) 13 = x13 := rfl
@[simp] theorem zaxm (x0 x1 x2 x3 x4 x5 x6 x7 x8 x9 x10 x11 x12 x13 x14 : AV) (xs : List AV) : nth (x0 :: x1 :: x2 :: x3 :: x4 :: x5 :: x6 :: x7 :: x8 :: x9 :: x10 :: x11 :: x12 :: x13 :: x14 :: xs) 14 = x14 := rfl
@[simp] theorem zaxl (x0 x1 x2 x3 x4 x5 x6 x7 x8 x9 x10 x11 x12 x13 x14 x15 : AV) (xs : List AV) : nth (x0 :: x1 :: x2 :: x3 :: x4 :: x5 :: x6 :: x7 :: x8 :: x9 :: x10 :: x11 :: x12 :: x13 :: x14 :: x15 :: xs) 15 = x15 := rfl
@[simp] theorem zaxk (x0 x1 x2 x3 x4 x5 x6 x7 x8 x9 x10 x11 x12 x13 x14 x15 x16 : AV) (xs : List AV) : nth (x0 :: x1 :: x2 :: x3 :: x4 :: x5 :: x6 :: x7 :: x8 :: x9 :: x10 :: x11 :: x12 :: x13 :: x14 :: x15 :: x16 :: xs) 16 = x16 := rfl
@[simp] theorem zaxj (x0 x1 x2 x3 x4 x5 x6 x7 x8 x9 x10 x11 x12 x13 x14 x15 x16 x17 : AV) (xs : List AV) : nth (x0 :: x1 :: x2 :: x3 :: x4 :: x5 :: x6 :: x7 :: x8 :: x9 :: x10 :: x11 :: x12 :: x13 :: x14 :: x15 :: x16 :: x17 :: xs) 17 = x17 := rfl
@[simp] theorem zaxi (x0 x1 x2 x3 x4 x5 x6 x7 x8 x9 x10 x11 x12 x13 x14 x15 x16 x17 x18 : AV) (xs : List AV) : nth (x0 :: x1 :: x2 :: x3 :: x4 :: x5 :: x6 :: x7 :: x8 :: x9 :: x10 :: x11 :: x12 :: x13 :: x14 :: x15 :: x16 :: x17 :: x18 :: xs) 18 = x18 := rfl
@[simp] theorem zaxh (x0 x1 x2 x3 x4 x5 x6 x7 x8 x9 x10 x11 x12 x13 x14 x15 x16 x17 x18 x19 : AV) (xs : List AV) : nth (x0 :: x1 :: x2 :: x3 :: x4 :: x5 :: x6 :: x7 :: x8 :: x9 :: x10 :: x11 :: x12 :: x13 :: x14 :: x15 :: x16 :: x17 :: x18 :: x19 :: xs) 19 = x19 := rfl
@[simp] theorem zaxg (x0 x1 x2 x3 x4 x5 x6 x7 x8 x9 x10 x11 x12 x13 x14 x15 x16 x17 x18 x19 x20 : AV) (xs : List AV) : nth (x0 :: x1 :: x2 :: x3 :: x4 :: x5 :: x6 :: x7 :: x8 :: x9 :: x10 :: x11 :: x12 :: x13 :: x14 :: x15 :: x16 :: x17 :: x18 :: x19 :: x20 :: xs) 20 = x20 := rfl
@[simp] theorem zaxf (x0 x1 x2 x3 x4 x5 x6 x7 x8 x9 x10 x11 x12 x13 x14 x15 x16 x17 x18 x19 x20 x21 : AV) (xs : List AV) : nth (x0 :: x1 :: x2 :: x3 :: x4 :: x5 :: x6 :: x7 :: x8 :: x9 :: x10 :: x11 :: x12 :: x13 :: x14 :: x15 :: x16 :: x17 :: x18 :: x19 :: x20 :: x21 :: xs) 21 = x21 := rfl
@[simp] theorem zaxe (x0 x1 x2 x3 x4 x5 x6 x7 x8 x9 x10 x11 x12 x13 x14 x15 x16 x17 x18 x19 x20 x21 x22 : AV) (xs : List AV) : nth (x0 :: x1 :: x2 :: x3 :: x4 :: x5 :: x6 :: x7 :: x8 :: x9 :: x10 :: x11 :: x12 :: x13 :: x14 :: x15 :: x16 :: x17 :: x18 :: x19 :: x20 :: x21 :: x22 :: xs) 22 = x22 := rfl
@[simp] theorem zaxd (x0 x1 x2 x3 x4 x5 x6 x7 x8 x9 x10 x11 x12 x13 x14 x15 x16 x17 x18 x19 x20 x21 x22 x23 : AV) (xs : List AV) : nth (x0 :: x1 :: x2 :: x3 :: x4 :: x5 :: x6 :: x7 :: x8 :: x9 :: x10 :: x11 :: x12 :: x13 :: x14 :: x15 :: x16 :: x17 :: x18 :: x19 :: x20 :: x21 :: x22 :: x23 :: xs) 23 = x23 := rfl
attribute [simp] Heap.put_eq
@[simp] theorem Heap.put_put (H : Heap) (g : Nat) (a b : Option AObj) : (H.put g a).put g b = H.put g b := by
  funext x; simp only [Heap.put_eq]; split <;> rfl
@[simp ↓] theorem zhq {esz bytes g off len nx : Nat} {x : AV} {H : Heap} {kk : AV → Heap → Nat → Prop} : APP esz bytes (.slc g off len) x H nx kk = OPTK (zm esz H x) fun p => ROWK (H g) fun s cells => s = esz ∧ p.2.1.all AV.one = true ∧
    off + len * esz ≤ cells.length ∧ (len + p.1) * bytes ≤ 140737488355328 ∧ kk (.slc nx 0 (len + p.1)) ((H.put g none).put nx (some (.row esz ((cells.drop off).take (len * esz) ++ p.2.1)))) (nx + 1) := by
  simp only [APP, zaj, OPTK, ROWK]
  cases hs : zm esz H x with
  | none => simp
  | some p =>
    obtain ⟨m, news, rd⟩ := p
    cases hg : H g with
    | none => simp
    | some o =>
      cases o with
      | mp es => simp
      | row sz cells =>
        simp [Heap.apply]
        constructor
        · rintro ⟨h1, rfl, h2, h3, h4⟩; exact ⟨_, _, ⟨rfl, rfl⟩, rfl, h1, h2, h3, h4⟩
        · rintro ⟨_, _, ⟨rfl, rfl⟩, rfl, h1, h2, h3, h4⟩; exact ⟨h1, rfl, h2, h3, h4⟩
@[simp ↓] theorem zaon {esz bytes nx : Nat} {x : AV} {H : Heap} {kk : AV → Heap → Nat → Prop} : APP esz bytes .nils x H nx kk = OPTK (zm esz H x) fun p => p.2.1.all AV.one = true ∧
    (p.1 = 0 → kk .nils H nx) ∧ (p.1 ≠ 0 → p.1 * bytes ≤ 140737488355328 ∧ kk (.slc nx 0 p.1) (H.put nx (some (.row esz p.2.1))) (nx + 1)) := by
  simp only [APP, zaj, OPTK]
  cases hs : zm esz H x with
  | none => simp
  | some p => obtain ⟨m, news, rd⟩ := p; simp [Heap.apply]
@[simp ↓] theorem zsn {esz bytes g off len nx : Nat} {x : AV} {H : Heap} {kt : Kt} : zaj esz bytes (.slc g off len) x H nx kt = OPTK (zm esz H x) fun p => ROWK (H g) fun s cells => s = esz ∧ p.2.1.all AV.one = true ∧
    off + len * esz ≤ cells.length ∧ (len + p.1) * bytes ≤ 140737488355328 ∧ kt (.slc nx 0 (len + p.1)) (g :: p.2.2) [nx] [(g, none), (nx, some (.row esz ((cells.drop off).take (len * esz) ++ p.2.1)))] := by
  simp only [zaj, OPTK, ROWK]
  cases hs : zm esz H x with
  | none => simp
  | some p =>
    obtain ⟨m, news, rd⟩ := p
    cases hg : H g with
    | none => simp
    | some o =>
      cases o with
      | mp es => simp
      | row sz cells =>
        simp
        constructor
        · rintro ⟨h1, rfl, h2, h3, h4⟩; exact ⟨_, _, ⟨rfl, rfl⟩, rfl, h1, h2, h3, h4⟩
        · rintro ⟨_, _, ⟨rfl, rfl⟩, rfl, h1, h2, h3, h4⟩; exact ⟨h1, rfl, h2, h3, h4⟩
@[simp ↓] theorem zqc {esz bytes nx : Nat} {x : AV} {H : Heap} {kt : Kt} : zaj esz bytes .nils x H nx kt = OPTK (zm esz H x) fun p => p.2.1.all AV.one = true ∧
    (p.1 = 0 → kt .nils p.2.2 [] []) ∧ (p.1 ≠ 0 → p.1 * bytes ≤ 140737488355328 ∧ kt (.slc nx 0 p.1) p.2.2 [nx] [(nx, some (.row esz p.2.1))]) := by
  simp only [zaj, OPTK]
  cases hs : zm esz H x with
  | none => simp
  | some p => obtain ⟨m, news, rd⟩ := p; simp
@[simp ↓] theorem zavu {esz g off len : Nat} {H : Heap} {kp : Nat × List AV × List Nat → Prop} : OPTK (zm esz H (.slc g off len)) kp = ROWK (H g) fun _ cells => off + len * esz ≤ cells.length ∧ kp (len, (cells.drop off).take (len * esz), [g]) := by
  simp only [zm, OPTK, ROWK]
  cases hg : H g with
  | none => simp
  | some o =>
    cases o with
    | mp es => simp
    | row sz cells =>
      by_cases h : off + len * esz ≤ cells.length
      · simp [h]
        constructor
        · intro hk; exact ⟨_, _, ⟨rfl, rfl⟩, h, hk⟩
        · rintro ⟨_, _, ⟨rfl, rfl⟩, _, hk⟩; exact hk
      · simp [h]
@[simp] theorem zcn {esz : Nat} {xs : List (List AV)} {H : Heap} (h : ∀ x ∈ xs, x.length = esz) : zm esz H (.ro xs) = some (xs.length, xs.flatten, []) := by
  simp only [zm]
  rw [if_pos (by simpa using h)]
@[simp] theorem zavt {s : List UInt8} {H : Heap} : zm 1 H (.str s) = some (s.length, s.map (fun b => .int .u8 (b.toNat : Int)), []) := rfl
@[simp] theorem zaue {esz : Nat} {H : Heap} : zm esz H .nils = some (0, [], []) := rfl
def Keep (nx : Nat) (H' H : Heap) : Prop := ∀ g, g < nx → H' g = H g
@[simp] theorem Keep.rfl {nx : Nat} {H : Heap} : Keep nx H H = True := by simp [Keep]
theorem Keep.put {nx g : Nat} {o : Option AObj} {H H0 : Heap} (h : nx ≤ g) : Keep nx (H.put g o) H0 = Keep nx H H0 := by
  unfold Keep
  apply propext
  constructor
  · intro hk x hx; have := hk x hx; rwa [Heap.put_ne _ _ (by omega)] at this
  · intro hk x hx; rw [Heap.put_ne _ _ (by omega)]; exact hk x hx
@[simp] theorem Keep.put0 {nx : Nat} {o : Option AObj} {H H0 : Heap} : Keep nx (H.put nx o) H0 = Keep nx H H0 := Keep.put (Nat.le_refl _)
@[simp] theorem Keep.putS {nx i : Nat} {o : Option AObj} {H H0 : Heap} : Keep nx (H.put (nx + i) o) H0 = Keep nx H H0 := Keep.put (by omega)
theorem Keep.trans {n m : Nat} {H1 H2 H3 : Heap} (h : Keep m H1 H2) (hn : n ≤ m) (k : Keep n H2 H3) : Keep n H1 H3 := fun g hg => (h g (by omega)).trans (k g hg)
theorem QC.of' {P : Program} {f : FuncId} {args : List AV} {r : AV} (h : ∀ H nx, za P f args H nx fun v H' _ => Frz H' nx v r ∧ Keep nx H' H) : QC P f args r := QC.of h
@[simp] theorem zbao {H : Heap} {nx : Nat} {a : Int} {r : AV} : Frz H nx (.int ki a) r = (r = .int ki a) := by
  apply propext; constructor
  · intro h; cases h; rfl
  · rintro rfl; exact .same _ (.int _ _)
@[simp] theorem zbap {H : Heap} {nx : Nat} {a : Bool} {r : AV} : Frz H nx (.bool a) r = (r = .bool a) := by
  apply propext; constructor
  · intro h; cases h; rfl
  · rintro rfl; exact .same _ (.bool _)
@[simp] theorem zban {H : Heap} {nx : Nat} {a : List UInt8} {r : AV} : Frz H nx (.str a) r = (r = .str a) := by
  apply propext; constructor
  · intro h; cases h; rfl
  · rintro rfl; exact .same _ (.str _)
theorem QC.call {P : Program} {f : FuncId} {args : List AV} {r : AV} (h : QC P f args r) {H : Heap} {nx : Nat} {kk : AV → Heap → Nat → Prop} (hk : kk r H nx) : za P f args H nx kk :=
  (h H nx).mono fun v H' nx' ⟨h1, h2, h3⟩ => by subst h1; subst h2; subst h3; exact hk
end
end Go.Proofs.YtejohcohkgcmhaaDoor
namespace Go.Proofs.YtejohcohkgcmhaaDoor
open Go Go.RowKit
section
variable {k : AV → Prop} {ki : IntKind}
@[simp ↓] theorem mu_p {g : Nat} {key v : AV} {H : Heap} {kh : Heap → Prop} : MU (.amap g) key v H kh = MAPK (H g) fun es => OPTK (zax key es) fun r => kh (H.put g (some (.mp (match r with | some (i, _) => es.set i (key, v) | none => es ++ [(key, v)])))) := by
  simp only [MU, MUPD, OPTK, MAPK]
  cases hg : H g with
  | none => simp
  | some o =>
    cases o with
    | row s cs => simp
    | mp es =>
      simp only [Option.some.injEq, AObj.mp.injEq, exists_eq_left']
      cases zax key es with
      | none => simp
      | some r => cases r <;> simp [Heap.apply]
@[simp ↓] theorem lk_p {z : List AV} {agg ok : Bool} {g : Nat} {key : AV} {H : Heap} : LK z agg (.amap g) key ok H k = MAPK (H g) fun es => OPTK (zax key es) fun r => k (match r with | some (_, v) => (bif ok then .tup [v, .bool true] else v) | none => (bif ok then .tup [(bif agg then .agg z else z.getD 0 .junk), .bool false] else (bif agg then .agg z else z.getD 0 .junk))) := by
  simp only [LK, LOOK, qk, OPTK, MAPK]
  cases hg : H g with
  | none => simp
  | some o =>
    cases o with
    | row s cs => simp
    | mp es =>
      simp only [Option.some.injEq, AObj.mp.injEq, exists_eq_left']
      cases zax key es with
      | none => simp
      | some r => cases r <;> simp [Heap.apply]
@[simp ↓] theorem zaxz {z : List AV} {agg ok : Bool} {g : Nat} {key : AV} {H : Heap} {kt : Kt} : LOOK z agg (.amap g) key ok H kt = MAPK (H g) fun es => OPTK (zax key es) fun r => kt (match r with | some (_, v) => (bif ok then .tup [v, .bool true] else v) | none => (bif ok then .tup [(bif agg then .agg z else z.getD 0 .junk), .bool false] else (bif agg then .agg z else z.getD 0 .junk))) [g] [] [] := by
  simp only [LOOK, OPTK, MAPK]
  cases hg : H g with
  | none => simp
  | some o =>
    cases o with
    | row s cs => simp
    | mp es =>
      simp only [Option.some.injEq, AObj.mp.injEq, exists_eq_left']
      cases zax key es with
      | none => simp
      | some r => cases r <;> simp [Heap.apply]
@[simp ↓] theorem zaxu {g : Nat} {key v : AV} {H : Heap} {kt : Kt} : MUPD (.amap g) key v H kt = MAPK (H g) fun es => OPTK (zax key es) fun r => kt .und [g] [] [(g, some (.mp (match r with | some (i, _) => es.set i (key, v) | none => es ++ [(key, v)])))] := by
  simp only [MUPD, OPTK, MAPK]
  cases hg : H g with
  | none => simp
  | some o =>
    cases o with
    | row s cs => simp
    | mp es =>
      simp only [Option.some.injEq, AObj.mp.injEq, exists_eq_left']
      cases zax key es with
      | none => simp
      | some r => cases r <;> simp [Heap.apply]
theorem zarf {n g p : Nat} {op : Option AObj} {es : List (AV × AV)} {key v : AV} {H H0 : Heap} {kh : Heap → Prop} (hH : H g = some (.mp es)) (hp : H p = op) (hpg : p ≠ g) (hK : Keep n H H0) (hn : n ≤ g) (hf : zax key es = some none)
    (hk : ∀ H', H' g = some (.mp (es ++ [(key, v)])) → H' p = op → Keep n H' H0 → kh H') : MU (.amap g) key v H kh := by
  rw [mu_p, hH, mapk, hf, optk]
  exact hk _ (Heap.put_at _ _ _) (by rw [Heap.put_ne _ _ hpg]; exact hp) ((Keep.put hn).symm ▸ hK)
@[simp ↓ high] theorem zayf {α : Type} {esz : Nat} {l : List α} {f : α → List AV} {n : Int} : IA esz (.ro (l.map f)) (.int ki n) k = (0 ≤ n ∧ n < l.length ∧ OPTK l[n.toNat]? fun x => (f x).length = esz ∧ k (.rop (f x) 0)) := by
  rw [zaot]
  apply propext
  constructor
  · rintro ⟨h0, h1, h2, h3⟩
    have hlt : n.toNat < l.length := by simp at h1; omega
    refine ⟨h0, by simpa using h1, l[n.toNat], by simp [hlt], ?_⟩
    simp [List.getD_eq_getElem?_getD, hlt] at h2 h3
    exact ⟨h2, h3⟩
  · rintro ⟨h0, h1, x, h2, h3, h4⟩
    refine ⟨h0, by simpa using h1, ?_⟩
    simp [List.getD_eq_getElem?_getD, h2]
    exact ⟨h3, h4⟩
theorem zapv {α : Type} {l : List α} {n : Nat} {kk : α → Prop} (h : n < l.length) (hk : ∀ x, l[n]? = some x → kk x) : OPTK l[n]? kk := ⟨l[n], by simp [h], hk _ (by simp [h])⟩
@[simp] theorem zvh {key : AV} : zax key [] = some none := rfl
theorem zse {key v : AV} {q : AV} {r : List (AV × AV)} : zax key ((q, v) :: r) = match zej key q with
    | some true => some (some (0, v))
    | some false => (zax key r).map (fun o => o.map fun p => (p.1 + 1, p.2))
    | none => none := rfl
@[simp] theorem zkl {k1 : IntKind} {x y : Int} {v : AV} {r : List (AV × AV)} : zax (.int k1 x) ((.int k1 y, v) :: r) = if x = y then some (some (0, v)) else (zax (.int k1 x) r).map (fun o => o.map fun p => (p.1 + 1, p.2)) := by
  rw [zse]
  by_cases h : x = y
  · simp [zej, h]
  · have e : (x == y) = false := by simpa using h
    simp [zej, h, e]
@[simp] theorem zatq {x y : List UInt8} {v : AV} {r : List (AV × AV)} : zax (.str x) ((.str y, v) :: r) = if x = y then some (some (0, v)) else (zax (.str x) r).map (fun o => o.map fun p => (p.1 + 1, p.2)) := by
  rw [zse]
  by_cases h : x = y
  · simp [zej, h]
  · have e : (x == y) = false := by simpa using h
    simp [zej, h, e]
@[simp] theorem zato {k1 : IntKind} {a b : Int} : zej (.int k1 a) (.int k1 b) = some (a == b) := by simp [zej]
@[simp] theorem zatn {a b : List UInt8} : zej (.str a) (.str b) = some (a == b) := rfl
@[simp] theorem zajl {k1 k2 : IntKind} {a : Int} : zaf (.int k1) (.int k2 a) = true := rfl
@[simp] theorem zasp {a : List UInt8} : zaf .str (.str a) = true := rfl
theorem Frz.tup2 {H : Heap} {nx : Nat} {a b x y : AV} (h1 : Frz H nx a x) (h2 : Frz H nx b y) : Frz H nx (.tup [a, b]) (.tup [x, y]) := by
  refine .tup _ _ rfl fun j v u hv hu => ?_
  match j, hv, hu with
  | 0, hv, hu => cases hv; cases hu; exact h1
  | 1, hv, hu => cases hv; cases hu; exact h2
@[simp] theorem zavf {H : Heap} {nx : Nat} {a b x y : AV} : Frz H nx (.tup [a, b]) (.tup [x, y]) = (Frz H nx a x ∧ Frz H nx b y) := by
  apply propext; constructor
  · intro h
    cases h with
    | same _ h => cases h with | tup _ h => exact ⟨.same _ (h 0 _ rfl), .same _ (h 1 _ rfl)⟩
    | tup _ _ _ h => exact ⟨h 0 _ _ rfl rfl, h 1 _ _ rfl rfl⟩
  · rintro ⟨h1, h2⟩; exact h1.tup2 h2
theorem Frz.row {H : Heap} {nx g : Nat} {sz len : Nat} {cells : List AV} {xs : List (List AV)} (hg : nx ≤ g) (hH : H g = some (.row sz cells)) (hl : xs.length = len) (hs : ∀ x ∈ xs, x.length = sz) (hc : xs.flatten = cells) (hb : ∀ c ∈ cells, Bel (· < nx) c) :
    Frz H nx (.slc g 0 len) (.ro xs) := by
  have hflat : ∀ (xs : List (List AV)), (∀ x ∈ xs, x.length = sz) → ∀ (i : Nat) (x : List AV) (j : Nat) (v : AV), xs[i]? = some x → x[j]? = some v → xs.flatten[i * sz + j]? = some v := by
    intro xs
    induction xs with
    | nil => intro _ i x j v hx; simp at hx
    | cons y r ih =>
      intro hs i x j v hx hv
      have hy : y.length = sz := hs y (by simp)
      cases i with
      | zero =>
        simp at hx; subst hx
        have hj := (List.getElem?_eq_some_iff.1 hv).1
        rw [List.flatten_cons, List.getElem?_append_left (by omega)]; simpa using hv
      | succ i =>
        have hm : (i + 1) * sz = sz + i * sz := by rw [Nat.succ_mul, Nat.add_comm]
        rw [List.flatten_cons, List.getElem?_append_right (by omega)]
        rw [show (i + 1) * sz + j - y.length = i * sz + j by omega]
        exact ih (fun z hz => hs z (by simp [hz])) i x j v (by simpa using hx) hv
  have hlen : cells.length = len * sz := by
    have : ∀ xs : List (List AV), (∀ x ∈ xs, x.length = sz) → xs.flatten.length = xs.length * sz := by
      intro xs
      induction xs with
      | nil => intro _; simp
      | cons y r ih => intro hs; rw [List.flatten_cons, List.length_append, ih fun z hz => hs z (by simp [hz]), hs y (by simp), List.length_cons, Nat.succ_mul, Nat.add_comm]
    rw [← hc, ← hl]; exact this xs hs
  refine .slc g 0 len sz cells xs hg hH (by omega) hl hs (fun i j => (xs.getD i []).getD j .junk) (fun i x j v hx hv => ?_) (fun i x j v hx hv => ?_)
  · have := hflat xs hs i x j v hx hv
    rw [hc] at this
    simp only [Nat.zero_add, this, List.getD_eq_getElem?_getD, hx, Option.getD_some, hv]
  · have := hflat xs hs i x j v hx hv
    rw [hc] at this
    simp only [List.getD_eq_getElem?_getD, hx, Option.getD_some, hv]
    exact .same _ (hb v (List.mem_of_getElem? this))
@[simp] theorem zavg {H : Heap} {nx : Nat} : Frz H nx .nils (.ro []) = True := by simp [Frz.nils]
end
end Go.Proofs.YtejohcohkgcmhaaDoor
namespace Go.Proofs.YtejohcohkgcmhaaDoor
open Go Go.RowKit
theorem za.pure {P : Program} {f : FuncId} {args : List AV} {r : AV} {H : Heap} {nx : Nat} (h : za P f args H nx fun v H' _ => Frz H' nx v r ∧ Keep nx H' H) : za P f args H nx fun v H' nx' => v = r ∧ H' = H ∧ nx' = nx := by
  refine za.tidy fun hlive => ?_
  refine (za.gc (R := fun v H' => v = r ∧ H' = H) h fun v H' nx' ⟨h1, h2⟩ => ⟨r, H, ⟨rfl, rfl⟩, h1, fun g o ho => ⟨hlive g o ho, by rw [h2 g (hlive g o ho)]; exact ho, .inl ho⟩⟩).mono fun v H' nx' ⟨⟨a, b⟩, c⟩ => ⟨a, b, c⟩
theorem LC.of_qcr {P : Program} {f : FuncId} {args : List AV} {r : AV} {H0 : Heap} {rd : List Nat} (hrd : ∀ g ∈ rd, (H0 g).isSome = true)
    (h : ∀ H nx, (∀ g ∈ rd, H g = H0 g ∧ g < nx) → za P f args H nx fun v H' nx' => v = r ∧ H' = H ∧ nx' = nx) (hr : Bel (fun _ => False) r) : LC P f args H0 rd [] [] r := by
  intro A ρ H w cargs ⟨N, hN⟩ s ha hag _
  have sN : Sim (· < N) ρ H w := ⟨fun g o ho => hN g (s.live g o ho), fun g o ho => (s.obj g o ho).mono rfl (fun _ _ h => h) (fun g hg => ⟨rfl, hN g hg⟩), s.inj, s.lay⟩
  have aN : LRel (Kof ρ H w) ρ (· < N) args cargs.toList := ⟨ha.1, fun j v c hv hc => (ha.2 j v c hv hc).mono (fun _ _ h => h) (fun g hg => ⟨rfl, hN g hg⟩)⟩
  have hr' : ∀ g ∈ rd, H g = H0 g ∧ g < N := fun g hg => ⟨hag g hg, by
    obtain ⟨o, ho⟩ := Option.isSome_iff_exists.1 (hrd g hg)
    exact hN g (s.live g o ((hag g hg).trans ho))⟩
  refine zal (h H N hr' ρ w cargs sN aN) fun cv w' ⟨r', H', nx', ρ', ⟨q0, q1, q2⟩, q3, q4, q5⟩ => ?_
  subst q0; subst q1; subst q2
  have hA : (fun x => A x ∨ x ∈ ([] : List Nat)) = A := by funext x; simp
  refine ⟨ρ', ?_, ?_, ?_⟩
  · rw [hA]
    exact ⟨s.live, fun g o ho => (q3.obj g o ho).restrict (s.obj g o ho).bel, q3.inj, q3.lay⟩
  · rw [hA]
    exact q4.restrict (hr.mono fun _ h => h.elim)
  · rw [hA]
    exact ⟨fun g hg => ⟨(q5.agree g (hN g hg)).1, hg⟩, q5.k, q5.os, q5.tape, q5.output, q5.size⟩
theorem zn.of_qcr {P : Program} {f : FuncId} {args cap : List AV} {r : AV} {H : Heap} {nx : Nat} {k : Kt} (rd : List Nat) (hrd : ∀ g ∈ rd, (H g).isSome = true)
    (h : ∀ H' nx, (∀ g ∈ rd, H' g = H g ∧ g < nx) → za P f (args ++ cap) H' nx fun v H'' nx' => v = r ∧ H'' = H' ∧ nx' = nx) (hr : Bel (fun _ => False) r) (hk : k r rd [] []) : zn P (.clo f cap) args H nx k :=
  ⟨r, rd, [], [], .inl rfl, LC.of_qcr hrd h hr, hk⟩
theorem za.pure_call {P : Program} {f : FuncId} {args : List AV} {r : AV} {H : Heap} {nx : Nat} {kk : AV → Heap → Nat → Prop} (h : za P f args H nx fun v H' _ => Frz H' nx v r ∧ Keep nx H' H) (hk : kk r H nx) : za P f args H nx kk :=
  h.pure.mono fun v H' nx' ⟨h1, h2, h3⟩ => by subst h1; subst h2; subst h3; exact hk
def flat : AV → Bool
  | .int _ _ | .str _ | .bool _ => true
  | .agg xs | .tup xs => xs.attach.all fun ⟨x, _⟩ => flat x
  | _ => false
theorem zann {xs : List AV} : flat (.agg xs) = xs.all flat := by rw [flat]; simp
theorem zanm {xs : List AV} : flat (.tup xs) = xs.all flat := by rw [flat]; simp
@[simp] theorem zavi {k : IntKind} {n : Int} : flat (.int k n) = true := by rw [flat]
@[simp] theorem zavh {s : List UInt8} : flat (.str s) = true := by rw [flat]
@[simp] theorem zatp {b : Bool} : flat (.bool b) = true := by rw [flat]
theorem VRel.flat {K K' : zy} {ρ ρ' : Nat → Loc} {A A' : Nat → Prop} {v : AV} {c : Value} (h : VRel K ρ A v c) : flat v = true → VRel K' ρ' A' v c := by
  induction h with
  | int k n => exact fun _ => .int k n
  | bool b => exact fun _ => .bool b
  | str s => exact fun _ => .str s
  | agg xs cs h1 _ ih =>
    intro hf
    rw [zann] at hf
    exact .agg xs cs h1 fun j v c hv hc => ih j v c hv hc (List.all_eq_true.1 hf v (List.mem_of_getElem? hv))
  | tup xs cs h1 _ ih =>
    intro hf
    rw [zanm] at hf
    exact .tup xs cs h1 fun j v c hv hc => ih j v c hv hc (List.all_eq_true.1 hf v (List.mem_of_getElem? hv))
  | _ => intro hf; simp [Go.Proofs.YtejohcohkgcmhaaDoor.flat] at hf
def LFrz (H : Heap) (xs ys : List AV) : Prop := ys.length = xs.length ∧ ∀ (j : Nat) (v u : AV), xs[j]? = some v → ys[j]? = some u → Frz H 0 v u
theorem LFrz.nil {H : Heap} : LFrz H [] [] := ⟨rfl, fun j v u h => by simp at h⟩
theorem LFrz.cons {H : Heap} {v u : AV} {xs ys : List AV} (h : Frz H 0 v u) (k : LFrz H xs ys) : LFrz H (v :: xs) (u :: ys) := by
  refine ⟨by simp [k.1], fun j a b ha hb => ?_⟩
  cases j with
  | zero => simp at ha hb; subst ha; subst hb; exact h
  | succ j => exact k.2 j a b (by simpa using ha) (by simpa using hb)
theorem LFrz.rel {A : Nat → Prop} {ρ : Nat → Loc} {H : Heap} {w : World} {xs ys : List AV} {cs : List Value} (s : Sim A ρ H w) (h : LFrz H xs ys) (k : LRel (Kof ρ H w) ρ A xs cs) (A' : Nat → Prop) : LRel (Kof ρ (fun _ => none) w) ρ A' ys cs := by
  refine ⟨k.1.trans h.1.symm, fun j u c hu hc => ?_⟩
  have hj : j < xs.length := by have := (List.getElem?_eq_some_iff.1 hu).1; rw [h.1] at this; exact this
  have hv : xs[j]? = some xs[j] := List.getElem?_eq_getElem hj
  exact ((h.2 j _ u hv hu).rel s (fun g o ho => by cases ho) c (k.2 j _ c hv hc)).mono (fun _ _ h => h) (fun g hg => absurd hg (Nat.not_lt_zero _))
theorem QC.reads {P : Program} {f : FuncId} {args args' : List AV} {r : AV} (h : QC P f args r) (hr : flat r = true) {H : Heap} {nx : Nat} (hf : LFrz H args' args) : za P f args' H nx fun v H' nx' => v = r ∧ H' = H ∧ nx' = nx := by
  intro ρ w cargs s ha
  have s0 := (s.drop (H' := fun _ => none) (fun g o ho => by cases ho)).1
  refine zal (h (fun _ => none) nx ρ w cargs s0 (hf.rel s ha _)) fun cv w' ⟨r', H', nx', ρ', ⟨q0, q1, q2⟩, q3, q4, q5⟩ => ?_
  subst q0; subst q1; subst q2
  have keep : ∀ b o, w.heap[b]? = some o → w'.heap[b]? = some o := fun b o hb =>
    (zac.1 (q5.k b o (zac.2 ⟨fun g hg => by simp at hg, hb⟩))).2
  have hρ : ∀ g, g < nx' → ρ' g = ρ g := fun g hg => (q5.agree g hg).1
  have hK : ∀ b o, Kof ρ H w b = some o → Kof ρ' H w' b = some o := fun b o hb => by
    obtain ⟨h1, h2⟩ := zac.1 hb
    refine zac.2 ⟨fun g hg => ?_, keep b o h2⟩
    obtain ⟨o', ho'⟩ := Option.isSome_iff_exists.1 hg
    rw [hρ g (s.live g o' ho')]
    exact h1 g hg
  refine ⟨r', H, nx', ρ', ⟨rfl, rfl, rfl⟩, ⟨s.live, fun g o ho => ?_, fun x y hx hy hb => ?_, s.lay.mono hK⟩, q4.flat hr, ⟨fun g hg => ⟨hρ g hg, hg⟩, hK, q5.os, q5.tape, q5.output, q5.size⟩⟩
  · rw [hρ g (s.live g o ho)]
    have ho' := s.obj g o ho
    obtain ⟨ob, hob⟩ : ∃ ob, w.heap[(ρ g).block]? = some ob := ⟨_, Array.getElem?_eq_getElem ho'.block_lt⟩
    exact ho'.mono (by rw [keep _ _ hob, hob]) hK fun g hg => ⟨hρ g hg, hg⟩
  · obtain ⟨o1, ho1⟩ := Option.isSome_iff_exists.1 hx
    obtain ⟨o2, ho2⟩ := Option.isSome_iff_exists.1 hy
    rw [hρ x (s.live x o1 ho1), hρ y (s.live y o2 ho2)] at hb
    exact s.inj x y hx hy hb
theorem QC.gives {P : Program} {f : FuncId} {args args' : List AV} {r : AV} (h : QC P f args r) {H : Heap} {nx : Nat} (hf : LFrz H args' args) {kk : AV → Heap → Nat → Prop} (hk : kk r (fun _ => none) nx) : za P f args' H nx kk := by
  intro ρ w cargs s ha
  obtain ⟨s0, f0⟩ := s.drop (H' := fun _ => none) (fun g o ho => by cases ho)
  refine zal (h (fun _ => none) nx ρ w cargs s0 (hf.rel s ha _)) fun cv w' ⟨r', H', nx', ρ', ⟨q0, q1, q2⟩, q3, q4, q5⟩ => ?_
  subst q0; subst q1; subst q2
  exact ⟨r', fun _ => none, nx', ρ', hk, q3, q4, f0.trans q5⟩
end Go.Proofs.YtejohcohkgcmhaaDoor
namespace Go.Proofs.YtejohcohkgcmhaaDoor
open Go Go.RowKit
abbrev Str := List UInt8
def I64 (n : Int) : Prop := -9223372036854775808 ≤ n ∧ n ≤ 9223372036854775807
structure Ty (α : Type) where
  sz : Nat
  R : (Nat → Prop) → World → List Value → α → Prop
  len : ∀ {S : Nat → Prop} {w : World} {cs : List Value} {x : α}, R S w cs x → cs.length = sz
  mono : ∀ {S S' : Nat → Prop} {w w' : World} {cs : List Value} {x : α}, (∀ k, S k → S' k ∧ w'.heap[k]? = w.heap[k]?) → R S w cs x → R S' w' cs x
def zbz (w : World) (b off : Nat) (cs : List Value) : Prop := ∀ j v, cs[j]? = some v → w.cell? ⟨b, off + j, none⟩ = some v
theorem zbz.same {w w' : World} {b off : Nat} {cs : List Value} (h : zbz w b off cs) (hb : w'.heap[b]? = w.heap[b]?) : zbz w' b off cs :=
  fun j v hv => (World.cell?_of_block (w := w) (a := ⟨b, off + j, none⟩) hb).trans (h j v hv)
theorem zbz.c0 {w : World} {b off : Nat} {v : Value} {r : List Value} (h : zbz w b off (v :: r)) : w.cell? ⟨b, off, none⟩ = some v := h 0 v rfl
theorem zbz.c1 {w : World} {b off : Nat} {v0 v : Value} {r : List Value} (h : zbz w b off (v0 :: v :: r)) : w.cell? ⟨b, off + 1, none⟩ = some v := h 1 v rfl
theorem zbz.c2 {w : World} {b off : Nat} {v0 v1 v : Value} {r : List Value} (h : zbz w b off (v0 :: v1 :: v :: r)) : w.cell? ⟨b, off + 2, none⟩ = some v := h 2 v rfl
theorem zbz.c3 {w : World} {b off : Nat} {v0 v1 v2 v : Value} {r : List Value} (h : zbz w b off (v0 :: v1 :: v2 :: v :: r)) : w.cell? ⟨b, off + 3, none⟩ = some v := h 3 v rfl
theorem zbz.c4 {w : World} {b off : Nat} {v0 v1 v2 v3 v : Value} {r : List Value} (h : zbz w b off (v0 :: v1 :: v2 :: v3 :: v :: r)) : w.cell? ⟨b, off + 4, none⟩ = some v := h 4 v rfl
theorem zbz.c5 {w : World} {b off : Nat} {v0 v1 v2 v3 v4 v : Value} {r : List Value} (h : zbz w b off (v0 :: v1 :: v2 :: v3 :: v4 :: v :: r)) : w.cell? ⟨b, off + 5, none⟩ = some v := h 5 v rfl
def zaou (B : Nat) : Nat → Prop := fun k => k < B
theorem Ty.below {α : Type} (T : Ty α) {w w' : World} {cs : List Value} {x : α} (h : T.R (zaou w.heap.size) w cs x) (hb : Below w.heap.size w w') : T.R (zaou w'.heap.size) w' cs x :=
  T.mono (fun k hk => ⟨Nat.lt_of_lt_of_le hk hb.size, hb.block k hk⟩) h
end Go.Proofs.YtejohcohkgcmhaaDoor
namespace Go.Proofs.YtejohcohkgcmhaaDoor
open Go Go.RowKit
structure Val where
  kind : Int
  n : Int
  text : Str
  deriving DecidableEq
structure Cl where
  left : Val
  right : Val
  deriving DecidableEq
structure Ins where
  op : Int
  a : Int
  b : Int
  deriving DecidableEq
structure Cod where
  params : Int
  vars : Int
  ins : List Ins
  deriving DecidableEq
structure Prg where
  codes : List Cod
  words : List Str
  deriving DecidableEq
structure Frm where
  fn : Int
  at_ : Int
  vars : List Val
  stack : List Val
  deriving DecidableEq
structure Pmt where
  fuel : Int
  room : Int
  hops : Int
  deriving DecidableEq
structure Agt where
  id : Int
  trip : Int
  prog : Prg
  frames : List Frm
  heap : List Cl
  permit : Pmt
  deriving DecidableEq
def str (s : Str) : Value := .string ⟨s.toArray⟩
def Val.cells (v : Val) : List Value := [.int .i64 v.kind, .int .i64 v.n, .string ⟨v.text.toArray⟩]
def Val.ok (v : Val) : Prop := I64 v.kind ∧ I64 v.n ∧ v.text.length ≤ maxLen
def Ins.cells (i : Ins) : List Value := [.int .i64 i.op, .int .i64 i.a, .int .i64 i.b]
def Ins.ok (i : Ins) : Prop := I64 i.op ∧ I64 i.a ∧ I64 i.b
def Cl.cells (c : Cl) : List Value := c.left.cells ++ c.right.cells
def Cl.ok (c : Cl) : Prop := c.left.ok ∧ c.right.ok
def Pmt.cells (p : Pmt) : List Value := [.int .i64 p.fuel, .int .i64 p.room, .int .i64 p.hops]
def Pmt.ok (p : Pmt) : Prop := I64 p.fuel ∧ I64 p.room ∧ I64 p.hops
end Go.Proofs.YtejohcohkgcmhaaDoor
namespace Go.Proofs.YtejohcohkgcmhaaDoor
namespace VM
def wrong (v : Val) (cells : Int) : Int :=
  if v.kind < 0 ∨ 2 < v.kind then 1
  else if v.kind = 0 ∧ (v.n < -1073741824 ∨ 1073741824 < v.n) then 3
  else if v.kind = 1 ∧ 60 < v.text.length then 4
  else if v.kind = 2 ∧ (v.n < 0 ∨ cells ≤ v.n) then 6
  else if (v.kind = 1 ∧ v.n ≠ 0) ∨ (v.kind ≠ 1 ∧ v.text ≠ []) then 2
  else 0
def wordByte (c : UInt8) : Bool := decide (32 ≤ c.toNat) && decide (c.toNat ≤ 126) && !(c.toNat == 39)
def word (s : Str) : Bool := decide (s.length ≤ 12) && s.all wordByte
def effect (i : Ins) : Int × Int :=
  if i.op = 1 ∨ i.op = 2 ∨ i.op = 3 ∨ i.op = 12 then (0, 1)
  else if i.op = 4 ∨ i.op = 14 ∨ i.op = 16 ∨ i.op = 19 ∨ i.op = 18 then (1, 0)
  else if i.op = 5 ∨ i.op = 6 then (2, 1)
  else if i.op = 7 ∨ i.op = 8 ∨ i.op = 11 ∨ i.op = 13 then (1, 1)
  else if i.op = 9 ∨ i.op = 10 then (2, 0)
  else if i.op = 17 then (i.b, 1)
  else (0, 0)
def isIn (n most : Int) : Bool := decide (0 ≤ n) && decide (n < most)
def numOk (p : Prg) (c : Cod) (i : Ins) : Bool :=
  if i.op = 1 then decide (-1073741824 ≤ i.a) && decide (i.a ≤ 1073741824)
  else if i.op = 2 then isIn i.a p.words.length
  else if i.op = 3 ∨ i.op = 4 then isIn i.a c.vars
  else if i.op = 5 then decide (1 ≤ i.a) && decide (i.a ≤ 5)
  else if i.op = 15 ∨ i.op = 16 then isIn i.a c.ins.length
  else if i.op = 17 then isIn i.a p.codes.length && decide (some i.b = (p.codes[i.a.toNat]?).map (·.params))
  else decide (i.a = 0)
def numbers (p : Prg) (c : Cod) (i : Ins) : Int :=
  if i.op < 1 ∨ 19 < i.op then 1
  else if numOk p c i = false ∨ (i.op ≠ 17 ∧ i.b ≠ 0) then 3
  else 0
def heightsGo (ins : List Ins) : Nat → List (Int × Int) → List Int → List Int × Int
  | 0, _, _ => ([], 0)
  | _ + 1, [], out => (out, 0)
  | f + 1, (at_, h) :: q, out =>
    match (if 0 ≤ at_ then ins[at_.toNat]? else none) with
    | none => ([], 8)
    | some i =>
      if 0 ≤ out.getD at_.toNat 0 then (if out.getD at_.toNat 0 ≠ h then ([], 10) else heightsGo ins f q out)
      else
        if h < (effect i).1 ∨ (i.op = 18 ∧ h ≠ 1) then ([], 10)
        else if 16 < h + (effect i).2 - (effect i).1 then ([], 4)
        else
          let h' := h + (effect i).2 - (effect i).1
          heightsGo ins f (q ++ (if i.op ≠ 15 ∧ i.op ≠ 18 then [(at_ + 1, h')] else []) ++ (if i.op = 15 ∨ i.op = 16 then [(i.a, h')] else [])) (out.set at_.toNat h)
def heights (ins : List Ins) : List Int × Int := heightsGo ins (2 * ins.length + 2) [(0, 0)] (List.replicate ins.length (-1))
def codeRange (c : Cod) : Bool := decide (c.params < 0 ∨ 4 < c.params ∨ c.vars < c.params ∨ 8 < c.vars ∨ c.ins.length < 1 ∨ 200 < c.ins.length)
def firstErr {α : Type} (f : α → Int) : List α → Int
  | [] => 0
  | x :: r => if f x ≠ 0 then f x else firstErr f r
def codeErr (p : Prg) (c : Cod) : Int := if firstErr (numbers p c) c.ins ≠ 0 then firstErr (numbers p c) c.ins else (heights c.ins).2
def program (p : Prg) : Int :=
  if p.codes.length < 1 ∨ 5 < p.codes.length then 5
  else if 16 < p.words.length then 4
  else if p.words.all word = false then 7
  else if (p.codes.getD 0 ⟨0, 0, []⟩).params ≠ 0 then 10
  else if p.codes.any codeRange then 3
  else firstErr (codeErr p) p.codes
def frame (a : Agt) (k : Nat) (away : Bool) : Int :=
  match a.frames[k]? with
  | none => 0
  | some f =>
    match (if 0 ≤ f.fn then a.prog.codes[f.fn.toNat]? else none) with
    | none => 3
    | some c =>
      match (if 0 ≤ f.at_ then c.ins[f.at_.toNat]? else none) with
      | none => 3
      | some _ =>
        if (f.vars.length : Int) ≠ c.vars then 3
        else
          let hs := (heights c.ins).1
          let h := hs.getD f.at_.toNat 0
          let last := decide (k + 1 = a.frames.length)
          let waits := !last || away
          let prev := c.ins.getD (f.at_.toNat - 1) ⟨0, 0, 0⟩
          let bad := (!last && (decide (prev.op ≠ 17) || decide (prev.a ≠ ((a.frames[k + 1]?).map (·.fn)).getD 0))) || (last && decide (prev.op ≠ 13)) || decide (hs.getD (f.at_.toNat - 1) 0 < 0)
          if waits && (decide (f.at_ = 0) || bad) then 10
          else
            let h' := if waits then h - 1 else h
            if h' < 0 ∨ (f.stack.length : Int) ≠ h' then 10
            else firstErr (fun v => wrong v a.heap.length) (f.vars ++ f.stack)
def cellErr (n : Int) (c : Cl) : Int := if wrong c.left n ≠ 0 then wrong c.left n else wrong c.right n
def framesErr (a : Agt) (away : Bool) : Int := firstErr (fun k => frame a k away) (List.range a.frames.length)
def agent (a : Agt) (away : Bool) : Int :=
  if program a.prog ≠ 0 then program a.prog
  else if a.id < 0 ∨ 1073741824 < a.id ∨ a.trip < 0 ∨ 1073741824 < a.trip ∨ a.permit.fuel < 0 ∨ 2000 < a.permit.fuel ∨ a.permit.room < 0 ∨ 60 < a.permit.room ∨ a.permit.hops < 0 ∨ 12 < a.permit.hops then 3
  else if a.frames.length < 1 ∨ 12 < a.frames.length then 5
  else if 60 - a.permit.room < a.heap.length then 4
  else if framesErr a away ≠ 0 then framesErr a away
  else firstErr (cellErr a.heap.length) a.heap
end VM
end Go.Proofs.YtejohcohkgcmhaaDoor
