/- What is to be shown of each function, written out. The program's parser: its small functions. The program's parser: words, names, quoted texts. -/
import Derived.Test.YtpllgpgdcbgalaaDoorG6
import Derived.Test.YtpllgpgdcbgalaaDoorG5
import Derived.Test.YtpllgpgdcbgalaaDoorG7
set_option linter.unusedSimpArgs false
set_option linter.unusedVariables false
set_option maxRecDepth 8000
namespace Go.Proofs.YtpllgpgdcbgalaaDoor
open Go Go.RowKit
def zah (Q : QT) (K1 : J3) (xs2 : List AV) (H3 : Heap) (nx4 : Nat) : Prop :=
 NC (nth xs2 0) fun v5 =>
 FA 1 v5 fun v6 =>
 LDR false 1 v6 H3 fun v7 _ =>
 NC (nth xs2 0) fun v9 =>
 FA 0 v9 fun v10 =>
 LDR false 1 v10 H3 fun v11 _ =>
 LNS v11 fun v13 =>
 BI BinOp.lss v7 v13 fun v14 =>
 CND v14
 (NC (nth xs2 0) fun v15 =>
 FA 0 v15 fun v16 =>
 LDR false 1 v16 H3 fun v17 _ =>
 NC (nth xs2 0) fun v19 =>
 FA 1 v19 fun v20 =>
 LDR false 1 v20 H3 fun v21 _ =>
 IX v17 v21 fun v23 =>
 BI BinOp.eql v23 (AV.int IntKind.u8 32) fun v24 =>
 CND v24
 (NC (nth xs2 0) fun v25 =>
 FA 1 v25 fun v26 =>
 LD false 1 v26 H3 fun v27 =>
 BI BinOp.add v27 (AV.int IntKind.i64 1) fun v28 =>
 NC (nth xs2 0) fun v29 =>
 FA 1 v29 fun v30 =>
 ST 1 v30 v28 H3 fun H31 =>
 K1 [nth xs2 0] H31 nx4)
 (NC (nth xs2 0) fun v32 =>
 FA 0 v32 fun v33 =>
 LDR false 1 v33 H3 fun v34 _ =>
 NC (nth xs2 0) fun v36 =>
 FA 1 v36 fun v37 =>
 LDR false 1 v37 H3 fun v38 _ =>
 IX v34 v38 fun v40 =>
 BI BinOp.eql v40 (AV.int IntKind.u8 10) fun v41 =>
 CNDC v41
 (NC (nth xs2 0) fun v42 =>
 FA 1 v42 fun v43 =>
 LD false 1 v43 H3 fun v44 =>
 BI BinOp.add v44 (AV.int IntKind.i64 1) fun v45 =>
 NC (nth xs2 0) fun v46 =>
 FA 1 v46 fun v47 =>
 ST 1 v47 v45 H3 fun H48 =>
 K1 [nth xs2 0] H48 nx4)
 (Q (AV.tup []) H3 nx4)))
 (Q (AV.tup []) H3 nx4)
def zen (a0 : AV) (H : Heap) (nx : Nat) (Q : QT) : Prop :=
 LP (zah Q) [a0] H nx
theorem zil (a0 : AV) (H : Heap) (nx : Nat) (Q : QT) : zen a0 H nx Q → za Tryd.prog 62 [a0] H nx Q :=
  zg (lv := lvOf [(2, 0, [0])]) (c := zj Tryd.f62) zu zx mixed Tryd.func62 (by kernel_rfl) (by kernel_rfl) (by kernel_rfl) (by kernel_rfl) (by kernel_rfl)
def zbr (a0 : AV) (Q : QT) (_ : AV) (H2 : Heap) (nx3 : Nat) : Prop :=
 NC a0 fun v4 =>
 FA 1 v4 fun v5 =>
 LDR false 1 v5 H2 fun v6 _ =>
 NC a0 fun v8 =>
 FA 0 v8 fun v9 =>
 LDR false 1 v9 H2 fun v10 _ =>
 LNS v10 fun v12 =>
 BI BinOp.geq v6 v12 fun v13 =>
 CNDC v13
 (Q (AV.int IntKind.u8 0) H2 nx3)
 (NC a0 fun v14 =>
 FA 0 v14 fun v15 =>
 LDR false 1 v15 H2 fun v16 _ =>
 NC a0 fun v18 =>
 FA 1 v18 fun v19 =>
 LDR false 1 v19 H2 fun v20 _ =>
 IX v16 v20 fun v22 =>
 MM false v22 (AV.int IntKind.u8 1) fun v23 =>
 Q v23 H2 nx3)
def zfl (a0 : AV) (H : Heap) (nx : Nat) (Q : QT) : Prop :=
 za Tryd.prog 62 [a0] H nx (zbr a0 Q)
theorem zjb (a0 : AV) (H : Heap) (nx : Nat) (Q : QT) : zfl a0 H nx Q → za Tryd.prog 42 [a0] H nx Q :=
  zg (lv := lvOf []) (c := zj Tryd.f42) zu zx mixed Tryd.func42 (by kernel_rfl) (by kernel_rfl) (by kernel_rfl) (by kernel_rfl) (by kernel_rfl)
def zcv (a0 a1 : AV) (H : Heap) (nx : Nat) (Q : QT) : Prop :=
 NC a0 fun v1 =>
 FA 2 v1 fun v2 =>
 LD false 1 v2 H fun v3 =>
 BI BinOp.eql v3 (AV.int IntKind.i64 0) fun v4 =>
 CNDC v4
 (NC a0 fun v5 =>
 FA 2 v5 fun v6 =>
 ST 1 v6 a1 H fun H7 =>
 Q (AV.tup []) H7 nx)
 (Q (AV.tup []) H nx)
theorem zjd (a0 a1 : AV) (H : Heap) (nx : Nat) (Q : QT) : zcv a0 a1 H nx Q → za Tryd.prog 63 [a0, a1] H nx Q :=
  zg (lv := lvOf []) (c := zj Tryd.f63) zu zx mixed Tryd.func63 (by kernel_rfl) (by kernel_rfl) (by kernel_rfl) (by kernel_rfl) (by kernel_rfl)
def zfh (Q : QT) (v13 : AV) (H14 : Heap) (nx15 : Nat) : Prop :=
 Q (AV.tup []) H14 nx15
def zbp (a1 : AV) (a0 : AV) (Q : QT) (v1 : AV) (H2 : Heap) (nx3 : Nat) : Prop :=
 BI BinOp.eql v1 a1 fun v4 =>
 CNDC v4
 (NC a0 fun v5 =>
 FA 1 v5 fun v6 =>
 LD false 1 v6 H2 fun v7 =>
 BI BinOp.add v7 (AV.int IntKind.i64 1) fun v8 =>
 NC a0 fun v9 =>
 FA 1 v9 fun v10 =>
 ST 1 v10 v8 H2 fun H11 =>
 Q (AV.tup []) H11 nx3)
 (BI BinOp.eql v1 (AV.int IntKind.u8 0) fun v12 =>
 CNDC v12
 (za Tryd.prog 63 [a0, AV.int IntKind.i64 8] H2 nx3 (zfh Q))
 (za Tryd.prog 63 [a0, AV.int IntKind.i64 2] H2 nx3 (zfh Q)))
def zfg (a0 a1 : AV) (H : Heap) (nx : Nat) (Q : QT) : Prop :=
 za Tryd.prog 42 [a0] H nx (zbp a1 a0 Q)
theorem zja (a0 a1 : AV) (H : Heap) (nx : Nat) (Q : QT) : zfg a0 a1 H nx Q → za Tryd.prog 43 [a0, a1] H nx Q :=
  zg (lv := lvOf []) (c := zj Tryd.f43) zu zx mixed Tryd.func43 (by kernel_rfl) (by kernel_rfl) (by kernel_rfl) (by kernel_rfl) (by kernel_rfl)
def zep (Q : QT) (K11 : J3) (xs12 : List AV) (H13 : Heap) (nx14 : Nat) : Prop :=
 BI BinOp.lss (nth xs12 2) (nth xs12 1) fun v15 =>
 CNDC v15
 (IX (nth xs12 0) (nth xs12 2) fun v16 =>
 BI BinOp.lss v16 (AV.int IntKind.u8 97) fun v17 =>
 CND v17
 (Q (AV.bool false) H13 nx14)
 (IX (nth xs12 0) (nth xs12 2) fun v18 =>
 BI BinOp.gtr v18 (AV.int IntKind.u8 122) fun v19 =>
 CNDC v19
 (Q (AV.bool false) H13 nx14)
 (BI BinOp.add (nth xs12 2) (AV.int IntKind.i64 1) fun v20 =>
 K11 [nth xs12 0, nth xs12 1, v20] H13 nx14)))
 (Q (AV.bool true) H13 nx14)
def zhs (Q : QT) (a0 : AV) (v7 : AV) (H8 : Heap) (nx9 : Nat) : Prop :=
 CNDC v7
 (Q (AV.bool false) H8 nx9)
 (LNS a0 fun v10 =>
 LP (zep Q) [a0, v10, AV.int IntKind.i64 0] H8 nx9)
def zeo (a0 : AV) (H : Heap) (nx : Nat) (Q : QT) : Prop :=
 LNS a0 fun v1 =>
 BI BinOp.lss v1 (AV.int IntKind.i64 1) fun v2 =>
 CND v2
 (Q (AV.bool false) H nx)
 (LNS a0 fun v3 =>
 BI BinOp.gtr v3 (AV.int IntKind.i64 8) fun v4 =>
 CND v4
 (Q (AV.bool false) H nx)
 (BS BinOp.add (AV.str [32]) a0 fun v5 =>
 BS BinOp.add v5 (AV.str [32]) fun v6 =>
 za Tryd.prog 47 [AV.str [32, 108, 101, 116, 32, 115, 101, 116, 32, 105, 102, 32, 119, 104, 105, 108, 101, 32, 115, 97, 121, 32, 114, 101, 116, 117, 114, 110, 32, 112, 117, 116, 108, 32, 112, 117, 116, 114, 32, 100, 111, 32, 99, 101, 108, 108, 32, 108, 101, 102, 116, 32, 114, 105, 103, 104, 116, 32, 97, 115, 107, 32, 104, 101, 114, 101, 32, 103, 111, 32], v6] H nx (zhs Q a0)))
theorem znb (a0 : AV) (H : Heap) (nx : Nat) (Q : QT) : zeo a0 H nx Q → za Tryd.prog 23 [a0] H nx Q :=
  zg (lv := lvOf [(2, 4, [0, 19, 20])]) (c := zj Tryd.f23) zu zx mixed Tryd.func23 (by kernel_rfl) (by kernel_rfl) (by kernel_rfl) (by kernel_rfl) (by kernel_rfl)
def zz (xs8 : List AV) (Q : QT) (_ : AV) (H62 : Heap) (nx63 : Nat) : Prop :=
 NC (nth xs8 0) fun v64 =>
 FA 0 v64 fun v65 =>
 LDR false 1 v65 H62 fun v66 _ =>
 NC (nth xs8 0) fun v68 =>
 FA 1 v68 fun v69 =>
 LDR false 1 v69 H62 fun v70 _ =>
 SLS v66 (some (nth xs8 1)) (some v70) fun v72 =>
 Q v72 H62 nx63
def zbo (xs8 : List AV) (H9 : Heap) (K7 : J3) (nx10 : Nat) (Q : QT) (v35 : AV) (_ : List Nat) (fr37 : List Nat) (D38 : zn) : Prop :=
 UO UnOp.not v35 fun v39 =>
 CNDC v39
 (NC (nth xs8 0) fun v40 =>
 FA 1 v40 fun v41 =>
 LD false 1 v41 (H9.apply D38) fun v42 =>
 BI BinOp.add v42 (AV.int IntKind.i64 1) fun v43 =>
 NC (nth xs8 0) fun v44 =>
 FA 1 v44 fun v45 =>
 ST 1 v45 v43 (H9.apply D38) fun H46 =>
 K7 [nth xs8 0, nth xs8 1] H46 (nx10 + fr37.length))
 (NC (nth xs8 0) fun v47 =>
 FA 1 v47 fun v48 =>
 LD false 1 v48 (H9.apply D38) fun v49 =>
 BI BinOp.eql (nth xs8 1) v49 fun v50 =>
 CNDC v50
 (NC (nth xs8 0) fun v51 =>
 FA 1 v51 fun v52 =>
 LDR false 1 v52 (H9.apply D38) fun v53 _ =>
 NC (nth xs8 0) fun v55 =>
 FA 0 v55 fun v56 =>
 LDR false 1 v56 (H9.apply D38) fun v57 _ =>
 LNS v57 fun v59 =>
 BI BinOp.geq v53 v59 fun v60 =>
 CNDC v60
 (za Tryd.prog 63 [nth xs8 0, AV.int IntKind.i64 8] (H9.apply D38) (nx10 + fr37.length) (zz xs8 Q))
 (za Tryd.prog 63 [nth xs8 0, AV.int IntKind.i64 2] (H9.apply D38) (nx10 + fr37.length) (zz xs8 Q)))
 (NC (nth xs8 0) fun v85 =>
 FA 0 v85 fun v86 =>
 LDR false 1 v86 (H9.apply D38) fun v87 _ =>
 NC (nth xs8 0) fun v89 =>
 FA 1 v89 fun v90 =>
 LDR false 1 v90 (H9.apply D38) fun v91 _ =>
 SLS v87 (some (nth xs8 1)) (some v91) fun v93 =>
 Q v93 (H9.apply D38) (nx10 + fr37.length)))
def zal (Q : QT) (K7 : J3) (xs8 : List AV) (H9 : Heap) (nx10 : Nat) : Prop :=
 NC (nth xs8 0) fun v11 =>
 FA 1 v11 fun v12 =>
 LDR false 1 v12 H9 fun v13 _ =>
 NC (nth xs8 0) fun v15 =>
 FA 0 v15 fun v16 =>
 LDR false 1 v16 H9 fun v17 _ =>
 LNS v17 fun v19 =>
 BI BinOp.lss v13 v19 fun v20 =>
 CND v20
 (NC (nth xs8 0) fun v21 =>
 FA 0 v21 fun v22 =>
 LDR false 1 v22 H9 fun v23 _ =>
 NC (nth xs8 0) fun v25 =>
 FA 1 v25 fun v26 =>
 LDR false 1 v26 H9 fun v27 _ =>
 NC (nth xs8 0) fun v29 =>
 FA 1 v29 fun v30 =>
 LDR false 1 v30 H9 fun v31 _ =>
 BI BinOp.add v31 (AV.int IntKind.i64 1) fun v33 =>
 SLS v23 (some v27) (some v33) fun v34 =>
 zm Tryd.prog (AV.clo 47 []) [AV.str [32, 10, 40, 41, 39], v34] H9 nx10 (zbo xs8 H9 K7 nx10 Q))
 (NC (nth xs8 0) fun v94 =>
 FA 1 v94 fun v95 =>
 LD false 1 v95 H9 fun v96 =>
 BI BinOp.eql (nth xs8 1) v96 fun v97 =>
 CNDC v97
 (NC (nth xs8 0) fun v98 =>
 FA 1 v98 fun v99 =>
 LDR false 1 v99 H9 fun v100 _ =>
 NC (nth xs8 0) fun v102 =>
 FA 0 v102 fun v103 =>
 LDR false 1 v103 H9 fun v104 _ =>
 LNS v104 fun v106 =>
 BI BinOp.geq v100 v106 fun v107 =>
 CNDC v107
 (za Tryd.prog 63 [nth xs8 0, AV.int IntKind.i64 8] H9 nx10 (zz xs8 Q))
 (za Tryd.prog 63 [nth xs8 0, AV.int IntKind.i64 2] H9 nx10 (zz xs8 Q)))
 (NC (nth xs8 0) fun v132 =>
 FA 0 v132 fun v133 =>
 LDR false 1 v133 H9 fun v134 _ =>
 NC (nth xs8 0) fun v136 =>
 FA 1 v136 fun v137 =>
 LDR false 1 v137 H9 fun v138 _ =>
 SLS v134 (some (nth xs8 1)) (some v138) fun v140 =>
 Q v140 H9 nx10))
def zff (a0 : AV) (Q : QT) (_ : AV) (H2 : Heap) (nx3 : Nat) : Prop :=
 NC a0 fun v4 =>
 FA 1 v4 fun v5 =>
 LD false 1 v5 H2 fun v6 =>
 LP (zal Q) [a0, v6] H2 nx3
def zfe (a0 : AV) (H : Heap) (nx : Nat) (Q : QT) : Prop :=
 za Tryd.prog 62 [a0] H nx (zff a0 Q)
theorem ziz (a0 : AV) (H : Heap) (nx : Nat) (Q : QT) : zfe a0 H nx Q → za Tryd.prog 64 [a0] H nx Q :=
  zg (lv := lvOf [(2, 3, [0, 3])]) (c := zj Tryd.f64) zu zx mixed Tryd.func64 (by kernel_rfl) (by kernel_rfl) (by kernel_rfl) (by kernel_rfl) (by kernel_rfl)
def zfo (Q : QT) (v1 : AV) (v8 : AV) (H9 : Heap) (nx10 : Nat) : Prop :=
 Q v1 H9 nx10
def zcu (a0 : AV) (Q : QT) (v1 : AV) (v4 : AV) (H5 : Heap) (nx6 : Nat) : Prop :=
 UO UnOp.not v4 fun v7 =>
 CNDC v7
 (za Tryd.prog 63 [a0, AV.int IntKind.i64 7] H5 nx6 (zfo Q v1))
 (Q v1 H5 nx6)
def zfn (a0 : AV) (Q : QT) (v1 : AV) (H2 : Heap) (nx3 : Nat) : Prop :=
 za Tryd.prog 23 [v1] H2 nx3 (zcu a0 Q v1)
def zfm (a0 : AV) (H : Heap) (nx : Nat) (Q : QT) : Prop :=
 za Tryd.prog 64 [a0] H nx (zfn a0 Q)
theorem zjc (a0 : AV) (H : Heap) (nx : Nat) (Q : QT) : zfm a0 H nx Q → za Tryd.prog 44 [a0] H nx Q :=
  zg (lv := lvOf []) (c := zj Tryd.f44) zu zx mixed Tryd.func44 (by kernel_rfl) (by kernel_rfl) (by kernel_rfl) (by kernel_rfl) (by kernel_rfl)
def zfw (a0 : AV) (Q : QT) (_ : AV) (H3 : Heap) (nx4 : Nat) : Prop :=
 NC a0 fun v5 =>
 FA 2 v5 fun v6 =>
 LD false 1 v6 H3 fun v7 =>
 BI BinOp.eql v7 (AV.int IntKind.i64 0) fun v8 =>
 Q v8 H3 nx4
def zcx (a0 a1 : AV) (H : Heap) (nx : Nat) (Q : QT) : Prop :=
 BI BinOp.gtr a1 (AV.int IntKind.i64 10) fun v1 =>
 CNDC v1
 (za Tryd.prog 63 [a0, AV.int IntKind.i64 9] H nx (zfw a0 Q))
 (NC a0 fun v9 =>
 FA 2 v9 fun v10 =>
 LD false 1 v10 H fun v11 =>
 BI BinOp.eql v11 (AV.int IntKind.i64 0) fun v12 =>
 Q v12 H nx)
theorem zje (a0 a1 : AV) (H : Heap) (nx : Nat) (Q : QT) : zcx a0 a1 H nx Q → za Tryd.prog 74 [a0, a1] H nx Q :=
  zg (lv := lvOf []) (c := zj Tryd.f74) zu zx mixed Tryd.func74 (by kernel_rfl) (by kernel_rfl) (by kernel_rfl) (by kernel_rfl) (by kernel_rfl)
def zkb (Q : QT) (v4 : AV) (H5 : Heap) (nx6 : Nat) : Prop :=
 Q v4 H5 nx6
def zem (a0 : AV) (a1 : AV) (Q : QT) (v1 : AV) (H2 : Heap) (nx3 : Nat) : Prop :=
 za Tryd.prog 45 [a0, a1] H2 nx3 (zkb Q)
def zel (a0 a1 : AV) (H : Heap) (nx : Nat) (Q : QT) : Prop :=
 za Tryd.prog 43 [a0, AV.int IntKind.u8 40] H nx (zem a0 a1 Q)
theorem zik (a0 a1 : AV) (H : Heap) (nx : Nat) (Q : QT) : zel a0 a1 H nx Q → za Tryd.prog 77 [a0, a1] H nx Q :=
  zg (lv := lvOf []) (c := zj Tryd.f77) zu zx mixed Tryd.func77 (by kernel_rfl) (by kernel_rfl) (by kernel_rfl) (by kernel_rfl) (by kernel_rfl)
def zbq (nx19 : Nat) (nx : Nat) (Q : QT) (_ : AV) (H36 : Heap) (nx37 : Nat) : Prop :=
 LD true 5 (AV.ptr nx19 0) H36 fun v38 =>
 ST 5 (AV.ptr (nx + 2) 0) v38 H36 fun H39 =>
 LD true 5 (AV.ptr (nx + 2) 0) H39 fun v40 =>
 Q v40 H39 nx37
def zl (nx : Nat) (nx19 : Nat) (Q : QT) (_ : AV) (H32 : Heap) (nx33 : Nat) : Prop :=
 LD false 1 (AV.ptr nx 0) H32 fun v34 =>
 za Tryd.prog 43 [v34, AV.int IntKind.u8 41] H32 nx33 (zbq nx19 nx Q)
def zab (nx19 : Nat) (nx : Nat) (Q : QT) (v27 : AV) (H28 : Heap) (nx29 : Nat) : Prop :=
 ST 1 (AV.ptr nx19 1) v27 H28 fun H30 =>
 za Tryd.prog 75 [AV.ptr nx19 0, AV.ptr nx 0, AV.ptr (nx + 1) 0] H30 nx29 (zl nx nx19 Q)
def zfk (nx19 : Nat) (nx : Nat) (Q : QT) (v105 : AV) (H106 : Heap) (nx107 : Nat) : Prop :=
 ST 1 (AV.ptr nx19 4) v105 H106 fun H108 =>
 LD false 1 (AV.ptr nx 0) H108 fun v109 =>
 za Tryd.prog 43 [v109, AV.int IntKind.u8 41] H108 nx107 (zbq nx19 nx Q)
def zfj (nx19 : Nat) (nx : Nat) (Q : QT) (v98 : AV) (H99 : Heap) (nx100 : Nat) : Prop :=
 ST 1 (AV.ptr nx19 3) v98 H99 fun H101 =>
 LD false 1 (AV.ptr nx 0) H101 fun v102 =>
 LD false 1 (AV.ptr (nx + 1) 0) H101 fun v103 =>
 BI BinOp.add v103 (AV.int IntKind.i64 1) fun v104 =>
 za Tryd.prog 77 [v102, v104] H101 nx100 (zfk nx19 nx Q)
def zct (nx : Nat) (nx19 : Nat) (Q : QT) (_ : AV) (H93 : Heap) (nx94 : Nat) : Prop :=
 LD false 1 (AV.ptr nx 0) H93 fun v95 =>
 LD false 1 (AV.ptr (nx + 1) 0) H93 fun v96 =>
 BI BinOp.add v96 (AV.int IntKind.i64 1) fun v97 =>
 za Tryd.prog 77 [v95, v97] H93 nx94 (zfj nx19 nx Q)
def zfi (nx19 : Nat) (nx : Nat) (Q : QT) (v124 : AV) (H125 : Heap) (nx126 : Nat) : Prop :=
 ST 1 (AV.ptr nx19 3) v124 H125 fun H127 =>
 LD true 5 (AV.ptr nx19 0) H127 fun v128 =>
 ST 5 (AV.ptr (nx + 2) 0) v128 H127 fun H129 =>
 LD true 5 (AV.ptr (nx + 2) 0) H129 fun v130 =>
 Q v130 H129 nx126
def zcs (nx : Nat) (nx19 : Nat) (Q : QT) (_ : AV) (H119 : Heap) (nx120 : Nat) : Prop :=
 LD false 1 (AV.ptr nx 0) H119 fun v121 =>
 LD false 1 (AV.ptr (nx + 1) 0) H119 fun v122 =>
 BI BinOp.add v122 (AV.int IntKind.i64 1) fun v123 =>
 za Tryd.prog 45 [v121, v123] H119 nx120 (zfi nx19 nx Q)
def zaa (nx19 : Nat) (nx : Nat) (Q : QT) (v186 : AV) (H187 : Heap) (nx188 : Nat) : Prop :=
 za Tryd.prog 75 [AV.ptr nx19 0, AV.ptr nx 0, AV.ptr (nx + 1) 0] H187 nx188 (zl nx nx19 Q)
def zh (nx : Nat) (Q : QT) (v17 : AV) (H18 : Heap) (nx19 : Nat) : Prop :=
 PUTH H18 nx19 (AObj.row 5 [AV.int IntKind.i64 0, AV.str [], AV.nils, AV.nils, AV.nils]) fun H20 =>
 ST 5 (AV.ptr nx19 0) (AV.agg [AV.int IntKind.i64 0, AV.str [], AV.nils, AV.nils, AV.nils]) H20 fun H21 =>
 BS BinOp.eql v17 (AV.str [108, 101, 116]) fun v22 =>
 CNDC v22
 (ST 1 (AV.ptr nx19 0) (AV.int IntKind.i64 1) H21 fun H23 =>
 BS BinOp.eql v17 (AV.str [115, 101, 116]) fun v24 =>
 CNDC v24
 (ST 1 (AV.ptr nx19 0) (AV.int IntKind.i64 2) H23 fun H25 =>
 LD false 1 (AV.ptr nx 0) H25 fun v26 =>
 za Tryd.prog 44 [v26] H25 (nx19 + 1) (zab nx19 nx Q))
 (LD false 1 (AV.ptr nx 0) H23 fun v41 =>
 za Tryd.prog 44 [v41] H23 (nx19 + 1) (zab nx19 nx Q)))
 (BS BinOp.eql v17 (AV.str [115, 101, 116]) fun v56 =>
 CNDC v56
 (ST 1 (AV.ptr nx19 0) (AV.int IntKind.i64 1) H21 fun H57 =>
 BS BinOp.eql v17 (AV.str [115, 101, 116]) fun v58 =>
 CNDC v58
 (ST 1 (AV.ptr nx19 0) (AV.int IntKind.i64 2) H57 fun H59 =>
 LD false 1 (AV.ptr nx 0) H59 fun v60 =>
 za Tryd.prog 44 [v60] H59 (nx19 + 1) (zab nx19 nx Q))
 (LD false 1 (AV.ptr nx 0) H57 fun v75 =>
 za Tryd.prog 44 [v75] H57 (nx19 + 1) (zab nx19 nx Q)))
 (BS BinOp.eql v17 (AV.str [105, 102]) fun v90 =>
 CNDC v90
 (ST 1 (AV.ptr nx19 0) (AV.int IntKind.i64 3) H21 fun H91 =>
 za Tryd.prog 75 [AV.ptr nx19 0, AV.ptr nx 0, AV.ptr (nx + 1) 0] H91 (nx19 + 1) (zct nx nx19 Q))
 (BS BinOp.eql v17 (AV.str [119, 104, 105, 108, 101]) fun v116 =>
 CNDC v116
 (ST 1 (AV.ptr nx19 0) (AV.int IntKind.i64 4) H21 fun H117 =>
 za Tryd.prog 75 [AV.ptr nx19 0, AV.ptr nx 0, AV.ptr (nx + 1) 0] H117 (nx19 + 1) (zcs nx nx19 Q))
 (BS BinOp.eql v17 (AV.str [115, 97, 121]) fun v131 =>
 CNDC v131
 (PUTH H21 (nx19 + 1) (AObj.mp []) fun H132 =>
 zw (AK.str) (AV.str [115, 97, 121]) = true ∧
 MU (AV.amap (nx19 + 1)) (AV.str [115, 97, 121]) (AV.int IntKind.i64 5) H132 fun H133 =>
 zw (AK.str) (AV.str [114, 101, 116, 117, 114, 110]) = true ∧
 MU (AV.amap (nx19 + 1)) (AV.str [114, 101, 116, 117, 114, 110]) (AV.int IntKind.i64 6) H133 fun H134 =>
 zw (AK.str) (AV.str [100, 111]) = true ∧
 MU (AV.amap (nx19 + 1)) (AV.str [100, 111]) (AV.int IntKind.i64 9) H134 fun H135 =>
 zw (AK.str) v17 = true ∧
 LK [AV.int IntKind.i64 0] false (AV.amap (nx19 + 1)) v17 false H135 fun v136 =>
 ST 1 (AV.ptr nx19 0) v136 H135 fun H137 =>
 za Tryd.prog 75 [AV.ptr nx19 0, AV.ptr nx 0, AV.ptr (nx + 1) 0] H137 (nx19 + 2) (zl nx nx19 Q))
 (BS BinOp.eql v17 (AV.str [114, 101, 116, 117, 114, 110]) fun v148 =>
 CNDC v148
 (PUTH H21 (nx19 + 1) (AObj.mp []) fun H149 =>
 zw (AK.str) (AV.str [115, 97, 121]) = true ∧
 MU (AV.amap (nx19 + 1)) (AV.str [115, 97, 121]) (AV.int IntKind.i64 5) H149 fun H150 =>
 zw (AK.str) (AV.str [114, 101, 116, 117, 114, 110]) = true ∧
 MU (AV.amap (nx19 + 1)) (AV.str [114, 101, 116, 117, 114, 110]) (AV.int IntKind.i64 6) H150 fun H151 =>
 zw (AK.str) (AV.str [100, 111]) = true ∧
 MU (AV.amap (nx19 + 1)) (AV.str [100, 111]) (AV.int IntKind.i64 9) H151 fun H152 =>
 zw (AK.str) v17 = true ∧
 LK [AV.int IntKind.i64 0] false (AV.amap (nx19 + 1)) v17 false H152 fun v153 =>
 ST 1 (AV.ptr nx19 0) v153 H152 fun H154 =>
 za Tryd.prog 75 [AV.ptr nx19 0, AV.ptr nx 0, AV.ptr (nx + 1) 0] H154 (nx19 + 2) (zl nx nx19 Q))
 (BS BinOp.eql v17 (AV.str [100, 111]) fun v165 =>
 CNDC v165
 (PUTH H21 (nx19 + 1) (AObj.mp []) fun H166 =>
 zw (AK.str) (AV.str [115, 97, 121]) = true ∧
 MU (AV.amap (nx19 + 1)) (AV.str [115, 97, 121]) (AV.int IntKind.i64 5) H166 fun H167 =>
 zw (AK.str) (AV.str [114, 101, 116, 117, 114, 110]) = true ∧
 MU (AV.amap (nx19 + 1)) (AV.str [114, 101, 116, 117, 114, 110]) (AV.int IntKind.i64 6) H167 fun H168 =>
 zw (AK.str) (AV.str [100, 111]) = true ∧
 MU (AV.amap (nx19 + 1)) (AV.str [100, 111]) (AV.int IntKind.i64 9) H168 fun H169 =>
 zw (AK.str) v17 = true ∧
 LK [AV.int IntKind.i64 0] false (AV.amap (nx19 + 1)) v17 false H169 fun v170 =>
 ST 1 (AV.ptr nx19 0) v170 H169 fun H171 =>
 za Tryd.prog 75 [AV.ptr nx19 0, AV.ptr nx 0, AV.ptr (nx + 1) 0] H171 (nx19 + 2) (zl nx nx19 Q))
 (BS BinOp.eql v17 (AV.str [112, 117, 116, 108]) fun v182 =>
 CNDC v182
 (ST 1 (AV.ptr nx19 0) (AV.int IntKind.i64 7) H21 fun H183 =>
 BS BinOp.eql v17 (AV.str [112, 117, 116, 114]) fun v184 =>
 CNDC v184
 (ST 1 (AV.ptr nx19 0) (AV.int IntKind.i64 8) H183 fun H185 =>
 za Tryd.prog 75 [AV.ptr nx19 0, AV.ptr nx 0, AV.ptr (nx + 1) 0] H185 (nx19 + 1) (zaa nx19 nx Q))
 (za Tryd.prog 75 [AV.ptr nx19 0, AV.ptr nx 0, AV.ptr (nx + 1) 0] H183 (nx19 + 1) (zaa nx19 nx Q)))
 (BS BinOp.eql v17 (AV.str [112, 117, 116, 114]) fun v212 =>
 CNDC v212
 (ST 1 (AV.ptr nx19 0) (AV.int IntKind.i64 7) H21 fun H213 =>
 BS BinOp.eql v17 (AV.str [112, 117, 116, 114]) fun v214 =>
 CNDC v214
 (ST 1 (AV.ptr nx19 0) (AV.int IntKind.i64 8) H213 fun H215 =>
 za Tryd.prog 75 [AV.ptr nx19 0, AV.ptr nx 0, AV.ptr (nx + 1) 0] H215 (nx19 + 1) (zaa nx19 nx Q))
 (za Tryd.prog 75 [AV.ptr nx19 0, AV.ptr nx 0, AV.ptr (nx + 1) 0] H213 (nx19 + 1) (zaa nx19 nx Q)))
 (LD false 1 (AV.ptr nx 0) H21 fun v242 =>
 za Tryd.prog 63 [v242, AV.int IntKind.i64 1] H21 (nx19 + 1) (zl nx nx19 Q))))))))))
def zef (nx : Nat) (Q : QT) (_ : AV) (H14 : Heap) (nx15 : Nat) : Prop :=
 LD false 1 (AV.ptr nx 0) H14 fun v16 =>
 za Tryd.prog 64 [v16] H14 nx15 (zh nx Q)
def zbb (nx : Nat) (Q : QT) (v6 : AV) (H7 : Heap) (nx8 : Nat) : Prop :=
 UO UnOp.not v6 fun v9 =>
 CNDC v9
 (ST 5 (AV.ptr (nx + 2) 0) (AV.agg [AV.int IntKind.i64 0, AV.str [], AV.nils, AV.nils, AV.nils]) H7 fun H10 =>
 LD true 5 (AV.ptr (nx + 2) 0) H10 fun v11 =>
 Q v11 H10 nx8)
 (LD false 1 (AV.ptr nx 0) H7 fun v12 =>
 za Tryd.prog 43 [v12, AV.int IntKind.u8 40] H7 nx8 (zef nx Q))
def zcr (a0 a1 : AV) (H : Heap) (nx : Nat) (Q : QT) : Prop :=
 a0.sure = true ∧
 PUTH H nx (AObj.row a0.cells.length a0.cells) fun H1 =>
 a1.sure = true ∧
 PUTH H1 (nx + 1) (AObj.row a1.cells.length a1.cells) fun H2 =>
 PUTH H2 (nx + 2) (AObj.row 5 [AV.int IntKind.i64 0, AV.str [], AV.nils, AV.nils, AV.nils]) fun H3 =>
 LD false 1 (AV.ptr nx 0) H3 fun v4 =>
 LD false 1 (AV.ptr (nx + 1) 0) H3 fun v5 =>
 za Tryd.prog 74 [v4, v5] H3 (nx + 3) (zbb nx Q)
theorem zdm (a0 a1 : AV) (H : Heap) (nx : Nat) (Q : QT) : zcr a0 a1 H nx Q → za Tryd.prog 65 [a0, a1] H nx Q :=
  zg (lv := lvOf []) (c := zj Tryd.f65) zu zx mixed Tryd.func65 (by kernel_rfl) (by kernel_rfl) (by kernel_rfl) (by kernel_rfl) (by kernel_rfl)
def zch (xs2 : List AV) (K1 : J3) (v13 : AV) (H14 : Heap) (nx15 : Nat) : Prop :=
 BSL 1 5 [AV.int IntKind.i64 0, AV.str [], AV.nils, AV.nils, AV.nils] [(0, v13)] fun cells16 =>
 PUTH H14 nx15 (AObj.row 5 cells16) fun H17 =>
 APP 5 96 (nth xs2 2) (AV.slc nx15 0 1) H17 (nx15 + 1) fun v18 H19 nx20 =>
 K1 [nth xs2 0, nth xs2 1, v18] H19 nx20
def zba (Q : QT) (xs2 : List AV) (v21 : AV) (H22 : Heap) (nx23 : Nat) : Prop :=
 Q (nth xs2 2) H22 nx23
def zcg (xs2 : List AV) (K1 : J3) (Q : QT) (v9 : AV) (H10 : Heap) (nx11 : Nat) : Prop :=
 BI BinOp.neq v9 (AV.int IntKind.u8 41) fun v12 =>
 CNDC v12
 (za Tryd.prog 65 [nth xs2 0, nth xs2 1] H10 nx11 (zch xs2 K1))
 (za Tryd.prog 43 [nth xs2 0, AV.int IntKind.u8 41] H10 nx11 (zba Q xs2))
def zaz (Q : QT) (K1 : J3) (xs2 : List AV) (H3 : Heap) (nx4 : Nat) : Prop :=
 NC (nth xs2 0) fun v5 =>
 FA 2 v5 fun v6 =>
 LD false 1 v6 H3 fun v7 =>
 BI BinOp.eql v7 (AV.int IntKind.i64 0) fun v8 =>
 CND v8
 (za Tryd.prog 42 [nth xs2 0] H3 nx4 (zcg xs2 K1 Q))
 (za Tryd.prog 43 [nth xs2 0, AV.int IntKind.u8 41] H3 nx4 (zba Q xs2))
def zee (a0 a1 : AV) (H : Heap) (nx : Nat) (Q : QT) : Prop :=
 LP (zaz Q) [a0, a1, AV.nils] H nx
theorem zih (a0 a1 : AV) (H : Heap) (nx : Nat) (Q : QT) : zee a0 a1 H nx Q → za Tryd.prog 45 [a0, a1] H nx Q :=
  zg (lv := lvOf [(2, 2, [0, 1, 5])]) (c := zj Tryd.f45) zu zx mixed Tryd.func45 (by kernel_rfl) (by kernel_rfl) (by kernel_rfl) (by kernel_rfl) (by kernel_rfl)
def zha (H38 : Heap) (nx39 : Nat) (v42 : AV) (xs30 : List AV) (v41 : AV) (rd43 : List Nat) (K29 : J3) (v44 : AV) (_ : List Nat) (fr46 : List Nat) (D47 : zn) : Prop :=
 BSL 1 1 [AV.str []] [(0, v44)] fun cells48 =>
 PUTH (H38.apply D47) (nx39 + fr46.length) (AObj.row 1 cells48) fun H49 =>
 zbn 1 16 v42 (AV.slc (nx39 + fr46.length) 0 1) H49 ((nx39 + fr46.length) + 1) fun v50 _ fr52 D53 =>
 FA 1 (nth xs30 2) fun v54 =>
 zbw 1 v54 v50 (H49.apply D53) fun _ _ fr57 D58 =>
 zo (domD D47) [] (
 SOFT v41 v42 D47 rd43 (
 (nx39 + fr46.length) ∉ [] ∧
 (nx39 + fr46.length) ∉ rd43 ∧
 K29 [nth xs30 0, nth xs30 1, nth xs30 2] ((H49.apply D53).apply D58) ((((nx39 + fr46.length) + 1) + fr52.length) + fr57.length)))
def zgz (xs30 : List AV) (K5 : J3) (v62 : AV) (H63 : Heap) (nx64 : Nat) : Prop :=
 FA 2 (nth xs30 2) fun v65 =>
 ST 1 v65 v62 H63 fun H66 =>
 LD true 3 (nth xs30 2) H66 fun v67 =>
 BSL 1 3 [AV.str [], AV.nils, AV.nils] [(0, v67)] fun cells68 =>
 PUTH H66 nx64 (AObj.row 3 cells68) fun H69 =>
 APP 3 64 (nth xs30 1) (AV.slc nx64 0 1) H69 (nx64 + 1) fun v70 H71 nx72 =>
 K5 [nth xs30 0, v70] H71 nx72
def zcm (xs30 : List AV) (K5 : J3) (v59 : AV) (H60 : Heap) (nx61 : Nat) : Prop :=
 za Tryd.prog 45 [nth xs30 0, AV.int IntKind.i64 0] H60 nx61 (zgz xs30 K5)
def zgy (xs30 : List AV) (K29 : J3) (K5 : J3) (v37 : AV) (H38 : Heap) (nx39 : Nat) : Prop :=
 BI BinOp.neq v37 (AV.int IntKind.u8 41) fun v40 =>
 CNDC v40
 (FA 1 (nth xs30 2) fun v41 =>
 LDR false 1 v41 H38 fun v42 rd43 =>
 zm Tryd.prog (AV.clo 44 []) [nth xs30 0] H38 nx39 (zha H38 nx39 v42 xs30 v41 rd43 K29))
 (za Tryd.prog 43 [nth xs30 0, AV.int IntKind.u8 41] H38 nx39 (zcm xs30 K5))
def zdv (K5 : J3) (K29 : J3) (xs30 : List AV) (H31 : Heap) (nx32 : Nat) : Prop :=
 NC (nth xs30 0) fun v33 =>
 FA 2 v33 fun v34 =>
 LD false 1 v34 H31 fun v35 =>
 BI BinOp.eql v35 (AV.int IntKind.i64 0) fun v36 =>
 CND v36
 (za Tryd.prog 42 [nth xs30 0] H31 nx32 (zgy xs30 K29 K5))
 (za Tryd.prog 43 [nth xs30 0, AV.int IntKind.u8 41] H31 nx32 (zcm xs30 K5))
def zkx (K5 : J3) (xs6 : List AV) (nx22 : Nat) (v26 : AV) (H27 : Heap) (nx28 : Nat) : Prop :=
 LP (zdv K5) [nth xs6 0, nth xs6 1, AV.ptr nx22 0] H27 nx28
def zkw (xs6 : List AV) (K5 : J3) (v20 : AV) (H21 : Heap) (nx22 : Nat) : Prop :=
 BD (zp tab [(9, 0), (32, 1), (41, 2)]) [AV.str [], AV.nils, AV.nils] [(0, v20)] fun v23 =>
 PUTH H21 nx22 (AObj.row 3 [AV.str [], AV.nils, AV.nils]) fun H24 =>
 ST 3 (AV.ptr nx22 0) v23 H24 fun H25 =>
 za Tryd.prog 43 [nth xs6 0, AV.int IntKind.u8 40] H25 (nx22 + 1) (zkx K5 xs6 nx22)
def zgx (xs6 : List AV) (K5 : J3) (v17 : AV) (H18 : Heap) (nx19 : Nat) : Prop :=
 za Tryd.prog 44 [nth xs6 0] H18 nx19 (zkw xs6 K5)
def zgw (xs6 : List AV) (K5 : J3) (Q : QT) (v13 : AV) (H14 : Heap) (nx15 : Nat) : Prop :=
 BI BinOp.neq v13 (AV.int IntKind.u8 0) fun v16 =>
 CNDC v16
 (za Tryd.prog 43 [nth xs6 0, AV.int IntKind.u8 40] H14 nx15 (zgx xs6 K5))
 (NC (nth xs6 0) fun v87 =>
 FA 2 v87 fun v88 =>
 LD false 1 v88 H14 fun v89 =>
 BI BinOp.neq v89 (AV.int IntKind.i64 0) fun v90 =>
 CNDC v90
 (NC (nth xs6 0) fun v91 =>
 FA 2 v91 fun v92 =>
 LDR false 1 v92 H14 fun v93 _ =>
 Q (AV.tup [AV.nils, v93]) H14 nx15)
 (Q (AV.tup [nth xs6 1, AV.int IntKind.i64 0]) H14 nx15))
def zgv (Q : QT) (K5 : J3) (xs6 : List AV) (H7 : Heap) (nx8 : Nat) : Prop :=
 NC (nth xs6 0) fun v9 =>
 FA 2 v9 fun v10 =>
 LD false 1 v10 H7 fun v11 =>
 BI BinOp.eql v11 (AV.int IntKind.i64 0) fun v12 =>
 CND v12
 (za Tryd.prog 42 [nth xs6 0] H7 nx8 (zgw xs6 K5 Q))
 (NC (nth xs6 0) fun v95 =>
 FA 2 v95 fun v96 =>
 LD false 1 v96 H7 fun v97 =>
 BI BinOp.neq v97 (AV.int IntKind.i64 0) fun v98 =>
 CNDC v98
 (NC (nth xs6 0) fun v99 =>
 FA 2 v99 fun v100 =>
 LDR false 1 v100 H7 fun v101 _ =>
 Q (AV.tup [AV.nils, v101]) H7 nx8)
 (Q (AV.tup [nth xs6 1, AV.int IntKind.i64 0]) H7 nx8))
def zgu (a0 : AV) (H : Heap) (nx : Nat) (Q : QT) : Prop :=
 LNS a0 fun v1 =>
 BI BinOp.gtr v1 (AV.int IntKind.i64 1500) fun v2 =>
 CNDC v2
 (Q (AV.tup [AV.nils, AV.int IntKind.i64 4]) H nx)
 (BD (zp tab [(9, 0), (3, 1), (23, 2)]) [AV.str [], AV.int IntKind.i64 0, AV.int IntKind.i64 0] [(0, a0)] fun v3 =>
 v3.sure = true ∧
 PUTH H nx (AObj.row v3.cells.length v3.cells) fun H4 =>
 LP (zgv Q) [AV.ptr nx 0, AV.nils] H4 (nx + 1))
theorem zmr (a0 : AV) (H : Heap) (nx : Nat) (Q : QT) : zgu a0 H nx Q → za Tryd.prog 21 [a0] H nx Q :=
  zg (lv := lvOf [(2, 5, [4, 5]), (2, 9, [4, 5, 6])]) (c := zj Tryd.f21) zu zx mixed Tryd.func21 (by kernel_rfl) (by kernel_rfl) (by kernel_rfl) (by kernel_rfl) (by kernel_rfl)
def zgk (Q : QT) (H21 : Heap) (nx22 : Nat) (xs20 : List AV) (K19 : J3) (v36 : AV) (_ : List Nat) (fr38 : List Nat) (D39 : zn) : Prop :=
 UO UnOp.not v36 fun v40 =>
 CNDC v40
 (Q (AV.bool false) (H21.apply D39) (nx22 + fr38.length))
 (BI BinOp.add (nth xs20 3) (AV.int IntKind.i64 1) fun v41 =>
 K19 [nth xs20 0, nth xs20 1, nth xs20 2, v41] (H21.apply D39) (nx22 + fr38.length))
def zcz (Q : QT) (K19 : J3) (xs20 : List AV) (H21 : Heap) (nx22 : Nat) : Prop :=
 BI BinOp.lss (nth xs20 3) (nth xs20 2) fun v23 =>
 CNDC v23
 (FA 3 (nth xs20 0) fun v24 =>
 LDR false 1 v24 H21 fun v25 _ =>
 IA 4 v25 (nth xs20 3) fun v27 =>
 LDR true 4 v27 H21 fun v28 _ =>
 FA 3 (nth xs20 1) fun v30 =>
 LDR false 1 v30 H21 fun v31 _ =>
 IA 4 v31 (nth xs20 3) fun v33 =>
 LDR true 4 v33 H21 fun v34 _ =>
 zm Tryd.prog (AV.clo 66 []) [v28, v34] H21 nx22 (zgk Q H21 nx22 xs20 K19))
 (Q (AV.bool true) H21 nx22)
def zgj (a0 a1 : AV) (H : Heap) (nx : Nat) (Q : QT) : Prop :=
 a0.sure = true ∧
 PUTH H nx (AObj.row a0.cells.length a0.cells) fun H1 =>
 a1.sure = true ∧
 PUTH H1 (nx + 1) (AObj.row a1.cells.length a1.cells) fun H2 =>
 LD false 1 (AV.ptr nx 0) H2 fun v3 =>
 LD false 1 (AV.ptr (nx + 1) 0) H2 fun v4 =>
 BI BinOp.neq v3 v4 fun v5 =>
 CND v5
 (Q (AV.bool false) H2 (nx + 2))
 (LD false 1 (AV.ptr nx 1) H2 fun v6 =>
 LD false 1 (AV.ptr (nx + 1) 1) H2 fun v7 =>
 BI BinOp.neq v6 v7 fun v8 =>
 CND v8
 (Q (AV.bool false) H2 (nx + 2))
 (LD false 1 (AV.ptr nx 2) H2 fun v9 =>
 LD false 1 (AV.ptr (nx + 1) 2) H2 fun v10 =>
 BS BinOp.neq v9 v10 fun v11 =>
 CND v11
 (Q (AV.bool false) H2 (nx + 2))
 (LD false 1 (AV.ptr nx 3) H2 fun v12 =>
 LNL v12 fun v13 =>
 LD false 1 (AV.ptr (nx + 1) 3) H2 fun v14 =>
 LNL v14 fun v15 =>
 BI BinOp.neq v13 v15 fun v16 =>
 CNDC v16
 (Q (AV.bool false) H2 (nx + 2))
 (LD false 1 (AV.ptr nx 3) H2 fun v17 =>
 LNL v17 fun v18 =>
 LP (zcz Q) [AV.ptr nx 0, AV.ptr (nx + 1) 0, v18, AV.int IntKind.i64 0] H2 (nx + 2)))))
theorem zjk (a0 a1 : AV) (H : Heap) (nx : Nat) (Q : QT) : zgj a0 a1 H nx Q → za Tryd.prog 66 [a0, a1] H nx Q :=
  zg (lv := lvOf [(2, 4, [2, 3, 36, 37])]) (c := zj Tryd.f66) zu zx mixed Tryd.func66 (by kernel_rfl) (by kernel_rfl) (by kernel_rfl) (by kernel_rfl) (by kernel_rfl)
def zey (Q : QT) (H45 : Heap) (nx46 : Nat) (xs44 : List AV) (K43 : J3) (v60 : AV) (_ : List Nat) (fr62 : List Nat) (D63 : zn) : Prop :=
 UO UnOp.not v60 fun v64 =>
 CNDC v64
 (Q (AV.bool false) (H45.apply D63) (nx46 + fr62.length))
 (BI BinOp.add (nth xs44 7) (AV.int IntKind.i64 1) fun v65 =>
 K43 [nth xs44 0, nth xs44 1, nth xs44 2, nth xs44 3, nth xs44 4, nth xs44 5, nth xs44 6, v65] (H45.apply D63) (nx46 + fr62.length))
def zcp (Q : QT) (K5 : J3) (K43 : J3) (xs44 : List AV) (H45 : Heap) (nx46 : Nat) : Prop :=
 BI BinOp.lss (nth xs44 7) (nth xs44 6) fun v47 =>
 CNDC v47
 (FA 2 (nth xs44 1) fun v48 =>
 LDR false 1 v48 H45 fun v49 _ =>
 IA 4 v49 (nth xs44 7) fun v51 =>
 LDR true 4 v51 H45 fun v52 _ =>
 FA 2 (nth xs44 2) fun v54 =>
 LDR false 1 v54 H45 fun v55 _ =>
 IA 4 v55 (nth xs44 7) fun v57 =>
 LDR true 4 v57 H45 fun v58 _ =>
 zm Tryd.prog (AV.clo 66 []) [v52, v58] H45 nx46 (zey Q H45 nx46 xs44 K43))
 (BI BinOp.add (nth xs44 5) (AV.int IntKind.i64 1) fun v66 =>
 K5 [nth xs44 0, nth xs44 3, nth xs44 4, v66] H45 nx46)
def zex (Q : QT) (nx8 : Nat) (K5 : J3) (xs6 : List AV) (v37 : AV) (H38 : Heap) (nx39 : Nat) : Prop :=
 UO UnOp.not v37 fun v40 =>
 CNDC v40
 (Q (AV.bool false) H38 nx39)
 (LD false 1 (AV.ptr nx8 2) H38 fun v41 =>
 LNL v41 fun v42 =>
 LP (zcp Q K5) [nth xs6 0, AV.ptr nx8 0, AV.ptr (nx8 + 1) 0, nth xs6 1, nth xs6 2, nth xs6 3, v42, AV.int IntKind.i64 0] H38 nx39)
def zew (Q : QT) (nx8 : Nat) (K5 : J3) (xs6 : List AV) (v31 : AV) (H32 : Heap) (nx33 : Nat) : Prop :=
 UO UnOp.not v31 fun v34 =>
 CND v34
 (Q (AV.bool false) H32 nx33)
 (LD false 1 (AV.ptr nx8 4) H32 fun v35 =>
 LD false 1 (AV.ptr (nx8 + 1) 4) H32 fun v36 =>
 za Tryd.prog 46 [v35, v36] H32 nx33 (zex Q nx8 K5 xs6))
def zco (Q : QT) (K5 : J3) (xs6 : List AV) (H7 : Heap) (nx8 : Nat) : Prop :=
 BI BinOp.lss (nth xs6 3) (nth xs6 2) fun v9 =>
 CNDC v9
 (IA 5 (nth xs6 1) (nth xs6 3) fun v10 =>
 LD true 5 v10 H7 fun v11 =>
 PUTH H7 nx8 (AObj.row 5 [AV.int IntKind.i64 0, AV.str [], AV.nils, AV.nils, AV.nils]) fun H12 =>
 ST 5 (AV.ptr nx8 0) v11 H12 fun H13 =>
 IA 5 (nth xs6 0) (nth xs6 3) fun v14 =>
 LD true 5 v14 H13 fun v15 =>
 PUTH H13 (nx8 + 1) (AObj.row 5 [AV.int IntKind.i64 0, AV.str [], AV.nils, AV.nils, AV.nils]) fun H16 =>
 ST 5 (AV.ptr (nx8 + 1) 0) v15 H16 fun H17 =>
 LD false 1 (AV.ptr nx8 0) H17 fun v18 =>
 LD false 1 (AV.ptr (nx8 + 1) 0) H17 fun v19 =>
 BI BinOp.neq v18 v19 fun v20 =>
 CND v20
 (Q (AV.bool false) H17 (nx8 + 2))
 (LD false 1 (AV.ptr nx8 1) H17 fun v21 =>
 LD false 1 (AV.ptr (nx8 + 1) 1) H17 fun v22 =>
 BS BinOp.neq v21 v22 fun v23 =>
 CND v23
 (Q (AV.bool false) H17 (nx8 + 2))
 (LD false 1 (AV.ptr nx8 2) H17 fun v24 =>
 LNL v24 fun v25 =>
 LD false 1 (AV.ptr (nx8 + 1) 2) H17 fun v26 =>
 LNL v26 fun v27 =>
 BI BinOp.neq v25 v27 fun v28 =>
 CND v28
 (Q (AV.bool false) H17 (nx8 + 2))
 (LD false 1 (AV.ptr nx8 3) H17 fun v29 =>
 LD false 1 (AV.ptr (nx8 + 1) 3) H17 fun v30 =>
 za Tryd.prog 46 [v29, v30] H17 (nx8 + 2) (zew Q nx8 K5 xs6)))))
 (Q (AV.bool true) H7 nx8)
def zev (a0 a1 : AV) (H : Heap) (nx : Nat) (Q : QT) : Prop :=
 LNL a0 fun v1 =>
 LNL a1 fun v2 =>
 BI BinOp.neq v1 v2 fun v3 =>
 CNDC v3
 (Q (AV.bool false) H nx)
 (LNL a0 fun v4 =>
 LP (zco Q) [a1, a0, v4, AV.int IntKind.i64 0] H nx)
theorem zix (a0 a1 : AV) (H : Heap) (nx : Nat) (Q : QT) : zev a0 a1 H nx Q → za Tryd.prog 46 [a0, a1] H nx Q :=
  zg (lv := lvOf [(2, 4, [1, 14, 15, 16]), (2, 10, [1, 6, 7, 14, 15, 16, 64, 65])]) (c := zj Tryd.f46) zu zx mixed Tryd.func46 (by kernel_rfl) (by kernel_rfl) (by kernel_rfl) (by kernel_rfl) (by kernel_rfl)
def zdk (Q : QT) (K5 : J3) (K47 : J3) (xs48 : List AV) (H49 : Heap) (nx50 : Nat) : Prop :=
 BI BinOp.lss (nth xs48 6) (nth xs48 5) fun v51 =>
 CNDC v51
 (IA 3 (nth xs48 0) (nth xs48 2) fun v52 =>
 FA 1 v52 fun v53 =>
 LDR false 1 v53 H49 fun v54 _ =>
 IA 1 v54 (nth xs48 6) fun v56 =>
 LDR false 1 v56 H49 fun v57 _ =>
 IA 3 (nth xs48 1) (nth xs48 2) fun v59 =>
 FA 1 v59 fun v60 =>
 LDR false 1 v60 H49 fun v61 _ =>
 IA 1 v61 (nth xs48 6) fun v63 =>
 LDR false 1 v63 H49 fun v64 _ =>
 BS BinOp.neq v57 v64 fun v66 =>
 CNDC v66
 (Q (AV.bool false) H49 nx50)
 (BI BinOp.add (nth xs48 6) (AV.int IntKind.i64 1) fun v67 =>
 K47 [nth xs48 0, nth xs48 1, nth xs48 2, nth xs48 3, nth xs48 4, nth xs48 5, v67] H49 nx50))
 (BI BinOp.add (nth xs48 4) (AV.int IntKind.i64 1) fun v68 =>
 K5 [nth xs48 0, nth xs48 1, nth xs48 3, v68] H49 nx50)
def zhf (Q : QT) (H7 : Heap) (nx8 : Nat) (xs6 : List AV) (K5 : J3) (v38 : AV) (_ : List Nat) (fr40 : List Nat) (D41 : zn) : Prop :=
 UO UnOp.not v38 fun v42 =>
 CNDC v42
 (Q (AV.bool false) (H7.apply D41) (nx8 + fr40.length))
 (IA 3 (nth xs6 0) (nth xs6 3) fun v43 =>
 FA 1 v43 fun v44 =>
 LD false 1 v44 (H7.apply D41) fun v45 =>
 LNL v45 fun v46 =>
 LP (zdk Q K5) [nth xs6 0, nth xs6 1, nth xs6 3, nth xs6 2, nth xs6 3, v46, AV.int IntKind.i64 0] (H7.apply D41) (nx8 + fr40.length))
def zdj (Q : QT) (K5 : J3) (xs6 : List AV) (H7 : Heap) (nx8 : Nat) : Prop :=
 BI BinOp.lss (nth xs6 3) (nth xs6 2) fun v9 =>
 CNDC v9
 (IA 3 (nth xs6 0) (nth xs6 3) fun v10 =>
 FA 0 v10 fun v11 =>
 LDR false 1 v11 H7 fun v12 _ =>
 IA 3 (nth xs6 1) (nth xs6 3) fun v14 =>
 FA 0 v14 fun v15 =>
 LDR false 1 v15 H7 fun v16 _ =>
 BS BinOp.neq v12 v16 fun v18 =>
 CND v18
 (Q (AV.bool false) H7 nx8)
 (IA 3 (nth xs6 0) (nth xs6 3) fun v19 =>
 FA 1 v19 fun v20 =>
 LDR false 1 v20 H7 fun v21 _ =>
 LNL v21 fun v23 =>
 IA 3 (nth xs6 1) (nth xs6 3) fun v24 =>
 FA 1 v24 fun v25 =>
 LDR false 1 v25 H7 fun v26 _ =>
 LNL v26 fun v28 =>
 BI BinOp.neq v23 v28 fun v29 =>
 CND v29
 (Q (AV.bool false) H7 nx8)
 (IA 3 (nth xs6 0) (nth xs6 3) fun v30 =>
 FA 2 v30 fun v31 =>
 LDR false 1 v31 H7 fun v32 _ =>
 IA 3 (nth xs6 1) (nth xs6 3) fun v34 =>
 FA 2 v34 fun v35 =>
 LDR false 1 v35 H7 fun v36 _ =>
 zm Tryd.prog (AV.clo 46 []) [v32, v36] H7 nx8 (zhf Q H7 nx8 xs6 K5))))
 (Q (AV.bool true) H7 nx8)
def zhe (a0 a1 : AV) (H : Heap) (nx : Nat) (Q : QT) : Prop :=
 LNL a0 fun v1 =>
 LNL a1 fun v2 =>
 BI BinOp.neq v1 v2 fun v3 =>
 CNDC v3
 (Q (AV.bool false) H nx)
 (LNL a0 fun v4 =>
 LP (zdj Q) [a0, a1, v4, AV.int IntKind.i64 0] H nx)
theorem zjx (a0 a1 : AV) (H : Heap) (nx : Nat) (Q : QT) : zhe a0 a1 H nx Q → za Tryd.prog 22 [a0, a1] H nx Q :=
  zg (lv := lvOf [(2, 4, [0, 1, 13, 14]), (2, 9, [0, 1, 5, 13, 14, 62, 63])]) (c := zj Tryd.f22) zu zx mixed Tryd.func22 (by kernel_rfl) (by kernel_rfl) (by kernel_rfl) (by kernel_rfl) (by kernel_rfl)
def zle (Q : QT) (K4 : J3) (xs5 : List AV) (H6 : Heap) (nx7 : Nat) : Prop :=
 BI BinOp.lss (nth xs5 2) (nth xs5 1) fun v8 =>
 CNDC v8
 (IX (nth xs5 0) (nth xs5 2) fun v9 =>
 BI BinOp.lss v9 (AV.int IntKind.u8 32) fun v10 =>
 CND v10
 (Q (AV.bool false) H6 nx7)
 (IX (nth xs5 0) (nth xs5 2) fun v11 =>
 BI BinOp.gtr v11 (AV.int IntKind.u8 126) fun v12 =>
 CND v12
 (Q (AV.bool false) H6 nx7)
 (IX (nth xs5 0) (nth xs5 2) fun v13 =>
 BI BinOp.eql v13 (AV.int IntKind.u8 39) fun v14 =>
 CNDC v14
 (Q (AV.bool false) H6 nx7)
 (BI BinOp.add (nth xs5 2) (AV.int IntKind.i64 1) fun v15 =>
 K4 [nth xs5 0, nth xs5 1, v15] H6 nx7))))
 (Q (AV.bool true) H6 nx7)
def zhr (a0 : AV) (H : Heap) (nx : Nat) (Q : QT) : Prop :=
 LNS a0 fun v1 =>
 BI BinOp.gtr v1 (AV.int IntKind.i64 12) fun v2 =>
 CNDC v2
 (Q (AV.bool false) H nx)
 (LNS a0 fun v3 =>
 LP (zle Q) [a0, v3, AV.int IntKind.i64 0] H nx)
theorem zna (a0 : AV) (H : Heap) (nx : Nat) (Q : QT) : zhr a0 H nx Q → za Tryd.prog 24 [a0] H nx Q :=
  zg (lv := lvOf [(2, 4, [0, 8, 9])]) (c := zj Tryd.f24) zu zx mixed Tryd.func24 (by kernel_rfl) (by kernel_rfl) (by kernel_rfl) (by kernel_rfl) (by kernel_rfl)
def ziq (Q : QT) (v28 : AV) (H29 : Heap) (nx30 : Nat) : Prop :=
 Q v28 H29 nx30
def zip (Q : QT) (v24 : AV) (H25 : Heap) (nx26 : Nat) : Prop :=
 UO UnOp.not v24 fun v27 =>
 CND v27
 (za Tryd.prog 24 [AV.str [97, 32, 98]] H25 nx26 (ziq Q))
 (Q (AV.bool false) H25 nx26)
def zio (Q : QT) (v21 : AV) (H22 : Heap) (nx23 : Nat) : Prop :=
 CND v21
 (za Tryd.prog 23 [AV.str [103, 111]] H22 nx23 (zip Q))
 (Q (AV.bool false) H22 nx23)
def zin (Q : QT) (v1 : AV) (H2 : Heap) (nx3 : Nat) : Prop :=
 EX v1 0 fun v4 =>
 EX v1 1 fun v5 =>
 BI BinOp.eql v5 (AV.int IntKind.i64 0) fun v6 =>
 CND v6
 (LNL v4 fun v7 =>
 BI BinOp.eql v7 (AV.int IntKind.i64 1) fun v8 =>
 CND v8
 (IA 3 v4 (AV.int IntKind.i64 0) fun v9 =>
 FA 2 v9 fun v10 =>
 LD false 1 v10 H2 fun v11 =>
 LNL v11 fun v12 =>
 BI BinOp.eql v12 (AV.int IntKind.i64 2) fun v13 =>
 CND v13
 (IA 3 v4 (AV.int IntKind.i64 0) fun v14 =>
 FA 2 v14 fun v15 =>
 LD false 1 v15 H2 fun v16 =>
 IA 5 v16 (AV.int IntKind.i64 0) fun v17 =>
 FA 0 v17 fun v18 =>
 LD false 1 v18 H2 fun v19 =>
 BI BinOp.eql v19 (AV.int IntKind.i64 1) fun v20 =>
 CND v20
 (za Tryd.prog 23 [AV.str [97, 98]] H2 nx3 (zio Q))
 (Q (AV.bool false) H2 nx3))
 (Q (AV.bool false) H2 nx3))
 (Q (AV.bool false) H2 nx3))
 (Q (AV.bool false) H2 nx3)
def zim (H : Heap) (nx : Nat) (Q : QT) : Prop :=
 za Tryd.prog 21 [AV.str [40, 109, 97, 105, 110, 32, 40, 41, 32, 40, 108, 101, 116, 32, 120, 32, 40, 43, 32, 49, 32, 50, 41, 41, 32, 40, 115, 97, 121, 32, 120, 41, 41]] H nx (zin Q)
theorem zla (H : Heap) (nx : Nat) (Q : QT) : zim  H nx Q → za Tryd.prog 26 [] H nx Q :=
  zg (lv := lvOf []) (c := zj Tryd.f26) zu zx mixed Tryd.func26 (by kernel_rfl) (by kernel_rfl) (by kernel_rfl) (by kernel_rfl) (by kernel_rfl)
def zfd (Q : QT) (v44 : AV) (H45 : Heap) (nx46 : Nat) : Prop :=
 Q v44 H45 nx46
def zfc (v37 : AV) (v36 : AV) (Q : QT) (v38 : AV) (H39 : Heap) (nx40 : Nat) : Prop :=
 EX v38 0 fun v41 =>
 EX v38 1 fun v42 =>
 BI BinOp.eql v37 v42 fun v43 =>
 CND v43
 (za Tryd.prog 22 [v36, v41] H39 nx40 (zfd Q))
 (Q (AV.bool false) H39 nx40)
def zfb (xs7 : List AV) (Q : QT) (v33 : AV) (H34 : Heap) (nx35 : Nat) : Prop :=
 EX v33 0 fun v36 =>
 EX v33 1 fun v37 =>
 za Tryd.prog 21 [nth xs7 1] H34 nx35 (zfc v37 v36 Q)
def zcq (Q : QT) (K6 : J3) (xs7 : List AV) (H8 : Heap) (nx9 : Nat) : Prop :=
 BI BinOp.lss (nth xs7 3) (nth xs7 2) fun v10 =>
 CNDC v10
 (IX (nth xs7 0) (nth xs7 3) fun v11 =>
 BI BinOp.eql v11 (AV.int IntKind.u8 39) fun v12 =>
 CNDC v12
 (Q (AV.bool true) H8 nx9)
 (BI BinOp.eql v11 (AV.int IntKind.u8 40) fun v13 =>
 CNDC v13
 (BS BinOp.add (nth xs7 1) (AV.str [10]) fun v14 =>
 BI BinOp.add (nth xs7 3) (AV.int IntKind.i64 1) fun v15 =>
 SLS (nth xs7 0) (some (nth xs7 3)) (some v15) fun v16 =>
 BS BinOp.add v14 v16 fun v17 =>
 BS BinOp.add v17 (AV.str [32]) fun v18 =>
 BI BinOp.add (nth xs7 3) (AV.int IntKind.i64 1) fun v19 =>
 K6 [nth xs7 0, v18, nth xs7 2, v19] H8 nx9)
 (BI BinOp.eql v11 (AV.int IntKind.u8 41) fun v20 =>
 CNDC v20
 (BS BinOp.add (nth xs7 1) (AV.str [10]) fun v21 =>
 BI BinOp.add (nth xs7 3) (AV.int IntKind.i64 1) fun v22 =>
 SLS (nth xs7 0) (some (nth xs7 3)) (some v22) fun v23 =>
 BS BinOp.add v21 v23 fun v24 =>
 BS BinOp.add v24 (AV.str [32]) fun v25 =>
 BI BinOp.add (nth xs7 3) (AV.int IntKind.i64 1) fun v26 =>
 K6 [nth xs7 0, v25, nth xs7 2, v26] H8 nx9)
 (BI BinOp.add (nth xs7 3) (AV.int IntKind.i64 1) fun v27 =>
 SLS (nth xs7 0) (some (nth xs7 3)) (some v27) fun v28 =>
 BS BinOp.add (nth xs7 1) v28 fun v29 =>
 BI BinOp.add (nth xs7 3) (AV.int IntKind.i64 1) fun v30 =>
 K6 [nth xs7 0, v29, nth xs7 2, v30] H8 nx9))))
 (LNS (nth xs7 1) fun v31 =>
 BI BinOp.gtr v31 (AV.int IntKind.i64 1500) fun v32 =>
 CNDC v32
 (Q (AV.bool true) H8 nx9)
 (za Tryd.prog 21 [nth xs7 0] H8 nx9 (zfb xs7 Q)))
def zfa (Q : QT) (a0 : AV) (v1 : AV) (H2 : Heap) (nx3 : Nat) : Prop :=
 UO UnOp.not v1 fun v4 =>
 CNDC v4
 (Q (AV.bool false) H2 nx3)
 (LNS a0 fun v5 =>
 LP (zcq Q) [a0, AV.str [], v5, AV.int IntKind.i64 0] H2 nx3)
def zez (a0 : AV) (H : Heap) (nx : Nat) (Q : QT) : Prop :=
 za Tryd.prog 26 [] H nx (zfa Q a0)
theorem ziy (a0 : AV) (H : Heap) (nx : Nat) (Q : QT) : zez a0 H nx Q → za Tryd.prog 8 [a0] H nx Q :=
  zg (lv := lvOf [(2, 5, [0, 3, 12, 13])]) (c := zj Tryd.f8) zu zx mixed Tryd.func8 (by kernel_rfl) (by kernel_rfl) (by kernel_rfl) (by kernel_rfl) (by kernel_rfl)
def zby (v2 : AV) (H : Heap) (nx : Nat) (a0 : AV) (v1 : AV) (rd3 : List Nat) (rd5 : List Nat) (rd7 : List Nat) (Q : QT) (v9 : AV) (rd10 : List Nat) (fr11 : List Nat) (D12 : zn) : Prop :=
 LNL v2 fun v13 =>
 PUTH (H.apply D12) (nx + fr11.length) (AObj.row 4 [AV.int IntKind.i64 0, AV.int IntKind.i64 0, AV.str [], AV.nils]) fun H14 =>
 zbn 4 56 v2 (AV.slc (nx + fr11.length) 0 1) H14 ((nx + fr11.length) + 1) fun v15 _ fr17 D18 =>
 IA 4 v15 v13 fun v19 =>
 zbw 4 v19 v9 (H14.apply D18) fun _ rd21 fr22 D23 =>
 FA 2 a0 fun v24 =>
 zbw 1 v24 v15 ((H14.apply D18).apply D23) fun _ rd26 fr27 D28 =>
 zo (domD D12) [] (
 SOFT v1 v2 D12 rd3 (
 zo (domD D12) [] (
 zo (domD D12) [] (
 (nx + fr11.length) ∉ [] ∧
 (nx + fr11.length) ∉ rd3 ∧
 (nx + fr11.length) ∉ rd5 ∧
 (nx + fr11.length) ∉ rd7 ∧
 (nx + fr11.length) ∉ [] ∧
 zo (domD D12) [] (
 zo (domD D12) [(nx + fr11.length)] (
 (nx + fr11.length) ∉ rd10 ∧
 (nx + fr11.length) ∉ [] ∧
 zo (domD D23) [] (
 zo (domD D23) [] (
 zo (domD D28) [] (
 zo (domD D23) rd26 (
 zo (domD D23) (domD D28) (
 zo (domD D28) rd21 (
 Q (AV.tup []) (((H14.apply D18).apply D23).apply D28) (((((nx + fr11.length) + 1) + fr17.length) + fr22.length) + fr27.length)))))))))))))
def zbx (a0 a1 a2 : AV) (H : Heap) (nx : Nat) (Q : QT) : Prop :=
 FA 2 a0 fun v1 =>
 LDR false 1 v1 H fun v2 rd3 =>
 LDR false 1 a1 H fun v4 rd5 =>
 LDR false 1 a2 H fun v6 rd7 =>
 BI BinOp.add v6 (AV.int IntKind.i64 1) fun v8 =>
 zm Tryd.prog (AV.clo 76 []) [v4, v8] H nx (zby v2 H nx a0 v1 rd3 rd5 rd7 Q)
theorem zhp (a0 a1 a2 : AV) (H : Heap) (nx : Nat) (Q : QT) : zbx a0 a1 a2 H nx Q → za Tryd.prog 75 [a0, a1, a2] H nx Q :=
  zg (lv := lvOf []) (c := zj Tryd.f75) zu zx mixed Tryd.func75 (by kernel_rfl) (by kernel_rfl) (by kernel_rfl) (by kernel_rfl) (by kernel_rfl)
def zjn (Q : QT) (v22 : AV) (H23 : Heap) (nx24 : Nat) : Prop :=
 Q (AV.str []) H23 nx24
def zjm (Q : QT) (v38 : AV) (v51 : AV) (H52 : Heap) (nx53 : Nat) : Prop :=
 Q v38 H52 nx53
def zca (a0 : AV) (Q : QT) (v38 : AV) (v47 : AV) (H48 : Heap) (nx49 : Nat) : Prop :=
 UO UnOp.not v47 fun v50 =>
 CNDC v50
 (za Tryd.prog 63 [a0, AV.int IntKind.i64 2] H48 nx49 (zjm Q v38))
 (Q v38 H48 nx49)
def zbz (a0 : AV) (H7 : Heap) (nx : Nat) (Q : QT) (v17 : AV) (_ : List Nat) (fr19 : List Nat) (D20 : zn) : Prop :=
 BI BinOp.lss v17 (AV.int IntKind.i64 0) fun v21 =>
 CNDC v21
 (za Tryd.prog 63 [a0, AV.int IntKind.i64 8] (H7.apply D20) (nx + fr19.length) (zjn Q))
 (NC a0 fun v25 =>
 FA 0 v25 fun v26 =>
 LDR false 1 v26 (H7.apply D20) fun v27 _ =>
 NC a0 fun v29 =>
 FA 1 v29 fun v30 =>
 LDR false 1 v30 (H7.apply D20) fun v31 _ =>
 NC a0 fun v33 =>
 FA 1 v33 fun v34 =>
 LDR false 1 v34 (H7.apply D20) fun v35 _ =>
 BI BinOp.add v35 v17 fun v37 =>
 SLS v27 (some v31) (some v37) fun v38 =>
 NC a0 fun v39 =>
 FA 1 v39 fun v40 =>
 LD false 1 v40 (H7.apply D20) fun v41 =>
 BI BinOp.add v17 (AV.int IntKind.i64 1) fun v42 =>
 BI BinOp.add v41 v42 fun v43 =>
 NC a0 fun v44 =>
 FA 1 v44 fun v45 =>
 ST 1 v45 v43 (H7.apply D20) fun H46 =>
 za Tryd.prog 24 [v38] H46 (nx + fr19.length) (zca a0 Q v38))
def zea (a0 : AV) (H : Heap) (nx : Nat) (Q : QT) : Prop :=
 NC a0 fun v1 =>
 FA 1 v1 fun v2 =>
 LD false 1 v2 H fun v3 =>
 BI BinOp.add v3 (AV.int IntKind.i64 1) fun v4 =>
 NC a0 fun v5 =>
 FA 1 v5 fun v6 =>
 ST 1 v6 v4 H fun H7 =>
 NC a0 fun v8 =>
 FA 0 v8 fun v9 =>
 LDR false 1 v9 H7 fun v10 _ =>
 NC a0 fun v12 =>
 FA 1 v12 fun v13 =>
 LDR false 1 v13 H7 fun v14 _ =>
 SLS v10 (some v14) none fun v16 =>
 zm Tryd.prog (AV.clo 96 []) [v16, AV.int IntKind.u8 39] H7 nx (zbz a0 H7 nx Q)
theorem zhq (a0 : AV) (H : Heap) (nx : Nat) (Q : QT) : zea a0 H nx Q → za Tryd.prog 85 [a0] H nx Q :=
  zg (lv := lvOf []) (c := zj Tryd.f85) zu zx mixed Tryd.func85 (by kernel_rfl) (by kernel_rfl) (by kernel_rfl) (by kernel_rfl) (by kernel_rfl)
def zkv (H : Heap) (nx : Nat) (Q : QT) : Prop :=
 PUTH H nx (AObj.row 1 [AV.str [43], AV.str [45], AV.str [42], AV.str [60], AV.str [61]]) fun H1 =>
 Q (AV.slc nx 0 5) H1 (nx + 1)
theorem zmq (H : Heap) (nx : Nat) (Q : QT) : zkv  H nx Q → za Tryd.prog 86 [] H nx Q :=
  zg (lv := lvOf []) (c := zj Tryd.f86) zu zx mixed Tryd.func86 (by kernel_rfl) (by kernel_rfl) (by kernel_rfl) (by kernel_rfl) (by kernel_rfl)
def zek (nx : Nat) (Q : QT) (_ : AV) (H7 : Heap) (nx8 : Nat) : Prop :=
 LD true 4 (AV.ptr nx 0) H7 fun v9 =>
 ST 4 (AV.ptr (nx + 1) 0) v9 H7 fun H10 =>
 LD true 4 (AV.ptr (nx + 1) 0) H10 fun v11 =>
 Q v11 H10 nx8
def zcl (a0 a1 a2 : AV) (H : Heap) (nx : Nat) (Q : QT) : Prop :=
 a1.sure = true ∧
 PUTH H nx (AObj.row a1.cells.length a1.cells) fun H1 =>
 PUTH H1 (nx + 1) (AObj.row 4 [AV.int IntKind.i64 0, AV.int IntKind.i64 0, AV.str [], AV.nils]) fun H2 =>
 LD false 1 (AV.ptr nx 3) H2 fun v3 =>
 LNL v3 fun v4 =>
 BI BinOp.neq v4 a2 fun v5 =>
 CNDC v5
 (za Tryd.prog 63 [a0, AV.int IntKind.i64 5] H2 (nx + 2) (zek nx Q))
 (LD true 4 (AV.ptr nx 0) H2 fun v12 =>
 ST 4 (AV.ptr (nx + 1) 0) v12 H2 fun H13 =>
 LD true 4 (AV.ptr (nx + 1) 0) H13 fun v14 =>
 Q v14 H13 (nx + 2))
theorem zij (a0 a1 a2 : AV) (H : Heap) (nx : Nat) (Q : QT) : zcl a0 a1 a2 H nx Q → za Tryd.prog 87 [a0, a1, a2] H nx Q :=
  zg (lv := lvOf []) (c := zj Tryd.f87) zu zx mixed Tryd.func87 (by kernel_rfl) (by kernel_rfl) (by kernel_rfl) (by kernel_rfl) (by kernel_rfl)
def zcj (xs2 : List AV) (K1 : J3) (v13 : AV) (H14 : Heap) (nx15 : Nat) : Prop :=
 BSL 1 4 [AV.int IntKind.i64 0, AV.int IntKind.i64 0, AV.str [], AV.nils] [(0, v13)] fun cells16 =>
 PUTH H14 nx15 (AObj.row 4 cells16) fun H17 =>
 APP 4 56 (nth xs2 2) (AV.slc nx15 0 1) H17 (nx15 + 1) fun v18 H19 nx20 =>
 K1 [nth xs2 0, nth xs2 1, v18] H19 nx20
def zbd (Q : QT) (xs2 : List AV) (v21 : AV) (H22 : Heap) (nx23 : Nat) : Prop :=
 Q (nth xs2 2) H22 nx23
def zci (xs2 : List AV) (K1 : J3) (Q : QT) (v9 : AV) (H10 : Heap) (nx11 : Nat) : Prop :=
 BI BinOp.neq v9 (AV.int IntKind.u8 41) fun v12 =>
 CNDC v12
 (za Tryd.prog 76 [nth xs2 0, nth xs2 1] H10 nx11 (zcj xs2 K1))
 (za Tryd.prog 43 [nth xs2 0, AV.int IntKind.u8 41] H10 nx11 (zbd Q xs2))
def zbc (Q : QT) (K1 : J3) (xs2 : List AV) (H3 : Heap) (nx4 : Nat) : Prop :=
 NC (nth xs2 0) fun v5 =>
 FA 2 v5 fun v6 =>
 LD false 1 v6 H3 fun v7 =>
 BI BinOp.eql v7 (AV.int IntKind.i64 0) fun v8 =>
 CND v8
 (za Tryd.prog 42 [nth xs2 0] H3 nx4 (zci xs2 K1 Q))
 (za Tryd.prog 43 [nth xs2 0, AV.int IntKind.u8 41] H3 nx4 (zbd Q xs2))
def zeg (a0 a1 : AV) (H : Heap) (nx : Nat) (Q : QT) : Prop :=
 LP (zbc Q) [a0, a1, AV.nils] H nx
theorem zii (a0 a1 : AV) (H : Heap) (nx : Nat) (Q : QT) : zeg a0 a1 H nx Q → za Tryd.prog 88 [a0, a1] H nx Q :=
  zg (lv := lvOf [(2, 2, [0, 1, 5])]) (c := zj Tryd.f88) zu zx mixed Tryd.func88 (by kernel_rfl) (by kernel_rfl) (by kernel_rfl) (by kernel_rfl) (by kernel_rfl)
def zfv (nx : Nat) (Q : QT) (v12 : AV) (H13 : Heap) (nx14 : Nat) : Prop :=
 BD (zp tab [(3, 0), (3, 1), (9, 2), (88, 3)]) [AV.int IntKind.i64 0, AV.int IntKind.i64 0, AV.str [], AV.nils] [(0, AV.int IntKind.i64 2), (2, v12)] fun v15 =>
 ST 4 (AV.ptr nx 0) v15 H13 fun H16 =>
 LD true 4 (AV.ptr nx 0) H16 fun v17 =>
 Q v17 H16 nx14
def zfu (xs34 : List AV) (Q : QT) (v47 : AV) (H48 : Heap) (nx49 : Nat) : Prop :=
 ST 4 (nth xs34 2) v47 H48 fun H50 =>
 LD true 4 (nth xs34 2) H50 fun v51 =>
 Q v51 H50 nx49
def zft (v41 : AV) (xs34 : List AV) (Q : QT) (v43 : AV) (H44 : Heap) (nx45 : Nat) : Prop :=
 BD (zp tab [(3, 0), (3, 1), (9, 2), (88, 3)]) [AV.int IntKind.i64 0, AV.int IntKind.i64 0, AV.str [], AV.nils] [(0, AV.int IntKind.i64 4), (1, v41), (3, v43)] fun v46 =>
 za Tryd.prog 87 [nth xs34 0, v46, AV.int IntKind.i64 2] H44 nx45 (zfu xs34 Q)
def zfs (xs56 : List AV) (H63 : Heap) (D72 : zn) (nx58 : Nat) (v66 : AV) (rd67 : List Nat) (rd75 : List Nat) (Q : QT) (fr71 : List Nat) (v76 : AV) (_ : List Nat) (fr78 : List Nat) (D79 : zn) : Prop :=
 zbw 4 (nth xs56 2) v76 ((H63.apply D72).apply D79) fun _ _ fr82 D83 =>
 zo (domD D72) [] (
 zo (domD D72) [] (
 SOFT (AV.ptr nx58 1) v66 D72 rd67 (
 zo (domD D72) [] (
 zo (domD D72) [] (
 zo (domD D72) rd75 (
 zo (domD D72) [] (
 LD true 4 (nth xs56 2) (((H63.apply D72).apply D79).apply D83) fun v84 =>
 Q v84 (((H63.apply D72).apply D79).apply D83) ((((nx58 + 1) + fr71.length) + fr78.length) + fr82.length))))))))
def zfr (v66 : AV) (nx58 : Nat) (H63 : Heap) (xs56 : List AV) (rd67 : List Nat) (Q : QT) (v69 : AV) (_ : List Nat) (fr71 : List Nat) (D72 : zn) : Prop :=
 BD (zp tab [(3, 0), (3, 1), (9, 2), (88, 3)]) [AV.int IntKind.i64 0, AV.int IntKind.i64 0, AV.str [], AV.nils] [(0, v66), (3, v69)] fun v73 =>
 LDR false 1 (AV.ptr nx58 2) (H63.apply D72) fun v74 rd75 =>
 zm Tryd.prog (AV.clo 87 []) [nth xs56 0, v73, v74] (H63.apply D72) ((nx58 + 1) + fr71.length) (zfs xs56 H63 D72 nx58 v66 rd67 rd75 Q fr71)
def zfq (nx96 : Nat) (xs56 : List AV) (Q : QT) (_ : AV) (H104 : Heap) (nx105 : Nat) : Prop :=
 LD true 4 (AV.ptr nx96 0) H104 fun v106 =>
 ST 4 (nth xs56 2) v106 H104 fun H107 =>
 LD true 4 (nth xs56 2) H107 fun v108 =>
 Q v108 H107 nx105
def zan (xs56 : List AV) (Q : QT) (v94 : AV) (H95 : Heap) (nx96 : Nat) : Prop :=
 BD (zp tab [(3, 0), (3, 1), (9, 2), (88, 3)]) [AV.int IntKind.i64 0, AV.int IntKind.i64 0, AV.str [], AV.nils] [(0, AV.int IntKind.i64 11), (2, nth xs56 3), (3, v94)] fun v97 =>
 PUTH H95 nx96 (AObj.row 4 [AV.int IntKind.i64 0, AV.int IntKind.i64 0, AV.str [], AV.nils]) fun H98 =>
 ST 4 (AV.ptr nx96 0) v97 H98 fun H99 =>
 LD false 1 (AV.ptr nx96 3) H99 fun v100 =>
 LNL v100 fun v101 =>
 BI BinOp.gtr v101 (AV.int IntKind.i64 4) fun v102 =>
 CNDC v102
 (za Tryd.prog 63 [nth xs56 0, AV.int IntKind.i64 5] H99 (nx96 + 1) (zfq nx96 xs56 Q))
 (LD true 4 (AV.ptr nx96 0) H99 fun v109 =>
 ST 4 (nth xs56 2) v109 H99 fun H110 =>
 LD true 4 (nth xs56 2) H110 fun v111 =>
 Q v111 H110 (nx96 + 1))
def zfp (xs56 : List AV) (Q : QT) (_ : AV) (H91 : Heap) (nx92 : Nat) : Prop :=
 BI BinOp.add (nth xs56 1) (AV.int IntKind.i64 1) fun v93 =>
 za Tryd.prog 88 [nth xs56 0, v93] H91 nx92 (zan xs56 Q)
def zbt (xs56 : List AV) (Q : QT) (v86 : AV) (H87 : Heap) (nx88 : Nat) : Prop :=
 UO UnOp.not v86 fun v89 =>
 CNDC v89
 (za Tryd.prog 63 [nth xs56 0, AV.int IntKind.i64 7] H87 nx88 (zfp xs56 Q))
 (BI BinOp.add (nth xs56 1) (AV.int IntKind.i64 1) fun v112 =>
 za Tryd.prog 88 [nth xs56 0, v112] H87 nx88 (zan xs56 Q))
def zbs (Q : QT) (K55 : J3) (xs56 : List AV) (H57 : Heap) (nx58 : Nat) : Prop :=
 BI BinOp.lss (nth xs56 6) (nth xs56 5) fun v59 =>
 CNDC v59
 (IA 3 (nth xs56 4) (nth xs56 6) fun v60 =>
 LD true 3 v60 H57 fun v61 =>
 PUTH H57 nx58 (AObj.row 3 [AV.str [], AV.int IntKind.i64 0, AV.int IntKind.i64 0]) fun H62 =>
 ST 3 (AV.ptr nx58 0) v61 H62 fun H63 =>
 LD false 1 (AV.ptr nx58 0) H63 fun v64 =>
 BS BinOp.eql (nth xs56 3) v64 fun v65 =>
 CNDC v65
 (LDR false 1 (AV.ptr nx58 1) H63 fun v66 rd67 =>
 BI BinOp.add (nth xs56 1) (AV.int IntKind.i64 1) fun v68 =>
 zm Tryd.prog (AV.clo 88 []) [nth xs56 0, v68] H63 (nx58 + 1) (zfr v66 nx58 H63 xs56 rd67 Q))
 (BI BinOp.add (nth xs56 6) (AV.int IntKind.i64 1) fun v85 =>
 K55 [nth xs56 0, nth xs56 1, nth xs56 2, nth xs56 3, nth xs56 4, nth xs56 5, v85] H63 (nx58 + 1)))
 (za Tryd.prog 23 [nth xs56 3] H57 nx58 (zbt xs56 Q))
def zam (Q : QT) (K33 : J3) (xs34 : List AV) (H35 : Heap) (nx36 : Nat) : Prop :=
 BI BinOp.lss (nth xs34 6) (nth xs34 5) fun v37 =>
 CNDC v37
 (IA 1 (nth xs34 4) (nth xs34 6) fun v38 =>
 LD false 1 v38 H35 fun v39 =>
 BS BinOp.eql (nth xs34 3) v39 fun v40 =>
 CNDC v40
 (BI BinOp.add (nth xs34 6) (AV.int IntKind.i64 1) fun v41 =>
 BI BinOp.add (nth xs34 1) (AV.int IntKind.i64 1) fun v42 =>
 za Tryd.prog 88 [nth xs34 0, v42] H35 nx36 (zft v41 xs34 Q))
 (BI BinOp.add (nth xs34 6) (AV.int IntKind.i64 1) fun v52 =>
 K33 [nth xs34 0, nth xs34 1, nth xs34 2, nth xs34 3, nth xs34 4, nth xs34 5, v52] H35 nx36))
 (PUTH H35 nx36 (AObj.row 3 [AV.str [99, 101, 108, 108], AV.int IntKind.i64 5, AV.int IntKind.i64 2, AV.str [108, 101, 102, 116], AV.int IntKind.i64 6, AV.int IntKind.i64 1, AV.str [114, 105, 103, 104, 116], AV.int IntKind.i64 7, AV.int IntKind.i64 1, AV.str [97, 115, 107], AV.int IntKind.i64 8, AV.int IntKind.i64 1, AV.str [104, 101, 114, 101], AV.int IntKind.i64 9, AV.int IntKind.i64 0, AV.str [103, 111], AV.int IntKind.i64 10, AV.int IntKind.i64 1]) fun H53 =>
 LNL (AV.slc nx36 0 6) fun v54 =>
 LP (zbs Q) [nth xs34 0, nth xs34 1, nth xs34 2, nth xs34 3, AV.slc nx36 0 6, v54, AV.int IntKind.i64 0] H53 (nx36 + 1))
def zej (Q : QT) (a0 : AV) (a1 : AV) (nx : Nat) (v26 : AV) (v29 : AV) (H30 : Heap) (nx31 : Nat) : Prop :=
 LNL v29 fun v32 =>
 LP (zam Q) [a0, a1, AV.ptr nx 0, v26, v29, v32, AV.int IntKind.i64 0] H30 nx31
def zei (Q : QT) (a0 : AV) (a1 : AV) (nx : Nat) (v26 : AV) (H27 : Heap) (nx28 : Nat) : Prop :=
 za Tryd.prog 86 [] H27 nx28 (zej Q a0 a1 nx v26)
def zbh (v137 : AV) (nx : Nat) (Q : QT) (_ : AV) (H146 : Heap) (nx147 : Nat) : Prop :=
 BD (zp tab [(3, 0), (3, 1), (9, 2), (88, 3)]) [AV.int IntKind.i64 0, AV.int IntKind.i64 0, AV.str [], AV.nils] [(0, AV.int IntKind.i64 1), (1, v137)] fun v148 =>
 ST 4 (AV.ptr nx 0) v148 H146 fun H149 =>
 LD true 4 (AV.ptr nx 0) H149 fun v150 =>
 Q v150 H149 nx147
def zeh (v131 : AV) (nx : Nat) (Q : QT) (_ : AV) (H166 : Heap) (nx167 : Nat) : Prop :=
 BD (zp tab [(3, 0), (3, 1), (9, 2), (88, 3)]) [AV.int IntKind.i64 0, AV.int IntKind.i64 0, AV.str [], AV.nils] [(0, AV.int IntKind.i64 3), (2, v131)] fun v168 =>
 ST 4 (AV.ptr nx 0) v168 H166 fun H169 =>
 LD true 4 (AV.ptr nx 0) H169 fun v170 =>
 Q v170 H169 nx167
def zag (a0 : AV) (v131 : AV) (nx : Nat) (Q : QT) (v161 : AV) (H162 : Heap) (nx163 : Nat) : Prop :=
 UO UnOp.not v161 fun v164 =>
 CNDC v164
 (za Tryd.prog 63 [a0, AV.int IntKind.i64 7] H162 nx163 (zeh v131 nx Q))
 (BD (zp tab [(3, 0), (3, 1), (9, 2), (88, 3)]) [AV.int IntKind.i64 0, AV.int IntKind.i64 0, AV.str [], AV.nils] [(0, AV.int IntKind.i64 3), (2, v131)] fun v171 =>
 ST 4 (AV.ptr nx 0) v171 H162 fun H172 =>
 LD true 4 (AV.ptr nx 0) H172 fun v173 =>
 Q v173 H172 nx163)
def zaf (v131 : AV) (v137 : AV) (a0 : AV) (nx : Nat) (Q : QT) (v140 : AV) (H141 : Heap) (nx142 : Nat) : Prop :=
 BS BinOp.eql v140 v131 fun v143 =>
 CNDC v143
 (BI BinOp.lss v137 (AV.int IntKind.i64 (-1073741824)) fun v144 =>
 CND v144
 (za Tryd.prog 63 [a0, AV.int IntKind.i64 3] H141 nx142 (zbh v137 nx Q))
 (BI BinOp.gtr v137 (AV.int IntKind.i64 1073741824) fun v151 =>
 CNDC v151
 (za Tryd.prog 63 [a0, AV.int IntKind.i64 3] H141 nx142 (zbh v137 nx Q))
 (BD (zp tab [(3, 0), (3, 1), (9, 2), (88, 3)]) [AV.int IntKind.i64 0, AV.int IntKind.i64 0, AV.str [], AV.nils] [(0, AV.int IntKind.i64 1), (1, v137)] fun v158 =>
 ST 4 (AV.ptr nx 0) v158 H141 fun H159 =>
 LD true 4 (AV.ptr nx 0) H159 fun v160 =>
 Q v160 H159 nx142)))
 (za Tryd.prog 23 [v131] H141 nx142 (zag a0 v131 nx Q))
def zbg (v131 : AV) (a0 : AV) (nx : Nat) (Q : QT) (v134 : AV) (H135 : Heap) (nx136 : Nat) : Prop :=
 EX v134 0 fun v137 =>
 EX v134 1 fun v138 =>
 BF BinOp.eql v138 AV.inil fun v139 =>
 CND v139
 (za Tryd.prog 80 [v137] H135 nx136 (zaf v131 v137 a0 nx Q))
 (za Tryd.prog 23 [v131] H135 nx136 (zag a0 v131 nx Q))
def zck (a0 : AV) (nx : Nat) (Q : QT) (v131 : AV) (H132 : Heap) (nx133 : Nat) : Prop :=
 za Tryd.prog 79 [v131] H132 nx133 (zbg v131 a0 nx Q)
def zbf (a0 : AV) (nx : Nat) (Q : QT) (a1 : AV) (v8 : AV) (H9 : Heap) (nx10 : Nat) : Prop :=
 BI BinOp.eql v8 (AV.int IntKind.u8 39) fun v11 =>
 CNDC v11
 (za Tryd.prog 85 [a0] H9 nx10 (zfv nx Q))
 (BI BinOp.eql v8 (AV.int IntKind.u8 40) fun v18 =>
 CNDC v18
 (NC a0 fun v19 =>
 FA 1 v19 fun v20 =>
 LD false 1 v20 H9 fun v21 =>
 BI BinOp.add v21 (AV.int IntKind.i64 1) fun v22 =>
 NC a0 fun v23 =>
 FA 1 v23 fun v24 =>
 ST 1 v24 v22 H9 fun H25 =>
 za Tryd.prog 64 [a0] H25 nx10 (zei Q a0 a1 nx))
 (za Tryd.prog 64 [a0] H9 nx10 (zck a0 nx Q)))
def zbe (nx : Nat) (Q : QT) (a0 : AV) (a1 : AV) (v2 : AV) (H3 : Heap) (nx4 : Nat) : Prop :=
 UO UnOp.not v2 fun v5 =>
 CNDC v5
 (ST 4 (AV.ptr nx 0) (AV.agg [AV.int IntKind.i64 0, AV.int IntKind.i64 0, AV.str [], AV.nils]) H3 fun H6 =>
 LD true 4 (AV.ptr nx 0) H6 fun v7 =>
 Q v7 H6 nx4)
 (za Tryd.prog 42 [a0] H3 nx4 (zbf a0 nx Q a1))
def zcw (a0 a1 : AV) (H : Heap) (nx : Nat) (Q : QT) : Prop :=
 PUTH H nx (AObj.row 4 [AV.int IntKind.i64 0, AV.int IntKind.i64 0, AV.str [], AV.nils]) fun H1 =>
 za Tryd.prog 74 [a0, a1] H1 (nx + 1) (zbe nx Q a0 a1)
theorem zdn (a0 a1 : AV) (H : Heap) (nx : Nat) (Q : QT) : zcw a0 a1 H nx Q → za Tryd.prog 76 [a0, a1] H nx Q :=
  zg (lv := lvOf [(2, 19, [0, 1, 4, 8, 70, 71, 72]), (2, 26, [0, 1, 4, 8, 97, 98, 99])]) (c := zj Tryd.f76) zu zx mixed Tryd.func76 (by kernel_rfl) (by kernel_rfl) (by kernel_rfl) (by kernel_rfl) (by kernel_rfl)
end Go.Proofs.YtpllgpgdcbgalaaDoor
set_option maxRecDepth 8000
namespace Go.Proofs.YtpllgpgdcbgalaaDoor
open Go Go.RowKit
def PT (s : Str) (st : VM.St) : AObj := .row 3 [.str s, .int .i64 ((s.length - st.1.length : Nat) : Int), .int .i64 st.2]
theorem zgh (a t : Str) (e : Int) : PT (a ++ t) (t, e) = .row 3 [.str (a ++ t), .int .i64 (a.length : Int), .int .i64 e] := by
  unfold PT
  simp only [List.length_append]
  rw [Nat.add_sub_cancel]
theorem zaw {s t : Str} (h : t <:+ s) : VM.trim t <:+ s := by
  unfold VM.trim
  exact (List.dropWhile_suffix _).trans h
section
variable {g : Nat} {s : Str} {st : VM.St} {H : Heap} {n : Nat} {Q : QT}
theorem zaq {e : Int} (hg : H g = some (PT s st)) (hq : Q (.tup []) (H.put g (some (PT s (VM.badF e st)))) n) : za Tryd.prog 63 [.ptr g 0, .int .i64 e] H n Q := by
  refine zjd _ _ _ _ _ ?_
  unfold VM.badF at hq
  have hg' : H g = some (.row 3 [.str s, .int .i64 ((s.length - st.1.length : Nat) : Int), .int .i64 st.2]) := hg
  by_cases h : st.2 = 0
  · simp only [if_pos h, PT] at hq
    simp [zcv, hg', h, hq]
  · simp only [if_neg h, PT] at hq
    rw [Heap.put_same hg'] at hq
    simp [zcv, hg', h, hq]
theorem zog (hl : s.length ≤ 1500) (hs : st.1 <:+ s) (hg : H g = some (PT s st)) (hq : Q (.tup []) (H.put g (some (PT s (VM.trim st.1, st.2)))) n) : za Tryd.prog 62 [.ptr g 0] H n Q := by
  refine zil _ _ _ _ ?_
  unfold zen
  refine LP.mk (fun m xs H' n' => xs = [.ptr g 0] ∧ n' = n ∧ ∃ t, m = t.length ∧ t <:+ s ∧ VM.trim t = VM.trim st.1 ∧ H' = H.put g (some (PT s (t, st.2)))) st.1.length ⟨rfl, rfl, st.1, rfl, hs, rfl, (Heap.put_same hg).symm⟩ ?_
  rintro m xs H' n' ⟨rfl, rfl, t, rfl, ⟨a, rfl⟩, ht, rfl⟩
  rw [← ht] at hq
  have hg' : (H.put g (some (PT (a ++ t) (t, st.2)))) g = some (.row 3 [.str (a ++ t), .int .i64 (a.length : Int), .int .i64 st.2]) := by rw [Heap.put_at, zgh]
  generalize hX : Heap.put H g (some (PT (a ++ t) (t, st.2))) = HX at hg'
  have hP : ∀ o, HX.put g o = H.put g o := fun o => by rw [← hX, Heap.put_put]
  cases t with
  | nil =>
    have hq' : Q (.tup []) HX n' := by rw [← hX]; exact hq
    simp [zah, hg']
    simpa using hq'
  | cons c r =>
    have hlt : (a.length : Int) < a.length + (r.length + 1) := by omega
    have hx : (a ++ c :: r)[a.length]? = some c := by simp
    have hgd : (a ++ c :: r).getD a.length 0 = c := by rw [List.getD_eq_getElem?_getD, hx]; rfl
    have h0 : (0 : Int) ≤ a.length := by omega
    have hal : a.length ≤ 1500 := by rw [List.length_append] at hl; omega
    have hwr : IntKind.i64.wrap ((a.length : Int) + 1) = (a.length : Int) + 1 := i64w (by omega)
    have step : VM.blank c = true → r.length < (c :: r).length ∧ r <:+ a ++ c :: r ∧ VM.trim r = VM.trim st.1 ∧ H.put g (some (.row 3 [.str (a ++ c :: r), .int .i64 ((a.length : Int) + 1), .int .i64 st.2])) = H.put g (some (PT (a ++ c :: r) (r, st.2))) := fun hb => by
      refine ⟨by simp, ⟨a ++ [c], by simp⟩, by rw [← ht, zbj, if_pos hb], ?_⟩
      have := zgh (a ++ [c]) r st.2
      rw [List.append_assoc] at this
      simp only [List.cons_append, List.nil_append, List.length_append, List.length_cons, List.length_nil] at this
      rw [this]
      simp
    by_cases h32 : c = 32
    · subst h32
      obtain ⟨q1, q2, q3, q4⟩ := step rfl
      simp [zah, hg', hlt, hwr, hP]
      rw [q4]
      exact ⟨r.length, by omega, r, rfl, q2, q3, rfl⟩
    by_cases h10 : c = 10
    · subst h10
      obtain ⟨q1, q2, q3, q4⟩ := step rfl
      simp [zah, hg', hlt, hwr, hP]
      rw [q4]
      exact ⟨r.length, by omega, r, rfl, q2, q3, rfl⟩
    have n32 : ¬ (c.toNat : Int) = 32 := zcc h32 rfl
    have n10 : ¬ (c.toNat : Int) = 10 := zcc h10 rfl
    have htr : VM.trim (c :: r) = c :: r := by rw [zbj, if_neg]; simp [VM.blank, h32, h10]
    rw [htr] at hq
    have hq' : Q (.tup []) HX n' := by rw [← hX]; exact hq
    simp [zah, hg', hlt, n32, n10]
    exact hq'
theorem zfx (hl : s.length ≤ 1500) (hs : st.1 <:+ s) (hg : H g = some (PT s st)) (hq : Q (.int .u8 (VM.nxt st.1)) (H.put g (some (PT s (VM.trim st.1, st.2)))) n) : za Tryd.prog 42 [.ptr g 0] H n Q := by
  refine zjb _ _ _ _ ?_
  unfold zfl
  refine zog hl hs hg ?_
  have hs' := zaw hs
  have hnx : VM.nxt st.1 = VM.nxt (VM.trim st.1) := (VM.nxt_trim _).symm
  have htt := VM.trim_trim st.1
  rw [hnx] at hq
  generalize VM.trim st.1 = t at *
  obtain ⟨a, rfl⟩ := hs'
  have hg' : (H.put g (some (PT (a ++ t) (t, st.2)))) g = some (.row 3 [.str (a ++ t), .int .i64 (a.length : Int), .int .i64 st.2]) := by rw [Heap.put_at, zgh]
  generalize Heap.put H g (some (PT (a ++ t) (t, st.2))) = HX at *
  cases t with
  | nil =>
    have hq' : Q (.int .u8 0) HX n := hq
    simp [zbr, hg', hq']
  | cons c r =>
    have hx : (a ++ c :: r)[a.length]? = some c := by simp
    have hnx' : VM.nxt (c :: r) = if c = 0 then 1 else (c.toNat : Int) := by unfold VM.nxt; rw [htt]
    rw [hnx'] at hq
    have hle : ¬ ((a.length : Int) + (r.length + 1) ≤ a.length) := by omega
    have hlt : (a.length : Int) < a.length + (r.length + 1) := by omega
    by_cases h0 : c = 0
    · subst h0
      rw [if_pos rfl] at hq
      simp [zbr, hg', hle, hlt]
      exact hq
    · have n0 := zcc h0 (z := 0) rfl
      have hmx : max (c.toNat : Int) 1 = c.toNat := by omega
      rw [if_neg h0] at hq
      simp [zbr, hg', hle, hlt, hmx]
      exact hq
theorem zda {c : Int} (hc : c ≠ 0) (hl : s.length ≤ 1500) (hs : st.1 <:+ s) (hg : H g = some (PT s st)) (hq : Q (.tup []) (H.put g (some (PT s (VM.mustF c st)))) n) : za Tryd.prog 43 [.ptr g 0, .int .u8 c] H n Q := by
  refine zja _ _ _ _ _ ?_
  unfold zfg
  refine zfx hl hs hg ?_
  have hs' := zaw hs
  unfold VM.mustF at hq
  have hg2 : (H.put g (some (PT s (VM.trim st.1, st.2)))) g = some (PT s (VM.trim st.1, st.2)) := Heap.put_at _ _ _
  have hP : ∀ o, (H.put g (some (PT s (VM.trim st.1, st.2)))).put g o = H.put g o := fun o => Heap.put_put ..
  generalize H.put g (some (PT s (VM.trim st.1, st.2))) = HX at *
  by_cases h1 : VM.nxt st.1 = c
  · obtain ⟨x, r, ha⟩ := zhn (by rw [h1]; exact hc)
    rw [if_pos h1, ha] at hq
    rw [ha] at hg2 hs'
    obtain ⟨a, rfl⟩ := hs'
    have hg' : HX g = some (.row 3 [.str (a ++ x :: r), .int .i64 (a.length : Int), .int .i64 st.2]) := by rw [hg2, zgh]
    have hal : a.length ≤ 1500 := by rw [List.length_append] at hl; omega
    have hwr : IntKind.i64.wrap ((a.length : Int) + 1) = (a.length : Int) + 1 := i64w (by omega)
    have e : PT (a ++ x :: r) (r, st.2) = .row 3 [.str (a ++ x :: r), .int .i64 ((a.length : Int) + 1), .int .i64 st.2] := by
      have := zgh (a ++ [x]) r st.2
      rw [List.append_assoc] at this
      simp only [List.cons_append, List.nil_append, List.length_append, List.length_cons, List.length_nil] at this
      rw [this]
      simp
    have hq' : Q (.tup []) (H.put g (some (.row 3 [.str (a ++ x :: r), .int .i64 ((a.length : Int) + 1), .int .i64 st.2]))) n := by rw [← e]; exact hq
    simp [zbp, h1, hg', hP, hwr]
    exact hq'
  · rw [if_neg h1] at hq
    by_cases h0 : VM.nxt st.1 = 0
    · rw [if_pos h0] at hq
      have h01 : ¬ 0 = c := fun e => hc e.symm
      simp [zbp, h0, h01]
      refine zaq hg2 ?_
      rw [hP]; exact hq
    · rw [if_neg h0] at hq
      simp [zbp, h1, h0]
      refine zaq hg2 ?_
      rw [hP]; exact hq
theorem zkc {d : Int} (hg : H g = some (PT s st)) (hq : Q (.bool (decide (d ≤ 10) && decide (st.2 = 0))) (H.put g (some (PT s (if d ≤ 10 then st else VM.badF 9 st)))) n) : za Tryd.prog 74 [.ptr g 0, .int .i64 d] H n Q := by
  refine zje _ _ _ _ _ ?_
  by_cases h : d ≤ 10
  · rw [if_pos h, Heap.put_same hg] at hq
    have hg' : H g = some (.row 3 [.str s, .int .i64 ((s.length - st.1.length : Nat) : Int), .int .i64 st.2]) := hg
    have h' : ¬ 10 < d := by omega
    simp [h] at hq
    simp [zcx, h', hg', hq]
  · rw [if_neg h] at hq
    have h' : 10 < d := by omega
    simp [h] at hq
    simp [zcx, h']
    refine zaq hg ?_
    have hg' : (H.put g (some (PT s (VM.badF 9 st)))) g = some (.row 3 [.str s, .int .i64 ((s.length - (VM.badF 9 st).1.length : Nat) : Int), .int .i64 (VM.badF 9 st).2]) := Heap.put_at _ _ _
    have he : ¬ (VM.badF 9 st).2 = 0 := by
      unfold VM.badF
      by_cases e : st.2 = 0 <;> simp [e]
    generalize H.put g (some (PT s (VM.badF 9 st))) = HX at *
    simp [zfw, hg', he, hq]
end
end Go.Proofs.YtpllgpgdcbgalaaDoor
set_option maxRecDepth 8000
namespace Go.Proofs.YtpllgpgdcbgalaaDoor
open Go Go.RowKit
theorem zpg (c : UInt8) : decide (0 ≤ Lib.indexByte [32, 10, 40, 41, 39] c) = !VM.wordC c := by
  unfold VM.wordC
  by_cases h1 : c = 32
  · subst h1; decide
  by_cases h2 : c = 10
  · subst h2; decide
  by_cases h3 : c = 40
  · subst h3; decide
  by_cases h4 : c = 41
  · subst h4; decide
  by_cases h5 : c = 39
  · subst h5; decide
  have e : ∀ k : UInt8, c ≠ k → (k == c) = false ∧ (c == k) = false := fun k h => ⟨by simpa using fun e => h e.symm, by simpa using h⟩
  simp [Lib.indexByte, e 32 h1, e 10 h2, e 40 h3, e 41 h4, e 39 h5]
section
variable {g : Nat} {s : Str} {st : VM.St} {H : Heap} {n : Nat} {Q : QT}
theorem zsv (a w t : Str) (e : Int) : PT (a ++ w ++ t) (t, e) = .row 3 [.str (a ++ w ++ t), .int .i64 ((a.length + w.length : Nat) : Int), .int .i64 e] := by
  rw [zgh, List.length_append]
set_option maxHeartbeats 1000000 in
theorem zka (hl : s.length ≤ 1500) (hs : st.1 <:+ s) (hg : H g = some (PT s st)) (hq : Q (.str (VM.wF st).1) (H.put g (some (PT s (VM.wF st).2))) n) : za Tryd.prog 64 [.ptr g 0] H n Q := by
  refine ziz _ _ _ _ ?_
  unfold zfe
  refine zog hl hs hg ?_
  have hs' := zaw hs
  have hw : ∀ a b, VM.trim st.1 = a ++ b → (∀ x ∈ a, VM.wordC x = true) → (∀ c r, b = c :: r → VM.wordC c = false) → VM.wF st = (a, if a = [] then VM.badF (if b = [] then 8 else 2) (b, st.2) else (b, st.2)) := by
    intro a b h1 h2 h3
    have := zkd h2 h3
    unfold VM.wF
    rw [h1, this.1, this.2]
    by_cases ha : a = []
    · subst ha; simp
    · simp [ha]
  generalize VM.trim st.1 = t at *
  obtain ⟨p, rfl⟩ := hs'
  have hg' : (H.put g (some (PT (p ++ t) (t, st.2)))) g = some (.row 3 [.str (p ++ t), .int .i64 (p.length : Int), .int .i64 st.2]) := by rw [Heap.put_at, zgh]
  have hP0 : ∀ o, (H.put g (some (PT (p ++ t) (t, st.2)))).put g o = H.put g o := fun o => Heap.put_put ..
  generalize H.put g (some (PT (p ++ t) (t, st.2))) = HX at *
  simp [zff, hg']
  refine LP.mk (fun m xs H' n' => xs = [.ptr g 0, .int .i64 (p.length : Int)] ∧ n' = n ∧ ∃ a b, t = a ++ b ∧ (∀ x ∈ a, VM.wordC x = true) ∧ m = b.length ∧ H' = HX.put g (some (.row 3 [.str (p ++ t), .int .i64 ((p.length + a.length : Nat) : Int), .int .i64 st.2]))) t.length ⟨rfl, rfl, [], t, rfl, by simp, rfl, by rw [Heap.put_same]; simpa using hg'⟩ ?_
  rintro m xs H' n' ⟨rfl, rfl, a, b, rfl, ha, rfl, rfl⟩
  have hR : (HX.put g (some (.row 3 [.str (p ++ (a ++ b)), .int .i64 ((p.length + a.length : Nat) : Int), .int .i64 st.2]))) g = some (.row 3 [.str (p ++ (a ++ b)), .int .i64 ((p.length + a.length : Nat) : Int), .int .i64 st.2]) := Heap.put_at _ _ _
  have hP : ∀ o, (HX.put g (some (.row 3 [.str (p ++ (a ++ b)), .int .i64 ((p.length + a.length : Nat) : Int), .int .i64 st.2]))).put g o = H.put g o := fun o => by rw [Heap.put_put, hP0]
  have hRX : HX.put g (some (.row 3 [.str (p ++ (a ++ b)), .int .i64 ((p.length + a.length : Nat) : Int), .int .i64 st.2])) = H.put g (some (.row 3 [.str (p ++ (a ++ b)), .int .i64 ((p.length + a.length : Nat) : Int), .int .i64 st.2])) := hP0 _
  have hlen : (p ++ (a ++ b)).length = p.length + a.length + b.length := by simp only [List.length_append]; omega
  have htd : ((p ++ (a ++ b)).take (p.length + a.length)).drop p.length = a := by
    rw [List.take_append, List.take_of_length_le (by omega)]
    simp
  have hE : ∀ e, PT (p ++ (a ++ b)) (b, e) = .row 3 [.str (p ++ (a ++ b)), .int .i64 ((p.length + a.length : Nat) : Int), .int .i64 e] := fun e => by
    have := zsv p a b e
    rw [List.append_assoc] at this
    exact this
  generalize hHY : HX.put g (some (.row 3 [.str (p ++ (a ++ b)), .int .i64 ((p.length + a.length : Nat) : Int), .int .i64 st.2])) = HY at *
  have hsl : (p ++ (a ++ b)).length ≤ 1500 := hl
  -- where the word ends
  have fin : (∀ c r, b = c :: r → VM.wordC c = false) → (a = [] → za Tryd.prog 63 [.ptr g 0, .int .i64 (if b = [] then 8 else 2)] HY n' (zz [.ptr g 0, .int .i64 (p.length : Int)] Q)) ∧ (a ≠ [] → Q (.str a) HY n') := by
    intro hb
    have h := hw a b rfl ha hb
    rw [h] at hq
    refine ⟨fun e => ?_, fun e => ?_⟩
    · subst e
      simp only [if_true] at hq
      refine zaq (s := p ++ ([] ++ b)) (st := (b, st.2)) (by rw [hR, hE]) ?_
      rw [hP]
      unfold VM.badF at hq ⊢
      generalize (if (b, st.2).2 = 0 then (if b = [] then (8 : Int) else 2) else (b, st.2).2) = k at *
      have hx : (H.put g (some (PT (p ++ ([] ++ b)) (b, k)))) g = some (.row 3 [.str (p ++ ([] ++ b)), .int .i64 ((p.length + 0 : Nat) : Int), .int .i64 k]) := by rw [Heap.put_at, hE]; rfl
      have hp0 : (0 : Int) ≤ p.length := by omega
      have hq' : Q (.str []) (H.put g (some (PT (p ++ ([] ++ b)) (b, k)))) n' := hq
      generalize H.put g (some (PT (p ++ ([] ++ b)) (b, k))) = HZ at *
      simp at hx
      simp [zz, hx]
      exact ⟨by omega, hq'⟩
    · simp only [if_neg e] at hq
      rw [hRX, ← hE]
      exact hq
  clear hw hHY hRX
  obtain ⟨N, hN⟩ : ∃ N, N = p.length + a.length := ⟨_, rfl⟩
  rw [← hN] at hR hlen htd hE
  have hal : N ≤ 1500 := by rw [hlen] at hsl; omega
  have h0 : (0 : Int) ≤ p.length := by omega
  have hpN : (p.length : Int) ≤ N := by omega
  cases b with
  | nil =>
    obtain ⟨f1, f2⟩ := fin (by simp)
    have hL : ((p ++ (a ++ [])).length : Int) = N := by rw [hlen]; simp
    generalize hS : p ++ (a ++ []) = S at *
    by_cases e : a = []
    · subst e
      have f1' := f1 rfl
      have heq : (p.length : Int) = N := by rw [hN]; simp
      simp at f1'
      simp [zal, hR, hL, heq, f1']
    · have f2' := f2 e
      have hne : ¬ (p.length : Int) = N := fun h => e (List.length_eq_zero_iff.1 (by omega))
      simp [zal, hR, hL, hne, htd, hpN, f2']
  | cons c r =>
    have hL : ((p ++ (a ++ c :: r)).length : Int) = N + (r.length + 1) := by rw [hlen]; simp
    have hlt : (N : Int) < N + (r.length + 1) := by omega
    have hle : (N : Int) ≤ N + (r.length + 1) := by omega
    have hwr : IntKind.i64.wrap ((N : Int) + 1) = (N : Int) + 1 := i64w (by omega)
    have hon : ((p ++ (a ++ c :: r)).take (N + 1)).drop N = [c] := by
      have : (p ++ (a ++ c :: r)) = (p ++ a) ++ c :: r := by simp
      rw [this, List.take_append, List.take_of_length_le (by simp; omega), List.drop_append, List.drop_of_length_le (by simp; omega)]
      have : N + 1 - (p ++ a).length = 1 := by simp; omega
      rw [this]
      have : N - (p ++ a).length = 0 := by simp; omega
      rw [this]; simp
    have hle1 : (N : Int) + 1 ≤ N + (r.length + 1) := by omega
    have hPP := hP
    generalize hS : p ++ (a ++ c :: r) = S at *
    by_cases hc : VM.wordC c = true
    · simp [zal, hR, hL, hlt, hwr, hle1, hon]
      refine ⟨by omega, zm.of_qc (zlq _ c) (.bool _) ?_⟩
      rw [zpg, hc]
      simp [zbo, hR, hwr, hP]
      refine ⟨r.length, by omega, a ++ [c], r, by simp, fun x hx => ?_, rfl, ?_⟩
      · rcases List.mem_append.1 hx with h | h
        · exact ha x h
        · rw [List.mem_singleton.1 h]; exact hc
      · rw [hP0]
        have : (p.length : Int) + ((a ++ [c]).length : Nat) = (N : Int) + 1 := by rw [hN]; simp; omega
        rw [this]
    · obtain ⟨f1, f2⟩ := fin (by rintro c' r' h; cases h; simpa using hc)
      have hc' : VM.wordC c = false := by simpa using hc
      simp [zal, hR, hL, hlt, hwr, hle1, hon]
      refine ⟨by omega, zm.of_qc (zlq _ c) (.bool _) ?_⟩
      rw [zpg, hc']
      by_cases e : a = []
      · subst e
        have f1' := f1 rfl
        have heq : (p.length : Int) = N := by rw [hN]; simp
        have hnl : ¬ ((N : Int) + (r.length + 1) ≤ N) := by omega
        simp at f1'
        rw [heq] at f1'
        simp [zbo, hR, hL, heq, hnl, f1']
      · have f2' := f2 e
        have hne : ¬ (p.length : Int) = N := fun h => e (List.length_eq_zero_iff.1 (by omega))
        simp [zbo, hR, hL, hne, htd, hpN, hle, f2']
end
theorem zoc (s : Str) (hs : s.length ≤ maxLen) : QC Tryd.prog 24 [.str s] (.bool (VM.word s)) := by
  refine fun H nx => zna _ H nx _ ?_
  simp only [maxLen] at hs
  by_cases h12 : 12 < s.length
  · have h12' : (12 : Int) < s.length := by omega
    have e : VM.word s = false := by
      have : ¬ s.length ≤ 12 := by omega
      simp [VM.word, this]
    simp [zhr, h12', e]
  have h12' : ¬ (12 : Int) < s.length := by omega
  simp [zhr, h12']
  refine LP.mk (fun n xs H' nx' => ∃ i : Nat, i ≤ s.length ∧ n = s.length - i ∧ xs = [.str s, .int .i64 s.length, .int .i64 i] ∧ H = H' ∧ nx = nx' ∧ s.all VM.wordByte = (s.drop i).all VM.wordByte) s.length ⟨0, by omega, by omega, rfl, rfl, rfl, rfl⟩ ?_
  rintro n xs H' nx' ⟨i, hi, rfl, rfl, rfl, rfl, hall⟩
  rw [zqe] at hall
  simp [zle]
  refine ⟨fun h => ?_, fun h => ?_⟩
  · rw [dif_pos h] at hall
    have hb : VM.wordByte s[i] = false → VM.word s = false := fun hb => by simp [VM.word, hall, hb]
    simp [h]
    refine ⟨fun h1 => hb (by simp [VM.wordByte]; omega), fun h1 => ⟨fun h2 => hb (by simp [VM.wordByte]; omega), fun h2 => ⟨fun h3 => hb (by simp [VM.wordByte]; omega), fun h3 => ?_⟩⟩⟩
    rw [i64w (by omega)]
    refine ⟨s.length - (i + 1), by omega, i + 1, by omega, rfl, by simp, ?_⟩
    have : VM.wordByte s[i] = true := by simp [VM.wordByte]; omega
    rw [hall, this]; rfl
  · rw [dif_neg (by omega)] at hall
    have : s.length ≤ 12 := by omega
    simp [VM.word, hall, this]
def kw : Str := [32, 108, 101, 116, 32, 115, 101, 116, 32, 105, 102, 32, 119, 104, 105, 108, 101, 32, 115, 97, 121, 32, 114, 101, 116, 117, 114, 110, 32, 112, 117, 116, 108, 32, 112, 117, 116, 114, 32, 100, 111, 32, 99, 101, 108, 108, 32, 108, 101, 102, 116, 32, 114, 105, 103, 104, 116, 32, 97, 115, 107, 32, 104, 101, 114, 101, 32, 103, 111, 32]
theorem zok (sub : Str) : ∀ l : Str, 0 ≤ Lib.index l sub ↔ ∃ i, i ≤ l.length ∧ sub.isPrefixOf (l.drop i) = true
  | [] => by
    cases sub with
    | nil => simp [Lib.index]
    | cons c r => simp [Lib.index]
  | b :: l => by
    have ih := zok sub l
    unfold Lib.index
    by_cases hp : sub.isPrefixOf (b :: l) = true
    · rw [if_pos hp]
      exact ⟨fun _ => ⟨0, by omega, hp⟩, fun _ => by omega⟩
    · rw [if_neg hp]
      have hge : -1 ≤ Lib.index l sub := by
        clear ih hp
        induction l with
        | nil => unfold Lib.index; split <;> omega
        | cons x l ih =>
          unfold Lib.index
          split
          · omega
          · split
            · omega
            · omega
      constructor
      · intro h
        split at h
        · omega
        · rename_i hne
          have hne' : Lib.index l sub ≠ -1 := by simpa using hne
          obtain ⟨i, h1, h2⟩ := ih.1 (by omega)
          exact ⟨i + 1, by simp; omega, by simpa using h2⟩
      · rintro ⟨i, h1, h2⟩
        cases i with
        | zero => exact absurd (by simpa using h2) hp
        | succ i =>
          have : 0 ≤ Lib.index l sub := ih.2 ⟨i, by simpa using h1, by simpa using h2⟩
          rw [if_neg (by simp; omega)]
          omega
theorem zuf : ∀ i, i < 71 → ∀ r, kw.drop i = 32 :: r → (r.takeWhile (· != 32) ∈ VM.keys ∨ r.takeWhile (· != 32) = []) := by
  intro i hi r hr
  have key : ∀ i < 71, (match kw.drop i with | 32 :: r => decide (r.takeWhile (· != 32) ∈ VM.keys ∨ r.takeWhile (· != 32) = []) | _ => true) = true := by decide +kernel
  have := key i hi
  rw [hr] at this
  simpa using this
theorem zvw : ∀ w ∈ VM.keys, 0 ≤ Lib.index kw (32 :: w ++ [32]) := by decide +kernel
theorem zmm {s : Str} (h0 : s ≠ []) (hb : ∀ c ∈ s, c ≠ 32) : Lib.contains kw (32 :: s ++ [32]) = decide (s ∈ VM.keys) := by
  unfold Lib.contains
  rw [decide_eq_decide]
  constructor
  · intro h
    obtain ⟨i, h1, h2⟩ := (zok _ kw).1 h
    have hlt : i < 71 := by have : kw.length = 70 := rfl; omega
    rw [List.isPrefixOf_iff_prefix] at h2
    obtain ⟨t, ht⟩ := h2
    have hw := zuf i hlt (s ++ 32 :: t) (by rw [← ht]; simp)
    have e : (s ++ 32 :: t).takeWhile (· != 32) = s := (zkd (p := (· != 32)) (a := s) (b := 32 :: t) (fun x hx => by simpa using hb x hx) (by rintro c r h; cases h; rfl)).1
    rw [e] at hw
    exact hw.resolve_right h0
  · exact zvw s
theorem zhx (s : Str) (hs : s.length ≤ maxLen) : QC Tryd.prog 23 [.str s] (.bool (VM.name s)) := by
  refine fun H nx => znb _ H nx _ ?_
  simp only [maxLen] at hs
  by_cases h1 : s.length < 1
  · have h1' : (s.length : Int) < 1 := by omega
    have e : VM.name s = false := by
      have : ¬ 0 < s.length := by omega
      rw [zgb]; simp [this]
    simp [zeo, h1', e]
  have h1' : ¬ (s.length : Int) < 1 := by omega
  by_cases h8 : 8 < s.length
  · have h8' : (8 : Int) < s.length := by omega
    have e : VM.name s = false := by
      have : ¬ s.length < 9 := by omega
      rw [zgb]; simp [this]
    simp [zeo, h1', h8', e]
  have h8' : ¬ (8 : Int) < s.length := by omega
  have hkw : AV.str kw = AV.str [32, 108, 101, 116, 32, 115, 101, 116, 32, 105, 102, 32, 119, 104, 105, 108, 101, 32, 115, 97, 121, 32, 114, 101, 116, 117, 114, 110, 32, 112, 117, 116, 108, 32, 112, 117, 116, 114, 32, 100, 111, 32, 99, 101, 108, 108, 32, 108, 101, 102, 116, 32, 114, 105, 103, 104, 116, 32, 97, 115, 107, 32, 104, 101, 114, 101, 32, 103, 111, 32] := rfl
  have hnd : VM.name s = (decide (s ∉ VM.keys) && s.all zav) := by
    have a : 0 < s.length := by omega
    have b : s.length < 9 := by omega
    rw [zgb]; simp [a, b]
  simp only [zeo, ← hkw]
  simp [h1', h8']
  refine ⟨by omega, by omega, ?_⟩
  have hlk : kw.length < 4294967281 := by decide
  refine (zqb kw (32 :: (s ++ [32])) hlk).call ?_
  have loop : Lib.contains kw (32 :: (s ++ [32])) = false → s ∉ VM.keys ∨ s.all zav = false → LP (zep fun v H' n' => v = AV.bool (VM.name s) ∧ H' = H ∧ n' = nx) [.str s, .int .i64 s.length, .int .i64 0] H nx := by
    intro _ hk
    refine LP.mk (fun m xs H'' n'' => ∃ i : Nat, i ≤ s.length ∧ m = s.length - i ∧ xs = [.str s, .int .i64 s.length, .int .i64 i] ∧ H'' = H ∧ n'' = nx ∧ s.all zav = (s.drop i).all zav) s.length ⟨0, by omega, by omega, rfl, rfl, rfl, rfl⟩ ?_
    rintro m xs H'' n'' ⟨j, hj, rfl, rfl, rfl, rfl, hall⟩
    rw [zqe] at hall
    by_cases hlt : j < s.length
    · rw [dif_pos hlt] at hall
      have hb : zav s[j] = false → VM.name s = false := fun hb => by rw [hnd]; simp [hall, hb]
      simp [zep, hlt]
      refine ⟨fun h1 => hb (by simp [zav]; omega), fun h1 => ⟨fun h2 => hb (by simp [zav]; omega), fun h2 => ?_⟩⟩
      rw [i64w (by omega)]
      refine ⟨s.length - (j + 1), by omega, j + 1, by omega, rfl, by simp, ?_⟩
      have : zav s[j] = true := by simp [zav]; omega
      rw [hall, this]; rfl
    · rw [dif_neg hlt] at hall
      have hn : VM.name s = true := by
        rw [hnd, hall]
        have := hk.resolve_right (by rw [hall]; simp)
        simp [this]
      have hji : ¬ (j : Int) < s.length := by omega
      simp [zep, hlt, hn]
  have hs0 : s ≠ [] := fun e => by rw [e] at h1; simp at h1
  cases hc : Lib.contains kw (32 :: (s ++ [32])) with
  | true =>
    have e : VM.name s = false := by
      rw [hnd]
      by_cases hl : s.all zav = true
      · have hb : ∀ c ∈ s, c ≠ 32 := fun c hc e => by
          have := List.all_eq_true.1 hl c hc
          rw [e] at this
          simp [zav] at this
        have := zmm hs0 hb
        rw [List.cons_append, hc] at this
        have : s ∈ VM.keys := by simpa using this.symm
        simp [this]
      · simp [hl]
    simp [zhs, e]
  | false =>
    have fin := loop hc (by
      by_cases hl : s.all zav = true
      · left
        have hb : ∀ c ∈ s, c ≠ 32 := fun c hc e => by
          have := List.all_eq_true.1 hl c hc
          rw [e] at this
          simp [zav] at this
        have := zmm hs0 hb
        rw [List.cons_append, hc] at this
        simpa using this.symm
      · right; simpa using hl)
    simp [zhs]
    exact fin
section
variable {g : Nat} {s : Str} {st : VM.St} {H : Heap} {n : Nat} {Q : QT}
theorem zmp (hl : s.length ≤ 1500) (hs : st.1 <:+ s) (hg : H g = some (PT s st)) (hq : Q (.str (VM.nF st).1) (H.put g (some (PT s (VM.nF st).2))) n) : za Tryd.prog 44 [.ptr g 0] H n Q := by
  refine zjc _ _ _ _ ?_
  unfold zfm
  have hw := zir st
  have hle := hs.length_le
  refine zka hl hs hg ?_
  unfold zfn
  refine (zhx (VM.wF st).1 (by unfold maxLen; omega)).call ?_
  have hP : ∀ o, (H.put g (some (PT s (VM.wF st).2))).put g o = H.put g o := fun o => Heap.put_put ..
  have hg2 : (H.put g (some (PT s (VM.wF st).2))) g = some (PT s (VM.wF st).2) := Heap.put_at _ _ _
  unfold VM.nF at hq
  by_cases h : VM.name (VM.wF st).1 = true
  · simp only [h, if_true] at hq
    simp [zcu, h, hq]
  · simp only [h] at hq
    have h' : VM.name (VM.wF st).1 = false := by simpa using h
    simp [zcu, h']
    refine zaq hg2 ?_
    rw [hP]
    simp [zfo]
    exact hq
theorem zy {s : Str} {st : VM.St} {c : Int} (h : st.1 <:+ s) : (VM.mustF c st).1 <:+ s := by
  have := zaw h
  unfold VM.mustF
  split
  · exact (List.drop_suffix 1 _).trans this
  · exact this
theorem zke {s : Str} {st : VM.St} (h : st.1 <:+ s) : (VM.wF st).2.1 <:+ s := by
  have := zaw h
  unfold VM.wF
  dsimp only
  split
  · exact this
  · exact (List.dropWhile_suffix _).trans this
theorem zpc {s : Str} {st : VM.St} (h : st.1 <:+ s) : (VM.nF st).2.1 <:+ s := by
  have := zke h
  unfold VM.nF
  dsimp only
  split <;> exact this
theorem zwl (l : Str) : (39 ∈ l → Lib.indexByte l 39 = ((l.takeWhile (· != 39)).length : Int)) ∧ (39 ∉ l → Lib.indexByte l 39 = -1) := by
  induction l with
  | nil => exact ⟨fun h => absurd h (by simp), fun _ => rfl⟩
  | cons c r ih =>
    unfold Lib.indexByte
    by_cases hc : c = 39
    · subst hc
      simp
    · have h1 : (c == 39) = false := by simpa using hc
      have h2 : (c != 39) = true := by simpa using hc
      rw [h1]
      simp only [List.takeWhile_cons, h2, if_true, Bool.false_eq_true, if_false, List.length_cons]
      refine ⟨fun h => ?_, fun h => ?_⟩
      · have h39 : 39 ∈ r := by
          rcases List.mem_cons.1 h with h | h
          · exact absurd h.symm hc
          · exact h
        rw [ih.1 h39, if_neg (by simp)]
        omega
      · have h39 : 39 ∉ r := fun h' => h (List.mem_cons_of_mem _ h')
        rw [ih.2 h39]; simp
set_option maxHeartbeats 1000000 in
theorem zrn {t : Str} {e : Int} (hl : s.length ≤ 1500) (hs : (39 :: t) <:+ s) (hg : H g = some (PT s (39 :: t, e)))
    (hq : ∀ w st', (VM.quotedF (39 :: t) e) = (.mk 2 0 w [], st') → Q (.str w) (H.put g (some (PT s st'))) n) : za Tryd.prog 85 [.ptr g 0] H n Q := by
  refine zhq _ _ _ _ ?_
  obtain ⟨p, rfl⟩ := hs
  have hg' : H g = some (.row 3 [.str (p ++ 39 :: t), .int .i64 (p.length : Int), .int .i64 e]) := by rw [hg, zgh]
  have hpl : p.length ≤ 1500 := by rw [List.length_append] at hl; omega
  have htl : t.length ≤ 1500 := by rw [List.length_append, List.length_cons] at hl; omega
  have hwr : IntKind.i64.wrap ((p.length : Int) + 1) = (p.length : Int) + 1 := i64w (by omega)
  have hlen : ((p ++ 39 :: t).length : Int) = p.length + (t.length + 1) := by simp
  have hdr : (p ++ 39 :: t).drop (p.length + 1) = t := by
    rw [show p ++ 39 :: t = (p ++ [39]) ++ t by simp, List.drop_append_of_le_length (by simp), List.drop_of_length_le (by simp)]; rfl
  have hE : ∀ (a b : Str) (e : Int), a ++ b = t → PT (p ++ 39 :: t) (b, e) = .row 3 [.str (p ++ 39 :: t), .int .i64 ((p.length + 1 + a.length : Nat) : Int), .int .i64 e] := fun a b e hab => by
    have := zsv (p ++ [39]) a b e
    subst hab
    simp only [List.append_assoc, List.cons_append, List.nil_append, List.length_append, List.length_cons, List.length_nil] at this
    exact this
  have hle1 : (p.length : Int) + 1 ≤ p.length + (t.length + 1) := by omega
  have h01 : (0 : Int) ≤ (p.length : Int) + 1 := by omega
  unfold VM.quotedF at hq
  rw [show (39 :: t : Str).drop 1 = t from rfl] at hq
  have i39 := zwl t
  have c39 : (39 : Int).toNat.toUInt8 = 39 := rfl
  generalize hS : p ++ 39 :: t = S at *
  simp [zea, hg', hwr, hlen, hle1]
  refine ⟨h01, zm.of_qc (zpr _ 39) (.int _ _) ?_⟩
  rw [hdr, c39]
  have hR : (H.put g (some (.row 3 [.str S, .int .i64 ((p.length : Int) + 1), .int .i64 e]))) g = some (.row 3 [.str S, .int .i64 ((p.length : Int) + 1), .int .i64 e]) := Heap.put_at _ _ _
  have hP : ∀ o, (H.put g (some (.row 3 [.str S, .int .i64 ((p.length : Int) + 1), .int .i64 e]))).put g o = H.put g o := fun o => Heap.put_put ..
  have hR2 : (H.put g (some (.row 3 [.str S, .int .i64 ((p.length : Int) + 1), .int .i64 e]))) g = some (PT S (t, e)) := by rw [hR, hE [] t e rfl]; simp
  generalize H.put g (some (.row 3 [.str S, .int .i64 ((p.length : Int) + 1), .int .i64 e])) = HX at *
  by_cases h39 : 39 ∈ t
  · rw [if_pos h39] at hq
    have hx := i39.1 h39
    have hspl : t.takeWhile (· != 39) ++ t.dropWhile (· != 39) = t := List.takeWhile_append_dropWhile
    obtain ⟨r, hr⟩ : ∃ r, t.dropWhile (· != 39) = 39 :: r := by
      cases hd : t.dropWhile (· != 39) with
      | nil =>
        rw [hd, List.append_nil] at hspl
        have h40 : 39 ∈ t.takeWhile (· != 39) := by rw [hspl]; exact h39
        have := List.all_eq_true.1 (List.all_takeWhile (p := (· != (39 : UInt8))) (l := t)) 39 h40
        simp at this
      | cons c r =>
        have := List.head_dropWhile_not (p := (· != (39 : UInt8))) (l := t) (by rw [hd]; simp)
        have hc : c = 39 := by simpa [hd] using this
        exact ⟨r, by rw [hc]⟩
    rw [hr] at hspl hq
    rw [hx]
    generalize t.takeWhile (· != 39) = w at *
    have hwl : w.length + 1 + r.length = t.length := by rw [← hspl]; simp; omega
    have hn0 : ¬ (w.length : Int) < 0 := by omega
    have hwr2 : IntKind.i64.wrap ((p.length : Int) + 1 + w.length) = (p.length : Int) + 1 + w.length := i64w (by omega)
    have hwr3 : IntKind.i64.wrap ((w.length : Int) + 1) = (w.length : Int) + 1 := i64w (by omega)
    have hwr4 : IntKind.i64.wrap ((p.length : Int) + 1 + ((w.length : Int) + 1)) = (p.length : Int) + 1 + ((w.length : Int) + 1) := i64w (by omega)
    have hb1 : (p.length : Int) + 1 ≤ (p.length : Int) + 1 + w.length := by omega
    have hb2 : (p.length : Int) + 1 + w.length ≤ (p.length : Int) + (t.length + 1) := by omega
    have htn : ((p.length : Int) + 1 + w.length).toNat = p.length + 1 + w.length := by omega
    have hmid : (S.take (p.length + 1 + w.length)).drop (p.length + 1) = w := by
      rw [List.drop_take, hdr, ← hspl, show p.length + 1 + w.length - (p.length + 1) = w.length by omega]; simp
    have hS2 : ∀ e, PT S (r, e) = .row 3 [.str S, .int .i64 ((p.length : Int) + 1 + ((w.length : Int) + 1)), .int .i64 e] := fun e => by
      rw [hE (w ++ [39]) r e (by rw [← hspl]; simp)]
      congr 4
      simp
    simp [zbz, hn0, hR, hwr2, hwr3, hwr4, hP, hb1, hb2, hlen, hmid, htn]
    refine ⟨h01, ?_⟩
    rw [← hS2]
    refine (zoc w (by unfold maxLen; omega)).call ?_
    have hg3 : (H.put g (some (PT S (r, e)))) g = some (PT S (r, e)) := Heap.put_at _ _ _
    have hP3 : ∀ o, (H.put g (some (PT S (r, e)))).put g o = H.put g o := fun o => Heap.put_put ..
    by_cases hwd : VM.word w = true
    · have := hq w (r, e) (by rw [if_pos hwd]; rfl)
      simp [zca, hwd]
      exact this
    · have := hq w (VM.badF 2 (r, e)) (by rw [if_neg hwd]; rfl)
      simp [zca, hwd]
      refine zaq hg3 ?_
      rw [hP3]
      exact this
  · rw [if_neg h39] at hq
    have hq' := hq [] (VM.badF 8 (t, e)) rfl
    rw [i39.2 h39]
    simp [zbz]
    refine zaq hR2 ?_
    rw [hP]
    exact hq'
end
end Go.Proofs.YtpllgpgdcbgalaaDoor
