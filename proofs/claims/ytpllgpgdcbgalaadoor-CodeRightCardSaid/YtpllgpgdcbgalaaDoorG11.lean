/- What is to be shown of each function, written out. code: the maker in memory; its small functions. code: put, and the find of a function. code: expressions. code: statements. code: statements, and blocks. code: Make. -/
import Derived.Test.YtpllgpgdcbgalaaDoorG10
import Derived.Test.YtpllgpgdcbgalaaDoorG5
import Derived.Test.YtpllgpgdcbgalaaDoorG9
import Derived.Test.YtpllgpgdcbgalaaDoorG7
set_option linter.unusedSimpArgs false
set_option linter.unusedVariables false
set_option maxRecDepth 8000
namespace Go.Proofs.YtpllgpgdcbgalaaDoor
open Go Go.RowKit
def zek (a0 a1 a2 a3 : AV) (H : Heap) (nx : Nat) (Q : QT) : Prop :=
 NC a0 fun v1 =>
 FA 4 v1 fun v2 =>
 LD false 1 v2 H fun v3 =>
 BD (zt tab [(3, 0), (3, 1), (3, 2)]) [AV.int IntKind.i64 0, AV.int IntKind.i64 0, AV.int IntKind.i64 0] [(0, a1), (1, a2), (2, a3)] fun v4 =>
 BSL 1 3 [AV.int IntKind.i64 0, AV.int IntKind.i64 0, AV.int IntKind.i64 0] [(0, v4)] fun cells5 =>
 PUTH H nx (AObj.row 3 cells5) fun H6 =>
 APP 3 24 v3 (AV.slc nx 0 1) H6 (nx + 1) fun v7 H8 nx9 =>
 NC a0 fun v10 =>
 FA 4 v10 fun v11 =>
 ST 1 v11 v7 H8 fun H12 =>
 NC a0 fun v13 =>
 FA 4 v13 fun v14 =>
 LD false 1 v14 H12 fun v15 =>
 LNL v15 fun v16 =>
 BI BinOp.sub v16 (AV.int IntKind.i64 1) fun v17 =>
 Q v17 H12 nx9
theorem zlx (a0 a1 a2 a3 : AV) (H : Heap) (nx : Nat) (Q : QT) : zek a0 a1 a2 a3 H nx Q → za Tryd.prog 38 [a0, a1, a2, a3] H nx Q :=
  ze (lv := lvOf []) (c := zp Tryd.f38) zu zx mixed Tryd.func38 (by kernel_rfl) (by kernel_rfl) (by kernel_rfl) (by kernel_rfl) (by kernel_rfl)
def zbv (Q : QT) (K1 : J3) (xs2 : List AV) (H3 : Heap) (nx4 : Nat) : Prop :=
 BP BinOp.neq (nth xs2 0) AV.nilp fun v5 =>
 CNDC v5
 (NC (nth xs2 0) fun v6 =>
 FA 0 v6 fun v7 =>
 LD false 1 v7 H3 fun v8 =>
 BS BinOp.eql v8 (nth xs2 1) fun v9 =>
 CNDC v9
 (NC (nth xs2 0) fun v10 =>
 FA 1 v10 fun v11 =>
 LD false 1 v11 H3 fun v12 =>
 Q v12 H3 nx4)
 (NC (nth xs2 0) fun v13 =>
 FA 2 v13 fun v14 =>
 LD false 1 v14 H3 fun v15 =>
 K1 [v15, nth xs2 1] H3 nx4))
 (Q (AV.int IntKind.i64 0) H3 nx4)
def zgu (a0 a1 : AV) (H : Heap) (nx : Nat) (Q : QT) : Prop :=
 LP (zbv Q) [a0, a1] H nx
theorem zkv (a0 a1 : AV) (H : Heap) (nx : Nat) (Q : QT) : zgu a0 a1 H nx Q → za Tryd.prog 73 [a0, a1] H nx Q :=
  ze (lv := lvOf [(2, 1, [0, 1])]) (c := zp Tryd.f73) zu zx mixed Tryd.func73 (by kernel_rfl) (by kernel_rfl) (by kernel_rfl) (by kernel_rfl) (by kernel_rfl)
def zbw (a0 : AV) (a1 : AV) (Q : QT) (v4 : AV) (H5 : Heap) (nx6 : Nat) : Prop :=
 BI BinOp.lss v4 (AV.int IntKind.i64 0) fun v7 =>
 CNDC v7
 (NC a0 fun v8 =>
 FA 1 v8 fun v9 =>
 LD false 1 v9 H5 fun v10 =>
 LNL v10 fun v11 =>
 NC a0 fun v12 =>
 FA 1 v12 fun v13 =>
 LD false 1 v13 H5 fun v14 =>
 BSL 1 1 [AV.str []] [(0, a1)] fun cells15 =>
 PUTH H5 nx6 (AObj.row 1 cells15) fun H16 =>
 APP 1 16 v14 (AV.slc nx6 0 1) H16 (nx6 + 1) fun v17 H18 nx19 =>
 NC a0 fun v20 =>
 FA 1 v20 fun v21 =>
 ST 1 v21 v17 H18 fun H22 =>
 Q v11 H22 nx19)
 (Q v4 H5 nx6)
def zgv (a0 a1 : AV) (H : Heap) (nx : Nat) (Q : QT) : Prop :=
 NC a0 fun v1 =>
 FA 1 v1 fun v2 =>
 LD false 1 v2 H fun v3 =>
 za Tryd.prog 70 [v3, a1] H nx (zbw a0 a1 Q)
theorem zkw (a0 a1 : AV) (H : Heap) (nx : Nat) (Q : QT) : zgv a0 a1 H nx Q → za Tryd.prog 82 [a0, a1] H nx Q :=
  ze (lv := lvOf []) (c := zp Tryd.f82) zu zx mixed Tryd.func82 (by kernel_rfl) (by kernel_rfl) (by kernel_rfl) (by kernel_rfl) (by kernel_rfl)
def zbz (Q : QT) (xs3 : List AV) (K2 : J3) (v9 : AV) (H10 : Heap) (nx11 : Nat) : Prop :=
 CNDC v9
 (Q (nth xs3 3) H10 nx11)
 (BI BinOp.add (nth xs3 3) (AV.int IntKind.i64 1) fun v12 =>
 K2 [nth xs3 0, nth xs3 1, nth xs3 2, v12] H10 nx11)
def zby (Q : QT) (K2 : J3) (xs3 : List AV) (H4 : Heap) (nx5 : Nat) : Prop :=
 BI BinOp.lss (nth xs3 3) (nth xs3 2) fun v6 =>
 CNDC v6
 (IA 3 (nth xs3 0) (nth xs3 3) fun v7 =>
 LD true 3 v7 H4 fun v8 =>
 CALL Tryd.prog (nth xs3 1) [v8] H4 nx5 (zbz Q xs3 K2))
 (Q (AV.int IntKind.i64 (-1)) H4 nx5)
def zem (a0 a1 : AV) (H : Heap) (nx : Nat) (Q : QT) : Prop :=
 LNL a0 fun v1 =>
 LP (zby Q) [a0, a1, v1, AV.int IntKind.i64 0] H nx
theorem zif (a0 a1 : AV) (H : Heap) (nx : Nat) (Q : QT) : zem a0 a1 H nx Q → za Tryd.prog 83 [a0, a1] H nx Q :=
  ze (lv := lvOf [(2, 2, [0, 1, 7, 8])]) (c := zp Tryd.f83) zu zx mixed Tryd.func83 (by kernel_rfl) (by kernel_rfl) (by kernel_rfl) (by kernel_rfl) (by kernel_rfl)
def zhj (xs8 : List AV) (K7 : J3) (_ : AV) (H19 : Heap) (nx20 : Nat) : Prop :=
 BI BinOp.add (nth xs8 5) (AV.int IntKind.i64 1) fun v21 =>
 K7 [nth xs8 0, nth xs8 1, nth xs8 2, nth xs8 3, nth xs8 4, v21] H19 nx20
def zn (Q : QT) (v39 : AV) (H40 : Heap) (nx41 : Nat) : Prop :=
 Q (AV.tup []) H40 nx41
def zhi (xs8 : List AV) (Q : QT) (v47 : AV) (H48 : Heap) (nx49 : Nat) : Prop :=
 za Tryd.prog 38 [nth xs8 0, AV.int IntKind.i64 2, v47, AV.int IntKind.i64 0] H48 nx49 (zn Q)
def zhh (xs8 : List AV) (Q : QT) (v58 : AV) (H59 : Heap) (nx60 : Nat) : Prop :=
 za Tryd.prog 38 [nth xs8 0, AV.int IntKind.i64 3, v58, AV.int IntKind.i64 0] H59 nx60 (zn Q)
def zhg (D104 : zw) (rd106 : List Nat) (rd110 : List Nat) (Q : QT) (H29 : Heap) (nx10 : Nat) (fr103 : List Nat) (v112 : AV) (rd113 : List Nat) (fr114 : List Nat) (D115 : zw) : Prop :=
 zf (domD D104) [] (
 zf (domD D104) rd106 (
 zf (domD D104) [] (
 zf (domD D104) [] (
 zf (domD D104) [] (
 zf (domD D104) [] (
 zf (domD D104) [] (
 zf (domD D104) rd110 (
 zf (domD D104) [] (
 zf (domD D104) [] (
 zf (domD D104) [] (
 Q (AV.tup []) ((H29.apply D104).apply D115) ((nx10 + fr103.length) + fr114.length))))))))))))
def zhf (xs8 : List AV) (H29 : Heap) (nx10 : Nat) (Q : QT) (v101 : AV) (_ : List Nat) (fr103 : List Nat) (D104 : zw) : Prop :=
 LDR false 1 (nth xs8 3) (H29.apply D104) fun v105 rd106 =>
 NC v105 fun v107 =>
 FA 3 v107 fun v108 =>
 LDR false 1 v108 (H29.apply D104) fun v109 rd110 =>
 LNL v109 fun v111 =>
 zae Tryd.prog (AV.clo 38 []) [nth xs8 0, AV.int IntKind.i64 17, v101, v111] (H29.apply D104) (nx10 + fr103.length) (zhg D104 rd106 rd110 Q H29 nx10 fr103)
def zj (Q : QT) (K7 : J3) (xs8 : List AV) (H9 : Heap) (nx10 : Nat) : Prop :=
 BI BinOp.lss (nth xs8 5) (nth xs8 4) fun v11 =>
 CNDC v11
 (LD false 1 (nth xs8 3) H9 fun v12 =>
 NC v12 fun v13 =>
 FA 3 v13 fun v14 =>
 LD false 1 v14 H9 fun v15 =>
 IA 4 v15 (nth xs8 5) fun v16 =>
 BI BinOp.add (nth xs8 2) (nth xs8 5) fun v17 =>
 za Tryd.prog 72 [nth xs8 0, v16, nth xs8 1, v17] H9 nx10 (zhj xs8 K7))
 (NC (nth xs8 0) fun v22 =>
 FA 3 v22 fun v23 =>
 LD false 1 v23 H9 fun v24 =>
 BI BinOp.add (nth xs8 2) (AV.int IntKind.i64 1) fun v25 =>
 MM false v24 v25 fun v26 =>
 NC (nth xs8 0) fun v27 =>
 FA 3 v27 fun v28 =>
 ST 1 v28 v26 H9 fun H29 =>
 LD false 1 (nth xs8 3) H29 fun v30 =>
 NC v30 fun v31 =>
 FA 0 v31 fun v32 =>
 LD false 1 v32 H29 fun v33 =>
 BI BinOp.eql v33 (AV.int IntKind.i64 1) fun v34 =>
 CNDC v34
 (LD false 1 (nth xs8 3) H29 fun v35 =>
 NC v35 fun v36 =>
 FA 1 v36 fun v37 =>
 LD false 1 v37 H29 fun v38 =>
 za Tryd.prog 38 [nth xs8 0, AV.int IntKind.i64 1, v38, AV.int IntKind.i64 0] H29 nx10 (zn Q))
 (BI BinOp.eql v33 (AV.int IntKind.i64 2) fun v42 =>
 CNDC v42
 (LD false 1 (nth xs8 3) H29 fun v43 =>
 NC v43 fun v44 =>
 FA 2 v44 fun v45 =>
 LD false 1 v45 H29 fun v46 =>
 za Tryd.prog 82 [nth xs8 0, v46] H29 nx10 (zhi xs8 Q))
 (BI BinOp.eql v33 (AV.int IntKind.i64 3) fun v53 =>
 CNDC v53
 (LD false 1 (nth xs8 3) H29 fun v54 =>
 NC v54 fun v55 =>
 FA 2 v55 fun v56 =>
 LD false 1 v56 H29 fun v57 =>
 za Tryd.prog 73 [nth xs8 1, v57] H29 nx10 (zhh xs8 Q))
 (BI BinOp.eql v33 (AV.int IntKind.i64 4) fun v64 =>
 CNDC v64
 (LD false 1 (nth xs8 3) H29 fun v65 =>
 NC v65 fun v66 =>
 FA 1 v66 fun v67 =>
 LD false 1 v67 H29 fun v68 =>
 za Tryd.prog 38 [nth xs8 0, AV.int IntKind.i64 5, v68, AV.int IntKind.i64 0] H29 nx10 (zn Q))
 (BI BinOp.eql v33 (AV.int IntKind.i64 5) fun v72 =>
 CNDC v72
 (za Tryd.prog 38 [nth xs8 0, AV.int IntKind.i64 6, AV.int IntKind.i64 0, AV.int IntKind.i64 0] H29 nx10 (zn Q))
 (BI BinOp.eql v33 (AV.int IntKind.i64 6) fun v76 =>
 CNDC v76
 (za Tryd.prog 38 [nth xs8 0, AV.int IntKind.i64 7, AV.int IntKind.i64 0, AV.int IntKind.i64 0] H29 nx10 (zn Q))
 (BI BinOp.eql v33 (AV.int IntKind.i64 7) fun v80 =>
 CNDC v80
 (za Tryd.prog 38 [nth xs8 0, AV.int IntKind.i64 8, AV.int IntKind.i64 0, AV.int IntKind.i64 0] H29 nx10 (zn Q))
 (BI BinOp.eql v33 (AV.int IntKind.i64 8) fun v84 =>
 CNDC v84
 (za Tryd.prog 38 [nth xs8 0, AV.int IntKind.i64 11, AV.int IntKind.i64 0, AV.int IntKind.i64 0] H29 nx10 (zn Q))
 (BI BinOp.eql v33 (AV.int IntKind.i64 9) fun v88 =>
 CNDC v88
 (za Tryd.prog 38 [nth xs8 0, AV.int IntKind.i64 12, AV.int IntKind.i64 0, AV.int IntKind.i64 0] H29 nx10 (zn Q))
 (BI BinOp.eql v33 (AV.int IntKind.i64 10) fun v92 =>
 CNDC v92
 (za Tryd.prog 38 [nth xs8 0, AV.int IntKind.i64 13, AV.int IntKind.i64 0, AV.int IntKind.i64 0] H29 nx10 (zn Q))
 (BI BinOp.eql v33 (AV.int IntKind.i64 11) fun v96 =>
 CNDC v96
 (NC (nth xs8 0) fun v97 =>
 FA 0 v97 fun v98 =>
 LDR false 1 v98 H29 fun v99 _ =>
 zae Tryd.prog (AV.clo 83 []) [v99, AV.clo 84 [nth xs8 3]] H29 nx10 (zhf xs8 H29 nx10 Q))
 (Q (AV.tup []) H29 nx10))))))))))))
def zhe (a0 a1 a2 a3 : AV) (H : Heap) (nx : Nat) (Q : QT) : Prop :=
 a1.sure = true ∧
 PUTH H nx (AObj.row a1.cells.length a1.cells) fun H1 =>
 LD false 1 (AV.ptr nx 0) H1 fun v2 =>
 NC v2 fun v3 =>
 FA 3 v3 fun v4 =>
 LD false 1 v4 H1 fun v5 =>
 LNL v5 fun v6 =>
 LP (zj Q) [a0, a2, a3, AV.ptr nx 0, v6, AV.int IntKind.i64 0] H1 (nx + 1)
theorem zky (a0 a1 a2 a3 : AV) (H : Heap) (nx : Nat) (Q : QT) : zhe a0 a1 a2 a3 H nx Q → za Tryd.prog 72 [a0, a1, a2, a3] H nx Q :=
  ze (lv := lvOf [(2, 2, [0, 2, 3, 5, 13, 14])]) (c := zp Tryd.f72) zu zx mixed Tryd.func72 (by kernel_rfl) (by kernel_rfl) (by kernel_rfl) (by kernel_rfl) (by kernel_rfl)
def zhd (xs10 : List AV) (K9 : J3) (_ : AV) (H19 : Heap) (nx20 : Nat) : Prop :=
 BI BinOp.add (nth xs10 5) (AV.int IntKind.i64 1) fun v21 =>
 K9 [nth xs10 0, nth xs10 1, nth xs10 2, nth xs10 3, nth xs10 4, v21] H19 nx20
def zhc (Q : QT) (nx12 : Nat) (v44 : AV) (H45 : Heap) (nx46 : Nat) : Prop :=
 Q (AV.ptr nx12 0) H45 nx46
def zy (Q : QT) (xs10 : List AV) (v54 : AV) (H55 : Heap) (nx56 : Nat) : Prop :=
 Q (nth xs10 2) H55 nx56
def zhb (xs10 : List AV) (Q : QT) (v51 : AV) (H52 : Heap) (nx53 : Nat) : Prop :=
 za Tryd.prog 38 [nth xs10 0, AV.int IntKind.i64 4, v51, AV.int IntKind.i64 0] H52 nx53 (zy Q xs10)
def zbx (xs10 : List AV) (v67 : AV) (Q : QT) (_ : AV) (H89 : Heap) (nx90 : Nat) : Prop :=
 NC (nth xs10 0) fun v91 =>
 FA 4 v91 fun v92 =>
 LDR false 1 v92 H89 fun v93 _ =>
 NC (nth xs10 0) fun v95 =>
 FA 4 v95 fun v96 =>
 LDR false 1 v96 H89 fun v97 _ =>
 LNL v97 fun v99 =>
 IA 3 v93 v67 fun v100 =>
 FA 1 v100 fun v101 =>
 zaf 1 v101 v99 H89 fun _ _ fr104 D105 =>
 Q (nth xs10 2) (H89.apply D105) (nx90 + fr104.length)
def zha (xs10 : List AV) (v58 : AV) (Q : QT) (v67 : AV) (H68 : Heap) (nx69 : Nat) : Prop :=
 NC (nth xs10 0) fun v70 =>
 FA 4 v70 fun v71 =>
 LDR false 1 v71 H68 fun v72 _ =>
 NC (nth xs10 0) fun v74 =>
 FA 4 v74 fun v75 =>
 LDR false 1 v75 H68 fun v76 _ =>
 LNL v76 fun v78 =>
 IA 3 v72 v58 fun v79 =>
 FA 1 v79 fun v80 =>
 zaf 1 v80 v78 H68 fun _ _ fr83 D84 =>
 NC (nth xs10 1) fun v85 =>
 FA 4 v85 fun v86 =>
 LD false 1 v86 (H68.apply D84) fun v87 =>
 za Tryd.prog 37 [nth xs10 0, v87, nth xs10 2] (H68.apply D84) (nx69 + fr83.length) (zbx xs10 v67 Q)
def zgz (xs10 : List AV) (v58 : AV) (Q : QT) (v64 : AV) (H65 : Heap) (nx66 : Nat) : Prop :=
 za Tryd.prog 38 [nth xs10 0, AV.int IntKind.i64 15, AV.int IntKind.i64 0, AV.int IntKind.i64 0] H65 nx66 (zha xs10 v58 Q)
def zgy (xs10 : List AV) (Q : QT) (v58 : AV) (H59 : Heap) (nx60 : Nat) : Prop :=
 NC (nth xs10 1) fun v61 =>
 FA 3 v61 fun v62 =>
 LD false 1 v62 H59 fun v63 =>
 za Tryd.prog 37 [nth xs10 0, v63, nth xs10 2] H59 nx60 (zgz xs10 v58 Q)
def zgx (xs10 : List AV) (v107 : AV) (Q : QT) (v113 : AV) (H114 : Heap) (nx115 : Nat) : Prop :=
 za Tryd.prog 38 [nth xs10 0, AV.int IntKind.i64 15, nth xs10 3, AV.int IntKind.i64 0] H114 nx115 (zbx xs10 v107 Q)
def zga (xs10 : List AV) (Q : QT) (v107 : AV) (H108 : Heap) (nx109 : Nat) : Prop :=
 NC (nth xs10 1) fun v110 =>
 FA 3 v110 fun v111 =>
 LD false 1 v111 H108 fun v112 =>
 za Tryd.prog 37 [nth xs10 0, v112, nth xs10 2] H108 nx109 (zgx xs10 v107 Q)
def zm (Q : QT) (K9 : J3) (xs10 : List AV) (H11 : Heap) (nx12 : Nat) : Prop :=
 BI BinOp.lss (nth xs10 5) (nth xs10 4) fun v13 =>
 CNDC v13
 (NC (nth xs10 1) fun v14 =>
 FA 2 v14 fun v15 =>
 LD false 1 v15 H11 fun v16 =>
 IA 4 v16 (nth xs10 5) fun v17 =>
 za Tryd.prog 72 [nth xs10 0, v17, nth xs10 2, nth xs10 5] H11 nx12 (zhd xs10 K9))
 (NC (nth xs10 1) fun v22 =>
 FA 0 v22 fun v23 =>
 LD false 1 v23 H11 fun v24 =>
 BI BinOp.eql v24 (AV.int IntKind.i64 1) fun v25 =>
 CNDC v25
 (NC (nth xs10 1) fun v26 =>
 FA 1 v26 fun v27 =>
 LDR false 1 v27 H11 fun v28 _ =>
 NC (nth xs10 0) fun v30 =>
 FA 2 v30 fun v31 =>
 LDR false 1 v31 H11 fun v32 _ =>
 BD (zt tab [(9, 0), (3, 1), (71, 2)]) [AV.str [], AV.int IntKind.i64 0, AV.nilp] [(0, v28), (1, v32), (2, nth xs10 2)] fun v34 =>
 v34.sure = true ∧
 PUTH H11 nx12 (AObj.row v34.cells.length v34.cells) fun H35 =>
 NC (nth xs10 0) fun v36 =>
 FA 2 v36 fun v37 =>
 LD false 1 v37 H35 fun v38 =>
 BI BinOp.add v38 (AV.int IntKind.i64 1) fun v39 =>
 NC (nth xs10 0) fun v40 =>
 FA 2 v40 fun v41 =>
 ST 1 v41 v39 H35 fun H42 =>
 LD false 1 (AV.ptr nx12 1) H42 fun v43 =>
 za Tryd.prog 38 [nth xs10 0, AV.int IntKind.i64 4, v43, AV.int IntKind.i64 0] H42 (nx12 + 1) (zhc Q nx12))
 (BI BinOp.eql v24 (AV.int IntKind.i64 2) fun v47 =>
 CNDC v47
 (NC (nth xs10 1) fun v48 =>
 FA 1 v48 fun v49 =>
 LD false 1 v49 H11 fun v50 =>
 za Tryd.prog 73 [nth xs10 2, v50] H11 nx12 (zhb xs10 Q))
 (BI BinOp.eql v24 (AV.int IntKind.i64 3) fun v57 =>
 CNDC v57
 (za Tryd.prog 38 [nth xs10 0, AV.int IntKind.i64 16, AV.int IntKind.i64 0, AV.int IntKind.i64 0] H11 nx12 (zgy xs10 Q))
 (BI BinOp.eql v24 (AV.int IntKind.i64 4) fun v106 =>
 CNDC v106
 (za Tryd.prog 38 [nth xs10 0, AV.int IntKind.i64 16, AV.int IntKind.i64 0, AV.int IntKind.i64 0] H11 nx12 (zga xs10 Q))
 (BI BinOp.eql v24 (AV.int IntKind.i64 5) fun v134 =>
 CNDC v134
 (za Tryd.prog 38 [nth xs10 0, AV.int IntKind.i64 14, AV.int IntKind.i64 0, AV.int IntKind.i64 0] H11 nx12 (zy Q xs10))
 (BI BinOp.eql v24 (AV.int IntKind.i64 6) fun v138 =>
 CNDC v138
 (za Tryd.prog 38 [nth xs10 0, AV.int IntKind.i64 18, AV.int IntKind.i64 0, AV.int IntKind.i64 0] H11 nx12 (zy Q xs10))
 (BI BinOp.eql v24 (AV.int IntKind.i64 7) fun v142 =>
 CNDC v142
 (za Tryd.prog 38 [nth xs10 0, AV.int IntKind.i64 9, AV.int IntKind.i64 0, AV.int IntKind.i64 0] H11 nx12 (zy Q xs10))
 (BI BinOp.eql v24 (AV.int IntKind.i64 8) fun v146 =>
 CNDC v146
 (za Tryd.prog 38 [nth xs10 0, AV.int IntKind.i64 10, AV.int IntKind.i64 0, AV.int IntKind.i64 0] H11 nx12 (zy Q xs10))
 (BI BinOp.eql v24 (AV.int IntKind.i64 9) fun v150 =>
 CNDC v150
 (za Tryd.prog 38 [nth xs10 0, AV.int IntKind.i64 19, AV.int IntKind.i64 0, AV.int IntKind.i64 0] H11 nx12 (zy Q xs10))
 (Q (nth xs10 2) H11 nx12))))))))))
def zgw (a0 a1 a2 : AV) (H : Heap) (nx : Nat) (Q : QT) : Prop :=
 NC a0 fun v1 =>
 FA 4 v1 fun v2 =>
 LD false 1 v2 H fun v3 =>
 LNL v3 fun v4 =>
 NC a1 fun v5 =>
 FA 2 v5 fun v6 =>
 LD false 1 v6 H fun v7 =>
 LNL v7 fun v8 =>
 LP (zm Q) [a0, a1, a2, v4, v8, AV.int IntKind.i64 0] H nx
theorem zkx (a0 a1 a2 : AV) (H : Heap) (nx : Nat) (Q : QT) : zgw a0 a1 a2 H nx Q → za Tryd.prog 56 [a0, a1, a2] H nx Q :=
  ze (lv := lvOf [(2, 3, [0, 1, 2, 7, 21, 22])]) (c := zp Tryd.f56) zu zx mixed Tryd.func56 (by kernel_rfl) (by kernel_rfl) (by kernel_rfl) (by kernel_rfl) (by kernel_rfl)
def zgc (xs3 : List AV) (K2 : J3) (v8 : AV) (H9 : Heap) (nx10 : Nat) : Prop :=
 BI BinOp.add (nth xs3 4) (AV.int IntKind.i64 1) fun v11 =>
 K2 [nth xs3 0, nth xs3 1, v8, nth xs3 3, v11] H9 nx10
def zdc (Q : QT) (K2 : J3) (xs3 : List AV) (H4 : Heap) (nx5 : Nat) : Prop :=
 BI BinOp.lss (nth xs3 4) (nth xs3 3) fun v6 =>
 CNDC v6
 (IA 5 (nth xs3 1) (nth xs3 4) fun v7 =>
 za Tryd.prog 56 [nth xs3 0, v7, nth xs3 2] H4 nx5 (zgc xs3 K2))
 (Q (AV.tup []) H4 nx5)
def zgb (a0 a1 a2 : AV) (H : Heap) (nx : Nat) (Q : QT) : Prop :=
 LNL a1 fun v1 =>
 LP (zdc Q) [a0, a1, a2, v1, AV.int IntKind.i64 0] H nx
theorem zkj (a0 a1 a2 : AV) (H : Heap) (nx : Nat) (Q : QT) : zgb a0 a1 a2 H nx Q → za Tryd.prog 37 [a0, a1, a2] H nx Q :=
  ze (lv := lvOf [(2, 1, [0, 1, 2, 8, 9])]) (c := zp Tryd.f37) zu zx mixed Tryd.func37 (by kernel_rfl) (by kernel_rfl) (by kernel_rfl) (by kernel_rfl) (by kernel_rfl)
def zbp (xs39 : List AV) (Q : QT) (K6 : J3) (_ : AV) (H57 : Heap) (nx58 : Nat) : Prop :=
 NC (nth xs39 1) fun v59 =>
 FA 4 v59 fun v60 =>
 LD false 1 v60 H57 fun v61 =>
 LNL v61 fun v62 =>
 BI BinOp.gtr v62 (AV.int IntKind.i64 200) fun v63 =>
 CND v63
 (ST 2 (nth xs39 0) (AV.agg [AV.nils, AV.nils]) H57 fun H64 =>
 LD true 2 (nth xs39 0) H64 fun v65 =>
 Q (AV.tup [v65, AV.int IntKind.i64 4]) H64 nx58)
 (NC (nth xs39 1) fun v66 =>
 FA 3 v66 fun v67 =>
 LD false 1 v67 H57 fun v68 =>
 BI BinOp.gtr v68 (AV.int IntKind.i64 16) fun v69 =>
 CNDC v69
 (ST 2 (nth xs39 0) (AV.agg [AV.nils, AV.nils]) H57 fun H70 =>
 LD true 2 (nth xs39 0) H70 fun v71 =>
 Q (AV.tup [v71, AV.int IntKind.i64 4]) H70 nx58)
 (FA 0 (nth xs39 2) fun v72 =>
 LDR false 1 v72 H57 fun v73 rd74 =>
 FA 1 (nth xs39 3) fun v75 =>
 LDR false 1 v75 H57 fun v76 _ =>
 LNL v76 fun v78 =>
 NC (nth xs39 1) fun v79 =>
 FA 2 v79 fun v80 =>
 LDR false 1 v80 H57 fun v81 _ =>
 NC (nth xs39 1) fun v83 =>
 FA 4 v83 fun v84 =>
 LDR false 1 v84 H57 fun v85 _ =>
 BD (zt tab [(3, 0), (3, 1), (38, 2)]) [AV.int IntKind.i64 0, AV.int IntKind.i64 0, AV.nils] [(0, v78), (1, v81), (2, v85)] fun v87 =>
 BSL 1 3 [AV.int IntKind.i64 0, AV.int IntKind.i64 0, AV.nils] [(0, v87)] fun cells88 =>
 PUTH H57 nx58 (AObj.row 3 cells88) fun H89 =>
 zaq 3 40 v73 (AV.slc nx58 0 1) H89 (nx58 + 1) fun v90 _ fr92 D93 =>
 FA 0 (nth xs39 2) fun v94 =>
 zaf 1 v94 v90 (H89.apply D93) fun _ _ fr97 D98 =>
 nx58 ∉ [] ∧
 nx58 ∉ rd74 ∧
 BI BinOp.add (nth xs39 7) (AV.int IntKind.i64 1) fun v99 =>
 K6 [nth xs39 0, nth xs39 1, nth xs39 2, nth xs39 5, nth xs39 6, v99] ((H89.apply D93).apply D98) (((nx58 + 1) + fr92.length) + fr97.length)))
def znb (xs39 : List AV) (Q : QT) (K6 : J3) (v53 : AV) (H54 : Heap) (nx55 : Nat) : Prop :=
 za Tryd.prog 38 [nth xs39 1, AV.int IntKind.i64 18, AV.int IntKind.i64 0, AV.int IntKind.i64 0] H54 nx55 (zbp xs39 Q K6)
def zna (xs39 : List AV) (Q : QT) (K6 : J3) (v50 : AV) (H51 : Heap) (nx52 : Nat) : Prop :=
 za Tryd.prog 38 [nth xs39 1, AV.int IntKind.i64 1, AV.int IntKind.i64 0, AV.int IntKind.i64 0] H51 nx52 (znb xs39 Q K6)
def zdo (Q : QT) (K6 : J3) (K38 : J3) (xs39 : List AV) (H40 : Heap) (nx41 : Nat) : Prop :=
 BI BinOp.lss (nth xs39 10) (nth xs39 9) fun v42 =>
 CNDC v42
 (IA 1 (nth xs39 8) (nth xs39 10) fun v43 =>
 LD false 1 v43 H40 fun v44 =>
 BD (zt tab [(9, 0), (3, 1), (71, 2)]) [AV.str [], AV.int IntKind.i64 0, AV.nilp] [(0, v44), (1, nth xs39 10), (2, nth xs39 4)] fun v45 =>
 v45.sure = true ∧
 PUTH H40 nx41 (AObj.row v45.cells.length v45.cells) fun H46 =>
 BI BinOp.add (nth xs39 10) (AV.int IntKind.i64 1) fun v47 =>
 K38 [nth xs39 0, nth xs39 1, nth xs39 2, nth xs39 3, AV.ptr nx41 0, nth xs39 5, nth xs39 6, nth xs39 7, nth xs39 8, nth xs39 9, v47] H46 (nx41 + 1))
 (FA 2 (nth xs39 3) fun v48 =>
 LD false 1 v48 H40 fun v49 =>
 za Tryd.prog 37 [nth xs39 1, v49, nth xs39 4] H40 nx41 (zna xs39 Q K6))
def zfp (Q : QT) (K6 : J3) (xs7 : List AV) (H8 : Heap) (nx9 : Nat) : Prop :=
 BI BinOp.lss (nth xs7 5) (nth xs7 4) fun v10 =>
 CNDC v10
 (IA 3 (nth xs7 3) (nth xs7 5) fun v11 =>
 LD true 3 v11 H8 fun v12 =>
 PUTH H8 nx9 (AObj.row 3 [AV.str [], AV.nils, AV.nils]) fun H13 =>
 ST 3 (AV.ptr nx9 0) v12 H13 fun H14 =>
 LDR false 1 (AV.ptr nx9 1) H14 fun v15 rd16 =>
 LNL v15 fun v17 =>
 NC (nth xs7 1) fun v18 =>
 FA 4 v18 fun v19 =>
 zaf 1 v19 AV.nils H14 fun _ _ fr22 D23 =>
 NC (nth xs7 1) fun v24 =>
 FA 2 v24 fun v25 =>
 zaf 1 v25 v17 (H14.apply D23) fun _ _ fr28 D29 =>
 NC (nth xs7 1) fun v30 =>
 FA 3 v30 fun v31 =>
 zaf 1 v31 (AV.int IntKind.i64 0) ((H14.apply D23).apply D29) fun _ _ fr34 D35 =>
 zf (domD D23) [] (
 zf (domD D23) [] (
 zf (domD D23) [] (
 zf (domD D23) rd16 (
 zf (domD D23) [] (
 zf (domD D29) [] (
 LD false 1 (AV.ptr nx9 1) (((H14.apply D23).apply D29).apply D35) fun v36 =>
 LNL v36 fun v37 =>
 LP (zdo Q K6) [nth xs7 0, nth xs7 1, nth xs7 2, AV.ptr nx9 0, AV.nilp, nth xs7 3, nth xs7 4, nth xs7 5, v36, v37, AV.int IntKind.i64 0] (((H14.apply D23).apply D29).apply D35) ((((nx9 + 1) + fr22.length) + fr28.length) + fr34.length))))))))
 (NC (nth xs7 1) fun v100 =>
 FA 1 v100 fun v101 =>
 LD false 1 v101 H8 fun v102 =>
 FA 1 (nth xs7 2) fun v103 =>
 ST 1 v103 v102 H8 fun H104 =>
 LD true 2 (nth xs7 2) H104 fun v105 =>
 ST 2 (nth xs7 0) v105 H104 fun H106 =>
 LD true 2 (nth xs7 0) H106 fun v107 =>
 Q (AV.tup [v107, AV.int IntKind.i64 0]) H106 nx9)
def zmz (a0 : AV) (H : Heap) (nx : Nat) (Q : QT) : Prop :=
 PUTH H nx (AObj.row 2 [AV.nils, AV.nils]) fun H1 =>
 BD (zt tab [(22, 0), (32, 1), (3, 2), (3, 3), (38, 4)]) [AV.nils, AV.nils, AV.int IntKind.i64 0, AV.int IntKind.i64 0, AV.nils] [(0, a0)] fun v2 =>
 v2.sure = true ∧
 PUTH H1 (nx + 1) (AObj.row v2.cells.length v2.cells) fun H3 =>
 PUTH H3 (nx + 2) (AObj.row 2 [AV.nils, AV.nils]) fun H4 =>
 LNL a0 fun v5 =>
 LP (zfp Q) [AV.ptr nx 0, AV.ptr (nx + 1) 0, AV.ptr (nx + 2) 0, a0, v5, AV.int IntKind.i64 0] H4 (nx + 3)
theorem zpl (a0 : AV) (H : Heap) (nx : Nat) (Q : QT) : zmz a0 H nx Q → za Tryd.prog 16 [a0] H nx Q :=
  ze (lv := lvOf [(2, 4, [2, 4, 5, 14, 15, 16]), (2, 9, [2, 4, 5, 7, 8, 14, 15, 16, 33, 34, 35])]) (c := zp Tryd.f16) zu zx mixed Tryd.func16 (by kernel_rfl) (by kernel_rfl) (by kernel_rfl) (by kernel_rfl) (by kernel_rfl)
def zjt (Q : QT) (v6 : AV) (H7 : Heap) (nx8 : Nat) : Prop :=
 EX v6 0 fun v9 =>
 EX v6 1 fun v10 =>
 PUTH H7 nx8 (AObj.row 2 [AV.nils, AV.nils]) fun H11 =>
 ST 2 (AV.ptr nx8 0) v9 H11 fun H12 =>
 BI BinOp.eql v10 (AV.int IntKind.i64 0) fun v13 =>
 CND v13
 (LD false 1 (AV.ptr nx8 0) H12 fun v14 =>
 LNL v14 fun v15 =>
 BI BinOp.eql v15 (AV.int IntKind.i64 1) fun v16 =>
 CND v16
 (LD false 1 (AV.ptr nx8 0) H12 fun v17 =>
 IA 3 v17 (AV.int IntKind.i64 0) fun v18 =>
 FA 2 v18 fun v19 =>
 LD false 1 v19 H12 fun v20 =>
 LNL v20 fun v21 =>
 BI BinOp.eql v21 (AV.int IntKind.i64 7) fun v22 =>
 CND v22
 (LD false 1 (AV.ptr nx8 0) H12 fun v23 =>
 IA 3 v23 (AV.int IntKind.i64 0) fun v24 =>
 FA 2 v24 fun v25 =>
 LD false 1 v25 H12 fun v26 =>
 IA 3 v26 (AV.int IntKind.i64 1) fun v27 =>
 LD true 3 v27 H12 fun v28 =>
 gd (eqsT 45) (
 BA [AV.int IntKind.i64 0, AV.int IntKind.i64 0, AV.int IntKind.i64 0] BinOp.eql v28 (AV.agg [AV.int IntKind.i64 16, AV.int IntKind.i64 5, AV.int IntKind.i64 0]) fun v29 =>
 CND v29
 (LD false 1 (AV.ptr nx8 1) H12 fun v30 =>
 LNL v30 fun v31 =>
 BI BinOp.eql v31 (AV.int IntKind.i64 1) fun v32 =>
 Q v32 H12 (nx8 + 1))
 (Q (AV.bool false) H12 (nx8 + 1))))
 (Q (AV.bool false) H12 (nx8 + 1)))
 (Q (AV.bool false) H12 (nx8 + 1)))
 (Q (AV.bool false) H12 (nx8 + 1))
def zjs (Q : QT) (v1 : AV) (H2 : Heap) (nx3 : Nat) : Prop :=
 EX v1 0 fun v4 =>
 EX v1 1 fun _ =>
 za Tryd.prog 16 [v4] H2 nx3 (zjt Q)
def zjr (H : Heap) (nx : Nat) (Q : QT) : Prop :=
 za Tryd.prog 10 [AV.str [40, 109, 97, 105, 110, 32, 40, 41, 32, 40, 119, 104, 105, 108, 101, 32, 49, 32, 40, 115, 97, 121, 32, 39, 97, 39, 41, 41, 41]] H nx (zjs Q)
theorem zmn (H : Heap) (nx : Nat) (Q : QT) : zjr  H nx Q → za Tryd.prog 19 [] H nx Q :=
  ze (lv := lvOf []) (c := zp Tryd.f19) zu zx mixed Tryd.func19 (by kernel_rfl) (by kernel_rfl) (by kernel_rfl) (by kernel_rfl) (by kernel_rfl)
def zfz (Q : QT) (v64 : AV) (H65 : Heap) (nx66 : Nat) : Prop :=
 BI BinOp.eql v64 (AV.int IntKind.i64 0) fun v67 =>
 Q v67 H65 nx66
def zcy (Q : QT) (K29 : J3) (xs30 : List AV) (H31 : Heap) (nx32 : Nat) : Prop :=
 BI BinOp.lss (nth xs30 4) (nth xs30 3) fun v33 =>
 CNDC v33
 (IA 3 (nth xs30 2) (nth xs30 4) fun v34 =>
 LD true 3 v34 H31 fun v35 =>
 PUTH H31 nx32 (AObj.row 3 [AV.int IntKind.i64 0, AV.int IntKind.i64 0, AV.nils]) fun H36 =>
 ST 3 (AV.ptr nx32 0) v35 H36 fun H37 =>
 LD false 1 (AV.ptr nx32 2) H37 fun v38 =>
 LNL v38 fun v39 =>
 LDR false 1 (AV.ptr nx32 0) H37 fun v40 _ =>
 IA 3 (nth xs30 0) (nth xs30 4) fun v42 =>
 FA 1 v42 fun v43 =>
 LDR false 1 v43 H37 fun v44 _ =>
 LNL v44 fun v46 =>
 BI BinOp.neq v40 v46 fun v47 =>
 CND v47
 (Q (AV.bool false) H37 (nx32 + 1))
 (BI BinOp.lss v39 (AV.int IntKind.i64 2) fun v48 =>
 CND v48
 (Q (AV.bool false) H37 (nx32 + 1))
 (LDR false 1 (AV.ptr nx32 2) H37 fun v49 _ =>
 BI BinOp.sub v39 (AV.int IntKind.i64 1) fun v51 =>
 IA 3 v49 v51 fun v52 =>
 FA 0 v52 fun v53 =>
 LDR false 1 v53 H37 fun v54 _ =>
 BI BinOp.neq v54 (AV.int IntKind.i64 18) fun v56 =>
 CNDC v56
 (Q (AV.bool false) H37 (nx32 + 1))
 (BI BinOp.add (nth xs30 4) (AV.int IntKind.i64 1) fun v57 =>
 K29 [nth xs30 0, nth xs30 1, nth xs30 2, nth xs30 3, v57] H37 (nx32 + 1)))))
 (FA 0 (nth xs30 1) fun v58 =>
 LD false 1 v58 H31 fun v59 =>
 LNL v59 fun v60 =>
 LNL (nth xs30 0) fun v61 =>
 BI BinOp.eql v60 v61 fun v62 =>
 CND v62
 (LD true 2 (nth xs30 1) H31 fun v63 =>
 za Tryd.prog 20 [v63] H31 nx32 (zfz Q))
 (Q (AV.bool false) H31 nx32))
def zdb (Q : QT) (v8 : AV) (v15 : AV) (H16 : Heap) (nx17 : Nat) : Prop :=
 EX v15 0 fun v18 =>
 EX v15 1 fun v19 =>
 PUTH H16 nx17 (AObj.row 2 [AV.nils, AV.nils]) fun H20 =>
 ST 2 (AV.ptr nx17 0) v18 H20 fun H21 =>
 BI BinOp.neq v19 (AV.int IntKind.i64 0) fun v22 =>
 CNDC v22
 (BI BinOp.eql v19 (AV.int IntKind.i64 4) fun v23 =>
 CND v23
 (LD false 1 (AV.ptr nx17 0) H21 fun v24 =>
 LNL v24 fun v25 =>
 BI BinOp.eql v25 (AV.int IntKind.i64 0) fun v26 =>
 Q v26 H21 (nx17 + 1))
 (Q (AV.bool false) H21 (nx17 + 1)))
 (LD false 1 (AV.ptr nx17 0) H21 fun v27 =>
 LNL v27 fun v28 =>
 LP (zcy Q) [v8, AV.ptr nx17 0, v27, v28, AV.int IntKind.i64 0] H21 (nx17 + 1))
def zda (Q : QT) (v8 : AV) (v11 : AV) (H12 : Heap) (nx13 : Nat) : Prop :=
 BI BinOp.neq v11 (AV.int IntKind.i64 0) fun v14 =>
 CNDC v14
 (Q (AV.bool true) H12 nx13)
 (za Tryd.prog 16 [v8] H12 nx13 (zdb Q v8))
def zcz (Q : QT) (v5 : AV) (H6 : Heap) (nx7 : Nat) : Prop :=
 EX v5 0 fun v8 =>
 EX v5 1 fun v9 =>
 BI BinOp.neq v9 (AV.int IntKind.i64 0) fun v10 =>
 CND v10
 (Q (AV.bool true) H6 nx7)
 (za Tryd.prog 12 [v8] H6 nx7 (zda Q v8))
def zfy (Q : QT) (a0 : AV) (v1 : AV) (H2 : Heap) (nx3 : Nat) : Prop :=
 UO UnOp.not v1 fun v4 =>
 CNDC v4
 (Q (AV.bool false) H2 nx3)
 (za Tryd.prog 10 [a0] H2 nx3 (zcz Q))
def zfx (a0 : AV) (H : Heap) (nx : Nat) (Q : QT) : Prop :=
 za Tryd.prog 19 [] H nx (zfy Q a0)
theorem zke (a0 : AV) (H : Heap) (nx : Nat) (Q : QT) : zfx a0 H nx Q → za Tryd.prog 6 [a0] H nx Q :=
  ze (lv := lvOf [(2, 10, [3, 5, 40, 41, 42])]) (c := zp Tryd.f6) zu zx mixed Tryd.func6 (by kernel_rfl) (by kernel_rfl) (by kernel_rfl) (by kernel_rfl) (by kernel_rfl)
def zfo (a0 a1 : AV) (H : Heap) (nx : Nat) (Q : QT) : Prop :=
 a0.sure = true ∧
 PUTH H nx (AObj.row a0.cells.length a0.cells) fun H1 =>
 LDR false 1 (AV.ptr nx 0) H1 fun v2 _ =>
 LDR false 1 a1 H1 fun v4 _ =>
 NC v4 fun v6 =>
 FA 2 v6 fun v7 =>
 LDR false 1 v7 H1 fun v8 _ =>
 BS BinOp.eql v2 v8 fun v10 =>
 Q v10 H1 (nx + 1)
theorem zjl (a0 a1 : AV) (H : Heap) (nx : Nat) (Q : QT) : zfo a0 a1 H nx Q → za Tryd.prog 84 [a0, a1] H nx Q :=
  ze (lv := lvOf []) (c := zp Tryd.f84) zu zx mixed Tryd.func84 (by kernel_rfl) (by kernel_rfl) (by kernel_rfl) (by kernel_rfl) (by kernel_rfl)
end Go.Proofs.YtpllgpgdcbgalaaDoor
set_option maxRecDepth 8000
namespace Go.Proofs.YtpllgpgdcbgalaaDoor
open Go Go.RowKit
theorem zoo {s : Str} : ∀ {l : List Str} {i : Nat} (h : i < l.length), s ∉ l.take i → s = l[i] → l.idxOf s = i
  | [], i, h, _, _ => absurd h (by simp)
  | x :: r, 0, _, _, e => by
    subst e
    simp
  | x :: r, i + 1, h, hno, e => by
    rw [List.take_succ_cons, List.mem_cons, not_or] at hno
    have hb : (x == s) = false := by simpa using fun h => hno.1 h.symm
    rw [List.idxOf_cons, hb, zoo (l := r) (by simpa using h) hno.2 e]
    rfl
theorem zrp {s : Str} : ∀ {l : List Str}, s ∉ l → l.idxOf s = l.length
  | [], _ => rfl
  | x :: r, h => by
    rw [List.mem_cons, not_or] at h
    have hb : (x == s) = false := by simpa using fun e => h.1 e.symm
    rw [List.idxOf_cons, hb, zrp h.2]
    rfl
theorem zaal (l : List Str) (s : Str) (hl : l.length ≤ 4611686018427387904) : QC Tryd.prog 70 [.ro (l.map strC), .str s] (.int .i64 (VM.idx l s)) := by
  intro H n
  refine zfg _ _ _ _ _ ?_
  simp [zce]
  refine LP.mk (fun m xs H' n' => ∃ i : Nat, i ≤ l.length ∧ m = l.length - i ∧ xs = [.ro (l.map strC), .str s, .int .i64 l.length, .int .i64 i] ∧ H' = H ∧ n' = n ∧ s ∉ l.take i) l.length ⟨0, by omega, by omega, rfl, rfl, rfl, by simp⟩ ?_
  rintro m xs H' n' ⟨i, hi, rfl, rfl, rfl, rfl, hno⟩
  by_cases h : i < l.length
  · have hx : l[i]? = some l[i] := List.getElem?_eq_getElem h
    have hi' : (i : Int) < l.length := by omega
    by_cases e : s = l[i]
    · have hq : VM.idx l s = i := by unfold VM.idx; rw [if_pos (e ▸ List.getElem_mem h), zoo h hno e]
      simp [zak, h, strC, ← e, hq]
    · have hw : IntKind.i64.wrap ((i : Int) + 1) = (i : Int) + 1 := i64w (by omega)
      simp [zak, h, strC, e, hw]
      refine ⟨l.length - (i + 1), by omega, i + 1, by omega, rfl, by simp, ?_⟩
      have hts : l.take (i + 1) = l.take i ++ [l[i]] := List.take_succ_eq_append_getElem _
      intro hm
      rw [hts, List.mem_append, List.mem_singleton] at hm
      exact hm.elim hno e
  · have e : i = l.length := by omega
    subst e
    rw [List.take_length] at hno
    have hq : VM.idx l s = -1 := by unfold VM.idx; rw [if_neg hno]
    simp [zak, hq]
structure MkM (gk : Nat) (fns : List Fnc) (vars high : Nat) (ws : List Str) (A : AV) (out : List Ins) (B : AV) (H : Heap) (m : Nat) : Prop where
  row : H gk = some (.row 5 [.ro (fns.map Fnc.avs), A, .int .i64 vars, .int .i64 high, B])
  wr : RowS strC 1 H (gk + 1) m ws A
  ir : RowS Ins.avs 3 H (gk + 1) m out B
  far : ∀ y ∈ owns A, y ∉ owns B
  gn : gk < m
structure MExt (gk : Nat) (A B : AV) (H : Heap) (m : Nat) (A' B' : AV) (H' : Heap) (m' : Nat) : Prop where
  le : m ≤ m'
  keep : ∀ y, y < m → y ≠ gk → y ∉ owns A → y ∉ owns B → H' y = H y
  ownA : ∀ y ∈ owns A', y ∈ owns A ∨ m ≤ y
  ownB : ∀ y ∈ owns B', y ∈ owns B ∨ m ≤ y
theorem MExt.refl (gk : Nat) (A B : AV) (H : Heap) (m : Nat) : MExt gk A B H m A B H m := ⟨Nat.le_refl _, fun _ _ _ _ _ => rfl, fun _ h => .inl h, fun _ h => .inl h⟩
theorem MExt.trans {gk m1 m2 m3 : Nat} {A1 B1 A2 B2 A3 B3 : AV} {H1 H2 H3 : Heap} (h : MExt gk A1 B1 H1 m1 A2 B2 H2 m2) (k : MExt gk A2 B2 H2 m2 A3 B3 H3 m3) : MExt gk A1 B1 H1 m1 A3 B3 H3 m3 := by
  have h1 := h.le
  have h2 := k.le
  refine ⟨by omega, fun y hy hne hA hB => ?_, fun y hy => ?_, fun y hy => ?_⟩
  · rw [k.keep y (by omega) hne (fun hy2 => (h.ownA y hy2).elim hA (by omega)) (fun hy2 => (h.ownB y hy2).elim hB (by omega))]
    exact h.keep y hy hne hA hB
  · rcases k.ownA y hy with h3 | h3
    · exact h.ownA y h3
    · exact .inr (by omega)
  · rcases k.ownB y hy with h3 | h3
    · exact h.ownB y h3
    · exact .inr (by omega)
inductive Chn (R : Nat → Prop) (H : Heap) : VM.Env → AV → Prop
  | nil : Chn R H [] .nilp
  | node {g n : Nat} {t : Str} {env : VM.Env} {a : AV} : R g → H g = some (.row 3 [.str t, .int .i64 n, a]) → Chn R H env a → Chn R H ((t, n) :: env) (.ptr g 0)
theorem Chn.mono {R R' : Nat → Prop} {H H' : Heap} {env : VM.Env} {a : AV} (h : Chn R H env a) (hr : ∀ g, R g → R' g ∧ H' g = H g) : Chn R' H' env a := by
  induction h with
  | nil => exact .nil
  | node h1 h2 _ ih => exact .node (hr _ h1).1 (by rw [(hr _ h1).2]; exact h2) ih
def Off (gk : Nat) (A B : AV) (m g : Nat) : Prop := g < m ∧ g ≠ gk ∧ g ∉ owns A ∧ g ∉ owns B
theorem MExt.off {gk m m' : Nat} {A B A' B' : AV} {H H' : Heap} (e : MExt gk A B H m A' B' H' m') {g : Nat} (h : Off gk A B m g) : Off gk A' B' m' g ∧ H' g = H g := by
  obtain ⟨h1, h2, h3, h4⟩ := h
  have := e.le
  exact ⟨⟨by omega, h2, fun hy => (e.ownA g hy).elim h3 (by omega), fun hy => (e.ownB g hy).elim h4 (by omega)⟩, e.keep g h1 h2 h3 h4⟩
theorem Chn.ext {gk m m' : Nat} {A B A' B' : AV} {H H' : Heap} {env : VM.Env} {a : AV} (h : Chn (Off gk A B m) H env a) (e : MExt gk A B H m A' B' H' m') : Chn (Off gk A' B' m') H' env a := h.mono fun _ hg => e.off hg
theorem ztk {R : Nat → Prop} {H : Heap} {env : VM.Env} {a : AV} {t : Str} {n : Nat} {Q : QT} (h : Chn R H env a) (hq : Q (.int .i64 (VM.look env t)) H n) : za Tryd.prog 73 [a, .str t] H n Q := by
  refine zkv _ _ _ _ _ ?_
  unfold zgu
  refine LP.mk (fun j xs H' n' => ∃ env' a', env'.length = j ∧ xs = [a', .str t] ∧ H = H' ∧ n = n' ∧ Chn R H env' a' ∧ VM.look env t = VM.look env' t) env.length ⟨env, a, rfl, rfl, rfl, rfl, h, rfl⟩ ?_
  rintro j xs H' n' ⟨env', a', rfl, rfl, rfl, rfl, h', e⟩
  cases h' with
  | nil =>
    rw [e] at hq
    simp [zbv]
    exact hq
  | @node g k u env' a' h1 h2 h3 =>
    by_cases hu : u = t
    · subst hu
      have : VM.look env u = k := by rw [e]; unfold VM.look; rw [List.lookup_cons]; simp
      rw [this] at hq
      simp [zbv, h2]
      exact hq
    · have hb : (t == u) = false := by simpa using fun h => hu h.symm
      have he : VM.look ((u, k) :: env') t = VM.look env' t := by unfold VM.look; rw [List.lookup_cons, hb]
      simp [zbv, h2, hu]
      exact ⟨env'.length, by omega, env', rfl, h3, by rw [e, he]⟩
set_option maxHeartbeats 1000000 in
theorem zyo {gk m vars high : Nat} {fns : List Fnc} {ws : List Str} {out : List Ins} {A B : AV} {H : Heap} {w : Str} {Q : QT} (h : MkM gk fns vars high ws A out B H m) (hw : ws.length ≤ 4294967296)
    (hq : ∀ A' H' m', MkM gk fns vars high (VM.addW ws w) A' out B H' m' → MExt gk A B H m A' B H' m' → Q (.int .i64 (ws.idxOf w : Nat)) H' m') : za Tryd.prog 82 [.ptr gk 0, .str w] H m Q := by
  refine zkw _ _ _ _ _ ?_
  have row := h.row
  have ra := h.wr
  have rb := h.ir
  have hgn := h.gn
  have hfar := h.far
  simp [zgv, row]
  refine (zaal ws w (by omega)).readsC (by simp) (.cons ra.arg.frzS (.cons (.same _ (.str _)) .nil)) ?_
  by_cases hin : w ∈ ws
  · have e : VM.addW ws w = ws := by unfold VM.addW; rw [if_pos hin]
    have ei : VM.idx ws w = (ws.idxOf w : Nat) := by unfold VM.idx; rw [if_pos hin]
    have e0 : ¬ ((ws.idxOf w : Nat) : Int) < 0 := by omega
    rw [e] at hq
    rw [ei]
    simp [zbw, e0]
    exact hq A H m h (MExt.refl _ _ _ _ _)
  · have e : VM.addW ws w = ws ++ [w] := by unfold VM.addW; rw [if_neg hin]
    have ei : VM.idx ws w = -1 := by unfold VM.idx; rw [if_neg hin]
    have el : ws.idxOf w = ws.length := zrp hin
    rw [e, el] at hq
    rw [ei]
    cases ra with
    | nil =>
      have ne_0 : gk ≠ m ∧ m ≠ gk ∧ gk ≠ m + 1 ∧ m + 1 ≠ gk := ⟨by omega, by omega, by omega, by omega⟩
      simp [zbw, row, ne_0]
      refine hq _ _ _ ⟨Heap.put_at _ _ _, ?_, rb.keep (by omega) fun y h1 h2 => ?_, fun y hy hy2 => ?_, by omega⟩ ⟨by omega, fun y hy hne _ _ => ?_, fun y hy => ?_, fun y hy => .inl hy⟩
      · exact RowS.row (l := [w]) (by omega) (by omega) (by rw [Heap.put_ne _ _ (by omega), Heap.put_at]; rfl)
      · rw [Heap.put_ne _ _ (by omega), Heap.put_ne _ _ (by omega), Heap.put_ne _ _ (by omega)]
      · simp [owns] at hy
        subst hy
        cases rb with
        | nil => simp [owns] at hy2
        | row b1 b2 b3 => simp [owns] at hy2; omega
      · rw [Heap.put_ne _ _ hne, Heap.put_ne _ _ (by omega), Heap.put_ne _ _ (by omega)]
      · simp [owns] at hy; exact .inr (by omega)
    | @row ws ga a1 a2 a3 =>
      have rl := zca (f := strC) (sz := 1) (fun _ => rfl) ws
      have h1 : (ws.length + 1) * 16 ≤ 140737488355328 := by omega
      generalize hrr : (ws.map strC).flatten = rr at rl a3
      have h3 : rr.take ws.length = rr := List.take_of_length_le (by omega)
      have ne_1 : gk ≠ ga ∧ ga ≠ gk ∧ gk ≠ m ∧ m ≠ gk ∧ gk ≠ m + 1 ∧ m + 1 ≠ gk ∧ ga ≠ m ∧ m ≠ ga ∧ ga ≠ m + 1 ∧ m + 1 ≠ ga := ⟨by omega, by omega, by omega, by omega, by omega, by omega, by omega, by omega, by omega, by omega⟩
      simp [zbw, row, a3, rl, h1, h3, ne_1]
      refine hq _ _ _ ⟨Heap.put_at _ _ _, ?_, ?_, fun y hy hy2 => ?_, by omega⟩ ⟨by omega, fun y hy hne hA _ => ?_, fun y hy => ?_, fun y hy => .inl hy⟩
      · have := RowS.row (f := strC) (sz := 1) (H := (((H.put m (some (.row 1 [.str w]))).put ga none).put (m + 1) (some (.row 1 (rr ++ [.str w])))).put gk (some (.row 5 [.ro (fns.map Fnc.avs), .slc (m + 1) 0 (ws.length + 1), .int .i64 vars, .int .i64 high, B]))) (lo := gk + 1) (hi := m + 1 + 1) (l := ws ++ [w]) (ga := m + 1) (by omega) (by omega) (by rw [Heap.put_ne _ _ (by omega), Heap.put_at, zbu, hrr]; rfl)
        rw [List.length_append] at this
        exact this
      · cases rb with
        | nil => exact .nil
        | @row l gb b1 b2 b3 =>
          have hab : gb ≠ ga := fun e => hfar ga (by simp [owns]) (by simp [owns, e])
          exact .row b1 (by omega) (by rw [Heap.put_ne _ _ (by omega), Heap.put_ne _ _ (by omega), Heap.put_ne _ _ hab, Heap.put_ne _ _ (by omega)]; exact b3)
      · simp [owns] at hy
        subst hy
        cases rb with
        | nil => simp [owns] at hy2
        | row b1 b2 b3 => simp [owns] at hy2; omega
      · simp [owns] at hA
        rw [Heap.put_ne _ _ hne, Heap.put_ne _ _ (by omega), Heap.put_ne _ _ hA, Heap.put_ne _ _ (by omega)]
      · simp [owns] at hy; exact .inr (by omega)
end Go.Proofs.YtpllgpgdcbgalaaDoor
set_option maxRecDepth 8000
namespace Go.Proofs.YtpllgpgdcbgalaaDoor
open Go Go.RowKit
theorem zwq (D1 D2 : zw) (H : Heap) : H.apply (D1 ++ D2) = (H.apply D1).apply D2 := by
  induction D1 generalizing H with
  | nil => rfl
  | cons d D1 ih => obtain ⟨g, o⟩ := d; exact ih (H.put g o)
structure zuy (gk : Nat) (c0 c1 c2 c3 : AV) (out : List Ins) (B : AV) (H : Heap) : Prop where
  row : H gk = some (.row 5 [c0, c1, c2, c3, B])
  ir : (B = .nils ∧ out = []) ∨ ∃ gb, B = .slc gb 0 out.length ∧ gb ≠ gk ∧ H gb = some (.row 3 (out.map Ins.avs).flatten)
set_option maxHeartbeats 1000000 in
theorem zqc {gk m : Nat} {c0 c1 c2 c3 B : AV} {out : List Ins} {H : Heap} {op a b : Int} {Q : QT} (h : zuy gk c0 c1 c2 c3 out B H) (hgk : gk < m) (hB : ∀ g ∈ owns B, g < m) (hl : out.length ≤ 4294967296)
    (hq : ∀ H' m' gn, m ≤ gn → gn < m' → H' gk = some (.row 5 [c0, c1, c2, c3, .slc gn 0 (out.length + 1)]) → H' gn = some (.row 3 ((out ++ [Ins.mk op a b]).map Ins.avs).flatten) → (∀ y, y < m → y ≠ gk → y ∉ owns B → H' y = H y) → Q (.int .i64 out.length) H' m') :
    za Tryd.prog 38 [.ptr gk 0, .int .i64 op, .int .i64 a, .int .i64 b] H m Q := by
  refine zlx _ _ _ _ _ _ _ ?_
  have row := h.row
  rcases h.ir with ⟨rfl, rfl⟩ | ⟨gb, rfl, hne, hgb⟩
  · have _u := hl
    have ne_0 : gk ≠ m ∧ m ≠ gk ∧ gk ≠ m + 1 ∧ m + 1 ≠ gk := ⟨by omega, by omega, by omega, by omega⟩
    simp [zek, row, ne_0]
    refine hq _ _ (m + 1) (by omega) (by omega) (Heap.put_at _ _ _) (by rw [Heap.put_ne _ _ (by omega), Heap.put_at]; rfl) fun y hy h1 _ => ?_
    rw [Heap.put_ne _ _ h1, Heap.put_ne _ _ (by omega), Heap.put_ne _ _ (by omega)]
  · have hgm : gb < m := hB gb (by simp [owns])
    have rl := zca (f := Ins.avs) (sz := 3) (fun _ => rfl) out
    have h1 : (out.length + 1) * 24 ≤ 140737488355328 := by omega
    have hsn := zbu (f := Ins.avs) out (Ins.mk op a b)
    generalize (out.map Ins.avs).flatten = rr at *
    have h3 : rr.take (out.length * 3) = rr := List.take_of_length_le (by omega)
    have hw : IntKind.i64.wrap (out.length : Int) = out.length := i64w (by omega)
    have ne_1 : gk ≠ gb ∧ gb ≠ gk ∧ gk ≠ m ∧ m ≠ gk ∧ gk ≠ m + 1 ∧ m + 1 ≠ gk ∧ gb ≠ m ∧ m ≠ gb ∧ gb ≠ m + 1 ∧ m + 1 ≠ gb := ⟨by omega, by omega, by omega, by omega, by omega, by omega, by omega, by omega, by omega, by omega⟩
    simp [zek, row, hgb, rl, h1, h3, hw, ne_1]
    refine hq _ _ (m + 1) (by omega) (by omega) (Heap.put_at _ _ _) (by rw [Heap.put_ne _ _ (by omega), Heap.put_at, hsn]; rfl) fun y hy h1 h2 => ?_
    simp [owns] at h2
    rw [Heap.put_ne _ _ h1, Heap.put_ne _ _ (by omega), Heap.put_ne _ _ h2, Heap.put_ne _ _ (by omega)]
theorem MkM.putAt {gk m vars high : Nat} {fns : List Fnc} {ws : List Str} {out : List Ins} {A B : AV} {H : Heap} (h : MkM gk fns vars high ws A out B H m) : zuy gk (.ro (fns.map Fnc.avs)) A (.int .i64 vars) (.int .i64 high) out B H ∧ (∀ g ∈ owns B, g < m) := by
  have := h.ir
  refine ⟨⟨h.row, ?_⟩, ?_⟩
  · cases this with
    | nil => exact .inl ⟨rfl, rfl⟩
    | row h1 h2 h3 => exact .inr ⟨_, rfl, by omega, h3⟩
  · cases this with
    | nil => intro g hg; simp [owns] at hg
    | row h1 h2 h3 => intro g hg; simp [owns] at hg; omega
theorem MkM.put {gk m m' gn vars high : Nat} {fns : List Fnc} {ws : List Str} {out : List Ins} {A B : AV} {H H' : Heap} {i : Ins} (h : MkM gk fns vars high ws A out B H m) (h1 : m ≤ gn) (h2 : gn < m') (h3 : H' gk = some (.row 5 [.ro (fns.map Fnc.avs), A, .int .i64 vars, .int .i64 high, .slc gn 0 (out.length + 1)]))
    (h4 : H' gn = some (.row 3 ((out ++ [i]).map Ins.avs).flatten)) (h5 : ∀ y, y < m → y ≠ gk → y ∉ owns B → H' y = H y) : MkM gk fns vars high ws A (out ++ [i]) (.slc gn 0 (out.length + 1)) H' m' ∧ MExt gk A B H m A (.slc gn 0 (out.length + 1)) H' m' := by
  have hgn := h.gn
  have ra := h.wr
  have hA : ∀ y ∈ owns A, y < m := by
    cases ra with
    | nil => intro y hy; simp [owns] at hy
    | row a1 a2 a3 => intro y hy; simp [owns] at hy; omega
  refine ⟨⟨h3, ?_, ?_, fun y hy hy2 => ?_, by omega⟩, by omega, fun y a b c d => h5 y a b d, fun y hy => .inl hy, fun y hy => ?_⟩
  · have hf := h.far
    cases ra with
    | nil => exact .nil
    | @row l ga a1 a2 a3 => exact .row a1 (by omega) (by rw [h5 _ a2 (by omega) (hf _ (by simp [owns]))]; exact a3)
  · have := RowS.row (f := Ins.avs) (sz := 3) (H := H') (lo := gk + 1) (hi := m') (l := out ++ [i]) (ga := gn) (by omega) h2 h4
    rw [List.length_append] at this
    exact this
  · have := hA y hy
    simp [owns] at hy2
    omega
  · simp [owns] at hy; exact .inr (by omega)
theorem zdl {gk m vars high : Nat} {fns : List Fnc} {ws : List Str} {out : List Ins} {A B : AV} {H : Heap} {op a b : Int} {Q : QT} (h : MkM gk fns vars high ws A out B H m) (hl : out.length ≤ 4294967296)
    (hq : ∀ B' H' m', MkM gk fns vars high ws A (out ++ [Ins.mk op a b]) B' H' m' → MExt gk A B H m A B' H' m' → Q (.int .i64 out.length) H' m') :
    za Tryd.prog 38 [.ptr gk 0, .int .i64 op, .int .i64 a, .int .i64 b] H m Q := by
  obtain ⟨p1, p2⟩ := h.putAt
  refine zqc p1 h.gn p2 hl fun H' m' gn h1 h2 h3 h4 h5 => ?_
  obtain ⟨q1, q2⟩ := h.put h1 h2 h3 h4 h5
  exact hq _ H' m' q1 q2
def zjw (B : AV) : zw := (owns B).map fun g => (g, none)
set_option maxHeartbeats 1000000 in
theorem zae.put {gk m vars high : Nat} {fns : List Fnc} {ws : List Str} {out : List Ins} {A B : AV} {H : Heap} {op a b : Int} {kt : Kt} (h : MkM gk fns vars high ws A out B H m) (hl : out.length ≤ 4294967296)
    (hq : ∀ rd D, MkM gk fns vars high ws A (out ++ [Ins.mk op a b]) (.slc m 0 (out.length + 1)) (H.apply D) (m + 1) → MExt gk A B H m A (.slc m 0 (out.length + 1)) (H.apply D) (m + 1) → kt (.int .i64 out.length) rd [m] D) :
    zae Tryd.prog (.clo 38 []) [.ptr gk 0, .int .i64 op, .int .i64 a, .int .i64 b] H m kt := by
  obtain ⟨p1, p2⟩ := h.putAt
  have hgn := h.gn
  have hgkB : gk ∉ owns B := by
    intro hy
    have := h.ir
    cases this with
    | nil => simp [owns] at hy
    | row h1 h2 h3 => simp [owns] at hy; omega
  have app : ∀ Hx : Heap, (Hx.apply (zjw B ++ [(gk, some (.row 5 [.ro (fns.map Fnc.avs), A, .int .i64 vars, .int .i64 high, .slc m 0 (out.length + 1)])), (m, some (.row 3 ((out ++ [Ins.mk op a b]).map Ins.avs).flatten))])) gk = some (.row 5 [.ro (fns.map Fnc.avs), A, .int .i64 vars, .int .i64 high, .slc m 0 (out.length + 1)])
      ∧ (Hx.apply (zjw B ++ [(gk, some (.row 5 [.ro (fns.map Fnc.avs), A, .int .i64 vars, .int .i64 high, .slc m 0 (out.length + 1)])), (m, some (.row 3 ((out ++ [Ins.mk op a b]).map Ins.avs).flatten))])) m = some (.row 3 ((out ++ [Ins.mk op a b]).map Ins.avs).flatten)
      ∧ (∀ y, y < m → y ≠ gk → y ∉ owns B → (Hx.apply (zjw B ++ [(gk, some (.row 5 [.ro (fns.map Fnc.avs), A, .int .i64 vars, .int .i64 high, .slc m 0 (out.length + 1)])), (m, some (.row 3 ((out ++ [Ins.mk op a b]).map Ins.avs).flatten))])) y = Hx y)
      ∧ (∀ y ∈ owns B, (Hx.apply (zjw B ++ [(gk, some (.row 5 [.ro (fns.map Fnc.avs), A, .int .i64 vars, .int .i64 high, .slc m 0 (out.length + 1)])), (m, some (.row 3 ((out ++ [Ins.mk op a b]).map Ins.avs).flatten))])) y = none) := fun Hx => by
    rw [zwq]
    simp only [zyr, zaag]
    refine ⟨by rw [Heap.put_ne _ _ (by omega), Heap.put_at], Heap.put_at _ _ _, fun y h1 h2 h3 => ?_, fun y hy => ?_⟩
    · rw [Heap.put_ne _ _ (by omega), Heap.put_ne _ _ h2]
      cases B <;> simp [owns] at h3 <;> simp [zjw, owns, h3]
    · have := p2 y hy
      rw [Heap.put_ne _ _ (by omega), Heap.put_ne _ _ (fun e => hgkB (by rw [← e]; exact hy))]
      cases B <;> simp [owns] at hy
      subst hy
      simp [zjw, owns]
  generalize hD : zjw B ++ [(gk, some (.row 5 [.ro (fns.map Fnc.avs), A, .int .i64 vars, .int .i64 high, .slc m 0 (out.length + 1)])), (m, some (.row 3 ((out ++ [Ins.mk op a b]).map Ins.avs).flatten))] = D at app
  have dD : ∀ x, x ∈ domD D ↔ x ∈ owns B ∨ x = gk ∨ x = m := fun x => by subst hD; simp [domD, zjw]
  obtain ⟨a1, a2, a3, _⟩ := app H
  obtain ⟨q1, q2⟩ := h.put (m' := m + 1) (Nat.le_refl m) (by omega) a1 a2 a3
  refine ⟨_, gk :: owns B, [m], D, .inr rfl, LC.of_callsN (fun x hx => ?_) (fun x hx => ?_) (fun R hR hB H' n' hag => ?_), hq _ D q1 q2⟩
  · rcases List.mem_cons.1 hx with rfl | hx
    · rw [p1.row]; rfl
    · rcases p1.ir with ⟨rfl, _⟩ | ⟨gb, rfl, _, g1⟩
      · simp [owns] at hx
      · simp [owns] at hx; subst hx; rw [g1]; rfl
  · rcases (dD x).1 hx with h | h | h
    · exact .inl (by simp [h])
    · exact .inl (by simp [h])
    · exact .inr h
  · obtain ⟨b1, b2⟩ := hag gk (by simp)
    have p1' : zuy gk (.ro (fns.map Fnc.avs)) A (.int .i64 vars) (.int .i64 high) out B H' := ⟨by rw [b1]; exact p1.row, by
      rcases p1.ir with h | ⟨gb, rfl, g1, g2⟩
      · exact .inl h
      · exact .inr ⟨gb, rfl, g1, by rw [(hag gb (by simp [owns])).1]; exact g2⟩⟩
    refine zqc p1' b2 (fun g hg => (hag g (by simp [hg])).2) hl fun H'' n'' gn h1 h2 h3 h4 h5 => ?_
    obtain ⟨c1, c2, c3, c4⟩ := app H'
    have hb := hB gk (by simp) _ p1.row
    refine ⟨gn, h1, h2, .same _ (.int _ _), fun x hx hd => ?_, fun x o hx hxm ho => ?_, ⟨_, _, c2, h4, rfl, rfl, fun j v u hv hu => ?_⟩⟩
    · have := (not_congr (dD x)).1 hd
      simp only [not_or] at this
      exact h5 x hx this.2.1 this.1
    · rcases (dD x).1 hx with h | h | h
      · rw [c4 x h] at ho; cases ho
      · subst h
        rw [c1] at ho
        cases ho
        refine ⟨_, h3, rfl, rfl, fun j v u hv hu => ?_⟩
        match j with
        | 0 => simp at hv hu; subst hv; subst hu; exact .same _ (hb 0 _ rfl)
        | 1 => simp at hv hu; subst hv; subst hu; exact .same _ (hb 1 _ rfl)
        | 2 => simp at hv hu; subst hv; subst hu; exact .same _ (.int _ _)
        | 3 => simp at hv hu; subst hv; subst hu; exact .same _ (.int _ _)
        | 4 => simp at hv hu; subst hv; subst hu; exact .slc _ _
        | j + 5 => simp at hv
      · exact absurd h hxm
    · rw [hv] at hu; cases hu
      have hm := List.mem_of_getElem? hv
      obtain ⟨x, hx, hm⟩ := List.mem_flatten.1 hm
      obtain ⟨i, _, rfl⟩ := List.mem_map.1 hx
      refine .same _ ?_
      simp only [Ins.avs, List.mem_cons, List.not_mem_nil, or_false] at hm
      rcases hm with rfl | rfl | rfl <;> exact .int _ _
end Go.Proofs.YtpllgpgdcbgalaaDoor
set_option maxRecDepth 8000
namespace Go.Proofs.YtpllgpgdcbgalaaDoor
open Go Go.RowKit
@[simp] theorem zacp (xs : List AV) (o : Nat) : (AV.rop xs o).sure = true := rfl
@[simp] theorem zacj (xs : List AV) (o : Nat) : (AV.rop xs o).cells = [AV.rop xs o] := rfl
theorem zzi {pe : Nat} {k z : Int} {t : Str} {ar : AV} {f : Fnc} {H : Heap} {n : Nat} {Q : QT} (hpe : H pe = some (.row 1 [.rop [.int .i64 k, .int .i64 z, .str t, ar] 0])) (hpn : pe < n) (hq : Q (.bool (decide (f.name = t))) H n) : za Tryd.prog 84 [.agg f.avs, .ptr pe 0] H n Q := by
  refine za.pure_call (r := .bool (decide (f.name = t))) ?_ hq
  refine zjl _ _ _ _ _ ?_
  have ne_0 : pe ≠ n ∧ n ≠ pe := ⟨by omega, by omega⟩
  simp [zfo, Fnc.avs, hpe, ne_0]
theorem zzx {pe : Nat} {k z : Int} {t : Str} {ar : AV} {fns : List Fnc} {H : Heap} {n : Nat} (hpe : H pe = some (.row 1 [.rop [.int .i64 k, .int .i64 z, .str t, ar] 0])) (hpn : pe < n) (hl : fns.length ≤ 4294967296) :
    za Tryd.prog 83 [.ro (fns.map Fnc.avs), .clo 84 [.ptr pe 0]] H n fun v H' n' => v = .int .i64 (VM.idx (fns.map (·.name)) t) ∧ H' = H ∧ n' = n := by
  refine zif _ _ _ _ _ ?_
  simp [zem]
  refine LP.mk (fun j xs H' n' => ∃ i : Nat, i + j = fns.length ∧ xs = [.ro (fns.map Fnc.avs), .clo 84 [.ptr pe 0], .int .i64 fns.length, .int .i64 i] ∧ H' = H ∧ n' = n ∧ t ∉ (fns.map (·.name)).take i) fns.length ⟨0, by omega, rfl, rfl, rfl, by simp⟩ ?_
  rintro j xs H' n' ⟨i, hi, rfl, rfl, rfl, hno⟩
  cases j with
  | zero =>
    obtain rfl : i = fns.length := by omega
    have hno' : t ∉ fns.map (·.name) := by rwa [List.take_of_length_le (by simp)] at hno
    have hq : VM.idx (fns.map (·.name)) t = -1 := by unfold VM.idx; rw [if_neg hno']
    simp [zby, hq]
  | succ j =>
    have hlt : i < fns.length := by omega
    have hlt' : i < (fns.map (·.name)).length := by simpa using hlt
    have hxl := zks fns[i]
    have hw : IntKind.i64.wrap ((i : Int) + 1) = (i : Int) + 1 := i64w (by omega)
    have hxt : fns[i].avs.take 3 = fns[i].avs := List.take_of_length_le (by omega)
    simp [zby, hlt, hxl, hxt, CALL]
    refine zzi hpe hpn ?_
    by_cases e : fns[i].name = t
    · have hq : VM.idx (fns.map (·.name)) t = i := by
        have e' : t = (fns.map (·.name))[i] := by rw [List.getElem_map]; exact e.symm
        unfold VM.idx
        rw [if_pos (e' ▸ List.getElem_mem hlt'), zoo hlt' hno e']
      simp [zbz, e, hq]
    · simp [zbz, e, hw]
      refine ⟨j, by omega, i + 1, by omega, rfl, ?_⟩
      intro hm
      have hts : (fns.map (·.name)).take (i + 1) = (fns.map (·.name)).take i ++ [(fns.map (·.name))[i]] := List.take_succ_eq_append_getElem _
      rw [hts, List.mem_append, List.mem_singleton, List.getElem_map] at hm
      exact hm.elim hno fun h => e h.symm
theorem MkM.lt {gk m vars high : Nat} {fns : List Fnc} {ws : List Str} {out : List Ins} {A B : AV} {H : Heap} (h : MkM gk fns vars high ws A out B H m) : (∀ g ∈ owns A, gk < g ∧ g < m) ∧ (∀ g ∈ owns B, gk < g ∧ g < m) := by
  have h1 := h.wr
  have h2 := h.ir
  constructor
  · cases h1 with
    | nil => intro g hg; simp [owns] at hg
    | row a b c => intro g hg; simp [owns] at hg; omega
  · cases h2 with
    | nil => intro g hg; simp [owns] at hg
    | row a b c => intro g hg; simp [owns] at hg; omega
theorem MkM.set {gk m vars high : Nat} {fns : List Fnc} {ws : List Str} {out : List Ins} {A B : AV} {H : Heap} (vars' high' : Nat) (h : MkM gk fns vars high ws A out B H m) : MkM gk fns vars' high' ws A out B (H.put gk (some (.row 5 [.ro (fns.map Fnc.avs), A, .int .i64 vars', .int .i64 high', B]))) m ∧ MExt gk A B H m A B (H.put gk (some (.row 5 [.ro (fns.map Fnc.avs), A, .int .i64 vars', .int .i64 high', B]))) m :=
  ⟨⟨Heap.put_at _ _ _, h.wr.keep (Nat.le_refl _) fun y hy _ => Heap.put_ne _ _ (by omega), h.ir.keep (Nat.le_refl _) fun y hy _ => Heap.put_ne _ _ (by omega), h.far, h.gn⟩, Nat.le_refl _, fun y _ h2 _ _ => Heap.put_ne _ _ h2, fun _ h => .inl h, fun _ h => .inl h⟩
theorem MkM.new {gk m vars high : Nat} {fns : List Fnc} {ws : List Str} {out : List Ins} {A B : AV} {H : Heap} (o : AObj) (h : MkM gk fns vars high ws A out B H m) : MkM gk fns vars high ws A out B (H.put m (some o)) (m + 1) ∧ MExt gk A B H m A B (H.put m (some o)) (m + 1) ∧ Off gk A B (m + 1) m := by
  have hgn := h.gn
  obtain ⟨l1, l2⟩ := h.lt
  exact ⟨⟨by rw [Heap.put_ne _ _ (by omega)]; exact h.row, h.wr.keep (by omega) fun y _ hy => Heap.put_ne _ _ (by omega), h.ir.keep (by omega) fun y _ hy => Heap.put_ne _ _ (by omega), h.far, by omega⟩,
    ⟨by omega, fun y hy _ _ _ => Heap.put_ne _ _ (by omega), fun _ h => .inl h, fun _ h => .inl h⟩, by omega, by omega, fun hy => by have := l1 _ hy; omega, fun hy => by have := l2 _ hy; omega⟩
def MExC (gk : Nat) (fns : List Fnc) (env : VM.Env) (x : Ex) : Prop := ∀ (vars high at_ : Nat) (ws : List Str) (out : List Ins) (A B a : AV) (H : Heap) (m : Nat) (Q : QT), MkM gk fns vars high ws A out B H m → Chn (Off gk A B m) H env a → ws.length + VM.exW x ≤ 4294967296 → out.length + VM.exW x ≤ 4294967296 → at_ + VM.exW x ≤ 4294967296 →
  (∀ A' B' H' m', MkM gk fns vars (max high (at_ + VM.dpE x)) (VM.exI (fns.map (·.name)) env x ws).1 A' (out ++ (VM.exI (fns.map (·.name)) env x ws).2) B' H' m' → MExt gk A B H m A' B' H' m' → Q (.tup []) H' m') → za Tryd.prog 72 [.ptr gk 0, .rop x.avs 0, a, .int .i64 at_] H m Q
set_option maxHeartbeats 2000000 in
theorem zvs {gk : Nat} {fns : List Fnc} (hfl : fns.length ≤ 4294967296) {env : VM.Env} {k z : Int} {t : Str} {ar : List Ex} (hE : ∀ x ∈ ar, MExC gk fns env x) : MExC gk fns env (.mk k z t ar) := by
  intro vars high at_ ws out A B a H m Q h hn hw ho ha hq
  unfold VM.exW at hw ho ha
  unfold VM.exI VM.dpE at hq
  refine zky _ _ _ _ _ _ _ ?_
  have hal := VM.len_exWL ar
  rw [zji]
  simp [zhe]
  obtain ⟨h1, e1, f1⟩ := h.new (.row 1 [.rop [.int .i64 k, .int .i64 z, .str t, .ro (ar.map Ex.avs)] 0])
  have hpe : (H.put m (some (.row 1 [.rop [.int .i64 k, .int .i64 z, .str t, .ro (ar.map Ex.avs)] 0]))) m = some (.row 1 [.rop [.int .i64 k, .int .i64 z, .str t, .ro (ar.map Ex.avs)] 0]) := Heap.put_at _ _ _
  generalize H.put m (some (.row 1 [.rop [.int .i64 k, .int .i64 z, .str t, .ro (ar.map Ex.avs)] 0])) = H1 at *
  have hn1 := hn.ext e1
  generalize hnm : fns.map (·.name) = names at *
  refine LP.mk (fun j xs H' m' => ∃ (i hi' : Nat) (ws' : List Str) (out' l' : List Ins) (A' B' : AV), i + j = ar.length ∧ xs = [.ptr gk 0, a, .int .i64 at_, .ptr m 0, .int .i64 ar.length, .int .i64 i] ∧ MkM gk fns vars hi' ws' A' out' B' H' m' ∧ MExt gk A B H1 (m + 1) A' B' H' m' ∧ ws'.length + VM.exWL (ar.drop i) + 1 ≤ 4294967296 ∧ out'.length + VM.exWL (ar.drop i) + 1 ≤ 4294967296
    ∧ i + VM.exWL (ar.drop i) ≤ VM.exWL ar ∧ out' = out ++ l' ∧ (VM.exIL names env ar ws).1 = (VM.exIL names env (ar.drop i) ws').1 ∧ (VM.exIL names env ar ws).2 = l' ++ (VM.exIL names env (ar.drop i) ws').2 ∧ max hi' (at_ + VM.dpA (ar.drop i) i) = max high (at_ + VM.dpA ar 0)) ar.length ⟨0, high, ws, out, [], A, B, by omega, rfl, h1, MExt.refl _ _ _ _ _, by simp; omega, by simp; omega, by simp, by simp, by simp, by simp, by simp⟩ ?_
  rintro j xs H' m' ⟨i, hi', ws', out', l', A', B', hij, rfl, h', he, hw', ho', hiw, rfl, g1, g2, g3⟩
  have hpe' : H' m = some (.row 1 [.rop [.int .i64 k, .int .i64 z, .str t, .ro (ar.map Ex.avs)] 0]) := by rw [(he.off f1).2]; exact hpe
  have off' := (he.off f1).1
  have hn' := hn1.ext he
  generalize hJ : (fun (xs : List AV) (H' : Heap) (m' : Nat) => ∃ j', j' < j ∧ ∃ (i hi' : Nat) (ws' : List Str) (out' l' : List Ins) (A' B' : AV), i + j' = ar.length ∧ xs = [.ptr gk 0, a, .int .i64 at_, .ptr m 0, .int .i64 ar.length, .int .i64 i] ∧ MkM gk fns vars hi' ws' A' out' B' H' m' ∧ MExt gk A B H1 (m + 1) A' B' H' m' ∧ ws'.length + VM.exWL (ar.drop i) + 1 ≤ 4294967296 ∧ out'.length + VM.exWL (ar.drop i) + 1 ≤ 4294967296
    ∧ i + VM.exWL (ar.drop i) ≤ VM.exWL ar ∧ out' = out ++ l' ∧ (VM.exIL names env ar ws).1 = (VM.exIL names env (ar.drop i) ws').1 ∧ (VM.exIL names env ar ws).2 = l' ++ (VM.exIL names env (ar.drop i) ws').2 ∧ max hi' (at_ + VM.dpA (ar.drop i) i) = max high (at_ + VM.dpA ar 0)) = J
  cases j with
  | zero =>
    obtain rfl : i = ar.length := by omega
    rw [List.drop_length] at g1 g2 g3 hw' ho'
    simp only [VM.exIL, VM.dpA, List.append_nil] at g1 g2 g3 hw' ho'
    rw [g1, g2] at hq
    have hwa : IntKind.i64.wrap ((at_ : Int) + 1) = (at_ : Int) + 1 := i64w (by omega)
    have hmx : max (hi' : Int) ((at_ : Int) + 1) = ((max hi' (at_ + 1) : Nat) : Int) := by omega
    have hhi : max hi' (at_ + 1) = max high (at_ + max 1 (VM.dpA ar 0)) := by omega
    obtain ⟨h2, e2⟩ := h'.set vars (max hi' (at_ + 1))
    have hpe2 := hpe'
    rw [← (e2.off off').2] at hpe2
    have ext2 := (e1.trans he).trans e2
    have hn2 := hn'.ext e2
    have row := h'.row
    have hmg : m ≠ gk := off'.2.1
    generalize hH2 : H'.put gk (some (.row 5 [.ro (fns.map Fnc.avs), A', .int .i64 vars, .int .i64 ((max hi' (at_ + 1) : Nat) : Int), B'])) = H2 at *
    rw [hhi] at h2
    have hlen : (out ++ l').length + 1 ≤ 4294967296 := by simp only [VM.exWL] at ho'; omega
    have hwl : ws'.length + 1 ≤ 4294967296 := by simp only [VM.exWL] at hw'; omega
    have fin : ∀ op x y : Int, VM.hdI names env k z t ar.length ws' = (ws', [Ins.mk op x y]) → za Tryd.prog 38 [.ptr gk 0, .int .i64 op, .int .i64 x, .int .i64 y] H2 m' (zn Q) := by
      intro op x y e
      rw [e] at hq
      refine zdl h2 (by omega) fun B3 H3 m3 h3 e3 => ?_
      simp [zn]
      exact hq A' B3 H3 m3 (by simpa [List.append_assoc] using h3) (ext2.trans e3)
    by_cases k1 : k = 1
    · subst k1
      simp [zj, row, hwa, hmx, hH2, hmg, hpe', hpe2]
      exact fin _ _ _ rfl
    by_cases k2 : k = 2
    · subst k2
      simp [zj, row, hwa, hmx, hH2, hmg, hpe', hpe2]
      refine zyo h2 (by omega) fun A3 H3 m3 h3 e3 => ?_
      simp [zhi]
      refine zdl h3 (by omega) fun B4 H4 m4 h4 e4 => ?_
      simp [zn]
      exact hq A3 B4 H4 m4 (by simpa [List.append_assoc, VM.hdI] using h4) ((ext2.trans e3).trans e4)
    by_cases k3 : k = 3
    · subst k3
      simp [zj, row, hwa, hmx, hH2, hmg, hpe', hpe2]
      refine ztk hn2 ?_
      simp [zhh]
      exact fin _ _ _ rfl
    by_cases k4 : k = 4
    · subst k4
      simp [zj, row, hwa, hmx, hH2, hmg, hpe', hpe2]
      exact fin _ _ _ rfl
    by_cases k5 : k = 5
    · subst k5
      simp [zj, row, hwa, hmx, hH2, hmg, hpe', hpe2]
      exact fin _ _ _ rfl
    by_cases k6 : k = 6
    · subst k6
      simp [zj, row, hwa, hmx, hH2, hmg, hpe', hpe2]
      exact fin _ _ _ rfl
    by_cases k7 : k = 7
    · subst k7
      simp [zj, row, hwa, hmx, hH2, hmg, hpe', hpe2]
      exact fin _ _ _ rfl
    by_cases k8 : k = 8
    · subst k8
      simp [zj, row, hwa, hmx, hH2, hmg, hpe', hpe2]
      exact fin _ _ _ rfl
    by_cases k9 : k = 9
    · subst k9
      simp [zj, row, hwa, hmx, hH2, hmg, hpe', hpe2]
      exact fin _ _ _ rfl
    by_cases k10 : k = 10
    · subst k10
      simp [zj, row, hwa, hmx, hH2, hmg, hpe', hpe2]
      exact fin _ _ _ rfl
    by_cases k11 : k = 11
    · subst k11
      have row2 := h2.row
      simp [zj, row, hwa, hmx, hH2, hmg, hpe', hpe2, row2]
      refine zae.of_qcr (r := .int .i64 (VM.idx (fns.map (·.name)) t)) [m] (by simp [hpe2]) (fun Hx nx hag => ?_) (.int _ _) ?_
      · obtain ⟨g1, g2⟩ := hag m (by simp)
        exact zzx (by rw [g1]; exact hpe2) g2 hfl
      · rw [hnm]
        simp [zhf, hpe2]
        refine zae.put h2 (by omega) fun rd D h3 e3 => ?_
        simp [zhg]
        exact hq A' _ _ _ (by simpa [List.append_assoc, VM.hdI] using h3) (ext2.trans e3)
    have e : VM.hdI names env k z t ar.length ws' = (ws', []) := by
      unfold VM.hdI
      rw [if_neg k1, if_neg k2, if_neg k3, if_neg k4, if_neg k11, if_neg (by omega)]
    rw [e] at hq
    simp [zj, row, hwa, hmx, hH2, hmg, hpe', hpe2, k1, k2, k3, k4, k5, k6, k7, k8, k9, k10, k11]
    exact hq A' B' H2 m' (by simpa using h2) ext2
  | succ j =>
    have hlt : i < ar.length := by omega
    have hdr : ar.drop i = ar[i] :: ar.drop (i + 1) := List.drop_eq_getElem_cons hlt
    have hxl := zcu ar[i]
    have hwi : IntKind.i64.wrap ((i : Int) + 1) = (i : Int) + 1 := i64w (by omega)
    have hwa : IntKind.i64.wrap ((at_ : Int) + i) = ((at_ + i : Nat) : Int) := by rw [i64w (by omega)]; omega
    rw [hdr] at g1 g2 g3 hw' ho' hiw
    simp only [VM.exIL, VM.dpA, VM.exWL] at g1 g2 g3 hw' ho' hiw
    have hpos := VM.exW_pos ar[i]
    obtain ⟨w1, w2⟩ := VM.exI_le names env ar[i] ws'
    simp [zj, hpe', hlt, hxl, hwa]
    refine hE ar[i] (List.getElem_mem hlt) vars hi' (at_ + i) ws' _ A' B' a H' m' _ h' hn' (by omega) (by omega) (by omega) fun A2 B2 H2 m2 h2 e2 => ?_
    rw [hnm] at h2
    simp [zhj, hwi]
    rw [← hJ]
    refine ⟨j, by omega, i + 1, _, _, _, l' ++ (VM.exI names env ar[i] ws').2, _, _, by omega, by simp, h2, he.trans e2, by omega, ?_, by omega, by simp, g1, ?_, ?_⟩
    · simp only [List.length_append] at ho' ⊢; omega
    · rw [g2, List.append_assoc]
    · omega
mutual
theorem zrn {gk : Nat} {fns : List Fnc} (hfl : fns.length ≤ 4294967296) {env : VM.Env} : ∀ x : Ex, MExC gk fns env x
  | .mk _ _ _ ar => zvs hfl (zqe hfl ar)
theorem zqe {gk : Nat} {fns : List Fnc} (hfl : fns.length ≤ 4294967296) {env : VM.Env} : ∀ l : List Ex, ∀ x ∈ l, MExC gk fns env x
  | [], x, h => absurd h (by simp)
  | y :: r, x, h => (List.mem_cons.1 h).elim (fun e => e ▸ zrn hfl y) fun h => zqe hfl r x h
end
end Go.Proofs.YtpllgpgdcbgalaaDoor
set_option maxRecDepth 8000
namespace Go.Proofs.YtpllgpgdcbgalaaDoor
open Go Go.RowKit
namespace VM
def rsI (names : List Str) (env : Env) (b la : Nat) (k : Int) (nm : Str) (t e : List Sm) (s : MkS) : MkS × Env × List Ins :=
  let p := b + la + 1
  let t' := stIL names env p t s
  let q := p + t'.2.length + 1
  let e' := stIL names env q e t'.1
  if k = 1 then ((s.1, s.2 + 1), (nm, s.2) :: env, [⟨4, (s.2 : Int), 0⟩])
  else if k = 2 then (s, env, [⟨4, (look env nm : Int), 0⟩])
  else if k = 3 then (e'.1, env, ⟨16, (q : Int), 0⟩ :: (t'.2 ++ (⟨15, ((q + e'.2.length : Nat) : Int), 0⟩ :: e'.2)))
  else if k = 4 then (t'.1, env, ⟨16, (q : Int), 0⟩ :: (t'.2 ++ [⟨15, (b : Int), 0⟩]))
  else (s, env, opS k)
theorem stI_eq (names : List Str) (env : Env) (b : Nat) (k : Int) (nm : Str) (ar : List Ex) (t e : List Sm) (s : MkS) :
    stI names env b (.mk k nm ar t e) s = ((rsI names env b (exIL names env ar s.1).2.length k nm t e ((exIL names env ar s.1).1, s.2)).1, (rsI names env b (exIL names env ar s.1).2.length k nm t e ((exIL names env ar s.1).1, s.2)).2.1, (exIL names env ar s.1).2 ++ (rsI names env b (exIL names env ar s.1).2.length k nm t e ((exIL names env ar s.1).1, s.2)).2.2) := by
  unfold stI rsI
  simp only
  (repeat' split) <;> rfl
def hiR (k : Int) (t e : List Sm) : Nat := if k = 3 then max (hiL t) (hiL e) else if k = 4 then hiL t else 0
end VM
theorem zon (o : List Ins) : (o.map Ins.avs).flatten.length = o.length * 3 := zca (f := Ins.avs) (sz := 3) (fun _ => rfl) o
theorem zow (o1 o2 : List Ins) (i : Ins) (v : Int) : zah ((o1 ++ i :: o2).map Ins.avs).flatten (o1.length * 3 + 1) [.int .i64 v] = ((o1 ++ { i with a := v } :: o2).map Ins.avs).flatten := by
  have h1 := zon o1
  unfold zah
  simp only [List.map_append, List.map_cons, List.flatten_append, List.flatten_cons]
  generalize (o1.map Ins.avs).flatten = f1 at *
  generalize (o2.map Ins.avs).flatten = f2 at *
  have e1 : (f1 ++ (i.avs ++ f2)).take (o1.length * 3 + 1) = f1 ++ [.int .i64 i.op] := by
    rw [List.take_append, h1, List.take_of_length_le (by omega)]
    simp [Ins.avs]
  have e2 : (f1 ++ (i.avs ++ f2)).drop (o1.length * 3 + 1 + 1) = .int .i64 i.b :: f2 := by
    rw [List.drop_append, h1, List.drop_of_length_le (by omega)]
    simp [Ins.avs]
    rw [show o1.length * 3 + 1 + 1 - o1.length * 3 = 2 from by omega]
    rfl
  simp only [List.length_cons, List.length_nil, Nat.zero_add]
  rw [e1, e2]
  simp [Ins.avs]
theorem MkM.lnl {gk m vars high : Nat} {fns : List Fnc} {ws : List Str} {out : List Ins} {A B : AV} {H : Heap} (h : MkM gk fns vars high ws A out B H m) (q : AV → Prop) : LNL B q = q (.int .i64 out.length) := by
  have := h.ir
  cases this with
  | nil => simp
  | row _ _ _ => simp
theorem MkM.patch {gk m vars high : Nat} {fns : List Fnc} {ws : List Str} {o1 o2 : List Ins} {i : Ins} {A B : AV} {H : Heap} (v : Int) (h : MkM gk fns vars high ws A (o1 ++ i :: o2) B H m) : ∃ gb, B = .slc gb 0 (o1.length + (o2.length + 1)) ∧ H gb = some (.row 3 ((o1 ++ i :: o2).map Ins.avs).flatten) ∧ gb ≠ gk ∧
    MkM gk fns vars high ws A (o1 ++ { i with a := v } :: o2) B (H.put gb (some (.row 3 ((o1 ++ { i with a := v } :: o2).map Ins.avs).flatten))) m ∧ MExt gk A B H m A B (H.put gb (some (.row 3 ((o1 ++ { i with a := v } :: o2).map Ins.avs).flatten))) m := by
  have hir := h.ir
  have hwr := h.wr
  have hfar := h.far
  generalize ho : o1 ++ i :: o2 = o at *
  have hol : o.length = o1.length + (o2.length + 1) := by subst ho; simp
  cases hir with
  | nil => simp at ho
  | @row l gb b1 b2 b3 =>
    rw [hol] at *
    refine ⟨gb, rfl, b3, by omega, ⟨by rw [Heap.put_ne _ _ (by omega)]; exact h.row, ?_, ?_, hfar, h.gn⟩, Nat.le_refl _, fun y _ _ _ hy => Heap.put_ne _ _ (by simpa [owns] using hy), fun _ h => .inl h, fun _ h => .inl h⟩
    · cases hwr with
      | nil => exact .nil
      | @row l ga a1 a2 a3 => exact .row a1 a2 (by rw [Heap.put_ne _ _ fun e => hfar ga (by simp [owns]) (by simp [owns, e])]; exact a3)
    · have := RowS.row (f := Ins.avs) (sz := 3) (H := H.put gb (some (.row 3 ((o1 ++ { i with a := v } :: o2).map Ins.avs).flatten))) (lo := gk + 1) (hi := m) (l := o1 ++ { i with a := v } :: o2) (ga := gb) b1 b2 (Heap.put_at _ _ _)
      rw [List.length_append, List.length_cons] at this
      exact this
theorem zsc {R : Nat → Prop} {H : Heap} {env : VM.Env} {a : AV} (h : Chn R H env a) : a.cells = [a] ∧ a.sure = true ∧ a.one = true := by cases h <;> exact ⟨rfl, rfl, rfl⟩
def MBlC (gk : Nat) (fns : List Fnc) (l : List Sm) : Prop := ∀ (env : VM.Env) (vars high : Nat) (ws : List Str) (out : List Ins) (A B a : AV) (H : Heap) (m : Nat) (Q : QT), MkM gk fns vars high ws A out B H m → Chn (Off gk A B m) H env a → ws.length + VM.smWL l ≤ 4294967296 → vars + VM.smWL l ≤ 4294967296 → out.length + VM.inWL l ≤ 4294967296 →
  (∀ A' B' H' m', MkM gk fns (VM.stIL (fns.map (·.name)) env out.length l (ws, vars)).1.2 (max high (VM.hiL l)) (VM.stIL (fns.map (·.name)) env out.length l (ws, vars)).1.1 A' (out ++ (VM.stIL (fns.map (·.name)) env out.length l (ws, vars)).2) B' H' m' → MExt gk A B H m A' B' H' m' → Q (.tup []) H' m') → za Tryd.prog 37 [.ptr gk 0, .ro (l.map Sm.avs), a] H m Q
theorem zyw {gk m vars high : Nat} {fns : List Fnc} {ws : List Str} {o1 o2 : List Ins} {i : Ins} {A B x a y z w v : AV} {H : Heap} {Q : QT} (h : MkM gk fns vars high ws A (o1 ++ i :: o2) B H m)
    (hq : ∀ H', MkM gk fns vars high ws A (o1 ++ { i with a := ((o1.length + (o2.length + 1) : Nat) : Int) } :: o2) B H' m → MExt gk A B H m A B H' m → Q a H' m) : zbx [.ptr gk 0, x, a, y, z, w] (.int .i64 o1.length) Q v H m := by
  have row := h.row
  obtain ⟨gb, hB, hgb, hgk, h4, e4⟩ := h.patch ((o1.length + (o2.length + 1) : Nat) : Int)
  have hfl := zon (o1 ++ i :: o2)
  have hsp := zow o1 o2 i ((o1.length + (o2.length + 1) : Nat) : Int)
  rw [List.length_append, List.length_cons] at hfl
  generalize ((o1 ++ i :: o2).map Ins.avs).flatten = rr at *
  generalize ((o1 ++ { i with a := ((o1.length + (o2.length + 1) : Nat) : Int) } :: o2).map Ins.avs).flatten = rr' at *
  have hsp' : rr.take (o1.length * 3 + 1) ++ AV.int .i64 ((o1.length : Int) + ((o2.length : Int) + 1)) :: rr.drop (o1.length * 3 + 1 + 1) = rr' := by
    rw [← hsp]; unfold zah; simp
  subst hB
  simp [zbx, row, hgb, hfl, hsp']
  refine ⟨by omega, by omega, ?_⟩
  exact hq _ h4 e4
set_option maxHeartbeats 2000000 in
theorem zxi {gk : Nat} {fns : List Fnc} {env : VM.Env} {k : Int} {nm : Str} {arv : AV} {t e : List Sm} (hT : MBlC gk fns t) (hE : MBlC gk fns e) {vars high b : Nat} {ws : List Str} {out : List Ins} {A B a : AV} {H : Heap} {m n : Nat} {Q : QT} {K : J3} (h : MkM gk fns vars high ws A out B H m) (hn : Chn (Off gk A B m) H env a)
    (hb : b ≤ out.length) (hw : ws.length + VM.smWL t + VM.smWL e ≤ 4294967296) (hv : vars + VM.smWL t + VM.smWL e + 1 ≤ 4294967296) (ho : out.length + VM.inWL t + VM.inWL e + 2 ≤ 4294967296)
    (hq : ∀ r, r = VM.rsI (fns.map (·.name)) env b (out.length - b) k nm t e (ws, vars) → ∀ a' A' B' H' m', MkM gk fns r.1.2 (max high (VM.hiR k t e)) r.1.1 A' (out ++ r.2.2) B' H' m' → MExt gk A B H m A' B' H' m' → Chn (Off gk A' B' m') H' r.2.1 a' → Q a' H' m') :
    zm Q K [.ptr gk 0, .rop [.int .i64 k, .str nm, arv, .ro (t.map Sm.avs), .ro (e.map Sm.avs)] 0, a, .int .i64 b, .int .i64 n, .int .i64 n] H m := by
  have row := h.row
  have hp : b + (out.length - b) + 1 = out.length + 1 := by omega
  have opc : ∀ op : Int, VM.rsI (fns.map (·.name)) env b (out.length - b) k nm t e (ws, vars) = ((ws, vars), env, [Ins.mk op 0 0]) → VM.hiR k t e = 0 → za Tryd.prog 38 [.ptr gk 0, .int .i64 op, .int .i64 0, .int .i64 0] H m (zy Q [.ptr gk 0, .rop [.int .i64 k, .str nm, arv, .ro (t.map Sm.avs), .ro (e.map Sm.avs)] 0, a, .int .i64 b, .int .i64 n, .int .i64 n]) := by
    intro op e1 e2
    have hq' := hq _ e1.symm
    rw [e2] at hq'
    refine zdl h (by omega) fun B' H' m' h' e' => ?_
    simp [zy]
    exact hq' a A B' H' m' (by simpa using h') e' (hn.ext e')
  by_cases k1 : k = 1
  · subst k1
    have hq' := hq _ rfl
    simp only [VM.rsI, VM.hiR] at hq'
    obtain ⟨n1, n2, n3⟩ := h.new (.row 3 [.str nm, .int .i64 vars, a])
    obtain ⟨s1, s2⟩ := n1.set (vars + 1) high
    have c1 : Chn (Off gk A B (m + 1)) (H.put m (some (.row 3 [.str nm, .int .i64 vars, a]))) ((nm, vars) :: env) (.ptr m 0) := .node n3 (Heap.put_at _ _ _) (hn.ext n2)
    have hwv : IntKind.i64.wrap ((vars : Int) + 1) = ((vars + 1 : Nat) : Int) := by rw [i64w (by omega)]; omega
    have hgn := h.gn
    obtain ⟨ha1, ha2, ha3⟩ := zsc hn
    have ne_0 : gk ≠ m ∧ m ≠ gk := ⟨by omega, by omega⟩
    simp [zm, row, hwv, ha1, ha2, ha3, ne_0]
    refine zdl s1 (by omega) fun B' H' m' h' e' => ?_
    simp [zhc]
    exact hq' _ A B' H' m' (by simpa using h') ((n2.trans s2).trans e') ((c1.ext s2).ext e')
  by_cases k2 : k = 2
  · subst k2
    have hq' := hq _ rfl
    simp only [VM.rsI, VM.hiR] at hq'
    simp [zm]
    refine ztk hn ?_
    simp [zhb]
    refine zdl h (by omega) fun B' H' m' h' e' => ?_
    simp [zy]
    exact hq' a A B' H' m' (by simpa using h') e' (hn.ext e')
  by_cases k3 : k = 3
  · subst k3
    have hq' := hq _ rfl
    simp only [VM.rsI, VM.hiR, hp, Int.reduceEq, if_true, if_false] at hq'
    obtain ⟨w1, w2, w3⟩ := VM.stIL_le (fns.map (·.name)) t env (out.length + 1) (ws, vars)
    simp only at w1 w2
    simp [zm]
    refine zdl h (by omega) fun B1 H1 m1 h1 e1 => ?_
    simp [zgy]
    refine hT env _ _ _ _ A B1 a H1 m1 _ h1 (hn.ext e1) (by omega) (by omega) (by simp; omega) fun A2 B2 H2 m2 h2 e2 => ?_
    simp only [List.length_append, List.length_singleton] at h2
    simp [zgz]
    generalize VM.stIL (fns.map (·.name)) env (out.length + 1) t (ws, vars) = t' at *
    refine zdl h2 (by simp; omega) fun B3 H3 m3 h3 e3 => ?_
    have row3 := h3.row
    have hv3 : ((out.length + (t'.2.length + 1 + 1) : Nat) : Int) = ((out.length + 1 + t'.2.length + 1 : Nat) : Int) := by omega
    obtain ⟨gb, hB3, hgb, hgk, h4, e4⟩ := MkM.patch (o1 := out) (i := Ins.mk 16 0 0) (o2 := t'.2 ++ [Ins.mk 15 0 0]) ((out.length + (t'.2.length + 1 + 1) : Nat) : Int) (by simpa using h3)
    have hfl := zon (out ++ Ins.mk 16 0 0 :: (t'.2 ++ [Ins.mk 15 0 0]))
    have hsp := zow out (t'.2 ++ [Ins.mk 15 0 0]) (Ins.mk 16 0 0) ((out.length + (t'.2.length + 1 + 1) : Nat) : Int)
    have hl4 : (out ++ Ins.mk 16 ((out.length + (t'.2.length + 1 + 1) : Nat) : Int) 0 :: (t'.2 ++ [Ins.mk 15 0 0])).length = out.length + 1 + t'.2.length + 1 := by simp; omega
    simp only [List.length_append, List.length_cons, List.length_nil, Nat.zero_add] at hfl hB3
    generalize ((out ++ Ins.mk 16 0 0 :: (t'.2 ++ [Ins.mk 15 0 0])).map Ins.avs).flatten = rr at *
    have hsp' : rr.take (out.length * 3 + 1) ++ AV.int .i64 ((out.length : Int) + ((t'.2.length : Int) + 1 + 1)) :: rr.drop (out.length * 3 + 1 + 1) = ((out ++ Ins.mk 16 ((out.length + (t'.2.length + 1 + 1) : Nat) : Int) 0 :: (t'.2 ++ [Ins.mk 15 0 0])).map Ins.avs).flatten := by
      rw [← hsp]; unfold zah; simp
    generalize hrr' : ((out ++ Ins.mk 16 ((out.length + (t'.2.length + 1 + 1) : Nat) : Int) 0 :: (t'.2 ++ [Ins.mk 15 0 0])).map Ins.avs).flatten = rr' at *
    subst hB3
    simp [zha, row3, hgb, hfl, hsp']
    refine ⟨by omega, by omega, ?_⟩
    have c4 := ((((hn.ext e1).ext e2).ext e3).ext e4)
    refine hE env _ _ _ _ A2 _ a _ m3 _ h4 c4 (by omega) (by omega) (by rw [hl4]; omega) fun A5 B5 H5 m5 h5 e5 => ?_
    rw [hl4] at h5
    generalize VM.stIL (fns.map (·.name)) env (out.length + 1 + t'.2.length + 1) e t'.1 = e' at *
    have x5 : MkM gk fns e'.1.2 (max (max high (VM.hiL t)) (VM.hiL e)) e'.1.1 A5 ((out ++ Ins.mk 16 ((out.length + (t'.2.length + 1 + 1) : Nat) : Int) 0 :: t'.2) ++ Ins.mk 15 0 0 :: e'.2) B5 H5 m5 := by simpa using h5
    have hix : ((out ++ Ins.mk 16 ((out.length + (t'.2.length + 1 + 1) : Nat) : Int) 0 :: t'.2).length : Int) = (out.length : Int) + ((t'.2.length : Int) + 1) := by simp
    rw [← hix]
    refine zyw x5 fun H6 h6 e6 => ?_
    refine hq' a A5 B5 H6 m5 ?_ (((((e1.trans e2).trans e3).trans e4).trans e5).trans e6) ((c4.ext e5).ext e6)
    rw [hv3] at h6
    simp only [List.length_append, List.length_cons, List.append_assoc, List.cons_append] at h6
    rw [show max high (max (VM.hiL t) (VM.hiL e)) = max (max high (VM.hiL t)) (VM.hiL e) from by omega, show out.length + 1 + t'.2.length + 1 + e'.2.length = out.length + (t'.2.length + 1) + (e'.2.length + 1) from by omega]
    exact h6
  by_cases k4 : k = 4
  · subst k4
    have hq' := hq _ rfl
    simp only [VM.rsI, VM.hiR, hp, Int.reduceEq, if_true, if_false] at hq'
    obtain ⟨w1, w2, w3⟩ := VM.stIL_le (fns.map (·.name)) t env (out.length + 1) (ws, vars)
    simp only at w1 w2
    simp [zm]
    refine zdl h (by omega) fun B1 H1 m1 h1 e1 => ?_
    simp [zga]
    refine hT env _ _ _ _ A B1 a H1 m1 _ h1 (hn.ext e1) (by omega) (by omega) (by simp; omega) fun A2 B2 H2 m2 h2 e2 => ?_
    simp only [List.length_append, List.length_singleton] at h2
    simp [zgx]
    generalize VM.stIL (fns.map (·.name)) env (out.length + 1) t (ws, vars) = t' at *
    refine zdl h2 (by simp; omega) fun B3 H3 m3 h3 e3 => ?_
    have x3 : MkM gk fns t'.1.2 (max high (VM.hiL t)) t'.1.1 A2 (out ++ Ins.mk 16 0 0 :: (t'.2 ++ [Ins.mk 15 (b : Int) 0])) B3 H3 m3 := by simpa using h3
    refine zyw x3 fun H6 h6 e6 => ?_
    refine hq' a A2 B3 H6 m3 ?_ (((e1.trans e2).trans e3).trans e6) (((((hn.ext e1).ext e2).ext e3)).ext e6)
    simp only [List.length_append, List.length_cons, List.length_nil] at h6
    rw [show out.length + 1 + t'.2.length + 1 = out.length + (t'.2.length + (0 + 1) + 1) from by omega]
    exact h6
  have h0 : VM.hiR k t e = 0 := by unfold VM.hiR; rw [if_neg k3, if_neg k4]
  have hr : VM.rsI (fns.map (·.name)) env b (out.length - b) k nm t e (ws, vars) = ((ws, vars), env, VM.opS k) := by unfold VM.rsI; simp only; rw [if_neg k1, if_neg k2, if_neg k3, if_neg k4]
  by_cases k5 : k = 5
  · subst k5
    simp [zm]
    exact opc 14 hr h0
  by_cases k6 : k = 6
  · subst k6
    simp [zm]
    exact opc 18 hr h0
  by_cases k7 : k = 7
  · subst k7
    simp [zm]
    exact opc 9 hr h0
  by_cases k8 : k = 8
  · subst k8
    simp [zm]
    exact opc 10 hr h0
  by_cases k9 : k = 9
  · subst k9
    simp [zm]
    exact opc 19 hr h0
  have ho0 : VM.opS k = [] := by unfold VM.opS; rw [if_neg k5, if_neg k6, if_neg k7, if_neg k8, if_neg k9]
  have hq' := hq _ hr.symm
  rw [h0, ho0] at hq'
  simp [zm, k1, k2, k3, k4, k5, k6, k7, k8, k9]
  exact hq' a A B H m (by simpa using h) (MExt.refl _ _ _ _ _) hn
end Go.Proofs.YtpllgpgdcbgalaaDoor
set_option maxRecDepth 8000
namespace Go.Proofs.YtpllgpgdcbgalaaDoor
open Go Go.RowKit
def MSmC (gk : Nat) (fns : List Fnc) (x : Sm) : Prop := ∀ (env : VM.Env) (vars high : Nat) (ws : List Str) (out : List Ins) (A B a : AV) (H : Heap) (m : Nat) (Q : QT), MkM gk fns vars high ws A out B H m → Chn (Off gk A B m) H env a → ws.length + VM.smW x ≤ 4294967296 → vars + VM.smW x ≤ 4294967296 → out.length + VM.inW x ≤ 4294967296 →
  (∀ a' A' B' H' m', MkM gk fns (VM.stI (fns.map (·.name)) env out.length x (ws, vars)).1.2 (max high (VM.hiS x)) (VM.stI (fns.map (·.name)) env out.length x (ws, vars)).1.1 A' (out ++ (VM.stI (fns.map (·.name)) env out.length x (ws, vars)).2.2) B' H' m' → MExt gk A B H m A' B' H' m' → Chn (Off gk A' B' m') H' (VM.stI (fns.map (·.name)) env out.length x (ws, vars)).2.1 a' → Q a' H' m') →
  za Tryd.prog 56 [.ptr gk 0, .rop x.avs 0, a] H m Q
set_option maxHeartbeats 2000000 in
theorem zvr {gk : Nat} {fns : List Fnc} (hfl : fns.length ≤ 4294967296) {k : Int} {nm : Str} {ar : List Ex} {t e : List Sm} (hT : MBlC gk fns t) (hE : MBlC gk fns e) : MSmC gk fns (.mk k nm ar t e) := by
  intro env vars high ws out A B a H m Q h hn hw hv ho hq
  unfold VM.smW at hw hv
  unfold VM.inW at ho
  rw [VM.stI_eq] at hq
  have hhi : VM.hiS (.mk k nm ar t e) = max (VM.dpA ar 0) (VM.hiR k t e) := by unfold VM.hiS VM.hiR; rfl
  rw [hhi] at hq
  refine zkx _ _ _ _ _ _ ?_
  have hal := VM.len_exWL ar
  have row := h.row
  rw [zdj]
  simp [zgw, row]
  rw [h.lnl]
  generalize hnm : fns.map (·.name) = names at *
  refine LP.mk (fun j xs H' m' => ∃ (i hi' : Nat) (ws' : List Str) (out' l' : List Ins) (A' B' : AV), i + j = ar.length ∧ xs = [.ptr gk 0, .rop [.int .i64 k, .str nm, .ro (ar.map Ex.avs), .ro (t.map Sm.avs), .ro (e.map Sm.avs)] 0, a, .int .i64 out.length, .int .i64 ar.length, .int .i64 i] ∧ MkM gk fns vars hi' ws' A' out' B' H' m' ∧ MExt gk A B H m A' B' H' m' ∧ ws'.length + VM.exWL (ar.drop i) ≤ ws.length + VM.exWL ar ∧ out'.length + VM.exWL (ar.drop i) ≤ out.length + VM.exWL ar
    ∧ i + VM.exWL (ar.drop i) ≤ VM.exWL ar ∧ out' = out ++ l' ∧ (VM.exIL names env ar ws).1 = (VM.exIL names env (ar.drop i) ws').1 ∧ (VM.exIL names env ar ws).2 = l' ++ (VM.exIL names env (ar.drop i) ws').2 ∧ max hi' (VM.dpA (ar.drop i) i) = max high (VM.dpA ar 0)) ar.length ⟨0, high, ws, out, [], A, B, by omega, rfl, h, MExt.refl _ _ _ _ _, by simp, by simp, by simp, by simp, by simp, by simp, by simp⟩ ?_
  rintro j xs H' m' ⟨i, hi', ws', out', l', A', B', hij, rfl, h', he, hw', ho', hiw, rfl, g1, g2, g3⟩
  have hn' := hn.ext he
  generalize hJ : (fun (xs : List AV) (H' : Heap) (m' : Nat) => ∃ j', j' < j ∧ ∃ (i hi' : Nat) (ws' : List Str) (out' l' : List Ins) (A' B' : AV), i + j' = ar.length ∧ xs = [.ptr gk 0, .rop [.int .i64 k, .str nm, .ro (ar.map Ex.avs), .ro (t.map Sm.avs), .ro (e.map Sm.avs)] 0, a, .int .i64 out.length, .int .i64 ar.length, .int .i64 i] ∧ MkM gk fns vars hi' ws' A' out' B' H' m' ∧ MExt gk A B H m A' B' H' m' ∧ ws'.length + VM.exWL (ar.drop i) ≤ ws.length + VM.exWL ar ∧ out'.length + VM.exWL (ar.drop i) ≤ out.length + VM.exWL ar
    ∧ i + VM.exWL (ar.drop i) ≤ VM.exWL ar ∧ out' = out ++ l' ∧ (VM.exIL names env ar ws).1 = (VM.exIL names env (ar.drop i) ws').1 ∧ (VM.exIL names env ar ws).2 = l' ++ (VM.exIL names env (ar.drop i) ws').2 ∧ max hi' (VM.dpA (ar.drop i) i) = max high (VM.dpA ar 0)) = J
  cases j with
  | zero =>
    obtain rfl : i = ar.length := by omega
    rw [List.drop_length] at g1 g2 g3 hw' ho'
    simp only [VM.exIL, VM.dpA, VM.exWL, List.append_nil, Nat.add_zero, Nat.max_zero] at g1 g2 g3 hw' ho'
    rw [g1, g2] at hq
    have hlo : (out ++ l').length - out.length = l'.length := by simp
    subst hnm
    refine zxi hT hE h' hn' (by simp) (by omega) (by omega) (by omega) fun r hr a2 A2 B2 H2 m2 h2 e2 c2 => ?_
    rw [hlo] at hr
    rw [← hr] at hq
    exact hq a2 A2 B2 H2 m2 (by rw [List.append_assoc] at h2; rw [show max high (max (VM.dpA ar 0) (VM.hiR k t e)) = max hi' (VM.hiR k t e) from by omega]; exact h2) (he.trans e2) c2
  | succ j =>
    have hlt : i < ar.length := by omega
    have hdr : ar.drop i = ar[i] :: ar.drop (i + 1) := List.drop_eq_getElem_cons hlt
    have hxl := zcu ar[i]
    have hwi : IntKind.i64.wrap ((i : Int) + 1) = (i : Int) + 1 := i64w (by omega)
    rw [hdr] at g1 g2 g3 hw' ho' hiw
    simp only [VM.exIL, VM.dpA, VM.exWL] at g1 g2 g3 hw' ho' hiw
    have hpos := VM.exW_pos ar[i]
    obtain ⟨w1, w2⟩ := VM.exI_le names env ar[i] ws'
    simp [zm, hlt, hxl]
    refine zrn hfl ar[i] vars hi' i ws' _ A' B' a H' m' _ h' hn' (by omega) (by omega) (by omega) fun A2 B2 H2 m2 h2 e2 => ?_
    rw [hnm] at h2
    simp [zhd, hwi]
    rw [← hJ]
    refine ⟨j, by omega, i + 1, _, _, _, l' ++ (VM.exI names env ar[i] ws').2, _, _, by omega, by simp, h2, he.trans e2, by omega, ?_, by omega, by simp, g1, ?_, ?_⟩
    · simp only [List.length_append] at ho' ⊢; omega
    · rw [g2, List.append_assoc]
    · omega
set_option maxHeartbeats 1000000 in
theorem zlp {gk : Nat} {fns : List Fnc} {l : List Sm} (hS : ∀ x ∈ l, MSmC gk fns x) : MBlC gk fns l := by
  intro env vars high ws out A B a H m Q h hn hw hv ho hq
  refine zkj _ _ _ _ _ _ ?_
  have hlen := zom l
  simp [zgb]
  generalize hnm : fns.map (·.name) = names at *
  refine LP.mk (fun j xs H' m' => ∃ (i hi' : Nat) (s' : VM.MkS) (env' : VM.Env) (l' : List Ins) (A' B' a' : AV), i + j = l.length ∧ xs = [.ptr gk 0, .ro (l.map Sm.avs), a', .int .i64 l.length, .int .i64 i] ∧ MkM gk fns s'.2 hi' s'.1 A' (out ++ l') B' H' m' ∧ MExt gk A B H m A' B' H' m' ∧ Chn (Off gk A' B' m') H' env' a' ∧ s'.1.length + VM.smWL (l.drop i) ≤ 4294967296 ∧ s'.2 + VM.smWL (l.drop i) ≤ 4294967296 ∧ (out ++ l').length + VM.inWL (l.drop i) ≤ 4294967296
    ∧ (VM.stIL names env out.length l (ws, vars)).1 = (VM.stIL names env' (out ++ l').length (l.drop i) s').1 ∧ (VM.stIL names env out.length l (ws, vars)).2 = l' ++ (VM.stIL names env' (out ++ l').length (l.drop i) s').2 ∧ max hi' (VM.hiL (l.drop i)) = max high (VM.hiL l)) l.length ⟨0, high, (ws, vars), env, [], A, B, a, by omega, rfl, by simpa using h, MExt.refl _ _ _ _ _, hn, by simpa using hw, by simpa using hv, by simpa using ho, by simp, by simp, by simp⟩ ?_
  rintro j xs H' m' ⟨i, hi', s', env', l', A', B', a', hij, rfl, h', he, hn', hw', hv', ho', g1, g2, g3⟩
  generalize hJ : (fun (xs : List AV) (H' : Heap) (m' : Nat) => ∃ j', j' < j ∧ ∃ (i hi' : Nat) (s' : VM.MkS) (env' : VM.Env) (l' : List Ins) (A' B' a' : AV), i + j' = l.length ∧ xs = [.ptr gk 0, .ro (l.map Sm.avs), a', .int .i64 l.length, .int .i64 i] ∧ MkM gk fns s'.2 hi' s'.1 A' (out ++ l') B' H' m' ∧ MExt gk A B H m A' B' H' m' ∧ Chn (Off gk A' B' m') H' env' a' ∧ s'.1.length + VM.smWL (l.drop i) ≤ 4294967296 ∧ s'.2 + VM.smWL (l.drop i) ≤ 4294967296 ∧ (out ++ l').length + VM.inWL (l.drop i) ≤ 4294967296
    ∧ (VM.stIL names env out.length l (ws, vars)).1 = (VM.stIL names env' (out ++ l').length (l.drop i) s').1 ∧ (VM.stIL names env out.length l (ws, vars)).2 = l' ++ (VM.stIL names env' (out ++ l').length (l.drop i) s').2 ∧ max hi' (VM.hiL (l.drop i)) = max high (VM.hiL l)) = J
  cases j with
  | zero =>
    obtain rfl : i = l.length := by omega
    rw [List.drop_length] at g1 g2 g3
    simp only [VM.stIL, VM.hiL, List.append_nil, Nat.max_zero] at g1 g2 g3
    rw [g1, g2, ← g3] at hq
    simp [zdc]
    exact hq A' B' H' m' h' he
  | succ j =>
    have hlt : i < l.length := by omega
    have hdr : l.drop i = l[i] :: l.drop (i + 1) := List.drop_eq_getElem_cons hlt
    have hxl := zkn l[i]
    have hwi : IntKind.i64.wrap ((i : Int) + 1) = (i : Int) + 1 := i64w (by omega)
    rw [hdr] at g1 g2 g3 hw' hv' ho'
    simp only [VM.stIL, VM.hiL, VM.smWL, VM.inWL] at g1 g2 g3 hw' hv' ho'
    obtain ⟨w1, w2, w3⟩ := VM.stI_le names l[i] env' (out ++ l').length s'
    simp [zdc, hlt, hxl]
    refine hS l[i] (List.getElem_mem hlt) env' s'.2 hi' s'.1 _ A' B' a' H' m' _ h' hn' (by omega) (by omega) (by omega) fun a2 A2 B2 H2 m2 h2 e2 c2 => ?_
    rw [hnm] at h2 c2
    simp [zgc, hwi]
    rw [← hJ]
    have hl2 : (out ++ (l' ++ (VM.stI names env' (out ++ l').length l[i] s').2.2)).length = (out ++ l').length + (VM.stI names env' (out ++ l').length l[i] s').2.2.length := by simp; omega
    refine ⟨j, by omega, i + 1, _, (VM.stI names env' (out ++ l').length l[i] s').1, _, l' ++ (VM.stI names env' (out ++ l').length l[i] s').2.2, _, _, a2, by omega, by simp, by rw [← List.append_assoc]; exact h2, he.trans e2, c2, by omega, by omega, by rw [hl2]; omega, by rw [hl2]; exact g1, by rw [hl2, g2, List.append_assoc], by omega⟩
mutual
theorem zxh {gk : Nat} {fns : List Fnc} (hfl : fns.length ≤ 4294967296) : ∀ x : Sm, MSmC gk fns x
  | .mk _ _ _ t e => zvr hfl (zlp (zju hfl t)) (zlp (zju hfl e))
theorem zju {gk : Nat} {fns : List Fnc} (hfl : fns.length ≤ 4294967296) : ∀ l : List Sm, ∀ x ∈ l, MSmC gk fns x
  | [], x, h => absurd h (by simp)
  | y :: r, x, h => (List.mem_cons.1 h).elim (fun e => e ▸ zxh hfl y) fun h => zju hfl r x h
end
end Go.Proofs.YtpllgpgdcbgalaaDoor
set_option maxRecDepth 8000
namespace Go.Proofs.YtpllgpgdcbgalaaDoor
open Go Go.RowKit
theorem MkM.same {gk m m' vars high : Nat} {fns : List Fnc} {ws : List Str} {out : List Ins} {A B : AV} {H H' : Heap} (h : MkM gk fns vars high ws A out B H m) (hm : m ≤ m') (hk : ∀ y, y = gk ∨ y ∈ owns A ∨ y ∈ owns B → H' y = H y) : MkM gk fns vars high ws A out B H' m' := by
  have h1 := h.wr
  have h2 := h.ir
  have hgn := h.gn
  refine ⟨by rw [hk gk (.inl rfl)]; exact h.row, ?_, ?_, h.far, by omega⟩
  · cases h1 with
    | nil => exact .nil
    | @row l ga a b c => exact .row a (by omega) (by rw [hk ga (.inr (.inl (by simp [owns])))]; exact c)
  · cases h2 with
    | nil => exact .nil
    | @row l ga a b c => exact .row a (by omega) (by rw [hk ga (.inr (.inr (by simp [owns])))]; exact c)
theorem MkM.reset {gk m vars high : Nat} {fns : List Fnc} {ws : List Str} {out : List Ins} {A B : AV} {H H' : Heap} (vars' : Nat) (h : MkM gk fns vars high ws A out B H m) (hr : H' gk = some (.row 5 [.ro (fns.map Fnc.avs), A, .int .i64 vars', .int .i64 (0 : Nat), .nils])) (hk : ∀ y, y ≠ gk → H' y = H y) : MkM gk fns vars' 0 ws A [] .nils H' m :=
  ⟨hr, h.wr.keep (Nat.le_refl _) fun y hy _ => hk y (by omega), .nil, fun y _ hy => by simp [owns] at hy, h.gn⟩
def rawC (p : Cod × AV) : List AV := [.int .i64 p.1.params, .int .i64 p.1.vars, p.2]
theorem zxf (p : Cod × AV) : (rawC p).length = 3 := rfl
structure CdS (R : Nat → Prop) (H : Heap) (cs : List (Cod × AV)) (C : AV) : Prop where
  row : (C = .nils ∧ cs = []) ∨ ∃ gc, C = .slc gc 0 cs.length ∧ R gc ∧ H gc = some (.row 3 (cs.map rawC).flatten)
  ent : ∀ p ∈ cs, ∃ gi, p.2 = .slc gi 0 p.1.ins.length ∧ R gi ∧ H gi = some (.row 3 (p.1.ins.map Ins.avs).flatten) ∧ gi ∉ owns C
theorem CdS.mono {R R' : Nat → Prop} {H H' : Heap} {cs : List (Cod × AV)} {C : AV} (h : CdS R H cs C) (hr : ∀ g, R g → R' g ∧ H' g = H g) : CdS R' H' cs C := by
  refine ⟨?_, fun p hp => ?_⟩
  · rcases h.row with h1 | ⟨gc, h1, h2, h3⟩
    · exact .inl h1
    · exact .inr ⟨gc, h1, (hr _ h2).1, by rw [(hr _ h2).2]; exact h3⟩
  · obtain ⟨gi, h1, h2, h3, h4⟩ := h.ent p hp
    exact ⟨gi, h1, (hr _ h2).1, by rw [(hr _ h2).2]; exact h3, h4⟩
theorem zaad (R : Nat → Prop) (l : List Ins) : ∀ c ∈ (l.map Ins.avs).flatten, Bel R c := by
  intro c hc
  obtain ⟨x, hx, hc⟩ := List.mem_flatten.1 hc
  obtain ⟨i, _, rfl⟩ := List.mem_map.1 hx
  simp only [Ins.avs, List.mem_cons, List.not_mem_nil, or_false] at hc
  rcases hc with rfl | rfl | rfl <;> exact .int _ _
theorem CdS.frz {R : Nat → Prop} {H : Heap} {cs : List (Cod × AV)} {C : AV} {n : Nat} (h : CdS R H cs C) (hR : ∀ g, R g → n ≤ g) : Frz H n C (.ro (cs.map fun p => p.1.avs)) := by
  have key : ∀ l : List (Cod × AV), (∀ p ∈ l, ∃ gi, p.2 = .slc gi 0 p.1.ins.length ∧ R gi ∧ H gi = some (.row 3 (p.1.ins.map Ins.avs).flatten) ∧ gi ∉ owns C) → FL H n (l.map rawC).flatten (l.map fun p => p.1.avs).flatten := by
    intro l
    induction l with
    | nil => intro _; exact .nil
    | cons p r ih =>
      intro hl
      rw [List.map_cons, List.flatten_cons, List.map_cons, List.flatten_cons]
      refine FL.append ?_ (ih fun q hq => hl q (by simp [hq]))
      obtain ⟨gi, e1, e2, e3, _⟩ := hl p (by simp)
      refine .cons (.same _ (.int _ _)) (.cons (.same _ (.int _ _)) (.cons ?_ .nil))
      rw [e1]
      exact Frz.rowW (hR _ e2) e3 (by simp) (fun x hx => by obtain ⟨i, _, rfl⟩ := List.mem_map.1 hx; rfl) (FL.same (zaad _ _))
  rcases h.row with ⟨rfl, rfl⟩ | ⟨gc, rfl, h2, h3⟩
  · exact .nils
  · exact Frz.rowW (hR _ h2) h3 (by simp) (fun x hx => by obtain ⟨p, _, rfl⟩ := List.mem_map.1 hx; rfl) (key cs h.ent)
def Ours (n : Nat) (A : AV) (m g : Nat) : Prop := n + 2 < g ∧ Off (n + 1) A .nils m g
structure MaL (H0 : Heap) (n : Nat) (fns : List Fnc) (ws : List Str) (A C : AV) (cs : List (Cod × AV)) (H : Heap) (m : Nat) : Prop where
  mx : ∃ vars high out B, MkM (n + 1) fns vars high ws A out B H m
  r0 : H n = some (.row 2 [.nils, .nils])
  rp : H (n + 2) = some (.row 2 [C, .nils])
  op : n + 2 ∉ owns A
  cd : CdS (Ours n A m) H cs C
  keep : ∀ y, y < n → H y = H0 y
  bm : n + 2 < m
theorem ztg : ∀ (ps : List Str) (i : Nat) (env : VM.Env) (x : Str), VM.penv (ps ++ [x]) i env = (x, i + ps.length) :: VM.penv ps i env
  | [], i, env, x => rfl
  | p :: r, i, env, x => by
    show VM.penv (r ++ [x]) (i + 1) _ = _
    rw [ztg r (i + 1)]
    simp only [List.length_cons]
    rw [show i + 1 + r.length = i + (r.length + 1) from by omega]
    rfl
end Go.Proofs.YtpllgpgdcbgalaaDoor
