/- What is to be shown of each function, written out. -/
import Derived.Test.YtobioljjoipimaaDoorG5
set_option linter.unusedSimpArgs false
set_option linter.unusedVariables false
set_option maxRecDepth 8000
namespace Go.Proofs.YtobioljjoipimaaDoor
open Go Go.RowKit
def zfv (a0 : AV) (H : Heap) (nx : Nat) (Q : QT) : Prop :=
 BL BinOp.eql a0 AV.nils fun v1 =>
 CNDC v1
 (Q AV.nils H nx)
 (APP 3 24 (AV.slc nx 0 0) a0 (H.put nx (some (AObj.row 3 []))) (nx + 1) fun v2 H3 nx4 =>
 Q v2 H3 nx4)
theorem zkw (a0 : AV) (H : Heap) (nx : Nat) (Q : QT) : zfv a0 H nx Q → za Tryd.prog 78 [a0] H nx Q :=
  zj (lv := lvOf []) (c := zp Tryd.f78) zy zz mixed Tryd.func78 (by kernel_rfl) (by kernel_rfl) (by kernel_rfl) (by kernel_rfl) (by kernel_rfl)
def zcr (a0 : AV) (H : Heap) (nx : Nat) (Q : QT) : Prop :=
 BL BinOp.eql a0 AV.nils fun v1 =>
 CNDC v1
 (Q AV.nils H nx)
 (APP 1 16 (AV.slc nx 0 0) a0 (H.put nx (some (AObj.row 1 []))) (nx + 1) fun v2 H3 nx4 =>
 Q v2 H3 nx4)
theorem zgc (a0 : AV) (H : Heap) (nx : Nat) (Q : QT) : zcr a0 H nx Q → za Tryd.prog 79 [a0] H nx Q :=
  zj (lv := lvOf []) (c := zp Tryd.f79) zy zz mixed Tryd.func79 (by kernel_rfl) (by kernel_rfl) (by kernel_rfl) (by kernel_rfl) (by kernel_rfl)
def zgk (a0 : AV) (H : Heap) (nx : Nat) (Q : QT) : Prop :=
 BL BinOp.eql a0 AV.nils fun v1 =>
 CNDC v1
 (Q AV.nils H nx)
 (APP 6 64 (AV.slc nx 0 0) a0 (H.put nx (some (AObj.row 6 []))) (nx + 1) fun v2 H3 nx4 =>
 Q v2 H3 nx4)
theorem zlm (a0 : AV) (H : Heap) (nx : Nat) (Q : QT) : zgk a0 H nx Q → za Tryd.prog 81 [a0] H nx Q :=
  zj (lv := lvOf []) (c := zp Tryd.f81) zy zz mixed Tryd.func81 (by kernel_rfl) (by kernel_rfl) (by kernel_rfl) (by kernel_rfl) (by kernel_rfl)
def zwb (nx6 : Nat) (xs4 : List AV) (K3 : J3) (v12 : AV) (H13 : Heap) (nx14 : Nat) : Prop :=
 ST 1 (AV.ptr nx6 2) v12 H13 fun H15 =>
 LD true 3 (AV.ptr nx6 0) H15 fun v16 =>
 BSL 1 3 [AV.int IntKind.i64 0, AV.int IntKind.i64 0, AV.nils] [(0, v16)] fun cells17 =>
 APP 3 40 (nth xs4 2) (AV.slc nx14 0 1) (H15.put nx14 (some (AObj.row 3 cells17))) (nx14 + 1) fun v18 H19 nx20 =>
 BI BinOp.add (nth xs4 5) (AV.int IntKind.i64 1) fun v21 =>
 K3 [nth xs4 0, nth xs4 1, v18, nth xs4 3, nth xs4 4, v21] H19 nx20
def zib (nx37 : Nat) (v44 : AV) (H41 : Heap) (D47 : zg) (rd49 : List Nat) (xs35 : List AV) (fr46 : List Nat) (K34 : J3) (v50 : AV) (_ : List Nat) (fr52 : List Nat) (D53 : zg) : Prop :=
 zah 1 (AV.ptr nx37 2) v44 ((H41.apply D47).apply D53) fun _ _ fr56 D57 =>
 zah 1 (AV.ptr nx37 3) v50 (((H41.apply D47).apply D53).apply D57) fun _ _ fr60 D61 =>
 zf (domD D47) [] (
 zf (domD D47) [] (
 zf (domD D47) rd49 (
 zf (domD D47) [] (
 zf (domD D53) [] (
 zf (domD D53) [] (
 LD true 4 (AV.ptr nx37 0) ((((H41.apply D47).apply D53).apply D57).apply D61) fun v62 =>
 BSL 1 4 [AV.int IntKind.i64 0, AV.int IntKind.i64 0, AV.nils, AV.nils] [(0, v62)] fun cells63 =>
 APP 4 64 (nth xs35 2) (AV.slc (((((nx37 + 1) + fr46.length) + fr52.length) + fr56.length) + fr60.length) 0 1) (((((H41.apply D47).apply D53).apply D57).apply D61).put ((((((nx37 + 1) + fr46.length) + fr52.length) + fr56.length) + fr60.length)) (some (AObj.row 4 cells63))) ((((((nx37 + 1) + fr46.length) + fr52.length) + fr56.length) + fr60.length) + 1) fun v64 H65 nx66 =>
 BI BinOp.add (nth xs35 5) (AV.int IntKind.i64 1) fun v67 =>
 K34 [nth xs35 0, nth xs35 1, v64, nth xs35 3, nth xs35 4, v67] H65 nx66))))))
def zqc (nx37 : Nat) (H41 : Heap) (xs35 : List AV) (K34 : J3) (v44 : AV) (_ : List Nat) (fr46 : List Nat) (D47 : zg) : Prop :=
 LDR false 1 (AV.ptr nx37 3) (H41.apply D47) fun v48 rd49 =>
 zo Tryd.prog (AV.clo 80 []) [v48] (H41.apply D47) ((nx37 + 1) + fr46.length) (zib nx37 v44 H41 D47 rd49 xs35 fr46 K34)
def zwa (xs35 : List AV) (Q : QT) (v70 : AV) (H71 : Heap) (nx72 : Nat) : Prop :=
 FA 4 (nth xs35 0) fun v73 =>
 ST 1 v73 (nth xs35 2) H71 fun H74 =>
 FA 5 (nth xs35 0) fun v75 =>
 ST 1 v75 v70 H74 fun H76 =>
 LD true 9 (nth xs35 0) H76 fun v77 =>
 ST 9 (nth xs35 1) v77 H76 fun H78 =>
 LD true 9 (nth xs35 1) H78 fun v79 =>
 Q v79 H78 nx72
def zmb (Q : QT) (K34 : J3) (xs35 : List AV) (H36 : Heap) (nx37 : Nat) : Prop :=
 BI BinOp.lss (nth xs35 5) (nth xs35 4) fun v38 =>
 CNDC v38
 (IA 4 (nth xs35 3) (nth xs35 5) fun v39 =>
 LD true 4 v39 H36 fun v40 =>
 ST 4 (AV.ptr nx37 0) v40 (H36.put nx37 (some (AObj.row 4 [AV.int IntKind.i64 0, AV.int IntKind.i64 0, AV.nils, AV.nils]))) fun H41 =>
 LDR false 1 (AV.ptr nx37 2) H41 fun v42 _ =>
 zo Tryd.prog (AV.clo 80 []) [v42] H41 (nx37 + 1) (zqc nx37 H41 xs35 K34))
 (FA 5 (nth xs35 0) fun v68 =>
 LD false 1 v68 H36 fun v69 =>
 za Tryd.prog 81 [v69] H36 nx37 (zwa xs35 Q))
def zvz (xs4 : List AV) (Q : QT) (v25 : AV) (H26 : Heap) (nx27 : Nat) : Prop :=
 BD (zaa tab [(27, 0), (28, 1)]) [AV.nils, AV.nils] [(0, nth xs4 2), (1, v25)] fun v28 =>
 FA 2 (nth xs4 0) fun v29 =>
 ST 2 v29 v28 H26 fun H30 =>
 FA 4 (nth xs4 0) fun v31 =>
 LD false 1 v31 H30 fun v32 =>
 LNL v32 fun v33 =>
 LP (zmb Q) [nth xs4 0, nth xs4 1, AV.nils, v32, v33, AV.int IntKind.i64 0] H30 nx27
def zma (Q : QT) (K3 : J3) (xs4 : List AV) (H5 : Heap) (nx6 : Nat) : Prop :=
 BI BinOp.lss (nth xs4 5) (nth xs4 4) fun v7 =>
 CNDC v7
 (IA 3 (nth xs4 3) (nth xs4 5) fun v8 =>
 LD true 3 v8 H5 fun v9 =>
 ST 3 (AV.ptr nx6 0) v9 (H5.put nx6 (some (AObj.row 3 [AV.int IntKind.i64 0, AV.int IntKind.i64 0, AV.nils]))) fun H10 =>
 LD false 1 (AV.ptr nx6 2) H10 fun v11 =>
 za Tryd.prog 78 [v11] H10 (nx6 + 1) (zwb nx6 xs4 K3))
 (FA 2 (nth xs4 0) fun v22 =>
 FA 1 v22 fun v23 =>
 LD false 1 v23 H5 fun v24 =>
 za Tryd.prog 79 [v24] H5 nx6 (zvz xs4 Q))
def zvy (a0 : AV) (H : Heap) (nx : Nat) (Q : QT) : Prop :=
 a0.sure = true ∧
 LD false 1 (AV.ptr nx 2) ((H.put nx (some (AObj.row a0.cells.length a0.cells))).put ((nx + 1)) (some (AObj.row 9 [AV.int IntKind.i64 0, AV.int IntKind.i64 0, AV.nils, AV.nils, AV.nils, AV.nils, AV.int IntKind.i64 0, AV.int IntKind.i64 0, AV.int IntKind.i64 0]))) fun v1 =>
 LNL v1 fun v2 =>
 LP (zma Q) [AV.ptr nx 0, AV.ptr (nx + 1) 0, AV.nils, v1, v2, AV.int IntKind.i64 0] ((H.put nx (some (AObj.row a0.cells.length a0.cells))).put ((nx + 1)) (some (AObj.row 9 [AV.int IntKind.i64 0, AV.int IntKind.i64 0, AV.nils, AV.nils, AV.nils, AV.nils, AV.int IntKind.i64 0, AV.int IntKind.i64 0, AV.int IntKind.i64 0]))) (nx + 2)
theorem zyc (a0 : AV) (H : Heap) (nx : Nat) (Q : QT) : zvy a0 H nx Q → za Tryd.prog 55 [a0] H nx Q :=
  zj (lv := lvOf [(2, 3, [1, 2, 3, 11, 12, 13]), (2, 11, [1, 2, 6, 34, 35, 36])]) (c := zp Tryd.f55) zy zz mixed Tryd.func55 (by kernel_rfl) (by kernel_rfl) (by kernel_rfl) (by kernel_rfl) (by kernel_rfl)
def zjk (a0 a1 : AV) (H : Heap) (nx : Nat) (Q : QT) : Prop :=
 BD (zaa tab [(3, 0), (9, 1), (23, 2)]) [AV.int IntKind.i64 0, AV.str [], AV.int IntKind.i64 0] [(0, AV.int IntKind.i64 5), (2, a1)] fun v1 =>
 NC a0 fun v2 =>
 FA 10 v2 fun v3 =>
 ST 3 v3 v1 H fun H4 =>
 Q (AV.tup []) H4 nx
theorem zny (a0 a1 : AV) (H : Heap) (nx : Nat) (Q : QT) : zjk a0 a1 H nx Q → za Tryd.prog 57 [a0, a1] H nx Q :=
  zj (lv := lvOf []) (c := zp Tryd.f57) zy zz mixed Tryd.func57 (by kernel_rfl) (by kernel_rfl) (by kernel_rfl) (by kernel_rfl) (by kernel_rfl)
def zfq (a0 : AV) (H : Heap) (nx : Nat) (Q : QT) : Prop :=
 NC a0 fun v1 =>
 FA 0 v1 fun v2 =>
 FA 4 v2 fun v3 =>
 LDR false 1 v3 H fun v4 _ =>
 NC a0 fun v6 =>
 FA 0 v6 fun v7 =>
 FA 4 v7 fun v8 =>
 LDR false 1 v8 H fun v9 _ =>
 LNL v9 fun v11 =>
 BI BinOp.sub v11 (AV.int IntKind.i64 1) fun v12 =>
 IA 4 v4 v12 fun v13 =>
 Q v13 H nx
theorem zhb (a0 : AV) (H : Heap) (nx : Nat) (Q : QT) : zfq a0 H nx Q → za Tryd.prog 84 [a0] H nx Q :=
  zj (lv := lvOf []) (c := zp Tryd.f84) zy zz mixed Tryd.func84 (by kernel_rfl) (by kernel_rfl) (by kernel_rfl) (by kernel_rfl) (by kernel_rfl)
def zeu (nx : Nat) (Q : QT) (v1 : AV) (H2 : Heap) (nx3 : Nat) : Prop :=
 NC v1 fun v4 =>
 FA 3 v4 fun v5 =>
 LDR false 1 v5 H2 fun v6 rd7 =>
 LDR true 3 (AV.ptr nx 0) H2 fun v8 _ =>
 BSL 1 3 [AV.int IntKind.i64 0, AV.int IntKind.i64 0, AV.str []] [(0, v8)] fun cells10 =>
 zad 3 32 v6 (AV.slc nx3 0 1) (H2.put nx3 (some (AObj.row 3 cells10))) (nx3 + 1) fun v11 _ fr13 D14 =>
 NC v1 fun v15 =>
 FA 3 v15 fun v16 =>
 zah 1 v16 v11 ((H2.put nx3 (some (AObj.row 3 cells10))).apply D14) fun _ _ fr19 D20 =>
 nx3 ∉ [] ∧
 nx3 ∉ [] ∧
 nx3 ∉ [] ∧
 nx3 ∉ [] ∧
 nx3 ∉ rd7 ∧
 zf (domD D14) [] (
 Q (AV.tup []) (((H2.put nx3 (some (AObj.row 3 cells10))).apply D14).apply D20) (((nx3 + 1) + fr13.length) + fr19.length))
def zet (a0 a1 : AV) (H : Heap) (nx : Nat) (Q : QT) : Prop :=
 a1.sure = true ∧
 za Tryd.prog 84 [a0] (H.put nx (some (AObj.row a1.cells.length a1.cells))) (nx + 1) (zeu nx Q)
theorem zgj (a0 a1 : AV) (H : Heap) (nx : Nat) (Q : QT) : zet a0 a1 H nx Q → za Tryd.prog 85 [a0, a1] H nx Q :=
  zj (lv := lvOf []) (c := zp Tryd.f85) zy zz mixed Tryd.func85 (by kernel_rfl) (by kernel_rfl) (by kernel_rfl) (by kernel_rfl) (by kernel_rfl)
def zkr (nx : Nat) (Q : QT) (v1 : AV) (H2 : Heap) (nx3 : Nat) : Prop :=
 NC v1 fun v4 =>
 FA 3 v4 fun v5 =>
 LDR false 1 v5 H2 fun v6 rd7 =>
 NC v1 fun v8 =>
 FA 3 v8 fun v9 =>
 LDR false 1 v9 H2 fun v10 rd11 =>
 LNL v10 fun v12 =>
 BI BinOp.sub v12 (AV.int IntKind.i64 1) fun v13 =>
 IA 3 v6 v13 fun v14 =>
 LDR true 3 v14 H2 fun v15 rd16 =>
 zah 3 (AV.ptr nx3 0) v15 (H2.put nx3 (some (AObj.row 3 [AV.int IntKind.i64 0, AV.int IntKind.i64 0, AV.str []]))) fun _ _ fr19 D20 =>
 nx3 ∉ [] ∧
 nx3 ∉ [] ∧
 nx3 ∉ [] ∧
 nx3 ∉ rd7 ∧
 nx3 ∉ [] ∧
 nx3 ∉ [] ∧
 nx3 ∉ [] ∧
 nx3 ∉ rd11 ∧
 nx3 ∉ [] ∧
 nx3 ∉ [] ∧
 nx3 ∉ [] ∧
 nx3 ∉ rd16 ∧
 NC v1 fun v21 =>
 FA 3 v21 fun v22 =>
 LDR false 1 v22 ((H2.put nx3 (some (AObj.row 3 [AV.int IntKind.i64 0, AV.int IntKind.i64 0, AV.str []]))).apply D20) fun v23 _ =>
 NC v1 fun v25 =>
 FA 3 v25 fun v26 =>
 LDR false 1 v26 ((H2.put nx3 (some (AObj.row 3 [AV.int IntKind.i64 0, AV.int IntKind.i64 0, AV.str []]))).apply D20) fun v27 _ =>
 LNL v27 fun v29 =>
 BI BinOp.sub v29 (AV.int IntKind.i64 1) fun v30 =>
 zbk 3 v23 none (some v30) ((H2.put nx3 (some (AObj.row 3 [AV.int IntKind.i64 0, AV.int IntKind.i64 0, AV.str []]))).apply D20) fun v31 _ fr33 D34 =>
 NC v1 fun v35 =>
 FA 3 v35 fun v36 =>
 zah 1 v36 v31 (((H2.put nx3 (some (AObj.row 3 [AV.int IntKind.i64 0, AV.int IntKind.i64 0, AV.str []]))).apply D20).apply D34) fun _ _ fr39 D40 =>
 LD true 3 (AV.ptr nx3 0) ((((H2.put nx3 (some (AObj.row 3 [AV.int IntKind.i64 0, AV.int IntKind.i64 0, AV.str []]))).apply D20).apply D34).apply D40) fun v41 =>
 ST 3 (AV.ptr nx 0) v41 ((((H2.put nx3 (some (AObj.row 3 [AV.int IntKind.i64 0, AV.int IntKind.i64 0, AV.str []]))).apply D20).apply D34).apply D40) fun H42 =>
 LD true 3 (AV.ptr nx 0) H42 fun v43 =>
 Q v43 H42 ((((nx3 + 1) + fr19.length) + fr33.length) + fr39.length)
def zkq (a0 : AV) (H : Heap) (nx : Nat) (Q : QT) : Prop :=
 za Tryd.prog 84 [a0] (H.put nx (some (AObj.row 3 [AV.int IntKind.i64 0, AV.int IntKind.i64 0, AV.str []]))) (nx + 1) (zkr nx Q)
theorem zph (a0 : AV) (H : Heap) (nx : Nat) (Q : QT) : zkq a0 H nx Q → za Tryd.prog 87 [a0] H nx Q :=
  zj (lv := lvOf []) (c := zp Tryd.f87) zy zz mixed Tryd.func87 (by kernel_rfl) (by kernel_rfl) (by kernel_rfl) (by kernel_rfl) (by kernel_rfl)
def ztd (Q : QT) (v22 : AV) (H23 : Heap) (nx24 : Nat) : Prop :=
 Q (AV.tup []) H23 nx24
def ztc (Q : QT) (v26 : AV) (H27 : Heap) (nx28 : Nat) : Prop :=
 Q (AV.tup []) H27 nx28
def zkn (nx3 : Nat) (fr7 : List Nat) (H4 : Heap) (D8 : zg) (rd10 : List Nat) (rd6 : List Nat) (a0 : AV) (Q : QT) (v11 : AV) (rd12 : List Nat) (fr13 : List Nat) (D14 : zg) : Prop :=
 EX v11 0 fun v15 =>
 EX v11 1 fun v16 =>
 zah 3 (AV.ptr (((nx3 + 1) + fr7.length) + fr13.length) 0) v15 (((H4.apply D8).apply D14).put ((((nx3 + 1) + fr7.length) + fr13.length)) (some (AObj.row 3 [AV.int IntKind.i64 0, AV.int IntKind.i64 0, AV.str []]))) fun _ _ fr19 D20 =>
 zf (domD D8) [] (
 zf (domD D8) rd10 (
 zf (domD D8) [] (
 (((nx3 + 1) + fr7.length) + fr13.length) ∉ [] ∧
 (((nx3 + 1) + fr7.length) + fr13.length) ∉ [] ∧
 zf (domD D8) [] (
 zf (domD D8) [(((nx3 + 1) + fr7.length) + fr13.length)] (
 (((nx3 + 1) + fr7.length) + fr13.length) ∉ rd6 ∧
 (((nx3 + 1) + fr7.length) + fr13.length) ∉ rd10 ∧
 zf (domD D14) [] (
 zf (domD D14) [(((nx3 + 1) + fr7.length) + fr13.length)] (
 (((nx3 + 1) + fr7.length) + fr13.length) ∉ rd12 ∧
 (((nx3 + 1) + fr7.length) + fr13.length) ∉ [] ∧
 (((nx3 + 1) + fr7.length) + fr13.length) ∉ [] ∧
 (((nx3 + 1) + fr7.length) + fr13.length) ∉ [] ∧
 zf (domD D20) [] (
 BI BinOp.neq v16 (AV.int IntKind.i64 0) fun v21 =>
 CNDC v21
 (za Tryd.prog 57 [a0, v16] ((((H4.apply D8).apply D14).put ((((nx3 + 1) + fr7.length) + fr13.length)) (some (AObj.row 3 [AV.int IntKind.i64 0, AV.int IntKind.i64 0, AV.str []]))).apply D20) (((((nx3 + 1) + fr7.length) + fr13.length) + 1) + fr19.length) (ztd Q))
 (LD true 3 (AV.ptr (((nx3 + 1) + fr7.length) + fr13.length) 0) ((((H4.apply D8).apply D14).put ((((nx3 + 1) + fr7.length) + fr13.length)) (some (AObj.row 3 [AV.int IntKind.i64 0, AV.int IntKind.i64 0, AV.str []]))).apply D20) fun v25 =>
 za Tryd.prog 85 [a0, v25] ((((H4.apply D8).apply D14).put ((((nx3 + 1) + fr7.length) + fr13.length)) (some (AObj.row 3 [AV.int IntKind.i64 0, AV.int IntKind.i64 0, AV.str []]))).apply D20) (((((nx3 + 1) + fr7.length) + fr13.length) + 1) + fr19.length) (ztc Q))))))))))
def zkm (nx3 : Nat) (H4 : Heap) (a1 : AV) (a0 : AV) (Q : QT) (v5 : AV) (rd6 : List Nat) (fr7 : List Nat) (D8 : zg) : Prop :=
 LDR true 3 (AV.ptr nx3 0) (H4.apply D8) fun v9 rd10 =>
 zo Tryd.prog (AV.clo 105 []) [a1, v5, v9] (H4.apply D8) ((nx3 + 1) + fr7.length) (zkn nx3 fr7 H4 D8 rd10 rd6 a0 Q)
def zkl (a0 : AV) (a1 : AV) (Q : QT) (v1 : AV) (H2 : Heap) (nx3 : Nat) : Prop :=
 ST 3 (AV.ptr nx3 0) v1 (H2.put nx3 (some (AObj.row 3 [AV.int IntKind.i64 0, AV.int IntKind.i64 0, AV.str []]))) fun H4 =>
 zo Tryd.prog (AV.clo 87 []) [a0] H4 (nx3 + 1) (zkm nx3 H4 a1 a0 Q)
def zkk (a0 a1 : AV) (H : Heap) (nx : Nat) (Q : QT) : Prop :=
 za Tryd.prog 87 [a0] H nx (zkl a0 a1 Q)
theorem zpf (a0 a1 : AV) (H : Heap) (nx : Nat) (Q : QT) : zkk a0 a1 H nx Q → za Tryd.prog 88 [a0, a1] H nx Q :=
  zj (lv := lvOf []) (c := zp Tryd.f88) zy zz mixed Tryd.func88 (by kernel_rfl) (by kernel_rfl) (by kernel_rfl) (by kernel_rfl) (by kernel_rfl)
def zrz (Q : QT) (v15 : AV) (H16 : Heap) (nx17 : Nat) : Prop :=
 Q (AV.tup []) H16 nx17
def zry (Q : QT) (v58 : AV) (H59 : Heap) (nx60 : Nat) : Prop :=
 Q (AV.tup []) H59 nx60
def zev (a0 : AV) (Q : QT) (nx3 : Nat) (v5 : AV) (H6 : Heap) (nx7 : Nat) : Prop :=
 ST 3 (AV.ptr nx7 0) v5 (H6.put nx7 (some (AObj.row 3 [AV.int IntKind.i64 0, AV.int IntKind.i64 0, AV.str []]))) fun H8 =>
 NC a0 fun v9 =>
 FA 0 v9 fun v10 =>
 FA 6 v10 fun v11 =>
 FA 1 v11 fun v12 =>
 LD false 1 v12 H8 fun v13 =>
 BI BinOp.eql v13 (AV.int IntKind.i64 0) fun v14 =>
 CNDC v14
 (za Tryd.prog 57 [a0, AV.int IntKind.i64 13] H8 (nx7 + 1) (zrz Q))
 (NC a0 fun v18 =>
 FA 0 v18 fun v19 =>
 FA 6 v19 fun v20 =>
 FA 1 v20 fun v21 =>
 LD false 1 v21 H8 fun v22 =>
 BI BinOp.sub v22 (AV.int IntKind.i64 1) fun v23 =>
 NC a0 fun v24 =>
 FA 0 v24 fun v25 =>
 FA 6 v25 fun v26 =>
 FA 1 v26 fun v27 =>
 ST 1 v27 v23 H8 fun H28 =>
 NC a0 fun v29 =>
 FA 0 v29 fun v30 =>
 FA 5 v30 fun v31 =>
 LDR false 1 v31 H28 fun v32 rd33 =>
 LDR true 3 (AV.ptr nx7 0) H28 fun v34 _ =>
 LDR true 3 (AV.ptr nx3 0) H28 fun v36 _ =>
 BD (zaa tab [(108, 0), (108, 3)]) [AV.int IntKind.i64 0, AV.int IntKind.i64 0, AV.str [], AV.int IntKind.i64 0, AV.int IntKind.i64 0, AV.str []] [(0, v34), (1, v36)] fun v38 =>
 BSL 1 6 [AV.int IntKind.i64 0, AV.int IntKind.i64 0, AV.str [], AV.int IntKind.i64 0, AV.int IntKind.i64 0, AV.str []] [(0, v38)] fun cells39 =>
 zad 6 64 v32 (AV.slc (nx7 + 1) 0 1) (H28.put ((nx7 + 1)) (some (AObj.row 6 cells39))) (nx7 + 2) fun v40 _ fr42 D43 =>
 NC a0 fun v44 =>
 FA 0 v44 fun v45 =>
 FA 5 v45 fun v46 =>
 zah 1 v46 v40 ((H28.put ((nx7 + 1)) (some (AObj.row 6 cells39))).apply D43) fun _ _ fr49 D50 =>
 (nx7 + 1) ∉ [] ∧
 (nx7 + 1) ∉ [] ∧
 (nx7 + 1) ∉ [] ∧
 (nx7 + 1) ∉ [] ∧
 (nx7 + 1) ∉ [] ∧
 (nx7 + 1) ∉ rd33 ∧
 zf (domD D43) [] (
 NC a0 fun v51 =>
 FA 0 v51 fun v52 =>
 FA 5 v52 fun v53 =>
 LD false 1 v53 (((H28.put ((nx7 + 1)) (some (AObj.row 6 cells39))).apply D43).apply D50) fun v54 =>
 LNL v54 fun v55 =>
 BI BinOp.sub v55 (AV.int IntKind.i64 1) fun v56 =>
 BD (zaa tab [(3, 0), (3, 1), (9, 2)]) [AV.int IntKind.i64 0, AV.int IntKind.i64 0, AV.str []] [(0, AV.int IntKind.i64 2), (1, v56)] fun v57 =>
 za Tryd.prog 85 [a0, v57] (((H28.put ((nx7 + 1)) (some (AObj.row 6 cells39))).apply D43).apply D50) (((nx7 + 2) + fr42.length) + fr49.length) (zry Q)))
def zji (a0 : AV) (Q : QT) (v1 : AV) (H2 : Heap) (nx3 : Nat) : Prop :=
 ST 3 (AV.ptr nx3 0) v1 (H2.put nx3 (some (AObj.row 3 [AV.int IntKind.i64 0, AV.int IntKind.i64 0, AV.str []]))) fun H4 =>
 za Tryd.prog 87 [a0] H4 (nx3 + 1) (zev a0 Q nx3)
def zjh (a0 : AV) (H : Heap) (nx : Nat) (Q : QT) : Prop :=
 za Tryd.prog 87 [a0] H nx (zji a0 Q)
theorem znw (a0 : AV) (H : Heap) (nx : Nat) (Q : QT) : zjh a0 H nx Q → za Tryd.prog 89 [a0] H nx Q :=
  zj (lv := lvOf []) (c := zp Tryd.f89) zy zz mixed Tryd.func89 (by kernel_rfl) (by kernel_rfl) (by kernel_rfl) (by kernel_rfl) (by kernel_rfl)
def zsc (Q : QT) (v7 : AV) (H8 : Heap) (nx9 : Nat) : Prop :=
 Q AV.nilp H8 nx9
def zew (a0 : AV) (Q : QT) (v1 : AV) (H2 : Heap) (nx3 : Nat) : Prop :=
 ST 3 (AV.ptr nx3 0) v1 (H2.put nx3 (some (AObj.row 3 [AV.int IntKind.i64 0, AV.int IntKind.i64 0, AV.str []]))) fun H4 =>
 LD false 1 (AV.ptr nx3 0) H4 fun v5 =>
 BI BinOp.neq v5 (AV.int IntKind.i64 2) fun v6 =>
 CNDC v6
 (za Tryd.prog 57 [a0, AV.int IntKind.i64 11] H4 (nx3 + 1) (zsc Q))
 (NC a0 fun v10 =>
 FA 0 v10 fun v11 =>
 FA 5 v11 fun v12 =>
 LDR false 1 v12 H4 fun v13 _ =>
 LDR false 1 (AV.ptr nx3 1) H4 fun v15 _ =>
 IA 6 v13 v15 fun v17 =>
 Q v17 H4 (nx3 + 1))
def zjl (a0 : AV) (H : Heap) (nx : Nat) (Q : QT) : Prop :=
 za Tryd.prog 87 [a0] H nx (zew a0 Q)
theorem znz (a0 : AV) (H : Heap) (nx : Nat) (Q : QT) : zjl a0 H nx Q → za Tryd.prog 90 [a0] H nx Q :=
  zj (lv := lvOf []) (c := zp Tryd.f90) zy zz mixed Tryd.func90 (by kernel_rfl) (by kernel_rfl) (by kernel_rfl) (by kernel_rfl) (by kernel_rfl)
def zdc (Q : QT) (a1 : AV) (nx3 : Nat) (v5 : AV) (H6 : Heap) (nx7 : Nat) : Prop :=
 BP BinOp.eql v5 AV.nilp fun v8 =>
 CNDC v8
 (Q (AV.tup []) H6 nx7)
 (CNDC a1
 (LD true 3 (AV.ptr nx3 0) H6 fun v9 =>
 NC v5 fun v10 =>
 FA 0 v10 fun v11 =>
 ST 3 v11 v9 H6 fun H12 =>
 Q (AV.tup []) H12 nx7)
 (LD true 3 (AV.ptr nx3 0) H6 fun v13 =>
 NC v5 fun v14 =>
 FA 3 v14 fun v15 =>
 ST 3 v15 v13 H6 fun H16 =>
 Q (AV.tup []) H16 nx7))
def zkp (a0 : AV) (Q : QT) (a1 : AV) (v1 : AV) (H2 : Heap) (nx3 : Nat) : Prop :=
 ST 3 (AV.ptr nx3 0) v1 (H2.put nx3 (some (AObj.row 3 [AV.int IntKind.i64 0, AV.int IntKind.i64 0, AV.str []]))) fun H4 =>
 za Tryd.prog 90 [a0] H4 (nx3 + 1) (zdc Q a1 nx3)
def zko (a0 a1 : AV) (H : Heap) (nx : Nat) (Q : QT) : Prop :=
 za Tryd.prog 87 [a0] H nx (zkp a0 Q a1)
theorem zpg (a0 a1 : AV) (H : Heap) (nx : Nat) (Q : QT) : zko a0 a1 H nx Q → za Tryd.prog 91 [a0, a1] H nx Q :=
  zj (lv := lvOf []) (c := zp Tryd.f91) zy zz mixed Tryd.func91 (by kernel_rfl) (by kernel_rfl) (by kernel_rfl) (by kernel_rfl) (by kernel_rfl)
def ztg (Q : QT) (v7 : AV) (H8 : Heap) (nx9 : Nat) : Prop :=
 Q (AV.tup []) H8 nx9
def ztf (Q : QT) (v30 : AV) (H31 : Heap) (nx32 : Nat) : Prop :=
 Q (AV.tup []) H31 nx32
def zte (Q : QT) (v34 : AV) (H35 : Heap) (nx36 : Nat) : Prop :=
 Q (AV.tup []) H35 nx36
def zdd (Q : QT) (K17 : J3) (xs18 : List AV) (H19 : Heap) (nx20 : Nat) : Prop :=
 BI BinOp.lss (nth xs18 4) (nth xs18 3) fun v21 =>
 CNDC v21
 (IA 4 (nth xs18 2) (nth xs18 4) fun v22 =>
 LD true 4 v22 H19 fun v23 =>
 ST 4 (AV.ptr nx20 0) v23 (H19.put nx20 (some (AObj.row 4 [AV.str [], AV.int IntKind.i64 0, AV.int IntKind.i64 0, AV.str []]))) fun H24 =>
 LD false 1 (AV.ptr nx20 0) H24 fun v25 =>
 FA 2 (nth xs18 1) fun v26 =>
 LD false 1 v26 H24 fun v27 =>
 BS BinOp.eql v25 v27 fun v28 =>
 CNDC v28
 (LD true 3 (AV.ptr nx20 1) H24 fun v29 =>
 za Tryd.prog 85 [nth xs18 0, v29] H24 (nx20 + 1) (ztf Q))
 (BI BinOp.add (nth xs18 4) (AV.int IntKind.i64 1) fun v33 =>
 K17 [nth xs18 0, nth xs18 1, nth xs18 2, nth xs18 3, v33] H24 (nx20 + 1)))
 (za Tryd.prog 85 [nth xs18 0, AV.agg [AV.int IntKind.i64 0, AV.int IntKind.i64 0, AV.str []]] H19 nx20 (zte Q))
def zfr (a0 : AV) (Q : QT) (v1 : AV) (H2 : Heap) (nx3 : Nat) : Prop :=
 ST 3 (AV.ptr nx3 0) v1 (H2.put nx3 (some (AObj.row 3 [AV.int IntKind.i64 0, AV.int IntKind.i64 0, AV.str []]))) fun H4 =>
 LD false 1 (AV.ptr nx3 0) H4 fun v5 =>
 BI BinOp.neq v5 (AV.int IntKind.i64 1) fun v6 =>
 CNDC v6
 (za Tryd.prog 57 [a0, AV.int IntKind.i64 11] H4 (nx3 + 1) (ztg Q))
 (NC a0 fun v10 =>
 FA 9 v10 fun v11 =>
 LD false 1 v11 H4 fun v12 =>
 NC v12 fun v13 =>
 FA 1 v13 fun v14 =>
 LD false 1 v14 H4 fun v15 =>
 LNL v15 fun v16 =>
 LP (zdd Q) [a0, AV.ptr nx3 0, v15, v16, AV.int IntKind.i64 0] H4 (nx3 + 1))
def zks (a0 : AV) (H : Heap) (nx : Nat) (Q : QT) : Prop :=
 za Tryd.prog 87 [a0] H nx (zfr a0 Q)
theorem zpi (a0 : AV) (H : Heap) (nx : Nat) (Q : QT) : zks a0 H nx Q → za Tryd.prog 92 [a0] H nx Q :=
  zj (lv := lvOf [(2, 4, [0, 2, 18, 19, 20])]) (c := zp Tryd.f92) zy zz mixed Tryd.func92 (by kernel_rfl) (by kernel_rfl) (by kernel_rfl) (by kernel_rfl) (by kernel_rfl)
def zsb (Q : QT) (v7 : AV) (H8 : Heap) (nx9 : Nat) : Prop :=
 Q (AV.tup []) H8 nx9
def zsa (Q : QT) (v16 : AV) (H17 : Heap) (nx18 : Nat) : Prop :=
 Q (AV.tup []) H17 nx18
def zcn (a0 : AV) (Q : QT) (v1 : AV) (H2 : Heap) (nx3 : Nat) : Prop :=
 ST 3 (AV.ptr nx3 0) v1 (H2.put nx3 (some (AObj.row 3 [AV.int IntKind.i64 0, AV.int IntKind.i64 0, AV.str []]))) fun H4 =>
 LD false 1 (AV.ptr nx3 0) H4 fun v5 =>
 BI BinOp.neq v5 (AV.int IntKind.i64 1) fun v6 =>
 CNDC v6
 (za Tryd.prog 57 [a0, AV.int IntKind.i64 11] H4 (nx3 + 1) (zsb Q))
 (NC a0 fun v10 =>
 FA 0 v10 fun v11 =>
 FA 6 v11 fun v12 =>
 FA 2 v12 fun v13 =>
 LD false 1 v13 H4 fun v14 =>
 BI BinOp.eql v14 (AV.int IntKind.i64 0) fun v15 =>
 CNDC v15
 (za Tryd.prog 85 [a0, AV.agg [AV.int IntKind.i64 0, AV.int IntKind.i64 0, AV.str []]] H4 (nx3 + 1) (zsa Q))
 (NC a0 fun v19 =>
 FA 0 v19 fun v20 =>
 FA 6 v20 fun v21 =>
 FA 2 v21 fun v22 =>
 LD false 1 v22 H4 fun v23 =>
 BI BinOp.sub v23 (AV.int IntKind.i64 1) fun v24 =>
 NC a0 fun v25 =>
 FA 0 v25 fun v26 =>
 FA 6 v26 fun v27 =>
 FA 2 v27 fun v28 =>
 ST 1 v28 v24 H4 fun H29 =>
 LD false 1 (AV.ptr nx3 2) H29 fun v30 =>
 BD (zaa tab [(3, 0), (9, 1), (23, 2)]) [AV.int IntKind.i64 0, AV.str [], AV.int IntKind.i64 0] [(0, AV.int IntKind.i64 3), (1, v30)] fun v31 =>
 NC a0 fun v32 =>
 FA 10 v32 fun v33 =>
 ST 3 v33 v31 H29 fun H34 =>
 Q (AV.tup []) H34 (nx3 + 1)))
def zjj (a0 : AV) (H : Heap) (nx : Nat) (Q : QT) : Prop :=
 za Tryd.prog 87 [a0] H nx (zcn a0 Q)
theorem znx (a0 : AV) (H : Heap) (nx : Nat) (Q : QT) : zjj a0 H nx Q → za Tryd.prog 93 [a0] H nx Q :=
  zj (lv := lvOf []) (c := zp Tryd.f93) zy zz mixed Tryd.func93 (by kernel_rfl) (by kernel_rfl) (by kernel_rfl) (by kernel_rfl) (by kernel_rfl)
def zsd (Q : QT) (v7 : AV) (H8 : Heap) (nx9 : Nat) : Prop :=
 Q (AV.tup []) H8 nx9
def zco (nx : Nat) (a0 : AV) (Q : QT) (v10 : AV) (H11 : Heap) (nx12 : Nat) : Prop :=
 NC v10 fun v13 =>
 FA 3 v13 fun v14 =>
 LDR false 1 v14 H11 fun v15 _ =>
 LNL v15 fun v17 =>
 LDR false 1 (AV.ptr nx 2) H11 fun v18 _ =>
 BI BinOp.sub v17 v18 fun v20 =>
 NC a0 fun v21 =>
 FA 0 v21 fun v22 =>
 FA 2 v22 fun v23 =>
 FA 0 v23 fun v24 =>
 LDR false 1 v24 H11 fun v25 _ =>
 LDR false 1 (AV.ptr nx 1) H11 fun v27 _ =>
 IA 3 v25 v27 fun v29 =>
 FA 1 v29 fun v30 =>
 LDR false 1 v30 H11 fun v31 _ =>
 MK 32 v31 v31 fun n33 =>
 NC v10 fun v34 =>
 FA 3 v34 fun v35 =>
 LD false 1 v35 (H11.put nx12 (some (AObj.row 3 (List.replicate n33 [AV.int IntKind.i64 0, AV.int IntKind.i64 0, AV.str []]).flatten))) fun v36 =>
 SL 3 v36 (some v20) none (H11.put nx12 (some (AObj.row 3 (List.replicate n33 [AV.int IntKind.i64 0, AV.int IntKind.i64 0, AV.str []]).flatten))) fun v37 =>
 CP 3 (AV.slc nx12 0 n33) v37 (H11.put nx12 (some (AObj.row 3 (List.replicate n33 [AV.int IntKind.i64 0, AV.int IntKind.i64 0, AV.str []]).flatten))) fun _ H39 =>
 NC v10 fun v40 =>
 FA 3 v40 fun v41 =>
 LD false 1 v41 H39 fun v42 =>
 SL 3 v42 none (some v20) H39 fun v43 =>
 NC v10 fun v44 =>
 FA 3 v44 fun v45 =>
 ST 1 v45 v43 H39 fun H46 =>
 NC a0 fun v47 =>
 FA 0 v47 fun v48 =>
 FA 4 v48 fun v49 =>
 LDR false 1 v49 H46 fun v50 rd51 =>
 LDR false 1 (AV.ptr nx 1) H46 fun v52 _ =>
 BD (zaa tab [(3, 0), (3, 1), (102, 2), (102, 3)]) [AV.int IntKind.i64 0, AV.int IntKind.i64 0, AV.nils, AV.nils] [(0, v52), (2, AV.slc nx12 0 n33)] fun v54 =>
 BSL 1 4 [AV.int IntKind.i64 0, AV.int IntKind.i64 0, AV.nils, AV.nils] [(0, v54)] fun cells55 =>
 zad 4 64 v50 (AV.slc (nx12 + 1) 0 1) (H46.put ((nx12 + 1)) (some (AObj.row 4 cells55))) (nx12 + 2) fun v56 _ fr58 D59 =>
 NC a0 fun v60 =>
 FA 0 v60 fun v61 =>
 FA 4 v61 fun v62 =>
 zah 1 v62 v56 ((H46.put ((nx12 + 1)) (some (AObj.row 4 cells55))).apply D59) fun _ _ fr65 D66 =>
 (nx12 + 1) ∉ [] ∧
 (nx12 + 1) ∉ [] ∧
 (nx12 + 1) ∉ [] ∧
 (nx12 + 1) ∉ [] ∧
 (nx12 + 1) ∉ [] ∧
 (nx12 + 1) ∉ rd51 ∧
 zf (domD D59) [] (
 Q (AV.tup []) (((H46.put ((nx12 + 1)) (some (AObj.row 4 cells55))).apply D59).apply D66) (((nx12 + 2) + fr58.length) + fr65.length))
def zex (a0 a1 : AV) (H : Heap) (nx : Nat) (Q : QT) : Prop :=
 a1.sure = true ∧
 NC a0 fun v1 =>
 FA 0 v1 fun v2 =>
 FA 4 v2 fun v3 =>
 LD false 1 v3 (H.put nx (some (AObj.row a1.cells.length a1.cells))) fun v4 =>
 LNL v4 fun v5 =>
 BI BinOp.geq v5 (AV.int IntKind.i64 12) fun v6 =>
 CNDC v6
 (za Tryd.prog 57 [a0, AV.int IntKind.i64 9] (H.put nx (some (AObj.row a1.cells.length a1.cells))) (nx + 1) (zsd Q))
 (za Tryd.prog 84 [a0] (H.put nx (some (AObj.row a1.cells.length a1.cells))) (nx + 1) (zco nx a0 Q))
theorem zoa (a0 a1 : AV) (H : Heap) (nx : Nat) (Q : QT) : zex a0 a1 H nx Q → za Tryd.prog 95 [a0, a1] H nx Q :=
  zj (lv := lvOf []) (c := zp Tryd.f95) zy zz mixed Tryd.func95 (by kernel_rfl) (by kernel_rfl) (by kernel_rfl) (by kernel_rfl) (by kernel_rfl)
def zjn (a0 : AV) (H4 : Heap) (D20 : zg) (D27 : zg) (Q : QT) (nx3 : Nat) (fr19 : List Nat) (fr26 : List Nat) (v41 : AV) (_ : List Nat) (fr43 : List Nat) (D44 : zg) : Prop :=
 BD (zaa tab [(3, 0), (9, 1), (23, 2)]) [AV.int IntKind.i64 0, AV.str [], AV.int IntKind.i64 0] [(0, AV.int IntKind.i64 4), (1, v41)] fun v45 =>
 NC a0 fun v46 =>
 FA 10 v46 fun v47 =>
 zah 3 v47 v45 (((H4.apply D20).apply D27).apply D44) fun _ _ fr50 D51 =>
 zf (domD D44) [] (
 Q (AV.tup []) ((((H4.apply D20).apply D27).apply D44).apply D51) (((((nx3 + 1) + fr19.length) + fr26.length) + fr43.length) + fr50.length))
def zse (Q : QT) (v53 : AV) (H54 : Heap) (nx55 : Nat) : Prop :=
 Q (AV.tup []) H54 nx55
def zey (a0 : AV) (Q : QT) (v1 : AV) (H2 : Heap) (nx3 : Nat) : Prop :=
 ST 3 (AV.ptr nx3 0) v1 (H2.put nx3 (some (AObj.row 3 [AV.int IntKind.i64 0, AV.int IntKind.i64 0, AV.str []]))) fun H4 =>
 NC a0 fun v5 =>
 FA 0 v5 fun v6 =>
 FA 4 v6 fun v7 =>
 LDR false 1 v7 H4 fun v8 _ =>
 NC a0 fun v10 =>
 FA 0 v10 fun v11 =>
 FA 4 v11 fun v12 =>
 LDR false 1 v12 H4 fun v13 _ =>
 LNL v13 fun v15 =>
 BI BinOp.sub v15 (AV.int IntKind.i64 1) fun v16 =>
 zbk 4 v8 none (some v16) H4 fun v17 _ fr19 D20 =>
 NC a0 fun v21 =>
 FA 0 v21 fun v22 =>
 FA 4 v22 fun v23 =>
 zah 1 v23 v17 (H4.apply D20) fun _ _ fr26 D27 =>
 NC a0 fun v28 =>
 FA 0 v28 fun v29 =>
 FA 4 v29 fun v30 =>
 LD false 1 v30 ((H4.apply D20).apply D27) fun v31 =>
 LNL v31 fun v32 =>
 BI BinOp.eql v32 (AV.int IntKind.i64 0) fun v33 =>
 CNDC v33
 (NC a0 fun v34 =>
 FA 0 v34 fun v35 =>
 FA 5 v35 fun v36 =>
 LDR false 1 v36 ((H4.apply D20).apply D27) fun v37 _ =>
 LDR true 3 (AV.ptr nx3 0) ((H4.apply D20).apply D27) fun v39 _ =>
 zo Tryd.prog (AV.clo 94 []) [v37, v39, AV.int IntKind.i64 4] ((H4.apply D20).apply D27) (((nx3 + 1) + fr19.length) + fr26.length) (zjn a0 H4 D20 D27 Q nx3 fr19 fr26))
 (LD true 3 (AV.ptr nx3 0) ((H4.apply D20).apply D27) fun v52 =>
 za Tryd.prog 85 [a0, v52] ((H4.apply D20).apply D27) (((nx3 + 1) + fr19.length) + fr26.length) (zse Q))
def zjm (a0 : AV) (H : Heap) (nx : Nat) (Q : QT) : Prop :=
 za Tryd.prog 87 [a0] H nx (zey a0 Q)
theorem zob (a0 : AV) (H : Heap) (nx : Nat) (Q : QT) : zjm a0 H nx Q → za Tryd.prog 96 [a0] H nx Q :=
  zj (lv := lvOf []) (c := zp Tryd.f96) zy zz mixed Tryd.func96 (by kernel_rfl) (by kernel_rfl) (by kernel_rfl) (by kernel_rfl) (by kernel_rfl)
def zrx (Q : QT) (v51 : AV) (H52 : Heap) (nx53 : Nat) : Prop :=
 Q (AV.tup []) H52 nx53
def zjg (D69 : zg) (Q : QT) (H46 : Heap) (nx3 : Nat) (fr27 : List Nat) (fr68 : List Nat) (v70 : AV) (rd71 : List Nat) (fr72 : List Nat) (D73 : zg) : Prop :=
 zf (domD D69) [] (
 Q (AV.tup []) ((H46.apply D69).apply D73) ((((nx3 + 1) + fr27.length) + fr68.length) + fr72.length))
def zjf (a0 : AV) (H46 : Heap) (nx3 : Nat) (fr27 : List Nat) (Q : QT) (v66 : AV) (rd67 : List Nat) (fr68 : List Nat) (D69 : zg) : Prop :=
 zo Tryd.prog (AV.clo 85 []) [a0, v66] (H46.apply D69) (((nx3 + 1) + fr27.length) + fr68.length) (zjg D69 Q H46 nx3 fr27 fr68)
def zje (Q : QT) (H46 : Heap) (nx3 : Nat) (fr27 : List Nat) (v84 : AV) (rd85 : List Nat) (fr86 : List Nat) (D87 : zg) : Prop :=
 Q (AV.tup []) (H46.apply D87) (((nx3 + 1) + fr27.length) + fr86.length)
def zjd (v91 : AV) (v93 : AV) (H46 : Heap) (v90 : AV) (rd92 : List Nat) (nx3 : Nat) (rd94 : List Nat) (Q : QT) (fr27 : List Nat) (v95 : AV) (_ : List Nat) (fr97 : List Nat) (D98 : zg) : Prop :=
 IA 3 v91 v93 fun v99 =>
 zah 3 v99 v95 (H46.apply D98) fun _ _ fr102 D103 =>
 zf (domD D98) [] (
 zf (domD D98) [] (
 zf (domD D98) [] (
 SOFT v90 v91 D98 rd92 (
 zf (domD D98) [] (
 SOFT (AV.ptr nx3 1) v93 D98 rd94 (
 Q (AV.tup []) ((H46.apply D98).apply D103) ((((nx3 + 1) + fr27.length) + fr97.length) + fr102.length)))))))
def zrw (Q : QT) (v106 : AV) (H107 : Heap) (nx108 : Nat) : Prop :=
 Q (AV.tup []) H107 nx108
def zrv (Q : QT) (v110 : AV) (H111 : Heap) (nx112 : Nat) : Prop :=
 Q (AV.tup []) H111 nx112
def zru (Q : QT) (v121 : AV) (H122 : Heap) (nx123 : Nat) : Prop :=
 Q (AV.tup []) H122 nx123
def zes (a0 : AV) (Q : QT) (v114 : AV) (H115 : Heap) (nx116 : Nat) : Prop :=
 BP BinOp.neq v114 AV.nilp fun v117 =>
 CNDC v117
 (NC v114 fun v118 =>
 FA 0 v118 fun v119 =>
 LD true 3 v119 H115 fun v120 =>
 za Tryd.prog 85 [a0, v120] H115 nx116 (zru Q))
 (Q (AV.tup []) H115 nx116)
def zqb (Q : QT) (v132 : AV) (H133 : Heap) (nx134 : Nat) : Prop :=
 Q (AV.tup []) H133 nx134
def zdt (a0 : AV) (Q : QT) (v125 : AV) (H126 : Heap) (nx127 : Nat) : Prop :=
 BP BinOp.neq v125 AV.nilp fun v128 =>
 CNDC v128
 (NC v125 fun v129 =>
 FA 3 v129 fun v130 =>
 LD true 3 v130 H126 fun v131 =>
 za Tryd.prog 85 [a0, v131] H126 nx127 (zqb Q))
 (Q (AV.tup []) H126 nx127)
def zqa (Q : QT) (v138 : AV) (H139 : Heap) (nx140 : Nat) : Prop :=
 Q (AV.tup []) H139 nx140
def zpz (Q : QT) (v144 : AV) (H145 : Heap) (nx146 : Nat) : Prop :=
 Q (AV.tup []) H145 nx146
def zpy (Q : QT) (v148 : AV) (H149 : Heap) (nx150 : Nat) : Prop :=
 Q (AV.tup []) H149 nx150
def zpx (Q : QT) (v161 : AV) (H162 : Heap) (nx163 : Nat) : Prop :=
 Q (AV.tup []) H162 nx163
def zia (a0 : AV) (Q : QT) (v158 : AV) (H159 : Heap) (nx160 : Nat) : Prop :=
 za Tryd.prog 85 [a0, v158] H159 nx160 (zpx Q)
def zpw (Q : QT) (v165 : AV) (H166 : Heap) (nx167 : Nat) : Prop :=
 Q (AV.tup []) H166 nx167
def zhz (a0 : AV) (H46 : Heap) (D177 : zg) (v171 : AV) (v172 : AV) (rd173 : List Nat) (Q : QT) (nx3 : Nat) (fr27 : List Nat) (fr176 : List Nat) (v178 : AV) (_ : List Nat) (fr180 : List Nat) (D181 : zg) : Prop :=
 BD (zaa tab [(3, 0), (9, 1), (23, 2)]) [AV.int IntKind.i64 0, AV.str [], AV.int IntKind.i64 0] [(0, AV.int IntKind.i64 2), (1, v178)] fun v182 =>
 NC a0 fun v183 =>
 FA 10 v183 fun v184 =>
 zah 3 v184 v182 ((H46.apply D177).apply D181) fun _ _ fr187 D188 =>
 zf (domD D177) [] (
 zf (domD D177) [] (
 zf (domD D177) [] (
 zf (domD D177) [] (
 zf (domD D177) [] (
 SOFT v171 v172 D177 rd173 (
 zf (domD D181) [] (
 Q (AV.tup []) (((H46.apply D177).apply D181).apply D188) (((((nx3 + 1) + fr27.length) + fr176.length) + fr180.length) + fr187.length))))))))
def zhy (v172 : AV) (H46 : Heap) (nx3 : Nat) (fr27 : List Nat) (a0 : AV) (v171 : AV) (rd173 : List Nat) (Q : QT) (v174 : AV) (rd175 : List Nat) (fr176 : List Nat) (D177 : zg) : Prop :=
 zo Tryd.prog (AV.clo 94 []) [v172, v174, AV.int IntKind.i64 4] (H46.apply D177) (((nx3 + 1) + fr27.length) + fr176.length) (zhz a0 H46 D177 v171 v172 rd173 Q nx3 fr27 fr176)
def zcc (nx3 : Nat) (v1 : AV) (Q : QT) (v195 : AV) (H196 : Heap) (nx197 : Nat) : Prop :=
 ST 3 (AV.ptr nx197 0) v195 (H196.put nx197 (some (AObj.row 3 [AV.int IntKind.i64 0, AV.int IntKind.i64 0, AV.str []]))) fun H198 =>
 LD false 1 (AV.ptr nx197 0) H198 fun v199 =>
 BI BinOp.eql v199 (AV.int IntKind.i64 0) fun v200 =>
 CND v200
 (LD false 1 (AV.ptr nx197 1) H198 fun v201 =>
 BI BinOp.eql v201 (AV.int IntKind.i64 0) fun v202 =>
 CNDC v202
 (LD false 1 (AV.ptr nx3 1) H198 fun v203 =>
 NC v1 fun v204 =>
 FA 1 v204 fun v205 =>
 ST 1 v205 v203 H198 fun H206 =>
 Q (AV.tup []) H206 (nx197 + 1))
 (Q (AV.tup []) H198 (nx197 + 1)))
 (Q (AV.tup []) H198 (nx197 + 1))
def zpv (Q : QT) (v209 : AV) (H210 : Heap) (nx211 : Nat) : Prop :=
 Q (AV.tup []) H210 nx211
def zpu (Q : QT) (v213 : AV) (H214 : Heap) (nx215 : Nat) : Prop :=
 Q (AV.tup []) H214 nx215
def zpt (Q : QT) (v217 : AV) (H218 : Heap) (nx219 : Nat) : Prop :=
 Q (AV.tup []) H218 nx219
def zl (a0 : AV) (Q : QT) (v1 : AV) (H2 : Heap) (nx3 : Nat) : Prop :=
 NC a0 fun v4 =>
 FA 0 v4 fun v5 =>
 FA 2 v5 fun v6 =>
 FA 0 v6 fun v7 =>
 LDR false 1 v7 H2 fun v8 rd9 =>
 NC v1 fun v10 =>
 FA 0 v10 fun v11 =>
 LDR false 1 v11 H2 fun v12 rd13 =>
 IA 3 v8 v12 fun v14 =>
 FA 2 v14 fun v15 =>
 LDR false 1 v15 H2 fun v16 rd17 =>
 NC v1 fun v18 =>
 FA 1 v18 fun v19 =>
 LDR false 1 v19 H2 fun v20 rd21 =>
 IA 3 v16 v20 fun v22 =>
 LDR true 3 v22 H2 fun v23 rd24 =>
 zah 3 (AV.ptr nx3 0) v23 (H2.put nx3 (some (AObj.row 3 [AV.int IntKind.i64 0, AV.int IntKind.i64 0, AV.int IntKind.i64 0]))) fun _ _ fr27 D28 =>
 nx3 ∉ [] ∧
 nx3 ∉ [] ∧
 nx3 ∉ [] ∧
 nx3 ∉ [] ∧
 nx3 ∉ [] ∧
 nx3 ∉ rd9 ∧
 nx3 ∉ [] ∧
 nx3 ∉ [] ∧
 nx3 ∉ [] ∧
 nx3 ∉ rd13 ∧
 nx3 ∉ [] ∧
 nx3 ∉ [] ∧
 nx3 ∉ rd17 ∧
 nx3 ∉ [] ∧
 nx3 ∉ [] ∧
 nx3 ∉ [] ∧
 nx3 ∉ rd21 ∧
 nx3 ∉ [] ∧
 nx3 ∉ rd24 ∧
 NC v1 fun v29 =>
 FA 1 v29 fun v30 =>
 LD false 1 v30 ((H2.put nx3 (some (AObj.row 3 [AV.int IntKind.i64 0, AV.int IntKind.i64 0, AV.int IntKind.i64 0]))).apply D28) fun v31 =>
 BI BinOp.add v31 (AV.int IntKind.i64 1) fun v32 =>
 NC v1 fun v33 =>
 FA 1 v33 fun v34 =>
 ST 1 v34 v32 ((H2.put nx3 (some (AObj.row 3 [AV.int IntKind.i64 0, AV.int IntKind.i64 0, AV.int IntKind.i64 0]))).apply D28) fun H35 =>
 NC a0 fun v36 =>
 FA 0 v36 fun v37 =>
 FA 6 v37 fun v38 =>
 FA 0 v38 fun v39 =>
 LD false 1 v39 H35 fun v40 =>
 BI BinOp.sub v40 (AV.int IntKind.i64 1) fun v41 =>
 NC a0 fun v42 =>
 FA 0 v42 fun v43 =>
 FA 6 v43 fun v44 =>
 FA 0 v44 fun v45 =>
 ST 1 v45 v41 H35 fun H46 =>
 LD false 1 (AV.ptr nx3 0) H46 fun v47 =>
 BI BinOp.eql v47 (AV.int IntKind.i64 1) fun v48 =>
 CNDC v48
 (LD false 1 (AV.ptr nx3 1) H46 fun v49 =>
 BD (zaa tab [(3, 0), (3, 1), (9, 2)]) [AV.int IntKind.i64 0, AV.int IntKind.i64 0, AV.str []] [(1, v49)] fun v50 =>
 za Tryd.prog 85 [a0, v50] H46 ((nx3 + 1) + fr27.length) (zrx Q))
 (BI BinOp.eql v47 (AV.int IntKind.i64 2) fun v54 =>
 CNDC v54
 (NC a0 fun v55 =>
 FA 0 v55 fun v56 =>
 FA 2 v56 fun v57 =>
 FA 1 v57 fun v58 =>
 LDR false 1 v58 H46 fun v59 _ =>
 LDR false 1 (AV.ptr nx3 1) H46 fun v61 _ =>
 IA 1 v59 v61 fun v63 =>
 LDR false 1 v63 H46 fun v64 _ =>
 zo Tryd.prog (AV.clo 86 []) [v64] H46 ((nx3 + 1) + fr27.length) (zjf a0 H46 nx3 fr27 Q))
 (BI BinOp.eql v47 (AV.int IntKind.i64 3) fun v74 =>
 CNDC v74
 (NC v1 fun v75 =>
 FA 2 v75 fun v76 =>
 LDR false 1 v76 H46 fun v77 _ =>
 LDR false 1 (AV.ptr nx3 1) H46 fun v79 _ =>
 IA 3 v77 v79 fun v81 =>
 LDR true 3 v81 H46 fun v82 _ =>
 zo Tryd.prog (AV.clo 85 []) [a0, v82] H46 ((nx3 + 1) + fr27.length) (zje Q H46 nx3 fr27))
 (BI BinOp.eql v47 (AV.int IntKind.i64 4) fun v88 =>
 CNDC v88
 (NC v1 fun v89 =>
 FA 2 v89 fun v90 =>
 LDR false 1 v90 H46 fun v91 rd92 =>
 LDR false 1 (AV.ptr nx3 1) H46 fun v93 rd94 =>
 zo Tryd.prog (AV.clo 87 []) [a0] H46 ((nx3 + 1) + fr27.length) (zjd v91 v93 H46 v90 rd92 nx3 rd94 Q fr27))
 (BI BinOp.eql v47 (AV.int IntKind.i64 5) fun v104 =>
 CNDC v104
 (LD false 1 (AV.ptr nx3 1) H46 fun v105 =>
 za Tryd.prog 88 [a0, v105] H46 ((nx3 + 1) + fr27.length) (zrw Q))
 (BI BinOp.eql v47 (AV.int IntKind.i64 6) fun v109 =>
 CNDC v109
 (za Tryd.prog 89 [a0] H46 ((nx3 + 1) + fr27.length) (zrv Q))
 (BI BinOp.eql v47 (AV.int IntKind.i64 7) fun v113 =>
 CNDC v113
 (za Tryd.prog 90 [a0] H46 ((nx3 + 1) + fr27.length) (zes a0 Q))
 (BI BinOp.eql v47 (AV.int IntKind.i64 8) fun v124 =>
 CNDC v124
 (za Tryd.prog 90 [a0] H46 ((nx3 + 1) + fr27.length) (zdt a0 Q))
 (BI BinOp.eql v47 (AV.int IntKind.i64 9) fun v135 =>
 CNDC v135
 (LD false 1 (AV.ptr nx3 0) H46 fun v136 =>
 BI BinOp.eql v136 (AV.int IntKind.i64 9) fun v137 =>
 za Tryd.prog 91 [a0, v137] H46 ((nx3 + 1) + fr27.length) (zqa Q))
 (BI BinOp.eql v47 (AV.int IntKind.i64 10) fun v141 =>
 CNDC v141
 (LD false 1 (AV.ptr nx3 0) H46 fun v142 =>
 BI BinOp.eql v142 (AV.int IntKind.i64 9) fun v143 =>
 za Tryd.prog 91 [a0, v143] H46 ((nx3 + 1) + fr27.length) (zpz Q))
 (BI BinOp.eql v47 (AV.int IntKind.i64 11) fun v147 =>
 CNDC v147
 (za Tryd.prog 92 [a0] H46 ((nx3 + 1) + fr27.length) (zpy Q))
 (BI BinOp.eql v47 (AV.int IntKind.i64 12) fun v151 =>
 CNDC v151
 (NC a0 fun v152 =>
 FA 9 v152 fun v153 =>
 LD false 1 v153 H46 fun v154 =>
 NC v154 fun v155 =>
 FA 0 v155 fun v156 =>
 LD false 1 v156 H46 fun v157 =>
 za Tryd.prog 86 [v157] H46 ((nx3 + 1) + fr27.length) (zia a0 Q))
 (BI BinOp.eql v47 (AV.int IntKind.i64 13) fun v164 =>
 CNDC v164
 (za Tryd.prog 93 [a0] H46 ((nx3 + 1) + fr27.length) (zpw Q))
 (BI BinOp.eql v47 (AV.int IntKind.i64 14) fun v168 =>
 CNDC v168
 (NC a0 fun v169 =>
 FA 0 v169 fun v170 =>
 FA 5 v170 fun v171 =>
 LDR false 1 v171 H46 fun v172 rd173 =>
 zo Tryd.prog (AV.clo 87 []) [a0] H46 ((nx3 + 1) + fr27.length) (zhy v172 H46 nx3 fr27 a0 v171 rd173 Q))
 (BI BinOp.eql v47 (AV.int IntKind.i64 15) fun v189 =>
 CNDC v189
 (LD false 1 (AV.ptr nx3 1) H46 fun v190 =>
 NC v1 fun v191 =>
 FA 1 v191 fun v192 =>
 ST 1 v192 v190 H46 fun H193 =>
 Q (AV.tup []) H193 ((nx3 + 1) + fr27.length))
 (BI BinOp.eql v47 (AV.int IntKind.i64 16) fun v194 =>
 CNDC v194
 (za Tryd.prog 87 [a0] H46 ((nx3 + 1) + fr27.length) (zcc nx3 v1 Q))
 (BI BinOp.eql v47 (AV.int IntKind.i64 17) fun v207 =>
 CNDC v207
 (LD true 3 (AV.ptr nx3 0) H46 fun v208 =>
 za Tryd.prog 95 [a0, v208] H46 ((nx3 + 1) + fr27.length) (zpv Q))
 (BI BinOp.eql v47 (AV.int IntKind.i64 18) fun v212 =>
 CNDC v212
 (za Tryd.prog 96 [a0] H46 ((nx3 + 1) + fr27.length) (zpu Q))
 (BI BinOp.eql v47 (AV.int IntKind.i64 19) fun v216 =>
 CNDC v216
 (za Tryd.prog 87 [a0] H46 ((nx3 + 1) + fr27.length) (zpt Q))
 (Q (AV.tup []) H46 ((nx3 + 1) + fr27.length))))))))))))))))))))
def zjc (a0 : AV) (H : Heap) (nx : Nat) (Q : QT) : Prop :=
 za Tryd.prog 84 [a0] H nx (zl a0 Q)
theorem znv (a0 : AV) (H : Heap) (nx : Nat) (Q : QT) : zjc a0 H nx Q → za Tryd.prog 58 [a0] H nx Q :=
  zj (lv := lvOf []) (c := zp Tryd.f58) zy zz mixed Tryd.func58 (by kernel_rfl) (by kernel_rfl) (by kernel_rfl) (by kernel_rfl) (by kernel_rfl)
def zvx (xs7 : List AV) (K6 : J3) (_ : AV) (H28 : Heap) (nx29 : Nat) : Prop :=
 BI BinOp.add (nth xs7 4) (AV.int IntKind.i64 1) fun v30 =>
 K6 [nth xs7 0, nth xs7 1, nth xs7 2, nth xs7 3, v30] H28 nx29
def zvw (xs7 : List AV) (K6 : J3) (_ : AV) (H32 : Heap) (nx33 : Nat) : Prop :=
 BI BinOp.add (nth xs7 4) (AV.int IntKind.i64 1) fun v34 =>
 K6 [nth xs7 0, nth xs7 1, nth xs7 2, nth xs7 3, v34] H32 nx33
def zdu (Q : QT) (K6 : J3) (xs7 : List AV) (H8 : Heap) (nx9 : Nat) : Prop :=
 NC (nth xs7 3) fun v10 =>
 FA 10 v10 fun v11 =>
 FA 0 v11 fun v12 =>
 LD false 1 v12 H8 fun v13 =>
 BI BinOp.eql v13 (AV.int IntKind.i64 0) fun v14 =>
 CNDC v14
 (BI BinOp.geq (nth xs7 4) (nth xs7 0) fun v15 =>
 CNDC v15
 (NC (nth xs7 3) fun v16 =>
 FA 10 v16 fun v17 =>
 FA 0 v17 fun v18 =>
 ST 1 v18 (AV.int IntKind.i64 1) H8 fun H19 =>
 BI BinOp.add (nth xs7 4) (AV.int IntKind.i64 1) fun v20 =>
 K6 [nth xs7 0, nth xs7 1, nth xs7 2, nth xs7 3, v20] H19 nx9)
 (NC (nth xs7 3) fun v21 =>
 FA 0 v21 fun v22 =>
 FA 6 v22 fun v23 =>
 FA 0 v23 fun v24 =>
 LD false 1 v24 H8 fun v25 =>
 BI BinOp.eql v25 (AV.int IntKind.i64 0) fun v26 =>
 CNDC v26
 (za Tryd.prog 57 [nth xs7 3, AV.int IntKind.i64 12] H8 nx9 (zvx xs7 K6))
 (za Tryd.prog 58 [nth xs7 3] H8 nx9 (zvw xs7 K6))))
 (NC (nth xs7 3) fun v35 =>
 FA 0 v35 fun v36 =>
 LDR true 9 v36 H8 fun v37 _ =>
 NC (nth xs7 3) fun v39 =>
 FA 10 v39 fun v40 =>
 LDR true 3 v40 H8 fun v41 rd42 =>
 zah 9 (nth xs7 1) v37 H8 fun _ _ fr45 D46 =>
 zah 3 (nth xs7 2) v41 (H8.apply D46) fun _ _ fr49 D50 =>
 zf (domD D46) [] (
 zf (domD D46) [] (
 zf (domD D46) [] (
 zf (domD D46) rd42 (
 LD true 9 (nth xs7 1) ((H8.apply D46).apply D50) fun v51 =>
 LD true 3 (nth xs7 2) ((H8.apply D46).apply D50) fun v52 =>
 Q (AV.tup [v51, v52]) ((H8.apply D46).apply D50) ((nx9 + fr45.length) + fr49.length))))))
def zvv (nx : Nat) (Q : QT) (a2 : AV) (v2 : AV) (H3 : Heap) (nx4 : Nat) : Prop :=
 BD (zaa tab [(40, 0), (128, 9), (48, 10)]) [AV.int IntKind.i64 0, AV.int IntKind.i64 0, AV.nils, AV.nils, AV.nils, AV.nils, AV.int IntKind.i64 0, AV.int IntKind.i64 0, AV.int IntKind.i64 0, AV.nilp, AV.int IntKind.i64 0, AV.str [], AV.int IntKind.i64 0] [(0, v2), (1, AV.ptr (nx + 1) 0)] fun v5 =>
 v5.sure = true ∧
 LP (zdu Q) [a2, AV.ptr (nx + 2) 0, AV.ptr (nx + 3) 0, AV.ptr nx4 0, AV.int IntKind.i64 0] (H3.put nx4 (some (AObj.row v5.cells.length v5.cells))) (nx4 + 1)
def zvu (a0 a1 a2 : AV) (H : Heap) (nx : Nat) (Q : QT) : Prop :=
 a0.sure = true ∧
 a1.sure = true ∧
 LD true 9 (AV.ptr nx 0) ((((H.put nx (some (AObj.row a0.cells.length a0.cells))).put ((nx + 1)) (some (AObj.row a1.cells.length a1.cells))).put ((nx + 2)) (some (AObj.row 9 [AV.int IntKind.i64 0, AV.int IntKind.i64 0, AV.nils, AV.nils, AV.nils, AV.nils, AV.int IntKind.i64 0, AV.int IntKind.i64 0, AV.int IntKind.i64 0]))).put ((nx + 3)) (some (AObj.row 3 [AV.int IntKind.i64 0, AV.str [], AV.int IntKind.i64 0]))) fun v1 =>
 za Tryd.prog 55 [v1] ((((H.put nx (some (AObj.row a0.cells.length a0.cells))).put ((nx + 1)) (some (AObj.row a1.cells.length a1.cells))).put ((nx + 2)) (some (AObj.row 9 [AV.int IntKind.i64 0, AV.int IntKind.i64 0, AV.nils, AV.nils, AV.nils, AV.nils, AV.int IntKind.i64 0, AV.int IntKind.i64 0, AV.int IntKind.i64 0]))).put ((nx + 3)) (some (AObj.row 3 [AV.int IntKind.i64 0, AV.str [], AV.int IntKind.i64 0]))) (nx + 4) (zvv nx Q a2)
theorem zyb (a0 a1 a2 : AV) (H : Heap) (nx : Nat) (Q : QT) : zvu a0 a1 a2 H nx Q → za Tryd.prog 23 [a0, a1, a2] H nx Q :=
  zj (lv := lvOf [(2, 3, [2, 6, 7, 8, 9])]) (c := zp Tryd.f23) zy zz mixed Tryd.func23 (by kernel_rfl) (by kernel_rfl) (by kernel_rfl) (by kernel_rfl) (by kernel_rfl)
def zeg (Q : QT) (K39 : J3) (xs40 : List AV) (H41 : Heap) (nx42 : Nat) : Prop :=
 BI BinOp.lss (nth xs40 5) (nth xs40 4) fun v43 =>
 CNDC v43
 (FA 4 (nth xs40 1) fun v44 =>
 LD false 1 v44 H41 fun v45 =>
 IA 4 v45 (nth xs40 5) fun v46 =>
 NC v46 fun v47 =>
 FA 2 v47 fun v48 =>
 LD false 1 v48 H41 fun v49 =>
 CP 3 v49 (nth xs40 2) H41 fun v50 H51 =>
 SL 3 (nth xs40 2) (some v50) none H51 fun v52 =>
 NC v46 fun v53 =>
 FA 3 v53 fun v54 =>
 LD false 1 v54 H51 fun v55 =>
 CP 3 v55 v52 H51 fun v56 H57 =>
 SL 3 v52 (some v56) none H57 fun v58 =>
 BI BinOp.add (nth xs40 5) (AV.int IntKind.i64 1) fun v59 =>
 K39 [nth xs40 0, nth xs40 1, v58, nth xs40 3, nth xs40 4, v59] H57 nx42)
 (FA 5 (nth xs40 1) fun v60 =>
 ST 1 v60 (nth xs40 3) H41 fun H61 =>
 LD true 9 (nth xs40 1) H61 fun v62 =>
 ST 9 (nth xs40 0) v62 H61 fun H63 =>
 LD true 9 (nth xs40 0) H63 fun v64 =>
 Q v64 H63 nx42)
def zjq (xs9 : List AV) (Q : QT) (v31 : AV) (H32 : Heap) (nx33 : Nat) : Prop :=
 EX v31 0 fun v34 =>
 EX v31 1 fun v35 =>
 FA 4 (nth xs9 1) fun v36 =>
 LD false 1 v36 H32 fun v37 =>
 LNL v37 fun v38 =>
 LP (zeg Q) [nth xs9 0, nth xs9 1, v34, v35, v38, AV.int IntKind.i64 0] H32 nx33
def zef (Q : QT) (K8 : J3) (xs9 : List AV) (H10 : Heap) (nx11 : Nat) : Prop :=
 BI BinOp.lss (nth xs9 5) (nth xs9 4) fun v12 =>
 CNDC v12
 (IA 4 (nth xs9 3) (nth xs9 5) fun v13 =>
 LD true 4 v13 H10 fun v14 =>
 ST 4 (AV.ptr nx11 0) v14 (H10.put nx11 (some (AObj.row 4 [AV.int IntKind.i64 0, AV.int IntKind.i64 0, AV.nils, AV.nils]))) fun H15 =>
 LDR false 1 (AV.ptr nx11 2) H15 fun v16 _ =>
 zad 3 32 (nth xs9 2) v16 H15 (nx11 + 1) fun v18 _ fr20 D21 =>
 LDR false 1 (AV.ptr nx11 3) (H15.apply D21) fun v22 rd23 =>
 zad 3 32 v18 v22 (H15.apply D21) ((nx11 + 1) + fr20.length) fun v24 _ fr26 D27 =>
 zf (domD D21) [] (
 zf (domD D21) [] (
 zf (domD D21) rd23 (
 zf (domD D21) [] (
 BI BinOp.add (nth xs9 5) (AV.int IntKind.i64 1) fun v28 =>
 K8 [nth xs9 0, nth xs9 1, v24, nth xs9 3, nth xs9 4, v28] ((H15.apply D21).apply D27) (((nx11 + 1) + fr20.length) + fr26.length))))))
 (FA 5 (nth xs9 1) fun v29 =>
 LD false 1 v29 H10 fun v30 =>
 za Tryd.prog 61 [v30, nth xs9 2] H10 nx11 (zjq xs9 Q))
def zod (Q : QT) (nx : Nat) (v2 : AV) (H3 : Heap) (nx4 : Nat) : Prop :=
 ST 9 (AV.ptr nx4 0) v2 (H3.put nx4 (some (AObj.row 9 [AV.int IntKind.i64 0, AV.int IntKind.i64 0, AV.nils, AV.nils, AV.nils, AV.nils, AV.int IntKind.i64 0, AV.int IntKind.i64 0, AV.int IntKind.i64 0]))) fun H5 =>
 LD false 1 (AV.ptr nx4 4) H5 fun v6 =>
 LNL v6 fun v7 =>
 LP (zef Q) [AV.ptr (nx + 1) 0, AV.ptr nx4 0, AV.nils, v6, v7, AV.int IntKind.i64 0] H5 (nx4 + 1)
def zoc (a0 : AV) (H : Heap) (nx : Nat) (Q : QT) : Prop :=
 a0.sure = true ∧
 LD true 9 (AV.ptr nx 0) ((H.put nx (some (AObj.row a0.cells.length a0.cells))).put ((nx + 1)) (some (AObj.row 9 [AV.int IntKind.i64 0, AV.int IntKind.i64 0, AV.nils, AV.nils, AV.nils, AV.nils, AV.int IntKind.i64 0, AV.int IntKind.i64 0, AV.int IntKind.i64 0]))) fun v1 =>
 za Tryd.prog 55 [v1] ((H.put nx (some (AObj.row a0.cells.length a0.cells))).put ((nx + 1)) (some (AObj.row 9 [AV.int IntKind.i64 0, AV.int IntKind.i64 0, AV.nils, AV.nils, AV.nils, AV.nils, AV.int IntKind.i64 0, AV.int IntKind.i64 0, AV.int IntKind.i64 0]))) (nx + 2) (zod Q nx)
theorem zpa (a0 : AV) (H : Heap) (nx : Nat) (Q : QT) : zoc a0 H nx Q → za Tryd.prog 25 [a0] H nx Q :=
  zj (lv := lvOf [(2, 4, [2, 3, 4, 13, 14, 15]), (2, 10, [2, 3, 4, 7, 36, 37])]) (c := zp Tryd.f25) zy zz mixed Tryd.func25 (by kernel_rfl) (by kernel_rfl) (by kernel_rfl) (by kernel_rfl) (by kernel_rfl)
def zln (a0 : AV) (H : Heap) (nx : Nat) (Q : QT) : Prop :=
 a0.sure = true ∧
 LD false 1 (AV.ptr nx 0) (H.put nx (some (AObj.row a0.cells.length a0.cells))) fun v1 =>
 BI BinOp.eql v1 (AV.int IntKind.i64 17) fun v2 =>
 CNDC v2
 (LD false 1 (AV.ptr nx 2) (H.put nx (some (AObj.row a0.cells.length a0.cells))) fun v3 =>
 Q (AV.tup [v3, AV.int IntKind.i64 1]) (H.put nx (some (AObj.row a0.cells.length a0.cells))) (nx + 1))
 (zx (AK.int IntKind.i64) (AV.int IntKind.i64 1) = true ∧
 MU (AV.amap (nx + 1)) (AV.int IntKind.i64 1) (AV.agg [AV.int IntKind.i64 0, AV.int IntKind.i64 1]) ((H.put nx (some (AObj.row a0.cells.length a0.cells))).put ((nx + 1)) (some (AObj.mp []))) fun H4 =>
 zx (AK.int IntKind.i64) (AV.int IntKind.i64 2) = true ∧
 MU (AV.amap (nx + 1)) (AV.int IntKind.i64 2) (AV.agg [AV.int IntKind.i64 0, AV.int IntKind.i64 1]) H4 fun H5 =>
 zx (AK.int IntKind.i64) (AV.int IntKind.i64 3) = true ∧
 MU (AV.amap (nx + 1)) (AV.int IntKind.i64 3) (AV.agg [AV.int IntKind.i64 0, AV.int IntKind.i64 1]) H5 fun H6 =>
 zx (AK.int IntKind.i64) (AV.int IntKind.i64 4) = true ∧
 MU (AV.amap (nx + 1)) (AV.int IntKind.i64 4) (AV.agg [AV.int IntKind.i64 1, AV.int IntKind.i64 0]) H6 fun H7 =>
 zx (AK.int IntKind.i64) (AV.int IntKind.i64 5) = true ∧
 MU (AV.amap (nx + 1)) (AV.int IntKind.i64 5) (AV.agg [AV.int IntKind.i64 2, AV.int IntKind.i64 1]) H7 fun H8 =>
 zx (AK.int IntKind.i64) (AV.int IntKind.i64 6) = true ∧
 MU (AV.amap (nx + 1)) (AV.int IntKind.i64 6) (AV.agg [AV.int IntKind.i64 2, AV.int IntKind.i64 1]) H8 fun H9 =>
 zx (AK.int IntKind.i64) (AV.int IntKind.i64 7) = true ∧
 MU (AV.amap (nx + 1)) (AV.int IntKind.i64 7) (AV.agg [AV.int IntKind.i64 1, AV.int IntKind.i64 1]) H9 fun H10 =>
 zx (AK.int IntKind.i64) (AV.int IntKind.i64 8) = true ∧
 MU (AV.amap (nx + 1)) (AV.int IntKind.i64 8) (AV.agg [AV.int IntKind.i64 1, AV.int IntKind.i64 1]) H10 fun H11 =>
 zx (AK.int IntKind.i64) (AV.int IntKind.i64 9) = true ∧
 MU (AV.amap (nx + 1)) (AV.int IntKind.i64 9) (AV.agg [AV.int IntKind.i64 2, AV.int IntKind.i64 0]) H11 fun H12 =>
 zx (AK.int IntKind.i64) (AV.int IntKind.i64 10) = true ∧
 MU (AV.amap (nx + 1)) (AV.int IntKind.i64 10) (AV.agg [AV.int IntKind.i64 2, AV.int IntKind.i64 0]) H12 fun H13 =>
 zx (AK.int IntKind.i64) (AV.int IntKind.i64 11) = true ∧
 MU (AV.amap (nx + 1)) (AV.int IntKind.i64 11) (AV.agg [AV.int IntKind.i64 1, AV.int IntKind.i64 1]) H13 fun H14 =>
 zx (AK.int IntKind.i64) (AV.int IntKind.i64 12) = true ∧
 MU (AV.amap (nx + 1)) (AV.int IntKind.i64 12) (AV.agg [AV.int IntKind.i64 0, AV.int IntKind.i64 1]) H14 fun H15 =>
 zx (AK.int IntKind.i64) (AV.int IntKind.i64 13) = true ∧
 MU (AV.amap (nx + 1)) (AV.int IntKind.i64 13) (AV.agg [AV.int IntKind.i64 1, AV.int IntKind.i64 1]) H15 fun H16 =>
 zx (AK.int IntKind.i64) (AV.int IntKind.i64 14) = true ∧
 MU (AV.amap (nx + 1)) (AV.int IntKind.i64 14) (AV.agg [AV.int IntKind.i64 1, AV.int IntKind.i64 0]) H16 fun H17 =>
 zx (AK.int IntKind.i64) (AV.int IntKind.i64 15) = true ∧
 MU (AV.amap (nx + 1)) (AV.int IntKind.i64 15) (AV.agg [AV.int IntKind.i64 0, AV.int IntKind.i64 0]) H17 fun H18 =>
 zx (AK.int IntKind.i64) (AV.int IntKind.i64 16) = true ∧
 MU (AV.amap (nx + 1)) (AV.int IntKind.i64 16) (AV.agg [AV.int IntKind.i64 1, AV.int IntKind.i64 0]) H18 fun H19 =>
 zx (AK.int IntKind.i64) (AV.int IntKind.i64 18) = true ∧
 MU (AV.amap (nx + 1)) (AV.int IntKind.i64 18) (AV.agg [AV.int IntKind.i64 1, AV.int IntKind.i64 0]) H19 fun H20 =>
 zx (AK.int IntKind.i64) (AV.int IntKind.i64 19) = true ∧
 MU (AV.amap (nx + 1)) (AV.int IntKind.i64 19) (AV.agg [AV.int IntKind.i64 1, AV.int IntKind.i64 0]) H20 fun H21 =>
 LD false 1 (AV.ptr nx 0) H21 fun v22 =>
 zx (AK.int IntKind.i64) v22 = true ∧
 LK [AV.int IntKind.i64 0, AV.int IntKind.i64 0] true (AV.amap (nx + 1)) v22 false H21 fun v23 =>
 ST 2 (AV.ptr (nx + 2) 0) v23 (H21.put ((nx + 2)) (some (AObj.row 1 [AV.int IntKind.i64 0, AV.int IntKind.i64 0]))) fun H24 =>
 AA 1 2 (AV.ptr (nx + 2) 0) (AV.int IntKind.i64 0) fun v25 =>
 LDR false 1 v25 H24 fun v26 _ =>
 AA 1 2 (AV.ptr (nx + 2) 0) (AV.int IntKind.i64 1) fun v28 =>
 LDR false 1 v28 H24 fun v29 _ =>
 Q (AV.tup [v26, v29]) H24 (nx + 3))
theorem zpj (a0 : AV) (H : Heap) (nx : Nat) (Q : QT) : zln a0 H nx Q → za Tryd.prog 44 [a0] H nx Q :=
  zj (lv := lvOf []) (c := zp Tryd.f44) zy zz mixed Tryd.func44 (by kernel_rfl) (by kernel_rfl) (by kernel_rfl) (by kernel_rfl) (by kernel_rfl)
def zrs (v23 : AV) (Q : QT) (nx16 : Nat) (v20 : AV) (xs14 : List AV) (K13 : J3) (v46 : AV) (H47 : Heap) (nx48 : Nat) : Prop :=
 EX v46 0 fun v49 =>
 EX v46 1 fun v50 =>
 BI BinOp.lss v23 v49 fun v51 =>
 CND v51
 (Q (AV.tup [AV.nils, AV.int IntKind.i64 10]) H47 nx48)
 (LD false 1 (AV.ptr nx16 0) H47 fun v52 =>
 BI BinOp.eql v52 (AV.int IntKind.i64 18) fun v53 =>
 CND v53
 (BI BinOp.gtr v23 (AV.int IntKind.i64 1) fun v54 =>
 CNDC v54
 (Q (AV.tup [AV.nils, AV.int IntKind.i64 10]) H47 nx48)
 (BI BinOp.sub v23 v49 fun v55 =>
 BI BinOp.add v55 v50 fun v56 =>
 BI BinOp.gtr v56 (AV.int IntKind.i64 16) fun v57 =>
 CNDC v57
 (Q (AV.tup [AV.nils, AV.int IntKind.i64 4]) H47 nx48)
 (LD false 1 (AV.ptr nx16 0) H47 fun v58 =>
 BI BinOp.neq v58 (AV.int IntKind.i64 15) fun v59 =>
 CND v59
 (LD false 1 (AV.ptr nx16 0) H47 fun v60 =>
 BI BinOp.neq v60 (AV.int IntKind.i64 18) fun v61 =>
 CNDC v61
 (BI BinOp.add v20 (AV.int IntKind.i64 1) fun v62 =>
 BSL 1 1 [AV.int IntKind.i64 0] [(0, v62)] fun cells63 =>
 APP 1 8 (nth xs14 2) (AV.slc nx48 0 1) (H47.put nx48 (some (AObj.row 1 cells63))) (nx48 + 1) fun v64 H65 nx66 =>
 BSL 1 1 [AV.int IntKind.i64 0] [(0, v56)] fun cells67 =>
 APP 1 8 (nth xs14 3) (AV.slc nx66 0 1) (H65.put nx66 (some (AObj.row 1 cells67))) (nx66 + 1) fun v68 H69 nx70 =>
 LD false 1 (AV.ptr nx16 0) H69 fun v71 =>
 BI BinOp.eql v71 (AV.int IntKind.i64 15) fun v72 =>
 CND v72
 (LD false 1 (AV.ptr nx16 1) H69 fun v73 =>
 BSL 1 1 [AV.int IntKind.i64 0] [(0, v73)] fun cells74 =>
 APP 1 8 v64 (AV.slc nx70 0 1) (H69.put nx70 (some (AObj.row 1 cells74))) (nx70 + 1) fun v75 H76 nx77 =>
 BSL 1 1 [AV.int IntKind.i64 0] [(0, v56)] fun cells78 =>
 APP 1 8 v68 (AV.slc nx77 0 1) (H76.put nx77 (some (AObj.row 1 cells78))) (nx77 + 1) fun v79 H80 nx81 =>
 BI BinOp.add (nth xs14 4) (AV.int IntKind.i64 1) fun v82 =>
 K13 [nth xs14 0, nth xs14 1, v75, v79, v82] H80 nx81)
 (LD false 1 (AV.ptr nx16 0) H69 fun v83 =>
 BI BinOp.eql v83 (AV.int IntKind.i64 16) fun v84 =>
 CNDC v84
 (LD false 1 (AV.ptr nx16 1) H69 fun v85 =>
 BSL 1 1 [AV.int IntKind.i64 0] [(0, v85)] fun cells86 =>
 APP 1 8 v64 (AV.slc nx70 0 1) (H69.put nx70 (some (AObj.row 1 cells86))) (nx70 + 1) fun v87 H88 nx89 =>
 BSL 1 1 [AV.int IntKind.i64 0] [(0, v56)] fun cells90 =>
 APP 1 8 v68 (AV.slc nx89 0 1) (H88.put nx89 (some (AObj.row 1 cells90))) (nx89 + 1) fun v91 H92 nx93 =>
 BI BinOp.add (nth xs14 4) (AV.int IntKind.i64 1) fun v94 =>
 K13 [nth xs14 0, nth xs14 1, v87, v91, v94] H92 nx93)
 (BI BinOp.add (nth xs14 4) (AV.int IntKind.i64 1) fun v95 =>
 K13 [nth xs14 0, nth xs14 1, v64, v68, v95] H69 nx70)))
 (LD false 1 (AV.ptr nx16 0) H47 fun v96 =>
 BI BinOp.eql v96 (AV.int IntKind.i64 15) fun v97 =>
 CND v97
 (LD false 1 (AV.ptr nx16 1) H47 fun v98 =>
 BSL 1 1 [AV.int IntKind.i64 0] [(0, v98)] fun cells99 =>
 APP 1 8 (nth xs14 2) (AV.slc nx48 0 1) (H47.put nx48 (some (AObj.row 1 cells99))) (nx48 + 1) fun v100 H101 nx102 =>
 BSL 1 1 [AV.int IntKind.i64 0] [(0, v56)] fun cells103 =>
 APP 1 8 (nth xs14 3) (AV.slc nx102 0 1) (H101.put nx102 (some (AObj.row 1 cells103))) (nx102 + 1) fun v104 H105 nx106 =>
 BI BinOp.add (nth xs14 4) (AV.int IntKind.i64 1) fun v107 =>
 K13 [nth xs14 0, nth xs14 1, v100, v104, v107] H105 nx106)
 (LD false 1 (AV.ptr nx16 0) H47 fun v108 =>
 BI BinOp.eql v108 (AV.int IntKind.i64 16) fun v109 =>
 CNDC v109
 (LD false 1 (AV.ptr nx16 1) H47 fun v110 =>
 BSL 1 1 [AV.int IntKind.i64 0] [(0, v110)] fun cells111 =>
 APP 1 8 (nth xs14 2) (AV.slc nx48 0 1) (H47.put nx48 (some (AObj.row 1 cells111))) (nx48 + 1) fun v112 H113 nx114 =>
 BSL 1 1 [AV.int IntKind.i64 0] [(0, v56)] fun cells115 =>
 APP 1 8 (nth xs14 3) (AV.slc nx114 0 1) (H113.put nx114 (some (AObj.row 1 cells115))) (nx114 + 1) fun v116 H117 nx118 =>
 BI BinOp.add (nth xs14 4) (AV.int IntKind.i64 1) fun v119 =>
 K13 [nth xs14 0, nth xs14 1, v112, v116, v119] H117 nx118)
 (BI BinOp.add (nth xs14 4) (AV.int IntKind.i64 1) fun v120 =>
 K13 [nth xs14 0, nth xs14 1, nth xs14 2, nth xs14 3, v120] H47 nx48))))
 (LD false 1 (AV.ptr nx16 0) H47 fun v121 =>
 BI BinOp.eql v121 (AV.int IntKind.i64 15) fun v122 =>
 CND v122
 (LD false 1 (AV.ptr nx16 1) H47 fun v123 =>
 BSL 1 1 [AV.int IntKind.i64 0] [(0, v123)] fun cells124 =>
 APP 1 8 (nth xs14 2) (AV.slc nx48 0 1) (H47.put nx48 (some (AObj.row 1 cells124))) (nx48 + 1) fun v125 H126 nx127 =>
 BSL 1 1 [AV.int IntKind.i64 0] [(0, v56)] fun cells128 =>
 APP 1 8 (nth xs14 3) (AV.slc nx127 0 1) (H126.put nx127 (some (AObj.row 1 cells128))) (nx127 + 1) fun v129 H130 nx131 =>
 BI BinOp.add (nth xs14 4) (AV.int IntKind.i64 1) fun v132 =>
 K13 [nth xs14 0, nth xs14 1, v125, v129, v132] H130 nx131)
 (LD false 1 (AV.ptr nx16 0) H47 fun v133 =>
 BI BinOp.eql v133 (AV.int IntKind.i64 16) fun v134 =>
 CNDC v134
 (LD false 1 (AV.ptr nx16 1) H47 fun v135 =>
 BSL 1 1 [AV.int IntKind.i64 0] [(0, v135)] fun cells136 =>
 APP 1 8 (nth xs14 2) (AV.slc nx48 0 1) (H47.put nx48 (some (AObj.row 1 cells136))) (nx48 + 1) fun v137 H138 nx139 =>
 BSL 1 1 [AV.int IntKind.i64 0] [(0, v56)] fun cells140 =>
 APP 1 8 (nth xs14 3) (AV.slc nx139 0 1) (H138.put nx139 (some (AObj.row 1 cells140))) (nx139 + 1) fun v141 H142 nx143 =>
 BI BinOp.add (nth xs14 4) (AV.int IntKind.i64 1) fun v144 =>
 K13 [nth xs14 0, nth xs14 1, v137, v141, v144] H142 nx143)
 (BI BinOp.add (nth xs14 4) (AV.int IntKind.i64 1) fun v145 =>
 K13 [nth xs14 0, nth xs14 1, nth xs14 2, nth xs14 3, v145] H47 nx48))))))
 (BI BinOp.sub v23 v49 fun v146 =>
 BI BinOp.add v146 v50 fun v147 =>
 BI BinOp.gtr v147 (AV.int IntKind.i64 16) fun v148 =>
 CNDC v148
 (Q (AV.tup [AV.nils, AV.int IntKind.i64 4]) H47 nx48)
 (LD false 1 (AV.ptr nx16 0) H47 fun v149 =>
 BI BinOp.neq v149 (AV.int IntKind.i64 15) fun v150 =>
 CND v150
 (LD false 1 (AV.ptr nx16 0) H47 fun v151 =>
 BI BinOp.neq v151 (AV.int IntKind.i64 18) fun v152 =>
 CNDC v152
 (BI BinOp.add v20 (AV.int IntKind.i64 1) fun v153 =>
 BSL 1 1 [AV.int IntKind.i64 0] [(0, v153)] fun cells154 =>
 APP 1 8 (nth xs14 2) (AV.slc nx48 0 1) (H47.put nx48 (some (AObj.row 1 cells154))) (nx48 + 1) fun v155 H156 nx157 =>
 BSL 1 1 [AV.int IntKind.i64 0] [(0, v147)] fun cells158 =>
 APP 1 8 (nth xs14 3) (AV.slc nx157 0 1) (H156.put nx157 (some (AObj.row 1 cells158))) (nx157 + 1) fun v159 H160 nx161 =>
 LD false 1 (AV.ptr nx16 0) H160 fun v162 =>
 BI BinOp.eql v162 (AV.int IntKind.i64 15) fun v163 =>
 CND v163
 (LD false 1 (AV.ptr nx16 1) H160 fun v164 =>
 BSL 1 1 [AV.int IntKind.i64 0] [(0, v164)] fun cells165 =>
 APP 1 8 v155 (AV.slc nx161 0 1) (H160.put nx161 (some (AObj.row 1 cells165))) (nx161 + 1) fun v166 H167 nx168 =>
 BSL 1 1 [AV.int IntKind.i64 0] [(0, v147)] fun cells169 =>
 APP 1 8 v159 (AV.slc nx168 0 1) (H167.put nx168 (some (AObj.row 1 cells169))) (nx168 + 1) fun v170 H171 nx172 =>
 BI BinOp.add (nth xs14 4) (AV.int IntKind.i64 1) fun v173 =>
 K13 [nth xs14 0, nth xs14 1, v166, v170, v173] H171 nx172)
 (LD false 1 (AV.ptr nx16 0) H160 fun v174 =>
 BI BinOp.eql v174 (AV.int IntKind.i64 16) fun v175 =>
 CNDC v175
 (LD false 1 (AV.ptr nx16 1) H160 fun v176 =>
 BSL 1 1 [AV.int IntKind.i64 0] [(0, v176)] fun cells177 =>
 APP 1 8 v155 (AV.slc nx161 0 1) (H160.put nx161 (some (AObj.row 1 cells177))) (nx161 + 1) fun v178 H179 nx180 =>
 BSL 1 1 [AV.int IntKind.i64 0] [(0, v147)] fun cells181 =>
 APP 1 8 v159 (AV.slc nx180 0 1) (H179.put nx180 (some (AObj.row 1 cells181))) (nx180 + 1) fun v182 H183 nx184 =>
 BI BinOp.add (nth xs14 4) (AV.int IntKind.i64 1) fun v185 =>
 K13 [nth xs14 0, nth xs14 1, v178, v182, v185] H183 nx184)
 (BI BinOp.add (nth xs14 4) (AV.int IntKind.i64 1) fun v186 =>
 K13 [nth xs14 0, nth xs14 1, v155, v159, v186] H160 nx161)))
 (LD false 1 (AV.ptr nx16 0) H47 fun v187 =>
 BI BinOp.eql v187 (AV.int IntKind.i64 15) fun v188 =>
 CND v188
 (LD false 1 (AV.ptr nx16 1) H47 fun v189 =>
 BSL 1 1 [AV.int IntKind.i64 0] [(0, v189)] fun cells190 =>
 APP 1 8 (nth xs14 2) (AV.slc nx48 0 1) (H47.put nx48 (some (AObj.row 1 cells190))) (nx48 + 1) fun v191 H192 nx193 =>
 BSL 1 1 [AV.int IntKind.i64 0] [(0, v147)] fun cells194 =>
 APP 1 8 (nth xs14 3) (AV.slc nx193 0 1) (H192.put nx193 (some (AObj.row 1 cells194))) (nx193 + 1) fun v195 H196 nx197 =>
 BI BinOp.add (nth xs14 4) (AV.int IntKind.i64 1) fun v198 =>
 K13 [nth xs14 0, nth xs14 1, v191, v195, v198] H196 nx197)
 (LD false 1 (AV.ptr nx16 0) H47 fun v199 =>
 BI BinOp.eql v199 (AV.int IntKind.i64 16) fun v200 =>
 CNDC v200
 (LD false 1 (AV.ptr nx16 1) H47 fun v201 =>
 BSL 1 1 [AV.int IntKind.i64 0] [(0, v201)] fun cells202 =>
 APP 1 8 (nth xs14 2) (AV.slc nx48 0 1) (H47.put nx48 (some (AObj.row 1 cells202))) (nx48 + 1) fun v203 H204 nx205 =>
 BSL 1 1 [AV.int IntKind.i64 0] [(0, v147)] fun cells206 =>
 APP 1 8 (nth xs14 3) (AV.slc nx205 0 1) (H204.put nx205 (some (AObj.row 1 cells206))) (nx205 + 1) fun v207 H208 nx209 =>
 BI BinOp.add (nth xs14 4) (AV.int IntKind.i64 1) fun v210 =>
 K13 [nth xs14 0, nth xs14 1, v203, v207, v210] H208 nx209)
 (BI BinOp.add (nth xs14 4) (AV.int IntKind.i64 1) fun v211 =>
 K13 [nth xs14 0, nth xs14 1, nth xs14 2, nth xs14 3, v211] H47 nx48))))
 (LD false 1 (AV.ptr nx16 0) H47 fun v212 =>
 BI BinOp.eql v212 (AV.int IntKind.i64 15) fun v213 =>
 CND v213
 (LD false 1 (AV.ptr nx16 1) H47 fun v214 =>
 BSL 1 1 [AV.int IntKind.i64 0] [(0, v214)] fun cells215 =>
 APP 1 8 (nth xs14 2) (AV.slc nx48 0 1) (H47.put nx48 (some (AObj.row 1 cells215))) (nx48 + 1) fun v216 H217 nx218 =>
 BSL 1 1 [AV.int IntKind.i64 0] [(0, v147)] fun cells219 =>
 APP 1 8 (nth xs14 3) (AV.slc nx218 0 1) (H217.put nx218 (some (AObj.row 1 cells219))) (nx218 + 1) fun v220 H221 nx222 =>
 BI BinOp.add (nth xs14 4) (AV.int IntKind.i64 1) fun v223 =>
 K13 [nth xs14 0, nth xs14 1, v216, v220, v223] H221 nx222)
 (LD false 1 (AV.ptr nx16 0) H47 fun v224 =>
 BI BinOp.eql v224 (AV.int IntKind.i64 16) fun v225 =>
 CNDC v225
 (LD false 1 (AV.ptr nx16 1) H47 fun v226 =>
 BSL 1 1 [AV.int IntKind.i64 0] [(0, v226)] fun cells227 =>
 APP 1 8 (nth xs14 2) (AV.slc nx48 0 1) (H47.put nx48 (some (AObj.row 1 cells227))) (nx48 + 1) fun v228 H229 nx230 =>
 BSL 1 1 [AV.int IntKind.i64 0] [(0, v147)] fun cells231 =>
 APP 1 8 (nth xs14 3) (AV.slc nx230 0 1) (H229.put nx230 (some (AObj.row 1 cells231))) (nx230 + 1) fun v232 H233 nx234 =>
 BI BinOp.add (nth xs14 4) (AV.int IntKind.i64 1) fun v235 =>
 K13 [nth xs14 0, nth xs14 1, v228, v232, v235] H233 nx234)
 (BI BinOp.add (nth xs14 4) (AV.int IntKind.i64 1) fun v236 =>
 K13 [nth xs14 0, nth xs14 1, nth xs14 2, nth xs14 3, v236] H47 nx48))))))
def zae (v23 : AV) (Q : QT) (nx16 : Nat) (v20 : AV) (xs14 : List AV) (K13 : J3) (v249 : AV) (H250 : Heap) (nx251 : Nat) : Prop :=
 EX v249 0 fun v252 =>
 EX v249 1 fun v253 =>
 BI BinOp.lss v23 v252 fun v254 =>
 CND v254
 (Q (AV.tup [AV.nils, AV.int IntKind.i64 10]) H250 nx251)
 (LD false 1 (AV.ptr nx16 0) H250 fun v255 =>
 BI BinOp.eql v255 (AV.int IntKind.i64 18) fun v256 =>
 CND v256
 (BI BinOp.gtr v23 (AV.int IntKind.i64 1) fun v257 =>
 CNDC v257
 (Q (AV.tup [AV.nils, AV.int IntKind.i64 10]) H250 nx251)
 (BI BinOp.sub v23 v252 fun v258 =>
 BI BinOp.add v258 v253 fun v259 =>
 BI BinOp.gtr v259 (AV.int IntKind.i64 16) fun v260 =>
 CNDC v260
 (Q (AV.tup [AV.nils, AV.int IntKind.i64 4]) H250 nx251)
 (LD false 1 (AV.ptr nx16 0) H250 fun v261 =>
 BI BinOp.neq v261 (AV.int IntKind.i64 15) fun v262 =>
 CND v262
 (LD false 1 (AV.ptr nx16 0) H250 fun v263 =>
 BI BinOp.neq v263 (AV.int IntKind.i64 18) fun v264 =>
 CNDC v264
 (BI BinOp.add v20 (AV.int IntKind.i64 1) fun v265 =>
 BSL 1 1 [AV.int IntKind.i64 0] [(0, v265)] fun cells266 =>
 APP 1 8 (nth xs14 2) (AV.slc nx251 0 1) (H250.put nx251 (some (AObj.row 1 cells266))) (nx251 + 1) fun v267 H268 nx269 =>
 BSL 1 1 [AV.int IntKind.i64 0] [(0, v259)] fun cells270 =>
 APP 1 8 (nth xs14 3) (AV.slc nx269 0 1) (H268.put nx269 (some (AObj.row 1 cells270))) (nx269 + 1) fun v271 H272 nx273 =>
 LD false 1 (AV.ptr nx16 0) H272 fun v274 =>
 BI BinOp.eql v274 (AV.int IntKind.i64 15) fun v275 =>
 CND v275
 (LD false 1 (AV.ptr nx16 1) H272 fun v276 =>
 BSL 1 1 [AV.int IntKind.i64 0] [(0, v276)] fun cells277 =>
 APP 1 8 v267 (AV.slc nx273 0 1) (H272.put nx273 (some (AObj.row 1 cells277))) (nx273 + 1) fun v278 H279 nx280 =>
 BSL 1 1 [AV.int IntKind.i64 0] [(0, v259)] fun cells281 =>
 APP 1 8 v271 (AV.slc nx280 0 1) (H279.put nx280 (some (AObj.row 1 cells281))) (nx280 + 1) fun v282 H283 nx284 =>
 BI BinOp.add (nth xs14 4) (AV.int IntKind.i64 1) fun v285 =>
 K13 [nth xs14 0, nth xs14 1, v278, v282, v285] H283 nx284)
 (LD false 1 (AV.ptr nx16 0) H272 fun v286 =>
 BI BinOp.eql v286 (AV.int IntKind.i64 16) fun v287 =>
 CNDC v287
 (LD false 1 (AV.ptr nx16 1) H272 fun v288 =>
 BSL 1 1 [AV.int IntKind.i64 0] [(0, v288)] fun cells289 =>
 APP 1 8 v267 (AV.slc nx273 0 1) (H272.put nx273 (some (AObj.row 1 cells289))) (nx273 + 1) fun v290 H291 nx292 =>
 BSL 1 1 [AV.int IntKind.i64 0] [(0, v259)] fun cells293 =>
 APP 1 8 v271 (AV.slc nx292 0 1) (H291.put nx292 (some (AObj.row 1 cells293))) (nx292 + 1) fun v294 H295 nx296 =>
 BI BinOp.add (nth xs14 4) (AV.int IntKind.i64 1) fun v297 =>
 K13 [nth xs14 0, nth xs14 1, v290, v294, v297] H295 nx296)
 (BI BinOp.add (nth xs14 4) (AV.int IntKind.i64 1) fun v298 =>
 K13 [nth xs14 0, nth xs14 1, v267, v271, v298] H272 nx273)))
 (LD false 1 (AV.ptr nx16 0) H250 fun v299 =>
 BI BinOp.eql v299 (AV.int IntKind.i64 15) fun v300 =>
 CND v300
 (LD false 1 (AV.ptr nx16 1) H250 fun v301 =>
 BSL 1 1 [AV.int IntKind.i64 0] [(0, v301)] fun cells302 =>
 APP 1 8 (nth xs14 2) (AV.slc nx251 0 1) (H250.put nx251 (some (AObj.row 1 cells302))) (nx251 + 1) fun v303 H304 nx305 =>
 BSL 1 1 [AV.int IntKind.i64 0] [(0, v259)] fun cells306 =>
 APP 1 8 (nth xs14 3) (AV.slc nx305 0 1) (H304.put nx305 (some (AObj.row 1 cells306))) (nx305 + 1) fun v307 H308 nx309 =>
 BI BinOp.add (nth xs14 4) (AV.int IntKind.i64 1) fun v310 =>
 K13 [nth xs14 0, nth xs14 1, v303, v307, v310] H308 nx309)
 (LD false 1 (AV.ptr nx16 0) H250 fun v311 =>
 BI BinOp.eql v311 (AV.int IntKind.i64 16) fun v312 =>
 CNDC v312
 (LD false 1 (AV.ptr nx16 1) H250 fun v313 =>
 BSL 1 1 [AV.int IntKind.i64 0] [(0, v313)] fun cells314 =>
 APP 1 8 (nth xs14 2) (AV.slc nx251 0 1) (H250.put nx251 (some (AObj.row 1 cells314))) (nx251 + 1) fun v315 H316 nx317 =>
 BSL 1 1 [AV.int IntKind.i64 0] [(0, v259)] fun cells318 =>
 APP 1 8 (nth xs14 3) (AV.slc nx317 0 1) (H316.put nx317 (some (AObj.row 1 cells318))) (nx317 + 1) fun v319 H320 nx321 =>
 BI BinOp.add (nth xs14 4) (AV.int IntKind.i64 1) fun v322 =>
 K13 [nth xs14 0, nth xs14 1, v315, v319, v322] H320 nx321)
 (BI BinOp.add (nth xs14 4) (AV.int IntKind.i64 1) fun v323 =>
 K13 [nth xs14 0, nth xs14 1, nth xs14 2, nth xs14 3, v323] H250 nx251))))
 (LD false 1 (AV.ptr nx16 0) H250 fun v324 =>
 BI BinOp.eql v324 (AV.int IntKind.i64 15) fun v325 =>
 CND v325
 (LD false 1 (AV.ptr nx16 1) H250 fun v326 =>
 BSL 1 1 [AV.int IntKind.i64 0] [(0, v326)] fun cells327 =>
 APP 1 8 (nth xs14 2) (AV.slc nx251 0 1) (H250.put nx251 (some (AObj.row 1 cells327))) (nx251 + 1) fun v328 H329 nx330 =>
 BSL 1 1 [AV.int IntKind.i64 0] [(0, v259)] fun cells331 =>
 APP 1 8 (nth xs14 3) (AV.slc nx330 0 1) (H329.put nx330 (some (AObj.row 1 cells331))) (nx330 + 1) fun v332 H333 nx334 =>
 BI BinOp.add (nth xs14 4) (AV.int IntKind.i64 1) fun v335 =>
 K13 [nth xs14 0, nth xs14 1, v328, v332, v335] H333 nx334)
 (LD false 1 (AV.ptr nx16 0) H250 fun v336 =>
 BI BinOp.eql v336 (AV.int IntKind.i64 16) fun v337 =>
 CNDC v337
 (LD false 1 (AV.ptr nx16 1) H250 fun v338 =>
 BSL 1 1 [AV.int IntKind.i64 0] [(0, v338)] fun cells339 =>
 APP 1 8 (nth xs14 2) (AV.slc nx251 0 1) (H250.put nx251 (some (AObj.row 1 cells339))) (nx251 + 1) fun v340 H341 nx342 =>
 BSL 1 1 [AV.int IntKind.i64 0] [(0, v259)] fun cells343 =>
 APP 1 8 (nth xs14 3) (AV.slc nx342 0 1) (H341.put nx342 (some (AObj.row 1 cells343))) (nx342 + 1) fun v344 H345 nx346 =>
 BI BinOp.add (nth xs14 4) (AV.int IntKind.i64 1) fun v347 =>
 K13 [nth xs14 0, nth xs14 1, v340, v344, v347] H345 nx346)
 (BI BinOp.add (nth xs14 4) (AV.int IntKind.i64 1) fun v348 =>
 K13 [nth xs14 0, nth xs14 1, nth xs14 2, nth xs14 3, v348] H250 nx251))))))
 (BI BinOp.sub v23 v252 fun v349 =>
 BI BinOp.add v349 v253 fun v350 =>
 BI BinOp.gtr v350 (AV.int IntKind.i64 16) fun v351 =>
 CNDC v351
 (Q (AV.tup [AV.nils, AV.int IntKind.i64 4]) H250 nx251)
 (LD false 1 (AV.ptr nx16 0) H250 fun v352 =>
 BI BinOp.neq v352 (AV.int IntKind.i64 15) fun v353 =>
 CND v353
 (LD false 1 (AV.ptr nx16 0) H250 fun v354 =>
 BI BinOp.neq v354 (AV.int IntKind.i64 18) fun v355 =>
 CNDC v355
 (BI BinOp.add v20 (AV.int IntKind.i64 1) fun v356 =>
 BSL 1 1 [AV.int IntKind.i64 0] [(0, v356)] fun cells357 =>
 APP 1 8 (nth xs14 2) (AV.slc nx251 0 1) (H250.put nx251 (some (AObj.row 1 cells357))) (nx251 + 1) fun v358 H359 nx360 =>
 BSL 1 1 [AV.int IntKind.i64 0] [(0, v350)] fun cells361 =>
 APP 1 8 (nth xs14 3) (AV.slc nx360 0 1) (H359.put nx360 (some (AObj.row 1 cells361))) (nx360 + 1) fun v362 H363 nx364 =>
 LD false 1 (AV.ptr nx16 0) H363 fun v365 =>
 BI BinOp.eql v365 (AV.int IntKind.i64 15) fun v366 =>
 CND v366
 (LD false 1 (AV.ptr nx16 1) H363 fun v367 =>
 BSL 1 1 [AV.int IntKind.i64 0] [(0, v367)] fun cells368 =>
 APP 1 8 v358 (AV.slc nx364 0 1) (H363.put nx364 (some (AObj.row 1 cells368))) (nx364 + 1) fun v369 H370 nx371 =>
 BSL 1 1 [AV.int IntKind.i64 0] [(0, v350)] fun cells372 =>
 APP 1 8 v362 (AV.slc nx371 0 1) (H370.put nx371 (some (AObj.row 1 cells372))) (nx371 + 1) fun v373 H374 nx375 =>
 BI BinOp.add (nth xs14 4) (AV.int IntKind.i64 1) fun v376 =>
 K13 [nth xs14 0, nth xs14 1, v369, v373, v376] H374 nx375)
 (LD false 1 (AV.ptr nx16 0) H363 fun v377 =>
 BI BinOp.eql v377 (AV.int IntKind.i64 16) fun v378 =>
 CNDC v378
 (LD false 1 (AV.ptr nx16 1) H363 fun v379 =>
 BSL 1 1 [AV.int IntKind.i64 0] [(0, v379)] fun cells380 =>
 APP 1 8 v358 (AV.slc nx364 0 1) (H363.put nx364 (some (AObj.row 1 cells380))) (nx364 + 1) fun v381 H382 nx383 =>
 BSL 1 1 [AV.int IntKind.i64 0] [(0, v350)] fun cells384 =>
 APP 1 8 v362 (AV.slc nx383 0 1) (H382.put nx383 (some (AObj.row 1 cells384))) (nx383 + 1) fun v385 H386 nx387 =>
 BI BinOp.add (nth xs14 4) (AV.int IntKind.i64 1) fun v388 =>
 K13 [nth xs14 0, nth xs14 1, v381, v385, v388] H386 nx387)
 (BI BinOp.add (nth xs14 4) (AV.int IntKind.i64 1) fun v389 =>
 K13 [nth xs14 0, nth xs14 1, v358, v362, v389] H363 nx364)))
 (LD false 1 (AV.ptr nx16 0) H250 fun v390 =>
 BI BinOp.eql v390 (AV.int IntKind.i64 15) fun v391 =>
 CND v391
 (LD false 1 (AV.ptr nx16 1) H250 fun v392 =>
 BSL 1 1 [AV.int IntKind.i64 0] [(0, v392)] fun cells393 =>
 APP 1 8 (nth xs14 2) (AV.slc nx251 0 1) (H250.put nx251 (some (AObj.row 1 cells393))) (nx251 + 1) fun v394 H395 nx396 =>
 BSL 1 1 [AV.int IntKind.i64 0] [(0, v350)] fun cells397 =>
 APP 1 8 (nth xs14 3) (AV.slc nx396 0 1) (H395.put nx396 (some (AObj.row 1 cells397))) (nx396 + 1) fun v398 H399 nx400 =>
 BI BinOp.add (nth xs14 4) (AV.int IntKind.i64 1) fun v401 =>
 K13 [nth xs14 0, nth xs14 1, v394, v398, v401] H399 nx400)
 (LD false 1 (AV.ptr nx16 0) H250 fun v402 =>
 BI BinOp.eql v402 (AV.int IntKind.i64 16) fun v403 =>
 CNDC v403
 (LD false 1 (AV.ptr nx16 1) H250 fun v404 =>
 BSL 1 1 [AV.int IntKind.i64 0] [(0, v404)] fun cells405 =>
 APP 1 8 (nth xs14 2) (AV.slc nx251 0 1) (H250.put nx251 (some (AObj.row 1 cells405))) (nx251 + 1) fun v406 H407 nx408 =>
 BSL 1 1 [AV.int IntKind.i64 0] [(0, v350)] fun cells409 =>
 APP 1 8 (nth xs14 3) (AV.slc nx408 0 1) (H407.put nx408 (some (AObj.row 1 cells409))) (nx408 + 1) fun v410 H411 nx412 =>
 BI BinOp.add (nth xs14 4) (AV.int IntKind.i64 1) fun v413 =>
 K13 [nth xs14 0, nth xs14 1, v406, v410, v413] H411 nx412)
 (BI BinOp.add (nth xs14 4) (AV.int IntKind.i64 1) fun v414 =>
 K13 [nth xs14 0, nth xs14 1, nth xs14 2, nth xs14 3, v414] H250 nx251))))
 (LD false 1 (AV.ptr nx16 0) H250 fun v415 =>
 BI BinOp.eql v415 (AV.int IntKind.i64 15) fun v416 =>
 CND v416
 (LD false 1 (AV.ptr nx16 1) H250 fun v417 =>
 BSL 1 1 [AV.int IntKind.i64 0] [(0, v417)] fun cells418 =>
 APP 1 8 (nth xs14 2) (AV.slc nx251 0 1) (H250.put nx251 (some (AObj.row 1 cells418))) (nx251 + 1) fun v419 H420 nx421 =>
 BSL 1 1 [AV.int IntKind.i64 0] [(0, v350)] fun cells422 =>
 APP 1 8 (nth xs14 3) (AV.slc nx421 0 1) (H420.put nx421 (some (AObj.row 1 cells422))) (nx421 + 1) fun v423 H424 nx425 =>
 BI BinOp.add (nth xs14 4) (AV.int IntKind.i64 1) fun v426 =>
 K13 [nth xs14 0, nth xs14 1, v419, v423, v426] H424 nx425)
 (LD false 1 (AV.ptr nx16 0) H250 fun v427 =>
 BI BinOp.eql v427 (AV.int IntKind.i64 16) fun v428 =>
 CNDC v428
 (LD false 1 (AV.ptr nx16 1) H250 fun v429 =>
 BSL 1 1 [AV.int IntKind.i64 0] [(0, v429)] fun cells430 =>
 APP 1 8 (nth xs14 2) (AV.slc nx251 0 1) (H250.put nx251 (some (AObj.row 1 cells430))) (nx251 + 1) fun v431 H432 nx433 =>
 BSL 1 1 [AV.int IntKind.i64 0] [(0, v350)] fun cells434 =>
 APP 1 8 (nth xs14 3) (AV.slc nx433 0 1) (H432.put nx433 (some (AObj.row 1 cells434))) (nx433 + 1) fun v435 H436 nx437 =>
 BI BinOp.add (nth xs14 4) (AV.int IntKind.i64 1) fun v438 =>
 K13 [nth xs14 0, nth xs14 1, v431, v435, v438] H436 nx437)
 (BI BinOp.add (nth xs14 4) (AV.int IntKind.i64 1) fun v439 =>
 K13 [nth xs14 0, nth xs14 1, nth xs14 2, nth xs14 3, v439] H250 nx251))))))
def zar (Q : QT) (K13 : J3) (xs14 : List AV) (H15 : Heap) (nx16 : Nat) : Prop :=
 LNL (nth xs14 2) fun v17 =>
 BI BinOp.lss (nth xs14 4) v17 fun v18 =>
 CNDC v18
 (IA 1 (nth xs14 2) (nth xs14 4) fun v19 =>
 LDR false 1 v19 H15 fun v20 _ =>
 IA 1 (nth xs14 3) (nth xs14 4) fun v22 =>
 LDR false 1 v22 H15 fun v23 _ =>
 BI BinOp.lss v20 (AV.int IntKind.i64 0) fun v25 =>
 CND v25
 (Q (AV.tup [AV.nils, AV.int IntKind.i64 8]) H15 nx16)
 (LNL (nth xs14 1) fun v26 =>
 BI BinOp.geq v20 v26 fun v27 =>
 CNDC v27
 (Q (AV.tup [AV.nils, AV.int IntKind.i64 8]) H15 nx16)
 (IA 1 (nth xs14 1) v20 fun v28 =>
 LD false 1 v28 H15 fun v29 =>
 BI BinOp.geq v29 (AV.int IntKind.i64 0) fun v30 =>
 CND v30
 (IA 1 (nth xs14 1) v20 fun v31 =>
 LD false 1 v31 H15 fun v32 =>
 BI BinOp.neq v32 v23 fun v33 =>
 CNDC v33
 (Q (AV.tup [AV.nils, AV.int IntKind.i64 10]) H15 nx16)
 (IA 1 (nth xs14 1) v20 fun v34 =>
 LD false 1 v34 H15 fun v35 =>
 BI BinOp.geq v35 (AV.int IntKind.i64 0) fun v36 =>
 CNDC v36
 (BI BinOp.add (nth xs14 4) (AV.int IntKind.i64 1) fun v37 =>
 K13 [nth xs14 0, nth xs14 1, nth xs14 2, nth xs14 3, v37] H15 nx16)
 (IA 1 (nth xs14 1) v20 fun v38 =>
 ST 1 v38 v23 H15 fun H39 =>
 FA 2 (nth xs14 0) fun v40 =>
 LD false 1 v40 H39 fun v41 =>
 IA 3 v41 v20 fun v42 =>
 LD true 3 v42 H39 fun v43 =>
 ST 3 (AV.ptr nx16 0) v43 (H39.put nx16 (some (AObj.row 3 [AV.int IntKind.i64 0, AV.int IntKind.i64 0, AV.int IntKind.i64 0]))) fun H44 =>
 LD true 3 (AV.ptr nx16 0) H44 fun v45 =>
 za Tryd.prog 44 [v45] H44 (nx16 + 1) (zrs v23 Q nx16 v20 xs14 K13))))
 (IA 1 (nth xs14 1) v20 fun v237 =>
 LD false 1 v237 H15 fun v238 =>
 BI BinOp.geq v238 (AV.int IntKind.i64 0) fun v239 =>
 CNDC v239
 (BI BinOp.add (nth xs14 4) (AV.int IntKind.i64 1) fun v240 =>
 K13 [nth xs14 0, nth xs14 1, nth xs14 2, nth xs14 3, v240] H15 nx16)
 (IA 1 (nth xs14 1) v20 fun v241 =>
 ST 1 v241 v23 H15 fun H242 =>
 FA 2 (nth xs14 0) fun v243 =>
 LD false 1 v243 H242 fun v244 =>
 IA 3 v244 v20 fun v245 =>
 LD true 3 v245 H242 fun v246 =>
 ST 3 (AV.ptr nx16 0) v246 (H242.put nx16 (some (AObj.row 3 [AV.int IntKind.i64 0, AV.int IntKind.i64 0, AV.int IntKind.i64 0]))) fun H247 =>
 LD true 3 (AV.ptr nx16 0) H247 fun v248 =>
 za Tryd.prog 44 [v248] H247 (nx16 + 1) (zae v23 Q nx16 v20 xs14 K13))))))
 (Q (AV.tup [nth xs14 1, AV.int IntKind.i64 0]) H15 nx16)
def zjb (Q : QT) (K5 : J3) (xs6 : List AV) (H7 : Heap) (nx8 : Nat) : Prop :=
 BI BinOp.lss (nth xs6 3) (nth xs6 2) fun v9 =>
 CNDC v9
 (IA 1 (nth xs6 1) (nth xs6 3) fun v10 =>
 ST 1 v10 (AV.int IntKind.i64 (-1)) H7 fun H11 =>
 BI BinOp.add (nth xs6 3) (AV.int IntKind.i64 1) fun v12 =>
 K5 [nth xs6 0, nth xs6 1, nth xs6 2, v12] H11 nx8)
 (LP (zar Q) [nth xs6 0, nth xs6 1, AV.slc nx8 0 1, AV.slc (nx8 + 1) 0 1, AV.int IntKind.i64 0] ((H7.put nx8 (some (AObj.row 1 [AV.int IntKind.i64 0]))).put ((nx8 + 1)) (some (AObj.row 1 [AV.int IntKind.i64 0]))) (nx8 + 2))
def zja (a0 : AV) (H : Heap) (nx : Nat) (Q : QT) : Prop :=
 a0.sure = true ∧
 LD false 1 (AV.ptr nx 2) (H.put nx (some (AObj.row a0.cells.length a0.cells))) fun v1 =>
 LNL v1 fun v2 =>
 MK 8 v2 v2 fun n3 =>
 LNL (AV.slc (nx + 1) 0 n3) fun v4 =>
 LP (zjb Q) [AV.ptr nx 0, AV.slc (nx + 1) 0 n3, v4, AV.int IntKind.i64 0] ((H.put nx (some (AObj.row a0.cells.length a0.cells))).put ((nx + 1)) (some (AObj.row 1 (List.replicate n3 [AV.int IntKind.i64 0]).flatten))) (nx + 2)
theorem znl (a0 : AV) (H : Heap) (nx : Nat) (Q : QT) : zja a0 H nx Q → za Tryd.prog 83 [a0] H nx Q :=
  zj (lv := lvOf [(2, 3, [1, 4, 19, 20]), (2, 9, [1, 4, 6, 7, 8])]) (c := zp Tryd.f83) zy zz mixed Tryd.func83 (by kernel_rfl) (by kernel_rfl) (by kernel_rfl) (by kernel_rfl) (by kernel_rfl)
def zmx (Q : QT) (K2 : J3) (xs3 : List AV) (H4 : Heap) (nx5 : Nat) : Prop :=
 BI BinOp.lss (nth xs3 2) (nth xs3 1) fun v6 =>
 CNDC v6
 (IX (nth xs3 0) (nth xs3 2) fun v7 =>
 BI BinOp.lss v7 (AV.int IntKind.u8 32) fun v8 =>
 CND v8
 (Q (AV.bool false) H4 nx5)
 (IX (nth xs3 0) (nth xs3 2) fun v9 =>
 BI BinOp.gtr v9 (AV.int IntKind.u8 126) fun v10 =>
 CND v10
 (Q (AV.bool false) H4 nx5)
 (IX (nth xs3 0) (nth xs3 2) fun v11 =>
 BI BinOp.eql v11 (AV.int IntKind.u8 39) fun v12 =>
 CNDC v12
 (Q (AV.bool false) H4 nx5)
 (BI BinOp.add (nth xs3 2) (AV.int IntKind.i64 1) fun v13 =>
 K2 [nth xs3 0, nth xs3 1, v13] H4 nx5))))
 (LNS (nth xs3 0) fun v14 =>
 BI BinOp.lss v14 (AV.int IntKind.i64 13) fun v15 =>
 Q v15 H4 nx5)
def zmw (a0 : AV) (H : Heap) (nx : Nat) (Q : QT) : Prop :=
 LNS a0 fun v1 =>
 LP (zmx Q) [a0, v1, AV.int IntKind.i64 0] H nx
theorem zrt (a0 : AV) (H : Heap) (nx : Nat) (Q : QT) : zmw a0 H nx Q → za Tryd.prog 104 [a0] H nx Q :=
  zj (lv := lvOf [(2, 2, [0, 5, 6])]) (c := zp Tryd.f104) zy zz mixed Tryd.func104 (by kernel_rfl) (by kernel_rfl) (by kernel_rfl) (by kernel_rfl) (by kernel_rfl)
def ziy (Q : QT) (xs13 : List AV) (K12 : J3) (v19 : AV) (H20 : Heap) (nx21 : Nat) : Prop :=
 UO UnOp.not v19 fun v22 =>
 CNDC v22
 (Q (AV.int IntKind.i64 7) H20 nx21)
 (BI BinOp.add (nth xs13 3) (AV.int IntKind.i64 1) fun v23 =>
 K12 [nth xs13 0, nth xs13 1, nth xs13 2, v23] H20 nx21)
def zeq (Q : QT) (K70 : J3) (xs83 : List AV) (H84 : Heap) (nx85 : Nat) : Prop :=
 FA 1 (nth xs83 2) fun v87 =>
 LDR false 1 v87 H84 fun v88 _ =>
 BI BinOp.lss v88 (nth xs83 3) fun v90 =>
 CND v90
 (Q (AV.int IntKind.i64 3) H84 nx85)
 (FA 1 (nth xs83 2) fun v91 =>
 LDR false 1 v91 H84 fun v92 _ =>
 BI BinOp.gtr v92 (nth xs83 4) fun v94 =>
 CND v94
 (Q (AV.int IntKind.i64 3) H84 nx85)
 (FA 0 (nth xs83 2) fun v95 =>
 LDR false 1 v95 H84 fun v96 _ =>
 BI BinOp.eql v96 (AV.int IntKind.i64 17) fun v98 =>
 CND v98
 (FA 2 (nth xs83 2) fun v99 =>
 LDR false 1 v99 H84 fun v100 _ =>
 FA 0 (nth xs83 0) fun v102 =>
 LDR false 1 v102 H84 fun v103 _ =>
 FA 1 (nth xs83 2) fun v105 =>
 LDR false 1 v105 H84 fun v106 _ =>
 IA 3 v103 v106 fun v108 =>
 FA 0 v108 fun v109 =>
 LDR false 1 v109 H84 fun v110 _ =>
 BI BinOp.neq v100 v110 fun v112 =>
 CND v112
 (Q (AV.int IntKind.i64 3) H84 nx85)
 (FA 0 (nth xs83 2) fun v113 =>
 LDR false 1 v113 H84 fun v114 _ =>
 BI BinOp.neq v114 (AV.int IntKind.i64 17) fun v116 =>
 CND v116
 (FA 2 (nth xs83 2) fun v117 =>
 LDR false 1 v117 H84 fun v118 _ =>
 BI BinOp.neq v118 (AV.int IntKind.i64 0) fun v120 =>
 CNDC v120
 (Q (AV.int IntKind.i64 3) H84 nx85)
 (BI BinOp.add (nth xs83 10) (AV.int IntKind.i64 1) fun v121 =>
 K70 [nth xs83 0, nth xs83 1, nth xs83 5, nth xs83 6, nth xs83 7, nth xs83 8, nth xs83 9, v121] H84 nx85))
 (BI BinOp.add (nth xs83 10) (AV.int IntKind.i64 1) fun v122 =>
 K70 [nth xs83 0, nth xs83 1, nth xs83 5, nth xs83 6, nth xs83 7, nth xs83 8, nth xs83 9, v122] H84 nx85)))
 (FA 0 (nth xs83 2) fun v123 =>
 LDR false 1 v123 H84 fun v124 _ =>
 BI BinOp.neq v124 (AV.int IntKind.i64 17) fun v126 =>
 CND v126
 (FA 2 (nth xs83 2) fun v127 =>
 LDR false 1 v127 H84 fun v128 _ =>
 BI BinOp.neq v128 (AV.int IntKind.i64 0) fun v130 =>
 CNDC v130
 (Q (AV.int IntKind.i64 3) H84 nx85)
 (BI BinOp.add (nth xs83 10) (AV.int IntKind.i64 1) fun v131 =>
 K70 [nth xs83 0, nth xs83 1, nth xs83 5, nth xs83 6, nth xs83 7, nth xs83 8, nth xs83 9, v131] H84 nx85))
 (BI BinOp.add (nth xs83 10) (AV.int IntKind.i64 1) fun v132 =>
 K70 [nth xs83 0, nth xs83 1, nth xs83 5, nth xs83 6, nth xs83 7, nth xs83 8, nth xs83 9, v132] H84 nx85))))
def ziz (v82 : AV) (xs71 : List AV) (nx73 : Nat) (H77 : Heap) (j86 : J3) : Prop :=
 BI BinOp.eql v82 (AV.int IntKind.i64 1) fun v133 =>
 CNDC v133
 (j86 [nth xs71 0, nth xs71 1, AV.ptr nx73 0, AV.int IntKind.i64 (-1073741824), AV.int IntKind.i64 1073741824, nth xs71 2, nth xs71 3, nth xs71 4, nth xs71 5, nth xs71 6, nth xs71 7] H77 (nx73 + 1))
 (BI BinOp.eql v82 (AV.int IntKind.i64 2) fun v134 =>
 CNDC v134
 (FA 1 (nth xs71 0) fun v135 =>
 LD false 1 v135 H77 fun v136 =>
 LNL v136 fun v137 =>
 BI BinOp.sub v137 (AV.int IntKind.i64 1) fun v138 =>
 j86 [nth xs71 0, nth xs71 1, AV.ptr nx73 0, AV.int IntKind.i64 0, v138, nth xs71 2, nth xs71 3, nth xs71 4, nth xs71 5, nth xs71 6, nth xs71 7] H77 (nx73 + 1))
 (BI BinOp.eql v82 (AV.int IntKind.i64 3) fun v139 =>
 CNDC v139
 (FA 1 (nth xs71 1) fun v140 =>
 LD false 1 v140 H77 fun v141 =>
 BI BinOp.sub v141 (AV.int IntKind.i64 1) fun v142 =>
 j86 [nth xs71 0, nth xs71 1, AV.ptr nx73 0, AV.int IntKind.i64 0, v142, nth xs71 2, nth xs71 3, nth xs71 4, nth xs71 5, nth xs71 6, nth xs71 7] H77 (nx73 + 1))
 (BI BinOp.eql v82 (AV.int IntKind.i64 4) fun v143 =>
 CNDC v143
 (FA 1 (nth xs71 1) fun v144 =>
 LD false 1 v144 H77 fun v145 =>
 BI BinOp.sub v145 (AV.int IntKind.i64 1) fun v146 =>
 j86 [nth xs71 0, nth xs71 1, AV.ptr nx73 0, AV.int IntKind.i64 0, v146, nth xs71 2, nth xs71 3, nth xs71 4, nth xs71 5, nth xs71 6, nth xs71 7] H77 (nx73 + 1))
 (BI BinOp.eql v82 (AV.int IntKind.i64 5) fun v147 =>
 CNDC v147
 (j86 [nth xs71 0, nth xs71 1, AV.ptr nx73 0, AV.int IntKind.i64 1, AV.int IntKind.i64 5, nth xs71 2, nth xs71 3, nth xs71 4, nth xs71 5, nth xs71 6, nth xs71 7] H77 (nx73 + 1))
 (BI BinOp.eql v82 (AV.int IntKind.i64 15) fun v148 =>
 CNDC v148
 (FA 2 (nth xs71 1) fun v149 =>
 LD false 1 v149 H77 fun v150 =>
 LNL v150 fun v151 =>
 BI BinOp.sub v151 (AV.int IntKind.i64 1) fun v152 =>
 j86 [nth xs71 0, nth xs71 1, AV.ptr nx73 0, AV.int IntKind.i64 0, v152, nth xs71 2, nth xs71 3, nth xs71 4, nth xs71 5, nth xs71 6, nth xs71 7] H77 (nx73 + 1))
 (BI BinOp.eql v82 (AV.int IntKind.i64 16) fun v153 =>
 CNDC v153
 (FA 2 (nth xs71 1) fun v154 =>
 LD false 1 v154 H77 fun v155 =>
 LNL v155 fun v156 =>
 BI BinOp.sub v156 (AV.int IntKind.i64 1) fun v157 =>
 j86 [nth xs71 0, nth xs71 1, AV.ptr nx73 0, AV.int IntKind.i64 0, v157, nth xs71 2, nth xs71 3, nth xs71 4, nth xs71 5, nth xs71 6, nth xs71 7] H77 (nx73 + 1))
 (BI BinOp.eql v82 (AV.int IntKind.i64 17) fun v158 =>
 CNDC v158
 (FA 0 (nth xs71 0) fun v159 =>
 LD false 1 v159 H77 fun v160 =>
 LNL v160 fun v161 =>
 BI BinOp.sub v161 (AV.int IntKind.i64 1) fun v162 =>
 j86 [nth xs71 0, nth xs71 1, AV.ptr nx73 0, AV.int IntKind.i64 0, v162, nth xs71 2, nth xs71 3, nth xs71 4, nth xs71 5, nth xs71 6, nth xs71 7] H77 (nx73 + 1))
 (j86 [nth xs71 0, nth xs71 1, AV.ptr nx73 0, AV.int IntKind.i64 0, AV.int IntKind.i64 0, nth xs71 2, nth xs71 3, nth xs71 4, nth xs71 5, nth xs71 6, nth xs71 7] H77 (nx73 + 1)))))))))
def zix (Q : QT) (xs71 : List AV) (K60 : J3) (v164 : AV) (H165 : Heap) (nx166 : Nat) : Prop :=
 EX v164 0 fun _ =>
 EX v164 1 fun v168 =>
 BI BinOp.neq v168 (AV.int IntKind.i64 0) fun v169 =>
 CNDC v169
 (Q v168 H165 nx166)
 (BI BinOp.add (nth xs71 4) (AV.int IntKind.i64 1) fun v170 =>
 K60 [nth xs71 0, nth xs71 2, nth xs71 3, v170] H165 nx166)
def zep (Q : QT) (K60 : J3) (K70 : J3) (xs71 : List AV) (H72 : Heap) (nx73 : Nat) : Prop :=
 BI BinOp.lss (nth xs71 7) (nth xs71 6) fun v74 =>
 CNDC v74
 (IA 3 (nth xs71 5) (nth xs71 7) fun v75 =>
 LD true 3 v75 H72 fun v76 =>
 ST 3 (AV.ptr nx73 0) v76 (H72.put nx73 (some (AObj.row 3 [AV.int IntKind.i64 0, AV.int IntKind.i64 0, AV.int IntKind.i64 0]))) fun H77 =>
 LD false 1 (AV.ptr nx73 0) H77 fun v78 =>
 BI BinOp.lss v78 (AV.int IntKind.i64 1) fun v79 =>
 CND v79
 (Q (AV.int IntKind.i64 1) H77 (nx73 + 1))
 (LD false 1 (AV.ptr nx73 0) H77 fun v80 =>
 BI BinOp.gtr v80 (AV.int IntKind.i64 19) fun v81 =>
 CNDC v81
 (Q (AV.int IntKind.i64 1) H77 (nx73 + 1))
 (LD false 1 (AV.ptr nx73 0) H77 fun v82 =>
 JN (zeq Q K70) (ziz v82 xs71 nx73 H77))))
 (LD true 3 (nth xs71 1) H72 fun v163 =>
 za Tryd.prog 83 [v163] H72 nx73 (zix Q xs71 K60))
def zeo (Q : QT) (K60 : J3) (xs61 : List AV) (H62 : Heap) (nx63 : Nat) : Prop :=
 BI BinOp.lss (nth xs61 3) (nth xs61 2) fun v64 =>
 CNDC v64
 (IA 3 (nth xs61 1) (nth xs61 3) fun v65 =>
 LD true 3 v65 H62 fun v66 =>
 ST 3 (AV.ptr nx63 0) v66 (H62.put nx63 (some (AObj.row 3 [AV.int IntKind.i64 0, AV.int IntKind.i64 0, AV.nils]))) fun H67 =>
 LD false 1 (AV.ptr nx63 2) H67 fun v68 =>
 LNL v68 fun v69 =>
 LP (zep Q K60) [nth xs61 0, AV.ptr nx63 0, nth xs61 1, nth xs61 2, nth xs61 3, v68, v69, AV.int IntKind.i64 0] H67 (nx63 + 1))
 (Q (AV.int IntKind.i64 0) H62 nx63)
def zen (Q : QT) (K33 : J3) (xs34 : List AV) (H35 : Heap) (nx36 : Nat) : Prop :=
 BI BinOp.lss (nth xs34 3) (nth xs34 2) fun v37 =>
 CNDC v37
 (IA 3 (nth xs34 1) (nth xs34 3) fun v38 =>
 LD true 3 v38 H35 fun v39 =>
 ST 3 (AV.ptr nx36 0) v39 (H35.put nx36 (some (AObj.row 3 [AV.int IntKind.i64 0, AV.int IntKind.i64 0, AV.nils]))) fun H40 =>
 LD false 1 (AV.ptr nx36 0) H40 fun v41 =>
 BI BinOp.lss v41 (AV.int IntKind.i64 0) fun v42 =>
 CND v42
 (Q (AV.int IntKind.i64 3) H40 (nx36 + 1))
 (LD false 1 (AV.ptr nx36 0) H40 fun v43 =>
 BI BinOp.gtr v43 (AV.int IntKind.i64 4) fun v44 =>
 CND v44
 (Q (AV.int IntKind.i64 3) H40 (nx36 + 1))
 (LD false 1 (AV.ptr nx36 1) H40 fun v45 =>
 LD false 1 (AV.ptr nx36 0) H40 fun v46 =>
 BI BinOp.lss v45 v46 fun v47 =>
 CND v47
 (Q (AV.int IntKind.i64 3) H40 (nx36 + 1))
 (LD false 1 (AV.ptr nx36 1) H40 fun v48 =>
 BI BinOp.gtr v48 (AV.int IntKind.i64 8) fun v49 =>
 CND v49
 (Q (AV.int IntKind.i64 3) H40 (nx36 + 1))
 (LD false 1 (AV.ptr nx36 2) H40 fun v50 =>
 LNL v50 fun v51 =>
 BI BinOp.eql v51 (AV.int IntKind.i64 0) fun v52 =>
 CND v52
 (Q (AV.int IntKind.i64 3) H40 (nx36 + 1))
 (LD false 1 (AV.ptr nx36 2) H40 fun v53 =>
 LNL v53 fun v54 =>
 BI BinOp.gtr v54 (AV.int IntKind.i64 200) fun v55 =>
 CNDC v55
 (Q (AV.int IntKind.i64 3) H40 (nx36 + 1))
 (BI BinOp.add (nth xs34 3) (AV.int IntKind.i64 1) fun v56 =>
 K33 [nth xs34 0, nth xs34 1, nth xs34 2, v56] H40 (nx36 + 1))))))))
 (FA 0 (nth xs34 0) fun v57 =>
 LD false 1 v57 H35 fun v58 =>
 LNL v58 fun v59 =>
 LP (zeo Q) [nth xs34 0, v58, v59, AV.int IntKind.i64 0] H35 nx36)
def zem (Q : QT) (K12 : J3) (xs13 : List AV) (H14 : Heap) (nx15 : Nat) : Prop :=
 BI BinOp.lss (nth xs13 3) (nth xs13 2) fun v16 =>
 CNDC v16
 (IA 1 (nth xs13 1) (nth xs13 3) fun v17 =>
 LD false 1 v17 H14 fun v18 =>
 za Tryd.prog 104 [v18] H14 nx15 (ziy Q xs13 K12))
 (FA 0 (nth xs13 0) fun v24 =>
 LD false 1 v24 H14 fun v25 =>
 IA 3 v25 (AV.int IntKind.i64 0) fun v26 =>
 FA 0 v26 fun v27 =>
 LD false 1 v27 H14 fun v28 =>
 BI BinOp.neq v28 (AV.int IntKind.i64 0) fun v29 =>
 CNDC v29
 (Q (AV.int IntKind.i64 10) H14 nx15)
 (FA 0 (nth xs13 0) fun v30 =>
 LD false 1 v30 H14 fun v31 =>
 LNL v31 fun v32 =>
 LP (zen Q) [nth xs13 0, v31, v32, AV.int IntKind.i64 0] H14 nx15))
def ziw (a0 : AV) (H : Heap) (nx : Nat) (Q : QT) : Prop :=
 a0.sure = true ∧
 LD false 1 (AV.ptr nx 0) (H.put nx (some (AObj.row a0.cells.length a0.cells))) fun v1 =>
 LNL v1 fun v2 =>
 BI BinOp.eql v2 (AV.int IntKind.i64 0) fun v3 =>
 CND v3
 (Q (AV.int IntKind.i64 5) (H.put nx (some (AObj.row a0.cells.length a0.cells))) (nx + 1))
 (LD false 1 (AV.ptr nx 0) (H.put nx (some (AObj.row a0.cells.length a0.cells))) fun v4 =>
 LNL v4 fun v5 =>
 BI BinOp.gtr v5 (AV.int IntKind.i64 5) fun v6 =>
 CNDC v6
 (Q (AV.int IntKind.i64 5) (H.put nx (some (AObj.row a0.cells.length a0.cells))) (nx + 1))
 (LD false 1 (AV.ptr nx 1) (H.put nx (some (AObj.row a0.cells.length a0.cells))) fun v7 =>
 LNL v7 fun v8 =>
 BI BinOp.gtr v8 (AV.int IntKind.i64 16) fun v9 =>
 CNDC v9
 (Q (AV.int IntKind.i64 4) (H.put nx (some (AObj.row a0.cells.length a0.cells))) (nx + 1))
 (LD false 1 (AV.ptr nx 1) (H.put nx (some (AObj.row a0.cells.length a0.cells))) fun v10 =>
 LNL v10 fun v11 =>
 LP (zem Q) [AV.ptr nx 0, v10, v11, AV.int IntKind.i64 0] (H.put nx (some (AObj.row a0.cells.length a0.cells))) (nx + 1))))
theorem znk (a0 : AV) (H : Heap) (nx : Nat) (Q : QT) : ziw a0 H nx Q → za Tryd.prog 82 [a0] H nx Q :=
  zj (lv := lvOf [(1, 8, [1, 8, 10, 11, 12, 87, 88, 89, 94, 95, 96]), (2, 6, [1, 30, 31, 32]), (2, 14, [1, 47, 48, 49]), (2, 20, [1, 87, 88, 89]), (2, 23, [1, 8, 87, 88, 89, 94, 95, 96])]) (c := zp Tryd.f82) zy zz mixed Tryd.func82 (by kernel_rfl) (by kernel_rfl) (by kernel_rfl) (by kernel_rfl) (by kernel_rfl)
def zls (Q : QT) (xs126 : List AV) (K125 : J3) (v137 : AV) (H138 : Heap) (nx139 : Nat) : Prop :=
 BI BinOp.neq v137 (AV.int IntKind.i64 0) fun v140 =>
 CNDC v140
 (Q v137 H138 nx139)
 (BI BinOp.add (nth xs126 7) (AV.int IntKind.i64 1) fun v141 =>
 K125 [nth xs126 0, nth xs126 1, nth xs126 2, nth xs126 3, nth xs126 4, nth xs126 5, nth xs126 6, v141] H138 nx139)
def zge (Q : QT) (K54 : J3) (K125 : J3) (xs126 : List AV) (H127 : Heap) (nx128 : Nat) : Prop :=
 BI BinOp.lss (nth xs126 7) (nth xs126 6) fun v129 =>
 CNDC v129
 (IA 3 (nth xs126 5) (nth xs126 7) fun v130 =>
 LD true 3 v130 H127 fun v131 =>
 ST 3 (AV.ptr nx128 0) v131 (H127.put nx128 (some (AObj.row 3 [AV.int IntKind.i64 0, AV.int IntKind.i64 0, AV.str []]))) fun H132 =>
 LD true 3 (AV.ptr nx128 0) H132 fun v133 =>
 FA 5 (nth xs126 1) fun v134 =>
 LD false 1 v134 H132 fun v135 =>
 LNL v135 fun v136 =>
 za Tryd.prog 42 [v133, v136] H132 (nx128 + 1) (zls Q xs126 K125))
 (BI BinOp.add (nth xs126 4) (AV.int IntKind.i64 1) fun v142 =>
 K54 [nth xs126 0, nth xs126 1, nth xs126 2, nth xs126 3, v142] H127 nx128)
def zbq (Q : QT) (j104 : J3) (xs143 : List AV) (H144 : Heap) (nx145 : Nat) : Prop :=
 CNDC (nth xs143 11)
 (BI BinOp.sub (nth xs143 6) (AV.int IntKind.i64 1) fun v147 =>
 FA 1 (nth xs143 3) fun v148 =>
 LD false 1 v148 H144 fun v149 =>
 BI BinOp.eql v149 (AV.int IntKind.i64 0) fun v150 =>
 CNDC v150
 (Q (AV.int IntKind.i64 10) H144 nx145)
 (FA 2 (nth xs143 4) fun v151 =>
 LD false 1 v151 H144 fun v152 =>
 FA 1 (nth xs143 3) fun v153 =>
 LD false 1 v153 H144 fun v154 =>
 BI BinOp.sub v154 (AV.int IntKind.i64 1) fun v155 =>
 IA 3 v152 v155 fun v156 =>
 LD true 3 v156 H144 fun v157 =>
 ST 3 (AV.ptr nx145 0) v157 (H144.put nx145 (some (AObj.row 3 [AV.int IntKind.i64 0, AV.int IntKind.i64 0, AV.int IntKind.i64 0]))) fun H158 =>
 FA 1 (nth xs143 3) fun v159 =>
 LD false 1 v159 H158 fun v160 =>
 BI BinOp.sub v160 (AV.int IntKind.i64 1) fun v161 =>
 IA 1 (nth xs143 5) v161 fun v162 =>
 LD false 1 v162 H158 fun v163 =>
 BI BinOp.geq v163 (AV.int IntKind.i64 0) fun v164 =>
 CNDC (nth xs143 7)
 (CND v164
 (LD false 1 (AV.ptr nx145 0) H158 fun v165 =>
 BI BinOp.eql v165 (AV.int IntKind.i64 13) fun v166 =>
 UO UnOp.not v166 fun v167 =>
 CNDC v167
 (Q (AV.int IntKind.i64 10) H158 (nx145 + 1))
 (j104 [nth xs143 0, nth xs143 1, nth xs143 3, v147, nth xs143 8, nth xs143 9, nth xs143 10] H158 (nx145 + 1)))
 (UO UnOp.not (AV.bool false) fun v168 =>
 CNDC v168
 (Q (AV.int IntKind.i64 10) H158 (nx145 + 1))
 (j104 [nth xs143 0, nth xs143 1, nth xs143 3, v147, nth xs143 8, nth xs143 9, nth xs143 10] H158 (nx145 + 1))))
 (CND v164
 (LDR false 1 (AV.ptr nx145 0) H158 fun v169 _ =>
 BI BinOp.eql v169 (AV.int IntKind.i64 17) fun v171 =>
 CND v171
 (LDR false 1 (AV.ptr nx145 1) H158 fun v172 _ =>
 FA 4 (nth xs143 1) fun v174 =>
 LDR false 1 v174 H158 fun v175 _ =>
 BI BinOp.add (nth xs143 2) (AV.int IntKind.i64 1) fun v177 =>
 IA 4 v175 v177 fun v178 =>
 FA 0 v178 fun v179 =>
 LDR false 1 v179 H158 fun v180 _ =>
 BI BinOp.eql v172 v180 fun v182 =>
 UO UnOp.not v182 fun v183 =>
 CNDC v183
 (Q (AV.int IntKind.i64 10) H158 (nx145 + 1))
 (j104 [nth xs143 0, nth xs143 1, nth xs143 3, v147, nth xs143 8, nth xs143 9, nth xs143 10] H158 (nx145 + 1)))
 (UO UnOp.not (AV.bool false) fun v184 =>
 CNDC v184
 (Q (AV.int IntKind.i64 10) H158 (nx145 + 1))
 (j104 [nth xs143 0, nth xs143 1, nth xs143 3, v147, nth xs143 8, nth xs143 9, nth xs143 10] H158 (nx145 + 1))))
 (UO UnOp.not (AV.bool false) fun v185 =>
 CNDC v185
 (Q (AV.int IntKind.i64 10) H158 (nx145 + 1))
 (j104 [nth xs143 0, nth xs143 1, nth xs143 3, v147, nth xs143 8, nth xs143 9, nth xs143 10] H158 (nx145 + 1))))))
 (j104 [nth xs143 0, nth xs143 1, nth xs143 3, nth xs143 6, nth xs143 8, nth xs143 9, nth xs143 10] H144 nx145)
def zgg (v100 : AV) (xs55 : List AV) (nx57 : Nat) (v91 : AV) (v95 : AV) (H89 : Heap) (nx90 : Nat) (j146 : J3) : Prop :=
 UO UnOp.not v100 fun v186 =>
 CND v186
 (j146 [nth xs55 0, nth xs55 1, nth xs55 4, AV.ptr nx57 0, AV.ptr (nx57 + 1) 0, v91, v95, v100, nth xs55 2, nth xs55 3, nth xs55 4, AV.bool true] H89 nx90)
 (j146 [nth xs55 0, nth xs55 1, nth xs55 4, AV.ptr nx57 0, AV.ptr (nx57 + 1) 0, v91, v95, v100, nth xs55 2, nth xs55 3, nth xs55 4, nth xs55 0] H89 nx90)
def zaz (Q : QT) (K54 : J3) (xs101 : List AV) (H102 : Heap) (nx103 : Nat) : Prop :=
 BI BinOp.lss (nth xs101 3) (AV.int IntKind.i64 0) fun v105 =>
 CND v105
 (Q (AV.int IntKind.i64 10) H102 nx103)
 (FA 3 (nth xs101 2) fun v106 =>
 LD false 1 v106 H102 fun v107 =>
 LNL v107 fun v108 =>
 BI BinOp.neq (nth xs101 3) v108 fun v109 =>
 CNDC v109
 (Q (AV.int IntKind.i64 10) H102 nx103)
 (FA 2 (nth xs101 2) fun v110 =>
 LDR false 1 v110 (H102.put nx103 (some (AObj.row 3 []))) fun v111 rd112 =>
 zad 3 32 (AV.slc nx103 0 0) v111 (H102.put nx103 (some (AObj.row 3 []))) (nx103 + 1) fun v113 _ fr115 D116 =>
 FA 3 (nth xs101 2) fun v117 =>
 LDR false 1 v117 ((H102.put nx103 (some (AObj.row 3 []))).apply D116) fun v118 rd119 =>
 zad 3 32 v113 v118 ((H102.put nx103 (some (AObj.row 3 []))).apply D116) ((nx103 + 1) + fr115.length) fun v120 _ fr122 D123 =>
 LNL v120 fun v124 =>
 nx103 ∉ [] ∧
 nx103 ∉ [] ∧
 nx103 ∉ rd112 ∧
 nx103 ∉ [] ∧
 nx103 ∉ [] ∧
 nx103 ∉ [] ∧
 zf (domD D116) [] (
 zf (domD D116) [] (
 nx103 ∉ rd119 ∧
 nx103 ∉ [] ∧
 zf (domD D116) rd119 (
 zf (domD D116) [] (
 nx103 ∉ [] ∧
 nx103 ∉ [] ∧
 zf (domD D116) [] (
 zf (domD D116) [] (
 zf (domD D123) [] (
 zf (domD D123) [] (
 LP (zge Q K54) [nth xs101 0, nth xs101 1, nth xs101 4, nth xs101 5, nth xs101 6, v120, v124, AV.int IntKind.i64 0] (((H102.put nx103 (some (AObj.row 3 []))).apply D116).apply D123) (((nx103 + 1) + fr115.length) + fr122.length)))))))))))
def zlt (Q : QT) (v100 : AV) (xs55 : List AV) (nx57 : Nat) (v91 : AV) (v95 : AV) (H89 : Heap) (nx90 : Nat) (j104 : J3) : Prop :=
 JN (zbq Q j104) (zgg v100 xs55 nx57 v91 v95 H89 nx90)
def zlr (nx57 : Nat) (xs55 : List AV) (Q : QT) (K54 : J3) (v88 : AV) (H89 : Heap) (nx90 : Nat) : Prop :=
 EX v88 0 fun v91 =>
 EX v88 1 fun _ =>
 LD false 1 (AV.ptr nx57 1) H89 fun v93 =>
 IA 1 v91 v93 fun v94 =>
 LD false 1 v94 H89 fun v95 =>
 FA 4 (nth xs55 1) fun v96 =>
 LD false 1 v96 H89 fun v97 =>
 LNL v97 fun v98 =>
 BI BinOp.sub v98 (AV.int IntKind.i64 1) fun v99 =>
 BI BinOp.eql (nth xs55 4) v99 fun v100 =>
 JN (zaz Q K54) (zlt Q v100 xs55 nx57 v91 v95 H89 nx90)
def zlq (Q : QT) (xs191 : List AV) (K190 : J3) (v210 : AV) (H211 : Heap) (nx212 : Nat) : Prop :=
 BI BinOp.neq v210 (AV.int IntKind.i64 0) fun v213 =>
 CNDC v213
 (Q v210 H211 nx212)
 (BI BinOp.add (nth xs191 3) (AV.int IntKind.i64 1) fun v214 =>
 K190 [nth xs191 0, nth xs191 1, nth xs191 2, v214] H211 nx212)
def zlp (Q : QT) (nx193 : Nat) (xs191 : List AV) (K190 : J3) (v202 : AV) (H203 : Heap) (nx204 : Nat) : Prop :=
 BI BinOp.neq v202 (AV.int IntKind.i64 0) fun v205 =>
 CNDC v205
 (Q v202 H203 nx204)
 (LD true 3 (AV.ptr nx193 3) H203 fun v206 =>
 FA 5 (nth xs191 0) fun v207 =>
 LD false 1 v207 H203 fun v208 =>
 LNL v208 fun v209 =>
 za Tryd.prog 42 [v206, v209] H203 nx204 (zlq Q xs191 K190))
def zgd (Q : QT) (K190 : J3) (xs191 : List AV) (H192 : Heap) (nx193 : Nat) : Prop :=
 BI BinOp.lss (nth xs191 3) (nth xs191 2) fun v194 =>
 CNDC v194
 (IA 6 (nth xs191 1) (nth xs191 3) fun v195 =>
 LD true 6 v195 H192 fun v196 =>
 ST 6 (AV.ptr nx193 0) v196 (H192.put nx193 (some (AObj.row 6 [AV.int IntKind.i64 0, AV.int IntKind.i64 0, AV.str [], AV.int IntKind.i64 0, AV.int IntKind.i64 0, AV.str []]))) fun H197 =>
 LD true 3 (AV.ptr nx193 0) H197 fun v198 =>
 FA 5 (nth xs191 0) fun v199 =>
 LD false 1 v199 H197 fun v200 =>
 LNL v200 fun v201 =>
 za Tryd.prog 42 [v198, v201] H197 (nx193 + 1) (zlp Q nx193 xs191 K190))
 (Q (AV.int IntKind.i64 0) H192 nx193)
def zan (Q : QT) (K54 : J3) (xs55 : List AV) (H56 : Heap) (nx57 : Nat) : Prop :=
 BI BinOp.lss (nth xs55 4) (nth xs55 3) fun v58 =>
 CNDC v58
 (IA 4 (nth xs55 2) (nth xs55 4) fun v59 =>
 LD true 4 v59 H56 fun v60 =>
 ST 4 (AV.ptr nx57 0) v60 (H56.put nx57 (some (AObj.row 4 [AV.int IntKind.i64 0, AV.int IntKind.i64 0, AV.nils, AV.nils]))) fun H61 =>
 LD false 1 (AV.ptr nx57 0) H61 fun v62 =>
 BI BinOp.lss v62 (AV.int IntKind.i64 0) fun v63 =>
 CND v63
 (Q (AV.int IntKind.i64 3) H61 (nx57 + 1))
 (LD false 1 (AV.ptr nx57 0) H61 fun v64 =>
 FA 2 (nth xs55 1) fun v65 =>
 FA 0 v65 fun v66 =>
 LD false 1 v66 H61 fun v67 =>
 LNL v67 fun v68 =>
 BI BinOp.geq v64 v68 fun v69 =>
 CNDC v69
 (Q (AV.int IntKind.i64 3) H61 (nx57 + 1))
 (FA 2 (nth xs55 1) fun v70 =>
 FA 0 v70 fun v71 =>
 LD false 1 v71 H61 fun v72 =>
 LD false 1 (AV.ptr nx57 0) H61 fun v73 =>
 IA 3 v72 v73 fun v74 =>
 LD true 3 v74 H61 fun v75 =>
 ST 3 (AV.ptr (nx57 + 1) 0) v75 (H61.put ((nx57 + 1)) (some (AObj.row 3 [AV.int IntKind.i64 0, AV.int IntKind.i64 0, AV.nils]))) fun H76 =>
 LD false 1 (AV.ptr nx57 1) H76 fun v77 =>
 BI BinOp.lss v77 (AV.int IntKind.i64 0) fun v78 =>
 CND v78
 (Q (AV.int IntKind.i64 3) H76 (nx57 + 2))
 (LD false 1 (AV.ptr nx57 1) H76 fun v79 =>
 LD false 1 (AV.ptr (nx57 + 1) 2) H76 fun v80 =>
 LNL v80 fun v81 =>
 BI BinOp.geq v79 v81 fun v82 =>
 CND v82
 (Q (AV.int IntKind.i64 3) H76 (nx57 + 2))
 (LD false 1 (AV.ptr nx57 2) H76 fun v83 =>
 LNL v83 fun v84 =>
 LD false 1 (AV.ptr (nx57 + 1) 1) H76 fun v85 =>
 BI BinOp.neq v84 v85 fun v86 =>
 CNDC v86
 (Q (AV.int IntKind.i64 3) H76 (nx57 + 2))
 (LD true 3 (AV.ptr (nx57 + 1) 0) H76 fun v87 =>
 za Tryd.prog 83 [v87] H76 (nx57 + 2) (zlr nx57 xs55 Q K54)))))))
 (FA 5 (nth xs55 1) fun v187 =>
 LD false 1 v187 H56 fun v188 =>
 LNL v188 fun v189 =>
 LP (zgd Q) [nth xs55 1, v188, v189, AV.int IntKind.i64 0] H56 nx57)
def zay (Q : QT) (K18 : J3) (xs19 : List AV) (H20 : Heap) (nx21 : Nat) : Prop :=
 BI BinOp.lss (nth xs19 4) (nth xs19 3) fun v22 =>
 CNDC v22
 (IA 2 (nth xs19 2) (nth xs19 4) fun v23 =>
 LD true 2 v23 H20 fun v24 =>
 ST 2 (AV.ptr nx21 0) v24 (H20.put nx21 (some (AObj.row 1 [AV.int IntKind.i64 0, AV.int IntKind.i64 0]))) fun H25 =>
 AA 1 2 (AV.ptr nx21 0) (AV.int IntKind.i64 0) fun v26 =>
 LD false 1 v26 H25 fun v27 =>
 BI BinOp.lss v27 (AV.int IntKind.i64 0) fun v28 =>
 CND v28
 (Q (AV.int IntKind.i64 3) H25 (nx21 + 1))
 (AA 1 2 (AV.ptr nx21 0) (AV.int IntKind.i64 0) fun v29 =>
 LD false 1 v29 H25 fun v30 =>
 AA 1 2 (AV.ptr nx21 0) (AV.int IntKind.i64 1) fun v31 =>
 LD false 1 v31 H25 fun v32 =>
 BI BinOp.gtr v30 v32 fun v33 =>
 CNDC v33
 (Q (AV.int IntKind.i64 3) H25 (nx21 + 1))
 (BI BinOp.add (nth xs19 4) (AV.int IntKind.i64 1) fun v34 =>
 K18 [nth xs19 0, nth xs19 1, nth xs19 2, nth xs19 3, v34] H25 (nx21 + 1))))
 (FA 4 (nth xs19 1) fun v35 =>
 LD false 1 v35 H20 fun v36 =>
 LNL v36 fun v37 =>
 BI BinOp.eql v37 (AV.int IntKind.i64 0) fun v38 =>
 CND v38
 (Q (AV.int IntKind.i64 5) H20 nx21)
 (FA 4 (nth xs19 1) fun v39 =>
 LD false 1 v39 H20 fun v40 =>
 LNL v40 fun v41 =>
 BI BinOp.gtr v41 (AV.int IntKind.i64 12) fun v42 =>
 CNDC v42
 (Q (AV.int IntKind.i64 5) H20 nx21)
 (FA 5 (nth xs19 1) fun v43 =>
 LD false 1 v43 H20 fun v44 =>
 LNL v44 fun v45 =>
 FA 6 (nth xs19 1) fun v46 =>
 FA 1 v46 fun v47 =>
 LD false 1 v47 H20 fun v48 =>
 BI BinOp.add v45 v48 fun v49 =>
 BI BinOp.gtr v49 (AV.int IntKind.i64 60) fun v50 =>
 CNDC v50
 (Q (AV.int IntKind.i64 4) H20 nx21)
 (FA 4 (nth xs19 1) fun v51 =>
 LD false 1 v51 H20 fun v52 =>
 LNL v52 fun v53 =>
 LP (zan Q) [nth xs19 0, nth xs19 1, v52, v53, AV.int IntKind.i64 0] H20 nx21))))
def zgf (Q : QT) (nx : Nat) (a1 : AV) (v2 : AV) (H3 : Heap) (nx4 : Nat) : Prop :=
 BI BinOp.neq v2 (AV.int IntKind.i64 0) fun v5 =>
 CNDC v5
 (Q v2 H3 nx4)
 (LD false 1 (AV.ptr nx 0) H3 fun v6 =>
 BD (fun i => some (i * 1, 1)) [AV.int IntKind.i64 0, AV.int IntKind.i64 0] [(0, v6), (1, AV.int IntKind.i64 1073741824)] fun v7 =>
 LD false 1 (AV.ptr nx 1) H3 fun v8 =>
 BD (fun i => some (i * 1, 1)) [AV.int IntKind.i64 0, AV.int IntKind.i64 0] [(0, v8), (1, AV.int IntKind.i64 1073741824)] fun v9 =>
 LD false 1 (AV.ptr nx 6) H3 fun v10 =>
 BD (fun i => some (i * 1, 1)) [AV.int IntKind.i64 0, AV.int IntKind.i64 0] [(0, v10), (1, AV.int IntKind.i64 2000)] fun v11 =>
 LD false 1 (AV.ptr nx 7) H3 fun v12 =>
 BD (fun i => some (i * 1, 1)) [AV.int IntKind.i64 0, AV.int IntKind.i64 0] [(0, v12), (1, AV.int IntKind.i64 60)] fun v13 =>
 LD false 1 (AV.ptr nx 8) H3 fun v14 =>
 BD (fun i => some (i * 1, 1)) [AV.int IntKind.i64 0, AV.int IntKind.i64 0] [(0, v14), (1, AV.int IntKind.i64 12)] fun v15 =>
 BSL 5 2 [AV.int IntKind.i64 0, AV.int IntKind.i64 0] [(0, v7), (1, v9), (2, v11), (3, v13), (4, v15)] fun cells16 =>
 LNL (AV.slc nx4 0 5) fun v17 =>
 LP (zay Q) [a1, AV.ptr nx 0, AV.slc nx4 0 5, v17, AV.int IntKind.i64 0] (H3.put nx4 (some (AObj.row 2 cells16))) (nx4 + 1))
def zlo (a0 a1 : AV) (H : Heap) (nx : Nat) (Q : QT) : Prop :=
 a0.sure = true ∧
 LD true 2 (AV.ptr nx 2) (H.put nx (some (AObj.row a0.cells.length a0.cells))) fun v1 =>
 za Tryd.prog 82 [v1] (H.put nx (some (AObj.row a0.cells.length a0.cells))) (nx + 1) (zgf Q nx a1)
theorem zpk (a0 a1 : AV) (H : Heap) (nx : Nat) (Q : QT) : zlo a0 a1 H nx Q → za Tryd.prog 56 [a0, a1] H nx Q :=
  zj (lv := lvOf [(0, 25, [1, 2, 8, 9, 10, 11, 13, 14, 84, 85, 86, 149]), (2, 5, [1, 2, 48, 49, 50]), (2, 15, [1, 2, 84, 85, 86]), (2, 39, [1, 2, 84, 85, 86, 211, 212, 213]), (2, 47, [2, 228, 229, 230]), (3, 36, [1, 2, 9, 13, 84, 85, 86])]) (c := zp Tryd.f56) zy zz mixed Tryd.func56 (by kernel_rfl) (by kernel_rfl) (by kernel_rfl) (by kernel_rfl) (by kernel_rfl)
def zbr (Q : QT) (K35 : J3) (K61 : J3) (xs62 : List AV) (H63 : Heap) (nx64 : Nat) : Prop :=
 BI BinOp.lss (nth xs62 7) (nth xs62 6) fun v65 =>
 CNDC v65
 (FA 2 (nth xs62 1) fun v66 =>
 LDR false 1 v66 H63 fun v67 _ =>
 IA 3 v67 (nth xs62 7) fun v69 =>
 LDR true 3 v69 H63 fun v70 _ =>
 FA 2 (nth xs62 2) fun v72 =>
 LDR false 1 v72 H63 fun v73 _ =>
 IA 3 v73 (nth xs62 7) fun v75 =>
 LDR true 3 v75 H63 fun v76 _ =>
 gd (eqsT 96) (
 BA [AV.int IntKind.i64 0, AV.int IntKind.i64 0, AV.int IntKind.i64 0] BinOp.neq v70 v76 fun v78 =>
 CNDC v78
 (Q (AV.bool false) H63 nx64)
 (BI BinOp.add (nth xs62 7) (AV.int IntKind.i64 1) fun v79 =>
 K61 [nth xs62 0, nth xs62 1, nth xs62 2, nth xs62 3, nth xs62 4, nth xs62 5, nth xs62 6, v79] H63 nx64)))
 (BI BinOp.add (nth xs62 5) (AV.int IntKind.i64 1) fun v80 =>
 K35 [nth xs62 0, nth xs62 3, nth xs62 4, v80] H63 nx64)
def zcq (Q : QT) (K35 : J3) (xs36 : List AV) (H37 : Heap) (nx38 : Nat) : Prop :=
 BI BinOp.lss (nth xs36 3) (nth xs36 2) fun v39 =>
 CNDC v39
 (IA 3 (nth xs36 1) (nth xs36 3) fun v40 =>
 LD true 3 v40 H37 fun v41 =>
 ST 3 (AV.ptr nx38 0) v41 (H37.put nx38 (some (AObj.row 3 [AV.int IntKind.i64 0, AV.int IntKind.i64 0, AV.nils]))) fun H42 =>
 FA 0 (nth xs36 0) fun v43 =>
 LD false 1 v43 H42 fun v44 =>
 IA 3 v44 (nth xs36 3) fun v45 =>
 LD true 3 v45 H42 fun v46 =>
 ST 3 (AV.ptr (nx38 + 1) 0) v46 (H42.put ((nx38 + 1)) (some (AObj.row 3 [AV.int IntKind.i64 0, AV.int IntKind.i64 0, AV.nils]))) fun H47 =>
 LD false 1 (AV.ptr nx38 0) H47 fun v48 =>
 LD false 1 (AV.ptr (nx38 + 1) 0) H47 fun v49 =>
 BI BinOp.neq v48 v49 fun v50 =>
 CND v50
 (Q (AV.bool false) H47 (nx38 + 2))
 (LD false 1 (AV.ptr nx38 1) H47 fun v51 =>
 LD false 1 (AV.ptr (nx38 + 1) 1) H47 fun v52 =>
 BI BinOp.neq v51 v52 fun v53 =>
 CND v53
 (Q (AV.bool false) H47 (nx38 + 2))
 (LD false 1 (AV.ptr nx38 2) H47 fun v54 =>
 LNL v54 fun v55 =>
 LD false 1 (AV.ptr (nx38 + 1) 2) H47 fun v56 =>
 LNL v56 fun v57 =>
 BI BinOp.neq v55 v57 fun v58 =>
 CNDC v58
 (Q (AV.bool false) H47 (nx38 + 2))
 (LD false 1 (AV.ptr nx38 2) H47 fun v59 =>
 LNL v59 fun v60 =>
 LP (zbr Q K35) [nth xs36 0, AV.ptr nx38 0, AV.ptr (nx38 + 1) 0, nth xs36 1, nth xs36 2, nth xs36 3, v60, AV.int IntKind.i64 0] H47 (nx38 + 2)))))
 (Q (AV.bool true) H37 nx38)
def zcp (Q : QT) (K13 : J3) (xs14 : List AV) (H15 : Heap) (nx16 : Nat) : Prop :=
 BI BinOp.lss (nth xs14 3) (nth xs14 2) fun v17 =>
 CNDC v17
 (FA 1 (nth xs14 0) fun v18 =>
 LDR false 1 v18 H15 fun v19 _ =>
 IA 1 v19 (nth xs14 3) fun v21 =>
 LDR false 1 v21 H15 fun v22 _ =>
 FA 1 (nth xs14 1) fun v24 =>
 LDR false 1 v24 H15 fun v25 _ =>
 IA 1 v25 (nth xs14 3) fun v27 =>
 LDR false 1 v27 H15 fun v28 _ =>
 BS BinOp.neq v22 v28 fun v30 =>
 CNDC v30
 (Q (AV.bool false) H15 nx16)
 (BI BinOp.add (nth xs14 3) (AV.int IntKind.i64 1) fun v31 =>
 K13 [nth xs14 0, nth xs14 1, nth xs14 2, v31] H15 nx16))
 (FA 0 (nth xs14 0) fun v32 =>
 LD false 1 v32 H15 fun v33 =>
 LNL v33 fun v34 =>
 LP (zcq Q) [nth xs14 1, v33, v34, AV.int IntKind.i64 0] H15 nx16)
def zft (a0 a1 : AV) (H : Heap) (nx : Nat) (Q : QT) : Prop :=
 a0.sure = true ∧
 a1.sure = true ∧
 LD false 1 (AV.ptr nx 0) ((H.put nx (some (AObj.row a0.cells.length a0.cells))).put ((nx + 1)) (some (AObj.row a1.cells.length a1.cells))) fun v1 =>
 LNL v1 fun v2 =>
 LD false 1 (AV.ptr (nx + 1) 0) ((H.put nx (some (AObj.row a0.cells.length a0.cells))).put ((nx + 1)) (some (AObj.row a1.cells.length a1.cells))) fun v3 =>
 LNL v3 fun v4 =>
 BI BinOp.neq v2 v4 fun v5 =>
 CND v5
 (Q (AV.bool false) ((H.put nx (some (AObj.row a0.cells.length a0.cells))).put ((nx + 1)) (some (AObj.row a1.cells.length a1.cells))) (nx + 2))
 (LD false 1 (AV.ptr nx 1) ((H.put nx (some (AObj.row a0.cells.length a0.cells))).put ((nx + 1)) (some (AObj.row a1.cells.length a1.cells))) fun v6 =>
 LNL v6 fun v7 =>
 LD false 1 (AV.ptr (nx + 1) 1) ((H.put nx (some (AObj.row a0.cells.length a0.cells))).put ((nx + 1)) (some (AObj.row a1.cells.length a1.cells))) fun v8 =>
 LNL v8 fun v9 =>
 BI BinOp.neq v7 v9 fun v10 =>
 CNDC v10
 (Q (AV.bool false) ((H.put nx (some (AObj.row a0.cells.length a0.cells))).put ((nx + 1)) (some (AObj.row a1.cells.length a1.cells))) (nx + 2))
 (LD false 1 (AV.ptr nx 1) ((H.put nx (some (AObj.row a0.cells.length a0.cells))).put ((nx + 1)) (some (AObj.row a1.cells.length a1.cells))) fun v11 =>
 LNL v11 fun v12 =>
 LP (zcp Q) [AV.ptr nx 0, AV.ptr (nx + 1) 0, v12, AV.int IntKind.i64 0] ((H.put nx (some (AObj.row a0.cells.length a0.cells))).put ((nx + 1)) (some (AObj.row a1.cells.length a1.cells))) (nx + 2)))
theorem zkj (a0 a1 : AV) (H : Heap) (nx : Nat) (Q : QT) : zft a0 a1 H nx Q → za Tryd.prog 13 [a0, a1] H nx Q :=
  zj (lv := lvOf [(2, 4, [2, 3, 28, 29]), (2, 10, [3, 45, 46, 47]), (2, 16, [3, 7, 8, 45, 46, 47, 80, 81])]) (c := zp Tryd.f13) zy zz mixed Tryd.func13 (by kernel_rfl) (by kernel_rfl) (by kernel_rfl) (by kernel_rfl) (by kernel_rfl)
def zha (Q : QT) (xs30 : List AV) (K29 : J3) (v56 : AV) (H57 : Heap) (nx58 : Nat) : Prop :=
 UO UnOp.not v56 fun v59 =>
 CNDC v59
 (Q (AV.bool false) H57 nx58)
 (BI BinOp.add (nth xs30 3) (AV.int IntKind.i64 1) fun v60 =>
 K29 [nth xs30 0, nth xs30 1, nth xs30 2, v60] H57 nx58)
def zgz (Q : QT) (nx32 : Nat) (xs30 : List AV) (K29 : J3) (v50 : AV) (H51 : Heap) (nx52 : Nat) : Prop :=
 UO UnOp.not v50 fun v53 =>
 CND v53
 (Q (AV.bool false) H51 nx52)
 (LD false 1 (AV.ptr nx32 3) H51 fun v54 =>
 LD false 1 (AV.ptr (nx32 + 1) 3) H51 fun v55 =>
 za Tryd.prog 60 [v54, v55] H51 nx52 (zha Q xs30 K29))
def zdl (Q : QT) (K29 : J3) (xs30 : List AV) (H31 : Heap) (nx32 : Nat) : Prop :=
 BI BinOp.lss (nth xs30 3) (nth xs30 2) fun v33 =>
 CNDC v33
 (IA 4 (nth xs30 1) (nth xs30 3) fun v34 =>
 LD true 4 v34 H31 fun v35 =>
 ST 4 (AV.ptr nx32 0) v35 (H31.put nx32 (some (AObj.row 4 [AV.int IntKind.i64 0, AV.int IntKind.i64 0, AV.nils, AV.nils]))) fun H36 =>
 FA 4 (nth xs30 0) fun v37 =>
 LD false 1 v37 H36 fun v38 =>
 IA 4 v38 (nth xs30 3) fun v39 =>
 LD true 4 v39 H36 fun v40 =>
 ST 4 (AV.ptr (nx32 + 1) 0) v40 (H36.put ((nx32 + 1)) (some (AObj.row 4 [AV.int IntKind.i64 0, AV.int IntKind.i64 0, AV.nils, AV.nils]))) fun H41 =>
 LD false 1 (AV.ptr nx32 0) H41 fun v42 =>
 LD false 1 (AV.ptr (nx32 + 1) 0) H41 fun v43 =>
 BI BinOp.neq v42 v43 fun v44 =>
 CND v44
 (Q (AV.bool false) H41 (nx32 + 2))
 (LD false 1 (AV.ptr nx32 1) H41 fun v45 =>
 LD false 1 (AV.ptr (nx32 + 1) 1) H41 fun v46 =>
 BI BinOp.neq v45 v46 fun v47 =>
 CND v47
 (Q (AV.bool false) H41 (nx32 + 2))
 (LD false 1 (AV.ptr nx32 2) H41 fun v48 =>
 LD false 1 (AV.ptr (nx32 + 1) 2) H41 fun v49 =>
 za Tryd.prog 60 [v48, v49] H41 (nx32 + 2) (zgz Q nx32 xs30 K29))))
 (Q (AV.bool true) H31 nx32)
def zgy (Q : QT) (nx : Nat) (v23 : AV) (H24 : Heap) (nx25 : Nat) : Prop :=
 UO UnOp.not v23 fun v26 =>
 CNDC v26
 (Q (AV.bool false) H24 nx25)
 (LD false 1 (AV.ptr nx 4) H24 fun v27 =>
 LNL v27 fun v28 =>
 LP (zdl Q) [AV.ptr (nx + 1) 0, v27, v28, AV.int IntKind.i64 0] H24 nx25)
def zgx (Q : QT) (nx : Nat) (v12 : AV) (H13 : Heap) (nx14 : Nat) : Prop :=
 UO UnOp.not v12 fun v15 =>
 CND v15
 (Q (AV.bool false) H13 nx14)
 (LD false 1 (AV.ptr nx 4) H13 fun v16 =>
 LNL v16 fun v17 =>
 LD false 1 (AV.ptr (nx + 1) 4) H13 fun v18 =>
 LNL v18 fun v19 =>
 BI BinOp.neq v17 v19 fun v20 =>
 CND v20
 (Q (AV.bool false) H13 nx14)
 (LD false 1 (AV.ptr nx 5) H13 fun v21 =>
 LD false 1 (AV.ptr (nx + 1) 5) H13 fun v22 =>
 za Tryd.prog 59 [v21, v22] H13 nx14 (zgy Q nx)))
def zgw (a0 a1 : AV) (H : Heap) (nx : Nat) (Q : QT) : Prop :=
 a0.sure = true ∧
 a1.sure = true ∧
 LD false 1 (AV.ptr nx 0) ((H.put nx (some (AObj.row a0.cells.length a0.cells))).put ((nx + 1)) (some (AObj.row a1.cells.length a1.cells))) fun v1 =>
 LD false 1 (AV.ptr (nx + 1) 0) ((H.put nx (some (AObj.row a0.cells.length a0.cells))).put ((nx + 1)) (some (AObj.row a1.cells.length a1.cells))) fun v2 =>
 BI BinOp.neq v1 v2 fun v3 =>
 CND v3
 (Q (AV.bool false) ((H.put nx (some (AObj.row a0.cells.length a0.cells))).put ((nx + 1)) (some (AObj.row a1.cells.length a1.cells))) (nx + 2))
 (LD false 1 (AV.ptr nx 1) ((H.put nx (some (AObj.row a0.cells.length a0.cells))).put ((nx + 1)) (some (AObj.row a1.cells.length a1.cells))) fun v4 =>
 LD false 1 (AV.ptr (nx + 1) 1) ((H.put nx (some (AObj.row a0.cells.length a0.cells))).put ((nx + 1)) (some (AObj.row a1.cells.length a1.cells))) fun v5 =>
 BI BinOp.neq v4 v5 fun v6 =>
 CND v6
 (Q (AV.bool false) ((H.put nx (some (AObj.row a0.cells.length a0.cells))).put ((nx + 1)) (some (AObj.row a1.cells.length a1.cells))) (nx + 2))
 (LD true 3 (AV.ptr nx 6) ((H.put nx (some (AObj.row a0.cells.length a0.cells))).put ((nx + 1)) (some (AObj.row a1.cells.length a1.cells))) fun v7 =>
 LD true 3 (AV.ptr (nx + 1) 6) ((H.put nx (some (AObj.row a0.cells.length a0.cells))).put ((nx + 1)) (some (AObj.row a1.cells.length a1.cells))) fun v8 =>
 gd (eqsT 38) (
 BA [AV.int IntKind.i64 0, AV.int IntKind.i64 0, AV.int IntKind.i64 0] BinOp.neq v7 v8 fun v9 =>
 CND v9
 (Q (AV.bool false) ((H.put nx (some (AObj.row a0.cells.length a0.cells))).put ((nx + 1)) (some (AObj.row a1.cells.length a1.cells))) (nx + 2))
 (LD true 2 (AV.ptr nx 2) ((H.put nx (some (AObj.row a0.cells.length a0.cells))).put ((nx + 1)) (some (AObj.row a1.cells.length a1.cells))) fun v10 =>
 LD true 2 (AV.ptr (nx + 1) 2) ((H.put nx (some (AObj.row a0.cells.length a0.cells))).put ((nx + 1)) (some (AObj.row a1.cells.length a1.cells))) fun v11 =>
 za Tryd.prog 13 [v10, v11] ((H.put nx (some (AObj.row a0.cells.length a0.cells))).put ((nx + 1)) (some (AObj.row a1.cells.length a1.cells))) (nx + 2) (zgx Q nx)))))
theorem zmn (a0 a1 : AV) (H : Heap) (nx : Nat) (Q : QT) : zgw a0 a1 H nx Q → za Tryd.prog 24 [a0, a1] H nx Q :=
  zj (lv := lvOf [(2, 4, [3, 53, 54, 55])]) (c := zp Tryd.f24) zy zz mixed Tryd.func24 (by kernel_rfl) (by kernel_rfl) (by kernel_rfl) (by kernel_rfl) (by kernel_rfl)
def zgi (Q : QT) (xs4 : List AV) (K3 : J3) (v12 : AV) (H13 : Heap) (nx14 : Nat) : Prop :=
 BI BinOp.neq v12 (AV.int IntKind.i64 0) fun v15 =>
 CNDC v15
 (Q (AV.bool false) H13 nx14)
 (BI BinOp.add (nth xs4 4) (AV.int IntKind.i64 1) fun v16 =>
 K3 [nth xs4 0, nth xs4 1, nth xs4 2, nth xs4 3, v16] H13 nx14)
def zlv (Q : QT) (v22 : AV) (H23 : Heap) (nx24 : Nat) : Prop :=
 BI BinOp.eql v22 (AV.int IntKind.i64 0) fun v25 =>
 Q v25 H23 nx24
def zdo (Q : QT) (K3 : J3) (xs4 : List AV) (H5 : Heap) (nx6 : Nat) : Prop :=
 BI BinOp.lss (nth xs4 4) (nth xs4 3) fun v7 =>
 CNDC v7
 (IA 4 (nth xs4 2) (nth xs4 4) fun v8 =>
 LD true 4 v8 H5 fun v9 =>
 ST 4 (AV.ptr nx6 0) v9 (H5.put nx6 (some (AObj.row 4 [AV.str [], AV.int IntKind.i64 0, AV.int IntKind.i64 0, AV.str []]))) fun H10 =>
 LD true 3 (AV.ptr nx6 1) H10 fun v11 =>
 za Tryd.prog 42 [v11, AV.int IntKind.i64 0] H10 (nx6 + 1) (zgi Q xs4 K3))
 (FA 0 (nth xs4 1) fun v17 =>
 LD false 1 v17 H5 fun v18 =>
 LNS v18 fun v19 =>
 BI BinOp.leq v19 (AV.int IntKind.i64 12) fun v20 =>
 CND v20
 (LD true 9 (nth xs4 0) H5 fun v21 =>
 za Tryd.prog 56 [v21, AV.bool false] H5 nx6 (zlv Q))
 (Q (AV.bool false) H5 nx6))
def zlu (a0 a1 : AV) (H : Heap) (nx : Nat) (Q : QT) : Prop :=
 a0.sure = true ∧
 a1.sure = true ∧
 LD false 1 (AV.ptr (nx + 1) 1) ((H.put nx (some (AObj.row a0.cells.length a0.cells))).put ((nx + 1)) (some (AObj.row a1.cells.length a1.cells))) fun v1 =>
 LNL v1 fun v2 =>
 LP (zdo Q) [AV.ptr nx 0, AV.ptr (nx + 1) 0, v1, v2, AV.int IntKind.i64 0] ((H.put nx (some (AObj.row a0.cells.length a0.cells))).put ((nx + 1)) (some (AObj.row a1.cells.length a1.cells))) (nx + 2)
theorem zpl (a0 a1 : AV) (H : Heap) (nx : Nat) (Q : QT) : zlu a0 a1 H nx Q → za Tryd.prog 22 [a0, a1] H nx Q :=
  zj (lv := lvOf [(2, 2, [2, 3, 8, 9, 10])]) (c := zp Tryd.f22) zy zz mixed Tryd.func22 (by kernel_rfl) (by kernel_rfl) (by kernel_rfl) (by kernel_rfl) (by kernel_rfl)
end Go.Proofs.YtobioljjoipimaaDoor
