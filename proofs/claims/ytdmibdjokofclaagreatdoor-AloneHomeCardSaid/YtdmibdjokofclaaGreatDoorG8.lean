/- What is to be shown of each function, written out. Programs, and agents, as they lie in memory. Which kinds of things are compared whole. A call that changes what it is handed by address, where the order is drawn. -/
import Derived.Test.YtdmibdjokofclaaGreatDoorG5
import Derived.Test.YtdmibdjokofclaaGreatDoorG6
set_option linter.unusedSimpArgs false
set_option linter.unusedVariables false
set_option maxRecDepth 8000
namespace Go.Proofs.YtdmibdjokofclaaGreatDoor
open Go Go.RowKit
def zfv (a0 : AV) (H : Heap) (nx : Nat) (Q : QT) : Prop :=
 BL .eql a0 .nils fun v1 =>
 CNDC v1
 (Q .nils H nx)
 (APP 3 24 (.slc nx 0 0) a0 (H.put nx (some (.row 3 []))) (nx + 1) fun v2 H3 nx4 =>
 Q v2 H3 nx4)
theorem zks (a0 : AV) (H : Heap) (nx : Nat) (Q : QT) : zfv a0 H nx Q → za Tryz.prog 43 [a0] H nx Q :=
  ze (lv := lvOf []) (c := zp Tryz.f43) zy zz mixed Tryz.func43 (by kernel_rfl) (by kernel_rfl) (by kernel_rfl) (by kernel_rfl) (by kernel_rfl)
def zct (a0 : AV) (H : Heap) (nx : Nat) (Q : QT) : Prop :=
 BL .eql a0 .nils fun v1 =>
 CNDC v1
 (Q .nils H nx)
 (APP 1 16 (.slc nx 0 0) a0 (H.put nx (some (.row 1 []))) (nx + 1) fun v2 H3 nx4 =>
 Q v2 H3 nx4)
theorem zgc (a0 : AV) (H : Heap) (nx : Nat) (Q : QT) : zct a0 H nx Q → za Tryz.prog 44 [a0] H nx Q :=
  ze (lv := lvOf []) (c := zp Tryz.f44) zy zz mixed Tryz.func44 (by kernel_rfl) (by kernel_rfl) (by kernel_rfl) (by kernel_rfl) (by kernel_rfl)
def zgi (a0 : AV) (H : Heap) (nx : Nat) (Q : QT) : Prop :=
 BL .eql a0 .nils fun v1 =>
 CNDC v1
 (Q .nils H nx)
 (APP 6 64 (.slc nx 0 0) a0 (H.put nx (some (.row 6 []))) (nx + 1) fun v2 H3 nx4 =>
 Q v2 H3 nx4)
theorem zlj (a0 : AV) (H : Heap) (nx : Nat) (Q : QT) : zgi a0 H nx Q → za Tryz.prog 46 [a0] H nx Q :=
  ze (lv := lvOf []) (c := zp Tryz.f46) zy zz mixed Tryz.func46 (by kernel_rfl) (by kernel_rfl) (by kernel_rfl) (by kernel_rfl) (by kernel_rfl)
def zwi (nx6 : Nat) (xs4 : List AV) (K3 : J3) (v12 : AV) (H13 : Heap) (nx14 : Nat) : Prop :=
 ST 1 (.ptr nx6 2) v12 H13 fun H15 =>
 LD true 3 (.ptr nx6 0) H15 fun v16 =>
 BSL 1 3 [.int .i64 0, .int .i64 0, .nils] [(0, v16)] fun cells17 =>
 APP 3 40 (nth xs4 2) (.slc nx14 0 1) (H15.put nx14 (some (.row 3 cells17))) (nx14 + 1) fun v18 H19 nx20 =>
 BI .add (nth xs4 5) (.int .i64 1) fun v21 =>
 K3 [nth xs4 0, nth xs4 1, v18, nth xs4 3, nth xs4 4, v21] H19 nx20
def zhu (nx37 : Nat) (v44 : AV) (H41 : Heap) (D47 : zj) (rd49 : List Nat) (xs35 : List AV) (fr46 : List Nat) (K34 : J3) (v50 : AV) (_ : List Nat) (fr52 : List Nat) (D53 : zj) : Prop :=
 zaf 1 (.ptr nx37 2) v44 ((H41.apply D47).apply D53) fun _ _ fr56 D57 =>
 zaf 1 (.ptr nx37 3) v50 (((H41.apply D47).apply D53).apply D57) fun _ _ fr60 D61 =>
 zh (domD D47) [] (
 zh (domD D47) [] (
 zh (domD D47) rd49 (
 zh (domD D47) [] (
 zh (domD D53) [] (
 zh (domD D53) [] (
 LD true 4 (.ptr nx37 0) ((((H41.apply D47).apply D53).apply D57).apply D61) fun v62 =>
 BSL 1 4 [.int .i64 0, .int .i64 0, .nils, .nils] [(0, v62)] fun cells63 =>
 APP 4 64 (nth xs35 2) (.slc (((((nx37 + 1) + fr46.length) + fr52.length) + fr56.length) + fr60.length) 0 1) (((((H41.apply D47).apply D53).apply D57).apply D61).put ((((((nx37 + 1) + fr46.length) + fr52.length) + fr56.length) + fr60.length)) (some (.row 4 cells63))) ((((((nx37 + 1) + fr46.length) + fr52.length) + fr56.length) + fr60.length) + 1) fun v64 H65 nx66 =>
 BI .add (nth xs35 5) (.int .i64 1) fun v67 =>
 K34 [nth xs35 0, nth xs35 1, v64, nth xs35 3, nth xs35 4, v67] H65 nx66))))))
def zqa (nx37 : Nat) (H41 : Heap) (xs35 : List AV) (K34 : J3) (v44 : AV) (_ : List Nat) (fr46 : List Nat) (D47 : zj) : Prop :=
 LDR false 1 (.ptr nx37 3) (H41.apply D47) fun v48 rd49 =>
 zw Tryz.prog (.clo 45 []) [v48] (H41.apply D47) ((nx37 + 1) + fr46.length) (zhu nx37 v44 H41 D47 rd49 xs35 fr46 K34)
def zwh (xs35 : List AV) (Q : QT) (v70 : AV) (H71 : Heap) (nx72 : Nat) : Prop :=
 FA 4 (nth xs35 0) fun v73 =>
 ST 1 v73 (nth xs35 2) H71 fun H74 =>
 FA 5 (nth xs35 0) fun v75 =>
 ST 1 v75 v70 H74 fun H76 =>
 LD true 9 (nth xs35 0) H76 fun v77 =>
 ST 9 (nth xs35 1) v77 H76 fun H78 =>
 LD true 9 (nth xs35 1) H78 fun v79 =>
 Q v79 H78 nx72
def zlp (Q : QT) (K34 : J3) (xs35 : List AV) (H36 : Heap) (nx37 : Nat) : Prop :=
 BI .lss (nth xs35 5) (nth xs35 4) fun v38 =>
 CNDC v38
 (IA 4 (nth xs35 3) (nth xs35 5) fun v39 =>
 LD true 4 v39 H36 fun v40 =>
 ST 4 (.ptr nx37 0) v40 (H36.put nx37 (some (.row 4 [.int .i64 0, .int .i64 0, .nils, .nils]))) fun H41 =>
 LDR false 1 (.ptr nx37 2) H41 fun v42 _ =>
 zw Tryz.prog (.clo 45 []) [v42] H41 (nx37 + 1) (zqa nx37 H41 xs35 K34))
 (FA 5 (nth xs35 0) fun v68 =>
 LD false 1 v68 H36 fun v69 =>
 za Tryz.prog 46 [v69] H36 nx37 (zwh xs35 Q))
def zwg (xs4 : List AV) (Q : QT) (v25 : AV) (H26 : Heap) (nx27 : Nat) : Prop :=
 BD (zab tab [(23, 0), (24, 1)]) [.nils, .nils] [(0, nth xs4 2), (1, v25)] fun v28 =>
 FA 2 (nth xs4 0) fun v29 =>
 ST 2 v29 v28 H26 fun H30 =>
 FA 4 (nth xs4 0) fun v31 =>
 LD false 1 v31 H30 fun v32 =>
 LNL v32 fun v33 =>
 LP (zlp Q) [nth xs4 0, nth xs4 1, .nils, v32, v33, .int .i64 0] H30 nx27
def zlo (Q : QT) (K3 : J3) (xs4 : List AV) (H5 : Heap) (nx6 : Nat) : Prop :=
 BI .lss (nth xs4 5) (nth xs4 4) fun v7 =>
 CNDC v7
 (IA 3 (nth xs4 3) (nth xs4 5) fun v8 =>
 LD true 3 v8 H5 fun v9 =>
 ST 3 (.ptr nx6 0) v9 (H5.put nx6 (some (.row 3 [.int .i64 0, .int .i64 0, .nils]))) fun H10 =>
 LD false 1 (.ptr nx6 2) H10 fun v11 =>
 za Tryz.prog 43 [v11] H10 (nx6 + 1) (zwi nx6 xs4 K3))
 (FA 2 (nth xs4 0) fun v22 =>
 FA 1 v22 fun v23 =>
 LD false 1 v23 H5 fun v24 =>
 za Tryz.prog 44 [v24] H5 nx6 (zwg xs4 Q))
def zwf (a0 : AV) (H : Heap) (nx : Nat) (Q : QT) : Prop :=
 a0.sure = true ∧
 LD false 1 (.ptr nx 2) ((H.put nx (some (.row a0.cells.length a0.cells))).put ((nx + 1)) (some (.row 9 [.int .i64 0, .int .i64 0, .nils, .nils, .nils, .nils, .int .i64 0, .int .i64 0, .int .i64 0]))) fun v1 =>
 LNL v1 fun v2 =>
 LP (zlo Q) [.ptr nx 0, .ptr (nx + 1) 0, .nils, v1, v2, .int .i64 0] ((H.put nx (some (.row a0.cells.length a0.cells))).put ((nx + 1)) (some (.row 9 [.int .i64 0, .int .i64 0, .nils, .nils, .nils, .nils, .int .i64 0, .int .i64 0, .int .i64 0]))) (nx + 2)
theorem zyn (a0 : AV) (H : Heap) (nx : Nat) (Q : QT) : zwf a0 H nx Q → za Tryz.prog 31 [a0] H nx Q :=
  ze (lv := lvOf [(2, 3, [1, 2, 3, 11, 12, 13]), (2, 11, [1, 2, 6, 34, 35, 36])]) (c := zp Tryz.f31) zy zz mixed Tryz.func31 (by kernel_rfl) (by kernel_rfl) (by kernel_rfl) (by kernel_rfl) (by kernel_rfl)
def zjh (a0 a1 : AV) (H : Heap) (nx : Nat) (Q : QT) : Prop :=
 BD (zab tab [(3, 0), (9, 1), (30, 2)]) [.int .i64 0, .str [], .int .i64 0] [(0, .int .i64 5), (2, a1)] fun v1 =>
 NC a0 fun v2 =>
 FA 10 v2 fun v3 =>
 ST 3 v3 v1 H fun H4 =>
 Q (.tup []) H4 nx
theorem zno (a0 a1 : AV) (H : Heap) (nx : Nat) (Q : QT) : zjh a0 a1 H nx Q → za Tryz.prog 32 [a0, a1] H nx Q :=
  ze (lv := lvOf []) (c := zp Tryz.f32) zy zz mixed Tryz.func32 (by kernel_rfl) (by kernel_rfl) (by kernel_rfl) (by kernel_rfl) (by kernel_rfl)
def zfr (a0 : AV) (H : Heap) (nx : Nat) (Q : QT) : Prop :=
 NC a0 fun v1 =>
 FA 0 v1 fun v2 =>
 FA 4 v2 fun v3 =>
 LDR false 1 v3 H fun v4 _ =>
 NC a0 fun v6 =>
 FA 0 v6 fun v7 =>
 FA 4 v7 fun v8 =>
 LDR false 1 v8 H fun v9 _ =>
 LNL v9 fun v11 =>
 BI .sub v11 (.int .i64 1) fun v12 =>
 IA 4 v4 v12 fun v13 =>
 Q v13 H nx
theorem zha (a0 : AV) (H : Heap) (nx : Nat) (Q : QT) : zfr a0 H nx Q → za Tryz.prog 47 [a0] H nx Q :=
  ze (lv := lvOf []) (c := zp Tryz.f47) zy zz mixed Tryz.func47 (by kernel_rfl) (by kernel_rfl) (by kernel_rfl) (by kernel_rfl) (by kernel_rfl)
def zeu (nx : Nat) (Q : QT) (v1 : AV) (H2 : Heap) (nx3 : Nat) : Prop :=
 NC v1 fun v4 =>
 FA 3 v4 fun v5 =>
 LDR false 1 v5 H2 fun v6 rd7 =>
 LDR true 3 (.ptr nx 0) H2 fun v8 _ =>
 BSL 1 3 [.int .i64 0, .int .i64 0, .str []] [(0, v8)] fun cells10 =>
 zah 3 32 v6 (.slc nx3 0 1) (H2.put nx3 (some (.row 3 cells10))) (nx3 + 1) fun v11 _ fr13 D14 =>
 NC v1 fun v15 =>
 FA 3 v15 fun v16 =>
 zaf 1 v16 v11 ((H2.put nx3 (some (.row 3 cells10))).apply D14) fun _ _ fr19 D20 =>
 nx3 ∉ [] ∧
 nx3 ∉ [] ∧
 nx3 ∉ [] ∧
 nx3 ∉ [] ∧
 nx3 ∉ rd7 ∧
 zh (domD D14) [] (
 Q (.tup []) (((H2.put nx3 (some (.row 3 cells10))).apply D14).apply D20) (((nx3 + 1) + fr13.length) + fr19.length))
def zet (a0 a1 : AV) (H : Heap) (nx : Nat) (Q : QT) : Prop :=
 a1.sure = true ∧
 za Tryz.prog 47 [a0] (H.put nx (some (AObj.row a1.cells.length a1.cells))) (nx + 1) (zeu nx Q)
theorem zgd (a0 a1 : AV) (H : Heap) (nx : Nat) (Q : QT) : zet a0 a1 H nx Q → za Tryz.prog 48 [a0, a1] H nx Q :=
  ze (lv := lvOf []) (c := zp Tryz.f48) zy zz mixed Tryz.func48 (by kernel_rfl) (by kernel_rfl) (by kernel_rfl) (by kernel_rfl) (by kernel_rfl)
def zkn (nx : Nat) (Q : QT) (v1 : AV) (H2 : Heap) (nx3 : Nat) : Prop :=
 NC v1 fun v4 =>
 FA 3 v4 fun v5 =>
 LDR false 1 v5 H2 fun v6 rd7 =>
 NC v1 fun v8 =>
 FA 3 v8 fun v9 =>
 LDR false 1 v9 H2 fun v10 rd11 =>
 LNL v10 fun v12 =>
 BI .sub v12 (.int .i64 1) fun v13 =>
 IA 3 v6 v13 fun v14 =>
 LDR true 3 v14 H2 fun v15 rd16 =>
 zaf 3 (.ptr nx3 0) v15 (H2.put nx3 (some (.row 3 [.int .i64 0, .int .i64 0, .str []]))) fun _ _ fr19 D20 =>
 nx3 ∉ [] ∧
 nx3 ∉ [] ∧
 nx3 ∉ [] ∧
 nx3 ∉ rd7 ∧
 nx3 ∉ [] ∧
 nx3 ∉ [] ∧
 nx3 ∉ [] ∧
 nx3 ∉ rd11 ∧
 nx3 ∉ [] ∧
 nx3 ∉ [] ∧
 nx3 ∉ [] ∧
 nx3 ∉ rd16 ∧
 NC v1 fun v21 =>
 FA 3 v21 fun v22 =>
 LDR false 1 v22 ((H2.put nx3 (some (.row 3 [.int .i64 0, .int .i64 0, .str []]))).apply D20) fun v23 _ =>
 NC v1 fun v25 =>
 FA 3 v25 fun v26 =>
 LDR false 1 v26 ((H2.put nx3 (some (.row 3 [.int .i64 0, .int .i64 0, .str []]))).apply D20) fun v27 _ =>
 LNL v27 fun v29 =>
 BI .sub v29 (.int .i64 1) fun v30 =>
 zax 3 v23 none (some v30) ((H2.put nx3 (some (.row 3 [.int .i64 0, .int .i64 0, .str []]))).apply D20) fun v31 _ fr33 D34 =>
 NC v1 fun v35 =>
 FA 3 v35 fun v36 =>
 zaf 1 v36 v31 (((H2.put nx3 (some (.row 3 [.int .i64 0, .int .i64 0, .str []]))).apply D20).apply D34) fun _ _ fr39 D40 =>
 LD true 3 (.ptr nx3 0) ((((H2.put nx3 (some (.row 3 [.int .i64 0, .int .i64 0, .str []]))).apply D20).apply D34).apply D40) fun v41 =>
 ST 3 (.ptr nx 0) v41 ((((H2.put nx3 (some (.row 3 [.int .i64 0, .int .i64 0, .str []]))).apply D20).apply D34).apply D40) fun H42 =>
 LD true 3 (.ptr nx 0) H42 fun v43 =>
 Q v43 H42 ((((nx3 + 1) + fr19.length) + fr33.length) + fr39.length)
def zkm (a0 : AV) (H : Heap) (nx : Nat) (Q : QT) : Prop :=
 za Tryz.prog 47 [a0] (H.put nx (some (AObj.row 3 [AV.int IntKind.i64 0, AV.int IntKind.i64 0, AV.str []]))) (nx + 1) (zkn nx Q)
theorem zpg (a0 : AV) (H : Heap) (nx : Nat) (Q : QT) : zkm a0 H nx Q → za Tryz.prog 50 [a0] H nx Q :=
  ze (lv := lvOf []) (c := zp Tryz.f50) zy zz mixed Tryz.func50 (by kernel_rfl) (by kernel_rfl) (by kernel_rfl) (by kernel_rfl) (by kernel_rfl)
def ztf (Q : QT) (v22 : AV) (H23 : Heap) (nx24 : Nat) : Prop :=
 Q (AV.tup []) H23 nx24
def zte (Q : QT) (v26 : AV) (H27 : Heap) (nx28 : Nat) : Prop :=
 Q (AV.tup []) H27 nx28
def zkj (nx3 : Nat) (fr7 : List Nat) (H4 : Heap) (D8 : zj) (rd10 : List Nat) (rd6 : List Nat) (a0 : AV) (Q : QT) (v11 : AV) (rd12 : List Nat) (fr13 : List Nat) (D14 : zj) : Prop :=
 EX v11 0 fun v15 =>
 EX v11 1 fun v16 =>
 zaf 3 (.ptr (((nx3 + 1) + fr7.length) + fr13.length) 0) v15 (((H4.apply D8).apply D14).put ((((nx3 + 1) + fr7.length) + fr13.length)) (some (.row 3 [.int .i64 0, .int .i64 0, .str []]))) fun _ _ fr19 D20 =>
 zh (domD D8) [] (
 zh (domD D8) rd10 (
 zh (domD D8) [] (
 (((nx3 + 1) + fr7.length) + fr13.length) ∉ [] ∧
 (((nx3 + 1) + fr7.length) + fr13.length) ∉ [] ∧
 zh (domD D8) [] (
 zh (domD D8) [(((nx3 + 1) + fr7.length) + fr13.length)] (
 (((nx3 + 1) + fr7.length) + fr13.length) ∉ rd6 ∧
 (((nx3 + 1) + fr7.length) + fr13.length) ∉ rd10 ∧
 zh (domD D14) [] (
 zh (domD D14) [(((nx3 + 1) + fr7.length) + fr13.length)] (
 (((nx3 + 1) + fr7.length) + fr13.length) ∉ rd12 ∧
 (((nx3 + 1) + fr7.length) + fr13.length) ∉ [] ∧
 (((nx3 + 1) + fr7.length) + fr13.length) ∉ [] ∧
 (((nx3 + 1) + fr7.length) + fr13.length) ∉ [] ∧
 zh (domD D20) [] (
 BI .neq v16 (.int .i64 0) fun v21 =>
 CNDC v21
 (za Tryz.prog 32 [a0, v16] ((((H4.apply D8).apply D14).put ((((nx3 + 1) + fr7.length) + fr13.length)) (some (.row 3 [.int .i64 0, .int .i64 0, .str []]))).apply D20) (((((nx3 + 1) + fr7.length) + fr13.length) + 1) + fr19.length) (ztf Q))
 (LD true 3 (.ptr (((nx3 + 1) + fr7.length) + fr13.length) 0) ((((H4.apply D8).apply D14).put ((((nx3 + 1) + fr7.length) + fr13.length)) (some (.row 3 [.int .i64 0, .int .i64 0, .str []]))).apply D20) fun v25 =>
 za Tryz.prog 48 [a0, v25] ((((H4.apply D8).apply D14).put ((((nx3 + 1) + fr7.length) + fr13.length)) (some (.row 3 [.int .i64 0, .int .i64 0, .str []]))).apply D20) (((((nx3 + 1) + fr7.length) + fr13.length) + 1) + fr19.length) (zte Q))))))))))
def zki (nx3 : Nat) (H4 : Heap) (a1 : AV) (a0 : AV) (Q : QT) (v5 : AV) (rd6 : List Nat) (fr7 : List Nat) (D8 : zj) : Prop :=
 LDR true 3 (.ptr nx3 0) (H4.apply D8) fun v9 rd10 =>
 zw Tryz.prog (.clo 70 []) [a1, v5, v9] (H4.apply D8) ((nx3 + 1) + fr7.length) (zkj nx3 fr7 H4 D8 rd10 rd6 a0 Q)
def zkh (a0 : AV) (a1 : AV) (Q : QT) (v1 : AV) (H2 : Heap) (nx3 : Nat) : Prop :=
 ST 3 (.ptr nx3 0) v1 (H2.put nx3 (some (.row 3 [.int .i64 0, .int .i64 0, .str []]))) fun H4 =>
 zw Tryz.prog (.clo 50 []) [a0] H4 (nx3 + 1) (zki nx3 H4 a1 a0 Q)
def zkg (a0 a1 : AV) (H : Heap) (nx : Nat) (Q : QT) : Prop :=
 za Tryz.prog 50 [a0] H nx (zkh a0 a1 Q)
theorem zpe (a0 a1 : AV) (H : Heap) (nx : Nat) (Q : QT) : zkg a0 a1 H nx Q → za Tryz.prog 51 [a0, a1] H nx Q :=
  ze (lv := lvOf []) (c := zp Tryz.f51) zy zz mixed Tryz.func51 (by kernel_rfl) (by kernel_rfl) (by kernel_rfl) (by kernel_rfl) (by kernel_rfl)
def zsb (Q : QT) (v15 : AV) (H16 : Heap) (nx17 : Nat) : Prop :=
 Q (AV.tup []) H16 nx17
def zsa (Q : QT) (v58 : AV) (H59 : Heap) (nx60 : Nat) : Prop :=
 Q (AV.tup []) H59 nx60
def zev (a0 : AV) (Q : QT) (nx3 : Nat) (v5 : AV) (H6 : Heap) (nx7 : Nat) : Prop :=
 ST 3 (.ptr nx7 0) v5 (H6.put nx7 (some (.row 3 [.int .i64 0, .int .i64 0, .str []]))) fun H8 =>
 NC a0 fun v9 =>
 FA 0 v9 fun v10 =>
 FA 6 v10 fun v11 =>
 FA 1 v11 fun v12 =>
 LD false 1 v12 H8 fun v13 =>
 BI .eql v13 (.int .i64 0) fun v14 =>
 CNDC v14
 (za Tryz.prog 32 [a0, .int .i64 13] H8 (nx7 + 1) (zsb Q))
 (NC a0 fun v18 =>
 FA 0 v18 fun v19 =>
 FA 6 v19 fun v20 =>
 FA 1 v20 fun v21 =>
 LD false 1 v21 H8 fun v22 =>
 BI .sub v22 (.int .i64 1) fun v23 =>
 NC a0 fun v24 =>
 FA 0 v24 fun v25 =>
 FA 6 v25 fun v26 =>
 FA 1 v26 fun v27 =>
 ST 1 v27 v23 H8 fun H28 =>
 NC a0 fun v29 =>
 FA 0 v29 fun v30 =>
 FA 5 v30 fun v31 =>
 LDR false 1 v31 H28 fun v32 rd33 =>
 LDR true 3 (.ptr nx7 0) H28 fun v34 _ =>
 LDR true 3 (.ptr nx3 0) H28 fun v36 _ =>
 BD (zab tab [(78, 0), (78, 3)]) [.int .i64 0, .int .i64 0, .str [], .int .i64 0, .int .i64 0, .str []] [(0, v34), (1, v36)] fun v38 =>
 BSL 1 6 [.int .i64 0, .int .i64 0, .str [], .int .i64 0, .int .i64 0, .str []] [(0, v38)] fun cells39 =>
 zah 6 64 v32 (.slc (nx7 + 1) 0 1) (H28.put ((nx7 + 1)) (some (.row 6 cells39))) (nx7 + 2) fun v40 _ fr42 D43 =>
 NC a0 fun v44 =>
 FA 0 v44 fun v45 =>
 FA 5 v45 fun v46 =>
 zaf 1 v46 v40 ((H28.put ((nx7 + 1)) (some (.row 6 cells39))).apply D43) fun _ _ fr49 D50 =>
 (nx7 + 1) ∉ [] ∧
 (nx7 + 1) ∉ [] ∧
 (nx7 + 1) ∉ [] ∧
 (nx7 + 1) ∉ [] ∧
 (nx7 + 1) ∉ [] ∧
 (nx7 + 1) ∉ rd33 ∧
 zh (domD D43) [] (
 NC a0 fun v51 =>
 FA 0 v51 fun v52 =>
 FA 5 v52 fun v53 =>
 LD false 1 v53 (((H28.put ((nx7 + 1)) (some (.row 6 cells39))).apply D43).apply D50) fun v54 =>
 LNL v54 fun v55 =>
 BI .sub v55 (.int .i64 1) fun v56 =>
 BD (zab tab [(3, 0), (3, 1), (9, 2)]) [.int .i64 0, .int .i64 0, .str []] [(0, .int .i64 2), (1, v56)] fun v57 =>
 za Tryz.prog 48 [a0, v57] (((H28.put ((nx7 + 1)) (some (.row 6 cells39))).apply D43).apply D50) (((nx7 + 2) + fr42.length) + fr49.length) (zsa Q)))
def zjf (a0 : AV) (Q : QT) (v1 : AV) (H2 : Heap) (nx3 : Nat) : Prop :=
 ST 3 (.ptr nx3 0) v1 (H2.put nx3 (some (.row 3 [.int .i64 0, .int .i64 0, .str []]))) fun H4 =>
 za Tryz.prog 50 [a0] H4 (nx3 + 1) (zev a0 Q nx3)
def zje (a0 : AV) (H : Heap) (nx : Nat) (Q : QT) : Prop :=
 za Tryz.prog 50 [a0] H nx (zjf a0 Q)
theorem znm (a0 : AV) (H : Heap) (nx : Nat) (Q : QT) : zje a0 H nx Q → za Tryz.prog 52 [a0] H nx Q :=
  ze (lv := lvOf []) (c := zp Tryz.f52) zy zz mixed Tryz.func52 (by kernel_rfl) (by kernel_rfl) (by kernel_rfl) (by kernel_rfl) (by kernel_rfl)
def zse (Q : QT) (v7 : AV) (H8 : Heap) (nx9 : Nat) : Prop :=
 Q AV.nilp H8 nx9
def zew (a0 : AV) (Q : QT) (v1 : AV) (H2 : Heap) (nx3 : Nat) : Prop :=
 ST 3 (.ptr nx3 0) v1 (H2.put nx3 (some (.row 3 [.int .i64 0, .int .i64 0, .str []]))) fun H4 =>
 LD false 1 (.ptr nx3 0) H4 fun v5 =>
 BI .neq v5 (.int .i64 2) fun v6 =>
 CNDC v6
 (za Tryz.prog 32 [a0, .int .i64 11] H4 (nx3 + 1) (zse Q))
 (NC a0 fun v10 =>
 FA 0 v10 fun v11 =>
 FA 5 v11 fun v12 =>
 LDR false 1 v12 H4 fun v13 _ =>
 LDR false 1 (.ptr nx3 1) H4 fun v15 _ =>
 IA 6 v13 v15 fun v17 =>
 Q v17 H4 (nx3 + 1))
def zji (a0 : AV) (H : Heap) (nx : Nat) (Q : QT) : Prop :=
 za Tryz.prog 50 [a0] H nx (zew a0 Q)
theorem znp (a0 : AV) (H : Heap) (nx : Nat) (Q : QT) : zji a0 H nx Q → za Tryz.prog 53 [a0] H nx Q :=
  ze (lv := lvOf []) (c := zp Tryz.f53) zy zz mixed Tryz.func53 (by kernel_rfl) (by kernel_rfl) (by kernel_rfl) (by kernel_rfl) (by kernel_rfl)
def zdd (Q : QT) (a1 : AV) (nx3 : Nat) (v5 : AV) (H6 : Heap) (nx7 : Nat) : Prop :=
 BP .eql v5 .nilp fun v8 =>
 CNDC v8
 (Q (.tup []) H6 nx7)
 (CNDC a1
 (LD true 3 (.ptr nx3 0) H6 fun v9 =>
 NC v5 fun v10 =>
 FA 0 v10 fun v11 =>
 ST 3 v11 v9 H6 fun H12 =>
 Q (.tup []) H12 nx7)
 (LD true 3 (.ptr nx3 0) H6 fun v13 =>
 NC v5 fun v14 =>
 FA 3 v14 fun v15 =>
 ST 3 v15 v13 H6 fun H16 =>
 Q (.tup []) H16 nx7))
def zkl (a0 : AV) (Q : QT) (a1 : AV) (v1 : AV) (H2 : Heap) (nx3 : Nat) : Prop :=
 ST 3 (.ptr nx3 0) v1 (H2.put nx3 (some (.row 3 [.int .i64 0, .int .i64 0, .str []]))) fun H4 =>
 za Tryz.prog 53 [a0] H4 (nx3 + 1) (zdd Q a1 nx3)
def zkk (a0 a1 : AV) (H : Heap) (nx : Nat) (Q : QT) : Prop :=
 za Tryz.prog 50 [a0] H nx (zkl a0 Q a1)
theorem zpf (a0 a1 : AV) (H : Heap) (nx : Nat) (Q : QT) : zkk a0 a1 H nx Q → za Tryz.prog 54 [a0, a1] H nx Q :=
  ze (lv := lvOf []) (c := zp Tryz.f54) zy zz mixed Tryz.func54 (by kernel_rfl) (by kernel_rfl) (by kernel_rfl) (by kernel_rfl) (by kernel_rfl)
def zti (Q : QT) (v7 : AV) (H8 : Heap) (nx9 : Nat) : Prop :=
 Q (AV.tup []) H8 nx9
def zth (Q : QT) (v30 : AV) (H31 : Heap) (nx32 : Nat) : Prop :=
 Q (AV.tup []) H31 nx32
def ztg (Q : QT) (v34 : AV) (H35 : Heap) (nx36 : Nat) : Prop :=
 Q (AV.tup []) H35 nx36
def zde (Q : QT) (K17 : J3) (xs18 : List AV) (H19 : Heap) (nx20 : Nat) : Prop :=
 BI .lss (nth xs18 4) (nth xs18 3) fun v21 =>
 CNDC v21
 (IA 4 (nth xs18 2) (nth xs18 4) fun v22 =>
 LD true 4 v22 H19 fun v23 =>
 ST 4 (.ptr nx20 0) v23 (H19.put nx20 (some (.row 4 [.str [], .int .i64 0, .int .i64 0, .str []]))) fun H24 =>
 LD false 1 (.ptr nx20 0) H24 fun v25 =>
 FA 2 (nth xs18 1) fun v26 =>
 LD false 1 v26 H24 fun v27 =>
 BS .eql v25 v27 fun v28 =>
 CNDC v28
 (LD true 3 (.ptr nx20 1) H24 fun v29 =>
 za Tryz.prog 48 [nth xs18 0, v29] H24 (nx20 + 1) (zth Q))
 (BI .add (nth xs18 4) (.int .i64 1) fun v33 =>
 K17 [nth xs18 0, nth xs18 1, nth xs18 2, nth xs18 3, v33] H24 (nx20 + 1)))
 (za Tryz.prog 48 [nth xs18 0, .agg [.int .i64 0, .int .i64 0, .str []]] H19 nx20 (ztg Q))
def zfs (a0 : AV) (Q : QT) (v1 : AV) (H2 : Heap) (nx3 : Nat) : Prop :=
 ST 3 (.ptr nx3 0) v1 (H2.put nx3 (some (.row 3 [.int .i64 0, .int .i64 0, .str []]))) fun H4 =>
 LD false 1 (.ptr nx3 0) H4 fun v5 =>
 BI .neq v5 (.int .i64 1) fun v6 =>
 CNDC v6
 (za Tryz.prog 32 [a0, .int .i64 11] H4 (nx3 + 1) (zti Q))
 (NC a0 fun v10 =>
 FA 9 v10 fun v11 =>
 LD false 1 v11 H4 fun v12 =>
 NC v12 fun v13 =>
 FA 1 v13 fun v14 =>
 LD false 1 v14 H4 fun v15 =>
 LNL v15 fun v16 =>
 LP (zde Q) [a0, .ptr nx3 0, v15, v16, .int .i64 0] H4 (nx3 + 1))
def zko (a0 : AV) (H : Heap) (nx : Nat) (Q : QT) : Prop :=
 za Tryz.prog 50 [a0] H nx (zfs a0 Q)
theorem zph (a0 : AV) (H : Heap) (nx : Nat) (Q : QT) : zko a0 H nx Q → za Tryz.prog 55 [a0] H nx Q :=
  ze (lv := lvOf [(2, 4, [0, 2, 18, 19, 20])]) (c := zp Tryz.f55) zy zz mixed Tryz.func55 (by kernel_rfl) (by kernel_rfl) (by kernel_rfl) (by kernel_rfl) (by kernel_rfl)
def zsd (Q : QT) (v7 : AV) (H8 : Heap) (nx9 : Nat) : Prop :=
 Q (AV.tup []) H8 nx9
def zsc (Q : QT) (v16 : AV) (H17 : Heap) (nx18 : Nat) : Prop :=
 Q (AV.tup []) H17 nx18
def zcr (a0 : AV) (Q : QT) (v1 : AV) (H2 : Heap) (nx3 : Nat) : Prop :=
 ST 3 (.ptr nx3 0) v1 (H2.put nx3 (some (.row 3 [.int .i64 0, .int .i64 0, .str []]))) fun H4 =>
 LD false 1 (.ptr nx3 0) H4 fun v5 =>
 BI .neq v5 (.int .i64 1) fun v6 =>
 CNDC v6
 (za Tryz.prog 32 [a0, .int .i64 11] H4 (nx3 + 1) (zsd Q))
 (NC a0 fun v10 =>
 FA 0 v10 fun v11 =>
 FA 6 v11 fun v12 =>
 FA 2 v12 fun v13 =>
 LD false 1 v13 H4 fun v14 =>
 BI .eql v14 (.int .i64 0) fun v15 =>
 CNDC v15
 (za Tryz.prog 48 [a0, .agg [.int .i64 0, .int .i64 0, .str []]] H4 (nx3 + 1) (zsc Q))
 (NC a0 fun v19 =>
 FA 0 v19 fun v20 =>
 FA 6 v20 fun v21 =>
 FA 2 v21 fun v22 =>
 LD false 1 v22 H4 fun v23 =>
 BI .sub v23 (.int .i64 1) fun v24 =>
 NC a0 fun v25 =>
 FA 0 v25 fun v26 =>
 FA 6 v26 fun v27 =>
 FA 2 v27 fun v28 =>
 ST 1 v28 v24 H4 fun H29 =>
 LD false 1 (.ptr nx3 2) H29 fun v30 =>
 BD (zab tab [(3, 0), (9, 1), (30, 2)]) [.int .i64 0, .str [], .int .i64 0] [(0, .int .i64 3), (1, v30)] fun v31 =>
 NC a0 fun v32 =>
 FA 10 v32 fun v33 =>
 ST 3 v33 v31 H29 fun H34 =>
 Q (.tup []) H34 (nx3 + 1)))
def zjg (a0 : AV) (H : Heap) (nx : Nat) (Q : QT) : Prop :=
 za Tryz.prog 50 [a0] H nx (zcr a0 Q)
theorem znn (a0 : AV) (H : Heap) (nx : Nat) (Q : QT) : zjg a0 H nx Q → za Tryz.prog 56 [a0] H nx Q :=
  ze (lv := lvOf []) (c := zp Tryz.f56) zy zz mixed Tryz.func56 (by kernel_rfl) (by kernel_rfl) (by kernel_rfl) (by kernel_rfl) (by kernel_rfl)
def zsf (Q : QT) (v7 : AV) (H8 : Heap) (nx9 : Nat) : Prop :=
 Q (AV.tup []) H8 nx9
def zcs (nx : Nat) (a0 : AV) (Q : QT) (v10 : AV) (H11 : Heap) (nx12 : Nat) : Prop :=
 NC v10 fun v13 =>
 FA 3 v13 fun v14 =>
 LDR false 1 v14 H11 fun v15 _ =>
 LNL v15 fun v17 =>
 LDR false 1 (.ptr nx 2) H11 fun v18 _ =>
 BI .sub v17 v18 fun v20 =>
 NC a0 fun v21 =>
 FA 0 v21 fun v22 =>
 FA 2 v22 fun v23 =>
 FA 0 v23 fun v24 =>
 LDR false 1 v24 H11 fun v25 _ =>
 LDR false 1 (.ptr nx 1) H11 fun v27 _ =>
 IA 3 v25 v27 fun v29 =>
 FA 1 v29 fun v30 =>
 LDR false 1 v30 H11 fun v31 _ =>
 MK 32 v31 v31 fun n33 =>
 NC v10 fun v34 =>
 FA 3 v34 fun v35 =>
 LD false 1 v35 (H11.put nx12 (some (.row 3 (List.replicate n33 [.int .i64 0, .int .i64 0, .str []]).flatten))) fun v36 =>
 SL 3 v36 (some v20) none (H11.put nx12 (some (.row 3 (List.replicate n33 [.int .i64 0, .int .i64 0, .str []]).flatten))) fun v37 =>
 CP 3 (.slc nx12 0 n33) v37 (H11.put nx12 (some (.row 3 (List.replicate n33 [.int .i64 0, .int .i64 0, .str []]).flatten))) fun _ H39 =>
 NC v10 fun v40 =>
 FA 3 v40 fun v41 =>
 LD false 1 v41 H39 fun v42 =>
 SL 3 v42 none (some v20) H39 fun v43 =>
 NC v10 fun v44 =>
 FA 3 v44 fun v45 =>
 ST 1 v45 v43 H39 fun H46 =>
 NC a0 fun v47 =>
 FA 0 v47 fun v48 =>
 FA 4 v48 fun v49 =>
 LDR false 1 v49 H46 fun v50 rd51 =>
 LDR false 1 (.ptr nx 1) H46 fun v52 _ =>
 BD (zab tab [(3, 0), (3, 1), (74, 2), (74, 3)]) [.int .i64 0, .int .i64 0, .nils, .nils] [(0, v52), (2, .slc nx12 0 n33)] fun v54 =>
 BSL 1 4 [.int .i64 0, .int .i64 0, .nils, .nils] [(0, v54)] fun cells55 =>
 zah 4 64 v50 (.slc (nx12 + 1) 0 1) (H46.put ((nx12 + 1)) (some (.row 4 cells55))) (nx12 + 2) fun v56 _ fr58 D59 =>
 NC a0 fun v60 =>
 FA 0 v60 fun v61 =>
 FA 4 v61 fun v62 =>
 zaf 1 v62 v56 ((H46.put ((nx12 + 1)) (some (.row 4 cells55))).apply D59) fun _ _ fr65 D66 =>
 (nx12 + 1) ∉ [] ∧
 (nx12 + 1) ∉ [] ∧
 (nx12 + 1) ∉ [] ∧
 (nx12 + 1) ∉ [] ∧
 (nx12 + 1) ∉ [] ∧
 (nx12 + 1) ∉ rd51 ∧
 zh (domD D59) [] (
 Q (.tup []) (((H46.put ((nx12 + 1)) (some (.row 4 cells55))).apply D59).apply D66) (((nx12 + 2) + fr58.length) + fr65.length))
def zex (a0 a1 : AV) (H : Heap) (nx : Nat) (Q : QT) : Prop :=
 a1.sure = true ∧
 NC a0 fun v1 =>
 FA 0 v1 fun v2 =>
 FA 4 v2 fun v3 =>
 LD false 1 v3 (H.put nx (some (.row a1.cells.length a1.cells))) fun v4 =>
 LNL v4 fun v5 =>
 BI .geq v5 (.int .i64 12) fun v6 =>
 CNDC v6
 (za Tryz.prog 32 [a0, .int .i64 9] (H.put nx (some (.row a1.cells.length a1.cells))) (nx + 1) (zsf Q))
 (za Tryz.prog 47 [a0] (H.put nx (some (.row a1.cells.length a1.cells))) (nx + 1) (zcs nx a0 Q))
theorem znq (a0 a1 : AV) (H : Heap) (nx : Nat) (Q : QT) : zex a0 a1 H nx Q → za Tryz.prog 58 [a0, a1] H nx Q :=
  ze (lv := lvOf []) (c := zp Tryz.f58) zy zz mixed Tryz.func58 (by kernel_rfl) (by kernel_rfl) (by kernel_rfl) (by kernel_rfl) (by kernel_rfl)
def zjk (a0 : AV) (H4 : Heap) (D20 : zj) (D27 : zj) (Q : QT) (nx3 : Nat) (fr19 : List Nat) (fr26 : List Nat) (v41 : AV) (_ : List Nat) (fr43 : List Nat) (D44 : zj) : Prop :=
 BD (zab tab [(3, 0), (9, 1), (30, 2)]) [.int .i64 0, .str [], .int .i64 0] [(0, .int .i64 4), (1, v41)] fun v45 =>
 NC a0 fun v46 =>
 FA 10 v46 fun v47 =>
 zaf 3 v47 v45 (((H4.apply D20).apply D27).apply D44) fun _ _ fr50 D51 =>
 zh (domD D44) [] (
 Q (.tup []) ((((H4.apply D20).apply D27).apply D44).apply D51) (((((nx3 + 1) + fr19.length) + fr26.length) + fr43.length) + fr50.length))
def zsg (Q : QT) (v53 : AV) (H54 : Heap) (nx55 : Nat) : Prop :=
 Q (AV.tup []) H54 nx55
def zey (a0 : AV) (Q : QT) (v1 : AV) (H2 : Heap) (nx3 : Nat) : Prop :=
 ST 3 (.ptr nx3 0) v1 (H2.put nx3 (some (.row 3 [.int .i64 0, .int .i64 0, .str []]))) fun H4 =>
 NC a0 fun v5 =>
 FA 0 v5 fun v6 =>
 FA 4 v6 fun v7 =>
 LDR false 1 v7 H4 fun v8 _ =>
 NC a0 fun v10 =>
 FA 0 v10 fun v11 =>
 FA 4 v11 fun v12 =>
 LDR false 1 v12 H4 fun v13 _ =>
 LNL v13 fun v15 =>
 BI .sub v15 (.int .i64 1) fun v16 =>
 zax 4 v8 none (some v16) H4 fun v17 _ fr19 D20 =>
 NC a0 fun v21 =>
 FA 0 v21 fun v22 =>
 FA 4 v22 fun v23 =>
 zaf 1 v23 v17 (H4.apply D20) fun _ _ fr26 D27 =>
 NC a0 fun v28 =>
 FA 0 v28 fun v29 =>
 FA 4 v29 fun v30 =>
 LD false 1 v30 ((H4.apply D20).apply D27) fun v31 =>
 LNL v31 fun v32 =>
 BI .eql v32 (.int .i64 0) fun v33 =>
 CNDC v33
 (NC a0 fun v34 =>
 FA 0 v34 fun v35 =>
 FA 5 v35 fun v36 =>
 LDR false 1 v36 ((H4.apply D20).apply D27) fun v37 _ =>
 LDR true 3 (.ptr nx3 0) ((H4.apply D20).apply D27) fun v39 _ =>
 zw Tryz.prog (.clo 57 []) [v37, v39, .int .i64 4] ((H4.apply D20).apply D27) (((nx3 + 1) + fr19.length) + fr26.length) (zjk a0 H4 D20 D27 Q nx3 fr19 fr26))
 (LD true 3 (.ptr nx3 0) ((H4.apply D20).apply D27) fun v52 =>
 za Tryz.prog 48 [a0, v52] ((H4.apply D20).apply D27) (((nx3 + 1) + fr19.length) + fr26.length) (zsg Q))
def zjj (a0 : AV) (H : Heap) (nx : Nat) (Q : QT) : Prop :=
 za Tryz.prog 50 [a0] H nx (zey a0 Q)
theorem znr (a0 : AV) (H : Heap) (nx : Nat) (Q : QT) : zjj a0 H nx Q → za Tryz.prog 59 [a0] H nx Q :=
  ze (lv := lvOf []) (c := zp Tryz.f59) zy zz mixed Tryz.func59 (by kernel_rfl) (by kernel_rfl) (by kernel_rfl) (by kernel_rfl) (by kernel_rfl)
def zrz (Q : QT) (v51 : AV) (H52 : Heap) (nx53 : Nat) : Prop :=
 Q (AV.tup []) H52 nx53
def zjd (D69 : zj) (Q : QT) (H46 : Heap) (nx3 : Nat) (fr27 : List Nat) (fr68 : List Nat) (v70 : AV) (rd71 : List Nat) (fr72 : List Nat) (D73 : zj) : Prop :=
 zh (domD D69) [] (
 Q (AV.tup []) ((H46.apply D69).apply D73) ((((nx3 + 1) + fr27.length) + fr68.length) + fr72.length))
def zjc (a0 : AV) (H46 : Heap) (nx3 : Nat) (fr27 : List Nat) (Q : QT) (v66 : AV) (rd67 : List Nat) (fr68 : List Nat) (D69 : zj) : Prop :=
 zw Tryz.prog (AV.clo 48 []) [a0, v66] (H46.apply D69) (((nx3 + 1) + fr27.length) + fr68.length) (zjd D69 Q H46 nx3 fr27 fr68)
def zjb (Q : QT) (H46 : Heap) (nx3 : Nat) (fr27 : List Nat) (v84 : AV) (rd85 : List Nat) (fr86 : List Nat) (D87 : zj) : Prop :=
 Q (AV.tup []) (H46.apply D87) (((nx3 + 1) + fr27.length) + fr86.length)
def zja (v91 : AV) (v93 : AV) (H46 : Heap) (v90 : AV) (rd92 : List Nat) (nx3 : Nat) (rd94 : List Nat) (Q : QT) (fr27 : List Nat) (v95 : AV) (_ : List Nat) (fr97 : List Nat) (D98 : zj) : Prop :=
 IA 3 v91 v93 fun v99 =>
 zaf 3 v99 v95 (H46.apply D98) fun _ _ fr102 D103 =>
 zh (domD D98) [] (
 zh (domD D98) [] (
 zh (domD D98) [] (
 SOFT v90 v91 D98 rd92 (
 zh (domD D98) [] (
 SOFT (.ptr nx3 1) v93 D98 rd94 (
 Q (.tup []) ((H46.apply D98).apply D103) ((((nx3 + 1) + fr27.length) + fr97.length) + fr102.length)))))))
def zry (Q : QT) (v106 : AV) (H107 : Heap) (nx108 : Nat) : Prop :=
 Q (AV.tup []) H107 nx108
def zrx (Q : QT) (v110 : AV) (H111 : Heap) (nx112 : Nat) : Prop :=
 Q (AV.tup []) H111 nx112
def zrw (Q : QT) (v121 : AV) (H122 : Heap) (nx123 : Nat) : Prop :=
 Q (AV.tup []) H122 nx123
def zes (a0 : AV) (Q : QT) (v114 : AV) (H115 : Heap) (nx116 : Nat) : Prop :=
 BP .neq v114 .nilp fun v117 =>
 CNDC v117
 (NC v114 fun v118 =>
 FA 0 v118 fun v119 =>
 LD true 3 v119 H115 fun v120 =>
 za Tryz.prog 48 [a0, v120] H115 nx116 (zrw Q))
 (Q (.tup []) H115 nx116)
def zpz (Q : QT) (v132 : AV) (H133 : Heap) (nx134 : Nat) : Prop :=
 Q (AV.tup []) H133 nx134
def zdr (a0 : AV) (Q : QT) (v125 : AV) (H126 : Heap) (nx127 : Nat) : Prop :=
 BP .neq v125 .nilp fun v128 =>
 CNDC v128
 (NC v125 fun v129 =>
 FA 3 v129 fun v130 =>
 LD true 3 v130 H126 fun v131 =>
 za Tryz.prog 48 [a0, v131] H126 nx127 (zpz Q))
 (Q (.tup []) H126 nx127)
def zpy (Q : QT) (v138 : AV) (H139 : Heap) (nx140 : Nat) : Prop :=
 Q (AV.tup []) H139 nx140
def zpx (Q : QT) (v144 : AV) (H145 : Heap) (nx146 : Nat) : Prop :=
 Q (AV.tup []) H145 nx146
def zpw (Q : QT) (v148 : AV) (H149 : Heap) (nx150 : Nat) : Prop :=
 Q (AV.tup []) H149 nx150
def zpv (Q : QT) (v161 : AV) (H162 : Heap) (nx163 : Nat) : Prop :=
 Q (AV.tup []) H162 nx163
def zht (a0 : AV) (Q : QT) (v158 : AV) (H159 : Heap) (nx160 : Nat) : Prop :=
 za Tryz.prog 48 [a0, v158] H159 nx160 (zpv Q)
def zpu (Q : QT) (v165 : AV) (H166 : Heap) (nx167 : Nat) : Prop :=
 Q (AV.tup []) H166 nx167
def zhs (a0 : AV) (H46 : Heap) (D177 : zj) (v171 : AV) (v172 : AV) (rd173 : List Nat) (Q : QT) (nx3 : Nat) (fr27 : List Nat) (fr176 : List Nat) (v178 : AV) (_ : List Nat) (fr180 : List Nat) (D181 : zj) : Prop :=
 BD (zab tab [(3, 0), (9, 1), (30, 2)]) [.int .i64 0, .str [], .int .i64 0] [(0, .int .i64 2), (1, v178)] fun v182 =>
 NC a0 fun v183 =>
 FA 10 v183 fun v184 =>
 zaf 3 v184 v182 ((H46.apply D177).apply D181) fun _ _ fr187 D188 =>
 zh (domD D177) [] (
 zh (domD D177) [] (
 zh (domD D177) [] (
 zh (domD D177) [] (
 zh (domD D177) [] (
 SOFT v171 v172 D177 rd173 (
 zh (domD D181) [] (
 Q (.tup []) (((H46.apply D177).apply D181).apply D188) (((((nx3 + 1) + fr27.length) + fr176.length) + fr180.length) + fr187.length))))))))
def zhr (v172 : AV) (H46 : Heap) (nx3 : Nat) (fr27 : List Nat) (a0 : AV) (v171 : AV) (rd173 : List Nat) (Q : QT) (v174 : AV) (rd175 : List Nat) (fr176 : List Nat) (D177 : zj) : Prop :=
 zw Tryz.prog (AV.clo 57 []) [v172, v174, AV.int IntKind.i64 4] (H46.apply D177) (((nx3 + 1) + fr27.length) + fr176.length) (zhs a0 H46 D177 v171 v172 rd173 Q nx3 fr27 fr176)
def zck (nx3 : Nat) (v1 : AV) (Q : QT) (v195 : AV) (H196 : Heap) (nx197 : Nat) : Prop :=
 ST 3 (.ptr nx197 0) v195 (H196.put nx197 (some (.row 3 [.int .i64 0, .int .i64 0, .str []]))) fun H198 =>
 LD false 1 (.ptr nx197 0) H198 fun v199 =>
 BI .eql v199 (.int .i64 0) fun v200 =>
 CND v200
 (LD false 1 (.ptr nx197 1) H198 fun v201 =>
 BI .eql v201 (.int .i64 0) fun v202 =>
 CNDC v202
 (LD false 1 (.ptr nx3 1) H198 fun v203 =>
 NC v1 fun v204 =>
 FA 1 v204 fun v205 =>
 ST 1 v205 v203 H198 fun H206 =>
 Q (.tup []) H206 (nx197 + 1))
 (Q (.tup []) H198 (nx197 + 1)))
 (Q (.tup []) H198 (nx197 + 1))
def zpt (Q : QT) (v209 : AV) (H210 : Heap) (nx211 : Nat) : Prop :=
 Q (AV.tup []) H210 nx211
def zps (Q : QT) (v213 : AV) (H214 : Heap) (nx215 : Nat) : Prop :=
 Q (AV.tup []) H214 nx215
def zpr (Q : QT) (v217 : AV) (H218 : Heap) (nx219 : Nat) : Prop :=
 Q (AV.tup []) H218 nx219
def zm (a0 : AV) (Q : QT) (v1 : AV) (H2 : Heap) (nx3 : Nat) : Prop :=
 NC a0 fun v4 =>
 FA 0 v4 fun v5 =>
 FA 2 v5 fun v6 =>
 FA 0 v6 fun v7 =>
 LDR false 1 v7 H2 fun v8 rd9 =>
 NC v1 fun v10 =>
 FA 0 v10 fun v11 =>
 LDR false 1 v11 H2 fun v12 rd13 =>
 IA 3 v8 v12 fun v14 =>
 FA 2 v14 fun v15 =>
 LDR false 1 v15 H2 fun v16 rd17 =>
 NC v1 fun v18 =>
 FA 1 v18 fun v19 =>
 LDR false 1 v19 H2 fun v20 rd21 =>
 IA 3 v16 v20 fun v22 =>
 LDR true 3 v22 H2 fun v23 rd24 =>
 zaf 3 (.ptr nx3 0) v23 (H2.put nx3 (some (.row 3 [.int .i64 0, .int .i64 0, .int .i64 0]))) fun _ _ fr27 D28 =>
 nx3 ∉ [] ∧
 nx3 ∉ [] ∧
 nx3 ∉ [] ∧
 nx3 ∉ [] ∧
 nx3 ∉ [] ∧
 nx3 ∉ rd9 ∧
 nx3 ∉ [] ∧
 nx3 ∉ [] ∧
 nx3 ∉ [] ∧
 nx3 ∉ rd13 ∧
 nx3 ∉ [] ∧
 nx3 ∉ [] ∧
 nx3 ∉ rd17 ∧
 nx3 ∉ [] ∧
 nx3 ∉ [] ∧
 nx3 ∉ [] ∧
 nx3 ∉ rd21 ∧
 nx3 ∉ [] ∧
 nx3 ∉ rd24 ∧
 NC v1 fun v29 =>
 FA 1 v29 fun v30 =>
 LD false 1 v30 ((H2.put nx3 (some (.row 3 [.int .i64 0, .int .i64 0, .int .i64 0]))).apply D28) fun v31 =>
 BI .add v31 (.int .i64 1) fun v32 =>
 NC v1 fun v33 =>
 FA 1 v33 fun v34 =>
 ST 1 v34 v32 ((H2.put nx3 (some (.row 3 [.int .i64 0, .int .i64 0, .int .i64 0]))).apply D28) fun H35 =>
 NC a0 fun v36 =>
 FA 0 v36 fun v37 =>
 FA 6 v37 fun v38 =>
 FA 0 v38 fun v39 =>
 LD false 1 v39 H35 fun v40 =>
 BI .sub v40 (.int .i64 1) fun v41 =>
 NC a0 fun v42 =>
 FA 0 v42 fun v43 =>
 FA 6 v43 fun v44 =>
 FA 0 v44 fun v45 =>
 ST 1 v45 v41 H35 fun H46 =>
 LD false 1 (.ptr nx3 0) H46 fun v47 =>
 BI .eql v47 (.int .i64 1) fun v48 =>
 CNDC v48
 (LD false 1 (.ptr nx3 1) H46 fun v49 =>
 BD (zab tab [(3, 0), (3, 1), (9, 2)]) [.int .i64 0, .int .i64 0, .str []] [(1, v49)] fun v50 =>
 za Tryz.prog 48 [a0, v50] H46 ((nx3 + 1) + fr27.length) (zrz Q))
 (BI .eql v47 (.int .i64 2) fun v54 =>
 CNDC v54
 (NC a0 fun v55 =>
 FA 0 v55 fun v56 =>
 FA 2 v56 fun v57 =>
 FA 1 v57 fun v58 =>
 LDR false 1 v58 H46 fun v59 _ =>
 LDR false 1 (.ptr nx3 1) H46 fun v61 _ =>
 IA 1 v59 v61 fun v63 =>
 LDR false 1 v63 H46 fun v64 _ =>
 zw Tryz.prog (.clo 49 []) [v64] H46 ((nx3 + 1) + fr27.length) (zjc a0 H46 nx3 fr27 Q))
 (BI .eql v47 (.int .i64 3) fun v74 =>
 CNDC v74
 (NC v1 fun v75 =>
 FA 2 v75 fun v76 =>
 LDR false 1 v76 H46 fun v77 _ =>
 LDR false 1 (.ptr nx3 1) H46 fun v79 _ =>
 IA 3 v77 v79 fun v81 =>
 LDR true 3 v81 H46 fun v82 _ =>
 zw Tryz.prog (.clo 48 []) [a0, v82] H46 ((nx3 + 1) + fr27.length) (zjb Q H46 nx3 fr27))
 (BI .eql v47 (.int .i64 4) fun v88 =>
 CNDC v88
 (NC v1 fun v89 =>
 FA 2 v89 fun v90 =>
 LDR false 1 v90 H46 fun v91 rd92 =>
 LDR false 1 (.ptr nx3 1) H46 fun v93 rd94 =>
 zw Tryz.prog (.clo 50 []) [a0] H46 ((nx3 + 1) + fr27.length) (zja v91 v93 H46 v90 rd92 nx3 rd94 Q fr27))
 (BI .eql v47 (.int .i64 5) fun v104 =>
 CNDC v104
 (LD false 1 (.ptr nx3 1) H46 fun v105 =>
 za Tryz.prog 51 [a0, v105] H46 ((nx3 + 1) + fr27.length) (zry Q))
 (BI .eql v47 (.int .i64 6) fun v109 =>
 CNDC v109
 (za Tryz.prog 52 [a0] H46 ((nx3 + 1) + fr27.length) (zrx Q))
 (BI .eql v47 (.int .i64 7) fun v113 =>
 CNDC v113
 (za Tryz.prog 53 [a0] H46 ((nx3 + 1) + fr27.length) (zes a0 Q))
 (BI .eql v47 (.int .i64 8) fun v124 =>
 CNDC v124
 (za Tryz.prog 53 [a0] H46 ((nx3 + 1) + fr27.length) (zdr a0 Q))
 (BI .eql v47 (.int .i64 9) fun v135 =>
 CNDC v135
 (LD false 1 (.ptr nx3 0) H46 fun v136 =>
 BI .eql v136 (.int .i64 9) fun v137 =>
 za Tryz.prog 54 [a0, v137] H46 ((nx3 + 1) + fr27.length) (zpy Q))
 (BI .eql v47 (.int .i64 10) fun v141 =>
 CNDC v141
 (LD false 1 (.ptr nx3 0) H46 fun v142 =>
 BI .eql v142 (.int .i64 9) fun v143 =>
 za Tryz.prog 54 [a0, v143] H46 ((nx3 + 1) + fr27.length) (zpx Q))
 (BI .eql v47 (.int .i64 11) fun v147 =>
 CNDC v147
 (za Tryz.prog 55 [a0] H46 ((nx3 + 1) + fr27.length) (zpw Q))
 (BI .eql v47 (.int .i64 12) fun v151 =>
 CNDC v151
 (NC a0 fun v152 =>
 FA 9 v152 fun v153 =>
 LD false 1 v153 H46 fun v154 =>
 NC v154 fun v155 =>
 FA 0 v155 fun v156 =>
 LD false 1 v156 H46 fun v157 =>
 za Tryz.prog 49 [v157] H46 ((nx3 + 1) + fr27.length) (zht a0 Q))
 (BI .eql v47 (.int .i64 13) fun v164 =>
 CNDC v164
 (za Tryz.prog 56 [a0] H46 ((nx3 + 1) + fr27.length) (zpu Q))
 (BI .eql v47 (.int .i64 14) fun v168 =>
 CNDC v168
 (NC a0 fun v169 =>
 FA 0 v169 fun v170 =>
 FA 5 v170 fun v171 =>
 LDR false 1 v171 H46 fun v172 rd173 =>
 zw Tryz.prog (.clo 50 []) [a0] H46 ((nx3 + 1) + fr27.length) (zhr v172 H46 nx3 fr27 a0 v171 rd173 Q))
 (BI .eql v47 (.int .i64 15) fun v189 =>
 CNDC v189
 (LD false 1 (.ptr nx3 1) H46 fun v190 =>
 NC v1 fun v191 =>
 FA 1 v191 fun v192 =>
 ST 1 v192 v190 H46 fun H193 =>
 Q (.tup []) H193 ((nx3 + 1) + fr27.length))
 (BI .eql v47 (.int .i64 16) fun v194 =>
 CNDC v194
 (za Tryz.prog 50 [a0] H46 ((nx3 + 1) + fr27.length) (zck nx3 v1 Q))
 (BI .eql v47 (.int .i64 17) fun v207 =>
 CNDC v207
 (LD true 3 (.ptr nx3 0) H46 fun v208 =>
 za Tryz.prog 58 [a0, v208] H46 ((nx3 + 1) + fr27.length) (zpt Q))
 (BI .eql v47 (.int .i64 18) fun v212 =>
 CNDC v212
 (za Tryz.prog 59 [a0] H46 ((nx3 + 1) + fr27.length) (zps Q))
 (BI .eql v47 (.int .i64 19) fun v216 =>
 CNDC v216
 (za Tryz.prog 50 [a0] H46 ((nx3 + 1) + fr27.length) (zpr Q))
 (Q (.tup []) H46 ((nx3 + 1) + fr27.length))))))))))))))))))))
def ziz (a0 : AV) (H : Heap) (nx : Nat) (Q : QT) : Prop :=
 za Tryz.prog 47 [a0] H nx (zm a0 Q)
theorem znl (a0 : AV) (H : Heap) (nx : Nat) (Q : QT) : ziz a0 H nx Q → za Tryz.prog 33 [a0] H nx Q :=
  ze (lv := lvOf []) (c := zp Tryz.f33) zy zz mixed Tryz.func33 (by kernel_rfl) (by kernel_rfl) (by kernel_rfl) (by kernel_rfl) (by kernel_rfl)
def zwe (xs7 : List AV) (K6 : J3) (_ : AV) (H28 : Heap) (nx29 : Nat) : Prop :=
 BI .add (nth xs7 4) (.int .i64 1) fun v30 =>
 K6 [nth xs7 0, nth xs7 1, nth xs7 2, nth xs7 3, v30] H28 nx29
def zwd (xs7 : List AV) (K6 : J3) (_ : AV) (H32 : Heap) (nx33 : Nat) : Prop :=
 BI .add (nth xs7 4) (.int .i64 1) fun v34 =>
 K6 [nth xs7 0, nth xs7 1, nth xs7 2, nth xs7 3, v34] H32 nx33
def zds (Q : QT) (K6 : J3) (xs7 : List AV) (H8 : Heap) (nx9 : Nat) : Prop :=
 NC (nth xs7 3) fun v10 =>
 FA 10 v10 fun v11 =>
 FA 0 v11 fun v12 =>
 LD false 1 v12 H8 fun v13 =>
 BI .eql v13 (.int .i64 0) fun v14 =>
 CNDC v14
 (BI .geq (nth xs7 4) (nth xs7 0) fun v15 =>
 CNDC v15
 (NC (nth xs7 3) fun v16 =>
 FA 10 v16 fun v17 =>
 FA 0 v17 fun v18 =>
 ST 1 v18 (.int .i64 1) H8 fun H19 =>
 BI .add (nth xs7 4) (.int .i64 1) fun v20 =>
 K6 [nth xs7 0, nth xs7 1, nth xs7 2, nth xs7 3, v20] H19 nx9)
 (NC (nth xs7 3) fun v21 =>
 FA 0 v21 fun v22 =>
 FA 6 v22 fun v23 =>
 FA 0 v23 fun v24 =>
 LD false 1 v24 H8 fun v25 =>
 BI .eql v25 (.int .i64 0) fun v26 =>
 CNDC v26
 (za Tryz.prog 32 [nth xs7 3, .int .i64 12] H8 nx9 (zwe xs7 K6))
 (za Tryz.prog 33 [nth xs7 3] H8 nx9 (zwd xs7 K6))))
 (NC (nth xs7 3) fun v35 =>
 FA 0 v35 fun v36 =>
 LDR true 9 v36 H8 fun v37 _ =>
 NC (nth xs7 3) fun v39 =>
 FA 10 v39 fun v40 =>
 LDR true 3 v40 H8 fun v41 rd42 =>
 zaf 9 (nth xs7 1) v37 H8 fun _ _ fr45 D46 =>
 zaf 3 (nth xs7 2) v41 (H8.apply D46) fun _ _ fr49 D50 =>
 zh (domD D46) [] (
 zh (domD D46) [] (
 zh (domD D46) [] (
 zh (domD D46) rd42 (
 LD true 9 (nth xs7 1) ((H8.apply D46).apply D50) fun v51 =>
 LD true 3 (nth xs7 2) ((H8.apply D46).apply D50) fun v52 =>
 Q (.tup [v51, v52]) ((H8.apply D46).apply D50) ((nx9 + fr45.length) + fr49.length))))))
def zwc (nx : Nat) (Q : QT) (a2 : AV) (v2 : AV) (H3 : Heap) (nx4 : Nat) : Prop :=
 BD (zab tab [(51, 0), (89, 9), (65, 10)]) [.int .i64 0, .int .i64 0, .nils, .nils, .nils, .nils, .int .i64 0, .int .i64 0, .int .i64 0, .nilp, .int .i64 0, .str [], .int .i64 0] [(0, v2), (1, .ptr (nx + 1) 0)] fun v5 =>
 v5.sure = true ∧
 LP (zds Q) [a2, .ptr (nx + 2) 0, .ptr (nx + 3) 0, .ptr nx4 0, .int .i64 0] (H3.put nx4 (some (.row v5.cells.length v5.cells))) (nx4 + 1)
def zwb (a0 a1 a2 : AV) (H : Heap) (nx : Nat) (Q : QT) : Prop :=
 a0.sure = true ∧
 a1.sure = true ∧
 LD true 9 (.ptr nx 0) ((((H.put nx (some (.row a0.cells.length a0.cells))).put ((nx + 1)) (some (.row a1.cells.length a1.cells))).put ((nx + 2)) (some (.row 9 [.int .i64 0, .int .i64 0, .nils, .nils, .nils, .nils, .int .i64 0, .int .i64 0, .int .i64 0]))).put ((nx + 3)) (some (.row 3 [.int .i64 0, .str [], .int .i64 0]))) fun v1 =>
 za Tryz.prog 31 [v1] ((((H.put nx (some (.row a0.cells.length a0.cells))).put ((nx + 1)) (some (.row a1.cells.length a1.cells))).put ((nx + 2)) (some (.row 9 [.int .i64 0, .int .i64 0, .nils, .nils, .nils, .nils, .int .i64 0, .int .i64 0, .int .i64 0]))).put ((nx + 3)) (some (.row 3 [.int .i64 0, .str [], .int .i64 0]))) (nx + 4) (zwc nx Q a2)
theorem zym (a0 a1 a2 : AV) (H : Heap) (nx : Nat) (Q : QT) : zwb a0 a1 a2 H nx Q → za Tryz.prog 19 [a0, a1, a2] H nx Q :=
  ze (lv := lvOf [(2, 3, [2, 6, 7, 8, 9])]) (c := zp Tryz.f19) zy zz mixed Tryz.func19 (by kernel_rfl) (by kernel_rfl) (by kernel_rfl) (by kernel_rfl) (by kernel_rfl)
def zgf (Q : QT) (K39 : J3) (xs40 : List AV) (H41 : Heap) (nx42 : Nat) : Prop :=
 BI .lss (nth xs40 5) (nth xs40 4) fun v43 =>
 CNDC v43
 (FA 4 (nth xs40 1) fun v44 =>
 LD false 1 v44 H41 fun v45 =>
 IA 4 v45 (nth xs40 5) fun v46 =>
 NC v46 fun v47 =>
 FA 2 v47 fun v48 =>
 LD false 1 v48 H41 fun v49 =>
 CP 3 v49 (nth xs40 2) H41 fun v50 H51 =>
 SL 3 (nth xs40 2) (some v50) none H51 fun v52 =>
 NC v46 fun v53 =>
 FA 3 v53 fun v54 =>
 LD false 1 v54 H51 fun v55 =>
 CP 3 v55 v52 H51 fun v56 H57 =>
 SL 3 v52 (some v56) none H57 fun v58 =>
 BI .add (nth xs40 5) (.int .i64 1) fun v59 =>
 K39 [nth xs40 0, nth xs40 1, v58, nth xs40 3, nth xs40 4, v59] H57 nx42)
 (FA 5 (nth xs40 1) fun v60 =>
 ST 1 v60 (nth xs40 3) H41 fun H61 =>
 LD true 9 (nth xs40 1) H61 fun v62 =>
 ST 9 (nth xs40 0) v62 H61 fun H63 =>
 LD true 9 (nth xs40 0) H63 fun v64 =>
 Q v64 H63 nx42)
def zns (xs9 : List AV) (Q : QT) (v31 : AV) (H32 : Heap) (nx33 : Nat) : Prop :=
 EX v31 0 fun v34 =>
 EX v31 1 fun v35 =>
 FA 4 (nth xs9 1) fun v36 =>
 LD false 1 v36 H32 fun v37 =>
 LNL v37 fun v38 =>
 LP (zgf Q) [nth xs9 0, nth xs9 1, v34, v35, v38, .int .i64 0] H32 nx33
def zge (Q : QT) (K8 : J3) (xs9 : List AV) (H10 : Heap) (nx11 : Nat) : Prop :=
 BI .lss (nth xs9 5) (nth xs9 4) fun v12 =>
 CNDC v12
 (IA 4 (nth xs9 3) (nth xs9 5) fun v13 =>
 LD true 4 v13 H10 fun v14 =>
 ST 4 (.ptr nx11 0) v14 (H10.put nx11 (some (.row 4 [.int .i64 0, .int .i64 0, .nils, .nils]))) fun H15 =>
 LDR false 1 (.ptr nx11 2) H15 fun v16 _ =>
 zah 3 32 (nth xs9 2) v16 H15 (nx11 + 1) fun v18 _ fr20 D21 =>
 LDR false 1 (.ptr nx11 3) (H15.apply D21) fun v22 rd23 =>
 zah 3 32 v18 v22 (H15.apply D21) ((nx11 + 1) + fr20.length) fun v24 _ fr26 D27 =>
 zh (domD D21) [] (
 zh (domD D21) [] (
 zh (domD D21) rd23 (
 zh (domD D21) [] (
 BI .add (nth xs9 5) (.int .i64 1) fun v28 =>
 K8 [nth xs9 0, nth xs9 1, v24, nth xs9 3, nth xs9 4, v28] ((H15.apply D21).apply D27) (((nx11 + 1) + fr20.length) + fr26.length))))))
 (FA 5 (nth xs9 1) fun v29 =>
 LD false 1 v29 H10 fun v30 =>
 za Tryz.prog 42 [v30, nth xs9 2] H10 nx11 (zns xs9 Q))
def zub (Q : QT) (nx : Nat) (v2 : AV) (H3 : Heap) (nx4 : Nat) : Prop :=
 ST 9 (.ptr nx4 0) v2 (H3.put nx4 (some (.row 9 [.int .i64 0, .int .i64 0, .nils, .nils, .nils, .nils, .int .i64 0, .int .i64 0, .int .i64 0]))) fun H5 =>
 LD false 1 (.ptr nx4 4) H5 fun v6 =>
 LNL v6 fun v7 =>
 LP (zge Q) [.ptr (nx + 1) 0, .ptr nx4 0, .nils, v6, v7, .int .i64 0] H5 (nx4 + 1)
def zua (a0 : AV) (H : Heap) (nx : Nat) (Q : QT) : Prop :=
 a0.sure = true ∧
 LD true 9 (.ptr nx 0) ((H.put nx (some (.row a0.cells.length a0.cells))).put ((nx + 1)) (some (.row 9 [.int .i64 0, .int .i64 0, .nils, .nils, .nils, .nils, .int .i64 0, .int .i64 0, .int .i64 0]))) fun v1 =>
 za Tryz.prog 31 [v1] ((H.put nx (some (.row a0.cells.length a0.cells))).put ((nx + 1)) (some (.row 9 [.int .i64 0, .int .i64 0, .nils, .nils, .nils, .nils, .int .i64 0, .int .i64 0, .int .i64 0]))) (nx + 2) (zub Q nx)
theorem zxn (a0 : AV) (H : Heap) (nx : Nat) (Q : QT) : zua a0 H nx Q → za Tryz.prog 23 [a0] H nx Q :=
  ze (lv := lvOf [(2, 4, [2, 3, 4, 13, 14, 15]), (2, 10, [2, 3, 4, 7, 36, 37])]) (c := zp Tryz.f23) zy zz mixed Tryz.func23 (by kernel_rfl) (by kernel_rfl) (by kernel_rfl) (by kernel_rfl) (by kernel_rfl)
def zwk (nx : Nat) (Q : QT) (v18 : AV) (H19 : Heap) (nx20 : Nat) : Prop :=
 ST 9 (.ptr (nx + 2) 0) v18 H19 fun H21 =>
 LD true 9 (.ptr (nx + 2) 0) H21 fun v22 =>
 Q v22 H21 nx20
def zwj (a0 a1 a2 : AV) (H : Heap) (nx : Nat) (Q : QT) : Prop :=
 a1.sure = true ∧
 a2.sure = true ∧
 LDR true 2 (.ptr nx 0) (((H.put nx (some (.row a1.cells.length a1.cells))).put ((nx + 1)) (some (.row a2.cells.length a2.cells))).put ((nx + 2)) (some (.row 9 [.int .i64 0, .int .i64 0, .nils, .nils, .nils, .nils, .int .i64 0, .int .i64 0, .int .i64 0]))) fun v1 rd2 =>
 LDR true 3 (.ptr (nx + 1) 0) (((H.put nx (some (.row a1.cells.length a1.cells))).put ((nx + 1)) (some (.row a2.cells.length a2.cells))).put ((nx + 2)) (some (.row 9 [.int .i64 0, .int .i64 0, .nils, .nils, .nils, .nils, .int .i64 0, .int .i64 0, .int .i64 0]))) fun v3 rd4 =>
 LDR false 1 (.ptr nx 0) (((H.put nx (some (.row a1.cells.length a1.cells))).put ((nx + 1)) (some (.row a2.cells.length a2.cells))).put ((nx + 2)) (some (.row 9 [.int .i64 0, .int .i64 0, .nils, .nils, .nils, .nils, .int .i64 0, .int .i64 0, .int .i64 0]))) fun v5 rd6 =>
 IA 3 v5 (.int .i64 0) fun v7 =>
 FA 1 v7 fun v8 =>
 LDR false 1 v8 (((H.put nx (some (.row a1.cells.length a1.cells))).put ((nx + 1)) (some (.row a2.cells.length a2.cells))).put ((nx + 2)) (some (.row 9 [.int .i64 0, .int .i64 0, .nils, .nils, .nils, .nils, .int .i64 0, .int .i64 0, .int .i64 0]))) fun v9 rd10 =>
 MK 32 v9 v9 fun n11 =>
 BD (zab tab [(3, 0), (3, 1), (26, 2), (48, 4), (49, 5), (28, 6)]) [.int .i64 0, .int .i64 0, .nils, .nils, .nils, .nils, .int .i64 0, .int .i64 0, .int .i64 0] [(0, a0), (2, v1), (5, v3), (3, .slc (nx + 4) 0 1)] fun v12 =>
 zaf 9 (.ptr (nx + 5) 0) v12 ((((((H.put nx (some (.row a1.cells.length a1.cells))).put ((nx + 1)) (some (.row a2.cells.length a2.cells))).put ((nx + 2)) (some (.row 9 [.int .i64 0, .int .i64 0, .nils, .nils, .nils, .nils, .int .i64 0, .int .i64 0, .int .i64 0]))).put ((nx + 3)) (some (.row 3 (List.replicate n11 [.int .i64 0, .int .i64 0, .str []]).flatten))).put ((nx + 4)) (some (.row 4 [.int .i64 0, .int .i64 0, .slc (nx + 3) 0 n11, .nils]))).put ((nx + 5)) (some (.row 9 [.int .i64 0, .int .i64 0, .nils, .nils, .nils, .nils, .int .i64 0, .int .i64 0, .int .i64 0]))) fun _ _ fr15 D16 =>
 (nx + 3) ∉ [] ∧
 (nx + 3) ∉ rd2 ∧
 (nx + 3) ∉ rd4 ∧
 (nx + 4) ∉ [] ∧
 (nx + 4) ∉ rd2 ∧
 (nx + 4) ∉ rd4 ∧
 (nx + 5) ∉ [] ∧
 (nx + 5) ∉ rd2 ∧
 (nx + 5) ∉ rd4 ∧
 (nx + 5) ∉ [] ∧
 (nx + 5) ∉ rd6 ∧
 (nx + 5) ∉ [] ∧
 (nx + 5) ∉ [] ∧
 (nx + 5) ∉ rd10 ∧
 (nx + 3) ∉ [] ∧
 (nx + 3) ∉ [(nx + 5)] ∧
 (nx + 5) ∉ [] ∧
 (nx + 5) ∉ [] ∧
 (nx + 4) ∉ [] ∧
 (nx + 4) ∉ [(nx + 5)] ∧
 (nx + 5) ∉ [] ∧
 (nx + 5) ∉ [] ∧
 LD true 9 (.ptr (nx + 5) 0) (((((((H.put nx (some (.row a1.cells.length a1.cells))).put ((nx + 1)) (some (.row a2.cells.length a2.cells))).put ((nx + 2)) (some (.row 9 [.int .i64 0, .int .i64 0, .nils, .nils, .nils, .nils, .int .i64 0, .int .i64 0, .int .i64 0]))).put ((nx + 3)) (some (.row 3 (List.replicate n11 [.int .i64 0, .int .i64 0, .str []]).flatten))).put ((nx + 4)) (some (.row 4 [.int .i64 0, .int .i64 0, .slc (nx + 3) 0 n11, .nils]))).put ((nx + 5)) (some (.row 9 [.int .i64 0, .int .i64 0, .nils, .nils, .nils, .nils, .int .i64 0, .int .i64 0, .int .i64 0]))).apply D16) fun v17 =>
 za Tryz.prog 31 [v17] (((((((H.put nx (some (.row a1.cells.length a1.cells))).put ((nx + 1)) (some (.row a2.cells.length a2.cells))).put ((nx + 2)) (some (.row 9 [.int .i64 0, .int .i64 0, .nils, .nils, .nils, .nils, .int .i64 0, .int .i64 0, .int .i64 0]))).put ((nx + 3)) (some (.row 3 (List.replicate n11 [.int .i64 0, .int .i64 0, .str []]).flatten))).put ((nx + 4)) (some (.row 4 [.int .i64 0, .int .i64 0, .slc (nx + 3) 0 n11, .nils]))).put ((nx + 5)) (some (.row 9 [.int .i64 0, .int .i64 0, .nils, .nils, .nils, .nils, .int .i64 0, .int .i64 0, .int .i64 0]))).apply D16) ((nx + 6) + fr15.length) (zwk nx Q)
theorem zyo (a0 a1 a2 : AV) (H : Heap) (nx : Nat) (Q : QT) : zwj a0 a1 a2 H nx Q → za Tryz.prog 18 [a0, a1, a2] H nx Q :=
  ze (lv := lvOf []) (c := zp Tryz.f18) zy zz mixed Tryz.func18 (by kernel_rfl) (by kernel_rfl) (by kernel_rfl) (by kernel_rfl) (by kernel_rfl)
def zqc (a1 : AV) (nx : Nat) (Q : QT) (v2 : AV) (H3 : Heap) (nx4 : Nat) : Prop :=
 ST 9 (.ptr nx4 0) v2 (H3.put nx4 (some (.row 9 [.int .i64 0, .int .i64 0, .nils, .nils, .nils, .nils, .int .i64 0, .int .i64 0, .int .i64 0]))) fun H5 =>
 LD false 1 (.ptr nx4 4) H5 fun v6 =>
 LD false 1 (.ptr nx4 4) H5 fun v7 =>
 LNL v7 fun v8 =>
 BI .sub v8 (.int .i64 1) fun v9 =>
 IA 4 v6 v9 fun v10 =>
 NC v10 fun v11 =>
 FA 3 v11 fun v12 =>
 LD false 1 v12 H5 fun v13 =>
 BD (zab tab [(3, 0), (3, 1), (9, 2)]) [.int .i64 0, .int .i64 0, .str []] [(1, a1)] fun v14 =>
 BSL 1 3 [.int .i64 0, .int .i64 0, .str []] [(0, v14)] fun cells15 =>
 APP 3 32 v13 (.slc (nx4 + 1) 0 1) (H5.put ((nx4 + 1)) (some (.row 3 cells15))) (nx4 + 2) fun v16 H17 nx18 =>
 NC v10 fun v19 =>
 FA 3 v19 fun v20 =>
 ST 1 v20 v16 H17 fun H21 =>
 LD true 9 (.ptr nx4 0) H21 fun v22 =>
 ST 9 (.ptr (nx + 1) 0) v22 H21 fun H23 =>
 LD true 9 (.ptr (nx + 1) 0) H23 fun v24 =>
 Q v24 H23 nx18
def zqb (a0 a1 : AV) (H : Heap) (nx : Nat) (Q : QT) : Prop :=
 a0.sure = true ∧
 LD true 9 (.ptr nx 0) ((H.put nx (some (.row a0.cells.length a0.cells))).put ((nx + 1)) (some (.row 9 [.int .i64 0, .int .i64 0, .nils, .nils, .nils, .nils, .int .i64 0, .int .i64 0, .int .i64 0]))) fun v1 =>
 za Tryz.prog 31 [v1] ((H.put nx (some (.row a0.cells.length a0.cells))).put ((nx + 1)) (some (.row 9 [.int .i64 0, .int .i64 0, .nils, .nils, .nils, .nils, .int .i64 0, .int .i64 0, .int .i64 0]))) (nx + 2) (zqc a1 nx Q)
theorem zuc (a0 a1 : AV) (H : Heap) (nx : Nat) (Q : QT) : zqb a0 a1 H nx Q → za Tryz.prog 20 [a0, a1] H nx Q :=
  ze (lv := lvOf []) (c := zp Tryz.f20) zy zz mixed Tryz.func20 (by kernel_rfl) (by kernel_rfl) (by kernel_rfl) (by kernel_rfl) (by kernel_rfl)
def zmp (Q : QT) (K2 : J3) (xs3 : List AV) (H4 : Heap) (nx5 : Nat) : Prop :=
 BI .lss (nth xs3 2) (nth xs3 1) fun v6 =>
 CNDC v6
 (IX (nth xs3 0) (nth xs3 2) fun v7 =>
 BI .lss v7 (.int .u8 32) fun v8 =>
 CND v8
 (Q (.bool false) H4 nx5)
 (IX (nth xs3 0) (nth xs3 2) fun v9 =>
 BI .gtr v9 (.int .u8 126) fun v10 =>
 CND v10
 (Q (.bool false) H4 nx5)
 (IX (nth xs3 0) (nth xs3 2) fun v11 =>
 BI .eql v11 (.int .u8 39) fun v12 =>
 CNDC v12
 (Q (.bool false) H4 nx5)
 (BI .add (nth xs3 2) (.int .i64 1) fun v13 =>
 K2 [nth xs3 0, nth xs3 1, v13] H4 nx5))))
 (LNS (nth xs3 0) fun v14 =>
 BI .lss v14 (.int .i64 13) fun v15 =>
 Q v15 H4 nx5)
def zmo (a0 : AV) (H : Heap) (nx : Nat) (Q : QT) : Prop :=
 LNS a0 fun v1 =>
 LP (zmp Q) [a0, v1, .int .i64 0] H nx
theorem zrv (a0 : AV) (H : Heap) (nx : Nat) (Q : QT) : zmo a0 H nx Q → za Tryz.prog 16 [a0] H nx Q :=
  ze (lv := lvOf [(2, 2, [0, 5, 6])]) (c := zp Tryz.f16) zy zz mixed Tryz.func16 (by kernel_rfl) (by kernel_rfl) (by kernel_rfl) (by kernel_rfl) (by kernel_rfl)
def zlk (a0 : AV) (H : Heap) (nx : Nat) (Q : QT) : Prop :=
 a0.sure = true ∧
 LD false 1 (.ptr nx 0) (H.put nx (some (.row a0.cells.length a0.cells))) fun v1 =>
 BI .eql v1 (.int .i64 17) fun v2 =>
 CNDC v2
 (LD false 1 (.ptr nx 2) (H.put nx (some (.row a0.cells.length a0.cells))) fun v3 =>
 Q (.tup [v3, .int .i64 1]) (H.put nx (some (.row a0.cells.length a0.cells))) (nx + 1))
 (zac (AK.int .i64) (.int .i64 1) = true ∧
 MU (.amap (nx + 1)) (.int .i64 1) (.agg [.int .i64 0, .int .i64 1]) ((H.put nx (some (.row a0.cells.length a0.cells))).put ((nx + 1)) (some (.mp []))) fun H4 =>
 zac (AK.int .i64) (.int .i64 2) = true ∧
 MU (.amap (nx + 1)) (.int .i64 2) (.agg [.int .i64 0, .int .i64 1]) H4 fun H5 =>
 zac (AK.int .i64) (.int .i64 3) = true ∧
 MU (.amap (nx + 1)) (.int .i64 3) (.agg [.int .i64 0, .int .i64 1]) H5 fun H6 =>
 zac (AK.int .i64) (.int .i64 4) = true ∧
 MU (.amap (nx + 1)) (.int .i64 4) (.agg [.int .i64 1, .int .i64 0]) H6 fun H7 =>
 zac (AK.int .i64) (.int .i64 5) = true ∧
 MU (.amap (nx + 1)) (.int .i64 5) (.agg [.int .i64 2, .int .i64 1]) H7 fun H8 =>
 zac (AK.int .i64) (.int .i64 6) = true ∧
 MU (.amap (nx + 1)) (.int .i64 6) (.agg [.int .i64 2, .int .i64 1]) H8 fun H9 =>
 zac (AK.int .i64) (.int .i64 7) = true ∧
 MU (.amap (nx + 1)) (.int .i64 7) (.agg [.int .i64 1, .int .i64 1]) H9 fun H10 =>
 zac (AK.int .i64) (.int .i64 8) = true ∧
 MU (.amap (nx + 1)) (.int .i64 8) (.agg [.int .i64 1, .int .i64 1]) H10 fun H11 =>
 zac (AK.int .i64) (.int .i64 9) = true ∧
 MU (.amap (nx + 1)) (.int .i64 9) (.agg [.int .i64 2, .int .i64 0]) H11 fun H12 =>
 zac (AK.int .i64) (.int .i64 10) = true ∧
 MU (.amap (nx + 1)) (.int .i64 10) (.agg [.int .i64 2, .int .i64 0]) H12 fun H13 =>
 zac (AK.int .i64) (.int .i64 11) = true ∧
 MU (.amap (nx + 1)) (.int .i64 11) (.agg [.int .i64 1, .int .i64 1]) H13 fun H14 =>
 zac (AK.int .i64) (.int .i64 12) = true ∧
 MU (.amap (nx + 1)) (.int .i64 12) (.agg [.int .i64 0, .int .i64 1]) H14 fun H15 =>
 zac (AK.int .i64) (.int .i64 13) = true ∧
 MU (.amap (nx + 1)) (.int .i64 13) (.agg [.int .i64 1, .int .i64 1]) H15 fun H16 =>
 zac (AK.int .i64) (.int .i64 14) = true ∧
 MU (.amap (nx + 1)) (.int .i64 14) (.agg [.int .i64 1, .int .i64 0]) H16 fun H17 =>
 zac (AK.int .i64) (.int .i64 15) = true ∧
 MU (.amap (nx + 1)) (.int .i64 15) (.agg [.int .i64 0, .int .i64 0]) H17 fun H18 =>
 zac (AK.int .i64) (.int .i64 16) = true ∧
 MU (.amap (nx + 1)) (.int .i64 16) (.agg [.int .i64 1, .int .i64 0]) H18 fun H19 =>
 zac (AK.int .i64) (.int .i64 18) = true ∧
 MU (.amap (nx + 1)) (.int .i64 18) (.agg [.int .i64 1, .int .i64 0]) H19 fun H20 =>
 zac (AK.int .i64) (.int .i64 19) = true ∧
 MU (.amap (nx + 1)) (.int .i64 19) (.agg [.int .i64 1, .int .i64 0]) H20 fun H21 =>
 LD false 1 (.ptr nx 0) H21 fun v22 =>
 zac (AK.int .i64) v22 = true ∧
 LK [.int .i64 0, .int .i64 0] true (.amap (nx + 1)) v22 false H21 fun v23 =>
 ST 2 (.ptr (nx + 2) 0) v23 (H21.put ((nx + 2)) (some (.row 1 [.int .i64 0, .int .i64 0]))) fun H24 =>
 AA 1 2 (.ptr (nx + 2) 0) (.int .i64 0) fun v25 =>
 LDR false 1 v25 H24 fun v26 _ =>
 AA 1 2 (.ptr (nx + 2) 0) (.int .i64 1) fun v28 =>
 LDR false 1 v28 H24 fun v29 _ =>
 Q (.tup [v26, v29]) H24 (nx + 3))
theorem zpj (a0 : AV) (H : Heap) (nx : Nat) (Q : QT) : zlk a0 H nx Q → za Tryz.prog 30 [a0] H nx Q :=
  ze (lv := lvOf []) (c := zp Tryz.f30) zy zz mixed Tryz.func30 (by kernel_rfl) (by kernel_rfl) (by kernel_rfl) (by kernel_rfl) (by kernel_rfl)
def zru (v23 : AV) (Q : QT) (nx16 : Nat) (v20 : AV) (xs14 : List AV) (K13 : J3) (v46 : AV) (H47 : Heap) (nx48 : Nat) : Prop :=
 EX v46 0 fun v49 =>
 EX v46 1 fun v50 =>
 BI .lss v23 v49 fun v51 =>
 CND v51
 (Q (.tup [.nils, .int .i64 10]) H47 nx48)
 (LD false 1 (.ptr nx16 0) H47 fun v52 =>
 BI .eql v52 (.int .i64 18) fun v53 =>
 CND v53
 (BI .gtr v23 (.int .i64 1) fun v54 =>
 CNDC v54
 (Q (.tup [.nils, .int .i64 10]) H47 nx48)
 (BI .sub v23 v49 fun v55 =>
 BI .add v55 v50 fun v56 =>
 BI .gtr v56 (.int .i64 16) fun v57 =>
 CNDC v57
 (Q (.tup [.nils, .int .i64 4]) H47 nx48)
 (LD false 1 (.ptr nx16 0) H47 fun v58 =>
 BI .neq v58 (.int .i64 15) fun v59 =>
 CND v59
 (LD false 1 (.ptr nx16 0) H47 fun v60 =>
 BI .neq v60 (.int .i64 18) fun v61 =>
 CNDC v61
 (BI .add v20 (.int .i64 1) fun v62 =>
 BSL 1 1 [.int .i64 0] [(0, v62)] fun cells63 =>
 APP 1 8 (nth xs14 2) (.slc nx48 0 1) (H47.put nx48 (some (.row 1 cells63))) (nx48 + 1) fun v64 H65 nx66 =>
 BSL 1 1 [.int .i64 0] [(0, v56)] fun cells67 =>
 APP 1 8 (nth xs14 3) (.slc nx66 0 1) (H65.put nx66 (some (.row 1 cells67))) (nx66 + 1) fun v68 H69 nx70 =>
 LD false 1 (.ptr nx16 0) H69 fun v71 =>
 BI .eql v71 (.int .i64 15) fun v72 =>
 CND v72
 (LD false 1 (.ptr nx16 1) H69 fun v73 =>
 BSL 1 1 [.int .i64 0] [(0, v73)] fun cells74 =>
 APP 1 8 v64 (.slc nx70 0 1) (H69.put nx70 (some (.row 1 cells74))) (nx70 + 1) fun v75 H76 nx77 =>
 BSL 1 1 [.int .i64 0] [(0, v56)] fun cells78 =>
 APP 1 8 v68 (.slc nx77 0 1) (H76.put nx77 (some (.row 1 cells78))) (nx77 + 1) fun v79 H80 nx81 =>
 BI .add (nth xs14 4) (.int .i64 1) fun v82 =>
 K13 [nth xs14 0, nth xs14 1, v75, v79, v82] H80 nx81)
 (LD false 1 (.ptr nx16 0) H69 fun v83 =>
 BI .eql v83 (.int .i64 16) fun v84 =>
 CNDC v84
 (LD false 1 (.ptr nx16 1) H69 fun v85 =>
 BSL 1 1 [.int .i64 0] [(0, v85)] fun cells86 =>
 APP 1 8 v64 (.slc nx70 0 1) (H69.put nx70 (some (.row 1 cells86))) (nx70 + 1) fun v87 H88 nx89 =>
 BSL 1 1 [.int .i64 0] [(0, v56)] fun cells90 =>
 APP 1 8 v68 (.slc nx89 0 1) (H88.put nx89 (some (.row 1 cells90))) (nx89 + 1) fun v91 H92 nx93 =>
 BI .add (nth xs14 4) (.int .i64 1) fun v94 =>
 K13 [nth xs14 0, nth xs14 1, v87, v91, v94] H92 nx93)
 (BI .add (nth xs14 4) (.int .i64 1) fun v95 =>
 K13 [nth xs14 0, nth xs14 1, v64, v68, v95] H69 nx70)))
 (LD false 1 (.ptr nx16 0) H47 fun v96 =>
 BI .eql v96 (.int .i64 15) fun v97 =>
 CND v97
 (LD false 1 (.ptr nx16 1) H47 fun v98 =>
 BSL 1 1 [.int .i64 0] [(0, v98)] fun cells99 =>
 APP 1 8 (nth xs14 2) (.slc nx48 0 1) (H47.put nx48 (some (.row 1 cells99))) (nx48 + 1) fun v100 H101 nx102 =>
 BSL 1 1 [.int .i64 0] [(0, v56)] fun cells103 =>
 APP 1 8 (nth xs14 3) (.slc nx102 0 1) (H101.put nx102 (some (.row 1 cells103))) (nx102 + 1) fun v104 H105 nx106 =>
 BI .add (nth xs14 4) (.int .i64 1) fun v107 =>
 K13 [nth xs14 0, nth xs14 1, v100, v104, v107] H105 nx106)
 (LD false 1 (.ptr nx16 0) H47 fun v108 =>
 BI .eql v108 (.int .i64 16) fun v109 =>
 CNDC v109
 (LD false 1 (.ptr nx16 1) H47 fun v110 =>
 BSL 1 1 [.int .i64 0] [(0, v110)] fun cells111 =>
 APP 1 8 (nth xs14 2) (.slc nx48 0 1) (H47.put nx48 (some (.row 1 cells111))) (nx48 + 1) fun v112 H113 nx114 =>
 BSL 1 1 [.int .i64 0] [(0, v56)] fun cells115 =>
 APP 1 8 (nth xs14 3) (.slc nx114 0 1) (H113.put nx114 (some (.row 1 cells115))) (nx114 + 1) fun v116 H117 nx118 =>
 BI .add (nth xs14 4) (.int .i64 1) fun v119 =>
 K13 [nth xs14 0, nth xs14 1, v112, v116, v119] H117 nx118)
 (BI .add (nth xs14 4) (.int .i64 1) fun v120 =>
 K13 [nth xs14 0, nth xs14 1, nth xs14 2, nth xs14 3, v120] H47 nx48))))
 (LD false 1 (.ptr nx16 0) H47 fun v121 =>
 BI .eql v121 (.int .i64 15) fun v122 =>
 CND v122
 (LD false 1 (.ptr nx16 1) H47 fun v123 =>
 BSL 1 1 [.int .i64 0] [(0, v123)] fun cells124 =>
 APP 1 8 (nth xs14 2) (.slc nx48 0 1) (H47.put nx48 (some (.row 1 cells124))) (nx48 + 1) fun v125 H126 nx127 =>
 BSL 1 1 [.int .i64 0] [(0, v56)] fun cells128 =>
 APP 1 8 (nth xs14 3) (.slc nx127 0 1) (H126.put nx127 (some (.row 1 cells128))) (nx127 + 1) fun v129 H130 nx131 =>
 BI .add (nth xs14 4) (.int .i64 1) fun v132 =>
 K13 [nth xs14 0, nth xs14 1, v125, v129, v132] H130 nx131)
 (LD false 1 (.ptr nx16 0) H47 fun v133 =>
 BI .eql v133 (.int .i64 16) fun v134 =>
 CNDC v134
 (LD false 1 (.ptr nx16 1) H47 fun v135 =>
 BSL 1 1 [.int .i64 0] [(0, v135)] fun cells136 =>
 APP 1 8 (nth xs14 2) (.slc nx48 0 1) (H47.put nx48 (some (.row 1 cells136))) (nx48 + 1) fun v137 H138 nx139 =>
 BSL 1 1 [.int .i64 0] [(0, v56)] fun cells140 =>
 APP 1 8 (nth xs14 3) (.slc nx139 0 1) (H138.put nx139 (some (.row 1 cells140))) (nx139 + 1) fun v141 H142 nx143 =>
 BI .add (nth xs14 4) (.int .i64 1) fun v144 =>
 K13 [nth xs14 0, nth xs14 1, v137, v141, v144] H142 nx143)
 (BI .add (nth xs14 4) (.int .i64 1) fun v145 =>
 K13 [nth xs14 0, nth xs14 1, nth xs14 2, nth xs14 3, v145] H47 nx48))))))
 (BI .sub v23 v49 fun v146 =>
 BI .add v146 v50 fun v147 =>
 BI .gtr v147 (.int .i64 16) fun v148 =>
 CNDC v148
 (Q (.tup [.nils, .int .i64 4]) H47 nx48)
 (LD false 1 (.ptr nx16 0) H47 fun v149 =>
 BI .neq v149 (.int .i64 15) fun v150 =>
 CND v150
 (LD false 1 (.ptr nx16 0) H47 fun v151 =>
 BI .neq v151 (.int .i64 18) fun v152 =>
 CNDC v152
 (BI .add v20 (.int .i64 1) fun v153 =>
 BSL 1 1 [.int .i64 0] [(0, v153)] fun cells154 =>
 APP 1 8 (nth xs14 2) (.slc nx48 0 1) (H47.put nx48 (some (.row 1 cells154))) (nx48 + 1) fun v155 H156 nx157 =>
 BSL 1 1 [.int .i64 0] [(0, v147)] fun cells158 =>
 APP 1 8 (nth xs14 3) (.slc nx157 0 1) (H156.put nx157 (some (.row 1 cells158))) (nx157 + 1) fun v159 H160 nx161 =>
 LD false 1 (.ptr nx16 0) H160 fun v162 =>
 BI .eql v162 (.int .i64 15) fun v163 =>
 CND v163
 (LD false 1 (.ptr nx16 1) H160 fun v164 =>
 BSL 1 1 [.int .i64 0] [(0, v164)] fun cells165 =>
 APP 1 8 v155 (.slc nx161 0 1) (H160.put nx161 (some (.row 1 cells165))) (nx161 + 1) fun v166 H167 nx168 =>
 BSL 1 1 [.int .i64 0] [(0, v147)] fun cells169 =>
 APP 1 8 v159 (.slc nx168 0 1) (H167.put nx168 (some (.row 1 cells169))) (nx168 + 1) fun v170 H171 nx172 =>
 BI .add (nth xs14 4) (.int .i64 1) fun v173 =>
 K13 [nth xs14 0, nth xs14 1, v166, v170, v173] H171 nx172)
 (LD false 1 (.ptr nx16 0) H160 fun v174 =>
 BI .eql v174 (.int .i64 16) fun v175 =>
 CNDC v175
 (LD false 1 (.ptr nx16 1) H160 fun v176 =>
 BSL 1 1 [.int .i64 0] [(0, v176)] fun cells177 =>
 APP 1 8 v155 (.slc nx161 0 1) (H160.put nx161 (some (.row 1 cells177))) (nx161 + 1) fun v178 H179 nx180 =>
 BSL 1 1 [.int .i64 0] [(0, v147)] fun cells181 =>
 APP 1 8 v159 (.slc nx180 0 1) (H179.put nx180 (some (.row 1 cells181))) (nx180 + 1) fun v182 H183 nx184 =>
 BI .add (nth xs14 4) (.int .i64 1) fun v185 =>
 K13 [nth xs14 0, nth xs14 1, v178, v182, v185] H183 nx184)
 (BI .add (nth xs14 4) (.int .i64 1) fun v186 =>
 K13 [nth xs14 0, nth xs14 1, v155, v159, v186] H160 nx161)))
 (LD false 1 (.ptr nx16 0) H47 fun v187 =>
 BI .eql v187 (.int .i64 15) fun v188 =>
 CND v188
 (LD false 1 (.ptr nx16 1) H47 fun v189 =>
 BSL 1 1 [.int .i64 0] [(0, v189)] fun cells190 =>
 APP 1 8 (nth xs14 2) (.slc nx48 0 1) (H47.put nx48 (some (.row 1 cells190))) (nx48 + 1) fun v191 H192 nx193 =>
 BSL 1 1 [.int .i64 0] [(0, v147)] fun cells194 =>
 APP 1 8 (nth xs14 3) (.slc nx193 0 1) (H192.put nx193 (some (.row 1 cells194))) (nx193 + 1) fun v195 H196 nx197 =>
 BI .add (nth xs14 4) (.int .i64 1) fun v198 =>
 K13 [nth xs14 0, nth xs14 1, v191, v195, v198] H196 nx197)
 (LD false 1 (.ptr nx16 0) H47 fun v199 =>
 BI .eql v199 (.int .i64 16) fun v200 =>
 CNDC v200
 (LD false 1 (.ptr nx16 1) H47 fun v201 =>
 BSL 1 1 [.int .i64 0] [(0, v201)] fun cells202 =>
 APP 1 8 (nth xs14 2) (.slc nx48 0 1) (H47.put nx48 (some (.row 1 cells202))) (nx48 + 1) fun v203 H204 nx205 =>
 BSL 1 1 [.int .i64 0] [(0, v147)] fun cells206 =>
 APP 1 8 (nth xs14 3) (.slc nx205 0 1) (H204.put nx205 (some (.row 1 cells206))) (nx205 + 1) fun v207 H208 nx209 =>
 BI .add (nth xs14 4) (.int .i64 1) fun v210 =>
 K13 [nth xs14 0, nth xs14 1, v203, v207, v210] H208 nx209)
 (BI .add (nth xs14 4) (.int .i64 1) fun v211 =>
 K13 [nth xs14 0, nth xs14 1, nth xs14 2, nth xs14 3, v211] H47 nx48))))
 (LD false 1 (.ptr nx16 0) H47 fun v212 =>
 BI .eql v212 (.int .i64 15) fun v213 =>
 CND v213
 (LD false 1 (.ptr nx16 1) H47 fun v214 =>
 BSL 1 1 [.int .i64 0] [(0, v214)] fun cells215 =>
 APP 1 8 (nth xs14 2) (.slc nx48 0 1) (H47.put nx48 (some (.row 1 cells215))) (nx48 + 1) fun v216 H217 nx218 =>
 BSL 1 1 [.int .i64 0] [(0, v147)] fun cells219 =>
 APP 1 8 (nth xs14 3) (.slc nx218 0 1) (H217.put nx218 (some (.row 1 cells219))) (nx218 + 1) fun v220 H221 nx222 =>
 BI .add (nth xs14 4) (.int .i64 1) fun v223 =>
 K13 [nth xs14 0, nth xs14 1, v216, v220, v223] H221 nx222)
 (LD false 1 (.ptr nx16 0) H47 fun v224 =>
 BI .eql v224 (.int .i64 16) fun v225 =>
 CNDC v225
 (LD false 1 (.ptr nx16 1) H47 fun v226 =>
 BSL 1 1 [.int .i64 0] [(0, v226)] fun cells227 =>
 APP 1 8 (nth xs14 2) (.slc nx48 0 1) (H47.put nx48 (some (.row 1 cells227))) (nx48 + 1) fun v228 H229 nx230 =>
 BSL 1 1 [.int .i64 0] [(0, v147)] fun cells231 =>
 APP 1 8 (nth xs14 3) (.slc nx230 0 1) (H229.put nx230 (some (.row 1 cells231))) (nx230 + 1) fun v232 H233 nx234 =>
 BI .add (nth xs14 4) (.int .i64 1) fun v235 =>
 K13 [nth xs14 0, nth xs14 1, v228, v232, v235] H233 nx234)
 (BI .add (nth xs14 4) (.int .i64 1) fun v236 =>
 K13 [nth xs14 0, nth xs14 1, nth xs14 2, nth xs14 3, v236] H47 nx48))))))
def zai (v23 : AV) (Q : QT) (nx16 : Nat) (v20 : AV) (xs14 : List AV) (K13 : J3) (v249 : AV) (H250 : Heap) (nx251 : Nat) : Prop :=
 EX v249 0 fun v252 =>
 EX v249 1 fun v253 =>
 BI .lss v23 v252 fun v254 =>
 CND v254
 (Q (.tup [.nils, .int .i64 10]) H250 nx251)
 (LD false 1 (.ptr nx16 0) H250 fun v255 =>
 BI .eql v255 (.int .i64 18) fun v256 =>
 CND v256
 (BI .gtr v23 (.int .i64 1) fun v257 =>
 CNDC v257
 (Q (.tup [.nils, .int .i64 10]) H250 nx251)
 (BI .sub v23 v252 fun v258 =>
 BI .add v258 v253 fun v259 =>
 BI .gtr v259 (.int .i64 16) fun v260 =>
 CNDC v260
 (Q (.tup [.nils, .int .i64 4]) H250 nx251)
 (LD false 1 (.ptr nx16 0) H250 fun v261 =>
 BI .neq v261 (.int .i64 15) fun v262 =>
 CND v262
 (LD false 1 (.ptr nx16 0) H250 fun v263 =>
 BI .neq v263 (.int .i64 18) fun v264 =>
 CNDC v264
 (BI .add v20 (.int .i64 1) fun v265 =>
 BSL 1 1 [.int .i64 0] [(0, v265)] fun cells266 =>
 APP 1 8 (nth xs14 2) (.slc nx251 0 1) (H250.put nx251 (some (.row 1 cells266))) (nx251 + 1) fun v267 H268 nx269 =>
 BSL 1 1 [.int .i64 0] [(0, v259)] fun cells270 =>
 APP 1 8 (nth xs14 3) (.slc nx269 0 1) (H268.put nx269 (some (.row 1 cells270))) (nx269 + 1) fun v271 H272 nx273 =>
 LD false 1 (.ptr nx16 0) H272 fun v274 =>
 BI .eql v274 (.int .i64 15) fun v275 =>
 CND v275
 (LD false 1 (.ptr nx16 1) H272 fun v276 =>
 BSL 1 1 [.int .i64 0] [(0, v276)] fun cells277 =>
 APP 1 8 v267 (.slc nx273 0 1) (H272.put nx273 (some (.row 1 cells277))) (nx273 + 1) fun v278 H279 nx280 =>
 BSL 1 1 [.int .i64 0] [(0, v259)] fun cells281 =>
 APP 1 8 v271 (.slc nx280 0 1) (H279.put nx280 (some (.row 1 cells281))) (nx280 + 1) fun v282 H283 nx284 =>
 BI .add (nth xs14 4) (.int .i64 1) fun v285 =>
 K13 [nth xs14 0, nth xs14 1, v278, v282, v285] H283 nx284)
 (LD false 1 (.ptr nx16 0) H272 fun v286 =>
 BI .eql v286 (.int .i64 16) fun v287 =>
 CNDC v287
 (LD false 1 (.ptr nx16 1) H272 fun v288 =>
 BSL 1 1 [.int .i64 0] [(0, v288)] fun cells289 =>
 APP 1 8 v267 (.slc nx273 0 1) (H272.put nx273 (some (.row 1 cells289))) (nx273 + 1) fun v290 H291 nx292 =>
 BSL 1 1 [.int .i64 0] [(0, v259)] fun cells293 =>
 APP 1 8 v271 (.slc nx292 0 1) (H291.put nx292 (some (.row 1 cells293))) (nx292 + 1) fun v294 H295 nx296 =>
 BI .add (nth xs14 4) (.int .i64 1) fun v297 =>
 K13 [nth xs14 0, nth xs14 1, v290, v294, v297] H295 nx296)
 (BI .add (nth xs14 4) (.int .i64 1) fun v298 =>
 K13 [nth xs14 0, nth xs14 1, v267, v271, v298] H272 nx273)))
 (LD false 1 (.ptr nx16 0) H250 fun v299 =>
 BI .eql v299 (.int .i64 15) fun v300 =>
 CND v300
 (LD false 1 (.ptr nx16 1) H250 fun v301 =>
 BSL 1 1 [.int .i64 0] [(0, v301)] fun cells302 =>
 APP 1 8 (nth xs14 2) (.slc nx251 0 1) (H250.put nx251 (some (.row 1 cells302))) (nx251 + 1) fun v303 H304 nx305 =>
 BSL 1 1 [.int .i64 0] [(0, v259)] fun cells306 =>
 APP 1 8 (nth xs14 3) (.slc nx305 0 1) (H304.put nx305 (some (.row 1 cells306))) (nx305 + 1) fun v307 H308 nx309 =>
 BI .add (nth xs14 4) (.int .i64 1) fun v310 =>
 K13 [nth xs14 0, nth xs14 1, v303, v307, v310] H308 nx309)
 (LD false 1 (.ptr nx16 0) H250 fun v311 =>
 BI .eql v311 (.int .i64 16) fun v312 =>
 CNDC v312
 (LD false 1 (.ptr nx16 1) H250 fun v313 =>
 BSL 1 1 [.int .i64 0] [(0, v313)] fun cells314 =>
 APP 1 8 (nth xs14 2) (.slc nx251 0 1) (H250.put nx251 (some (.row 1 cells314))) (nx251 + 1) fun v315 H316 nx317 =>
 BSL 1 1 [.int .i64 0] [(0, v259)] fun cells318 =>
 APP 1 8 (nth xs14 3) (.slc nx317 0 1) (H316.put nx317 (some (.row 1 cells318))) (nx317 + 1) fun v319 H320 nx321 =>
 BI .add (nth xs14 4) (.int .i64 1) fun v322 =>
 K13 [nth xs14 0, nth xs14 1, v315, v319, v322] H320 nx321)
 (BI .add (nth xs14 4) (.int .i64 1) fun v323 =>
 K13 [nth xs14 0, nth xs14 1, nth xs14 2, nth xs14 3, v323] H250 nx251))))
 (LD false 1 (.ptr nx16 0) H250 fun v324 =>
 BI .eql v324 (.int .i64 15) fun v325 =>
 CND v325
 (LD false 1 (.ptr nx16 1) H250 fun v326 =>
 BSL 1 1 [.int .i64 0] [(0, v326)] fun cells327 =>
 APP 1 8 (nth xs14 2) (.slc nx251 0 1) (H250.put nx251 (some (.row 1 cells327))) (nx251 + 1) fun v328 H329 nx330 =>
 BSL 1 1 [.int .i64 0] [(0, v259)] fun cells331 =>
 APP 1 8 (nth xs14 3) (.slc nx330 0 1) (H329.put nx330 (some (.row 1 cells331))) (nx330 + 1) fun v332 H333 nx334 =>
 BI .add (nth xs14 4) (.int .i64 1) fun v335 =>
 K13 [nth xs14 0, nth xs14 1, v328, v332, v335] H333 nx334)
 (LD false 1 (.ptr nx16 0) H250 fun v336 =>
 BI .eql v336 (.int .i64 16) fun v337 =>
 CNDC v337
 (LD false 1 (.ptr nx16 1) H250 fun v338 =>
 BSL 1 1 [.int .i64 0] [(0, v338)] fun cells339 =>
 APP 1 8 (nth xs14 2) (.slc nx251 0 1) (H250.put nx251 (some (.row 1 cells339))) (nx251 + 1) fun v340 H341 nx342 =>
 BSL 1 1 [.int .i64 0] [(0, v259)] fun cells343 =>
 APP 1 8 (nth xs14 3) (.slc nx342 0 1) (H341.put nx342 (some (.row 1 cells343))) (nx342 + 1) fun v344 H345 nx346 =>
 BI .add (nth xs14 4) (.int .i64 1) fun v347 =>
 K13 [nth xs14 0, nth xs14 1, v340, v344, v347] H345 nx346)
 (BI .add (nth xs14 4) (.int .i64 1) fun v348 =>
 K13 [nth xs14 0, nth xs14 1, nth xs14 2, nth xs14 3, v348] H250 nx251))))))
 (BI .sub v23 v252 fun v349 =>
 BI .add v349 v253 fun v350 =>
 BI .gtr v350 (.int .i64 16) fun v351 =>
 CNDC v351
 (Q (.tup [.nils, .int .i64 4]) H250 nx251)
 (LD false 1 (.ptr nx16 0) H250 fun v352 =>
 BI .neq v352 (.int .i64 15) fun v353 =>
 CND v353
 (LD false 1 (.ptr nx16 0) H250 fun v354 =>
 BI .neq v354 (.int .i64 18) fun v355 =>
 CNDC v355
 (BI .add v20 (.int .i64 1) fun v356 =>
 BSL 1 1 [.int .i64 0] [(0, v356)] fun cells357 =>
 APP 1 8 (nth xs14 2) (.slc nx251 0 1) (H250.put nx251 (some (.row 1 cells357))) (nx251 + 1) fun v358 H359 nx360 =>
 BSL 1 1 [.int .i64 0] [(0, v350)] fun cells361 =>
 APP 1 8 (nth xs14 3) (.slc nx360 0 1) (H359.put nx360 (some (.row 1 cells361))) (nx360 + 1) fun v362 H363 nx364 =>
 LD false 1 (.ptr nx16 0) H363 fun v365 =>
 BI .eql v365 (.int .i64 15) fun v366 =>
 CND v366
 (LD false 1 (.ptr nx16 1) H363 fun v367 =>
 BSL 1 1 [.int .i64 0] [(0, v367)] fun cells368 =>
 APP 1 8 v358 (.slc nx364 0 1) (H363.put nx364 (some (.row 1 cells368))) (nx364 + 1) fun v369 H370 nx371 =>
 BSL 1 1 [.int .i64 0] [(0, v350)] fun cells372 =>
 APP 1 8 v362 (.slc nx371 0 1) (H370.put nx371 (some (.row 1 cells372))) (nx371 + 1) fun v373 H374 nx375 =>
 BI .add (nth xs14 4) (.int .i64 1) fun v376 =>
 K13 [nth xs14 0, nth xs14 1, v369, v373, v376] H374 nx375)
 (LD false 1 (.ptr nx16 0) H363 fun v377 =>
 BI .eql v377 (.int .i64 16) fun v378 =>
 CNDC v378
 (LD false 1 (.ptr nx16 1) H363 fun v379 =>
 BSL 1 1 [.int .i64 0] [(0, v379)] fun cells380 =>
 APP 1 8 v358 (.slc nx364 0 1) (H363.put nx364 (some (.row 1 cells380))) (nx364 + 1) fun v381 H382 nx383 =>
 BSL 1 1 [.int .i64 0] [(0, v350)] fun cells384 =>
 APP 1 8 v362 (.slc nx383 0 1) (H382.put nx383 (some (.row 1 cells384))) (nx383 + 1) fun v385 H386 nx387 =>
 BI .add (nth xs14 4) (.int .i64 1) fun v388 =>
 K13 [nth xs14 0, nth xs14 1, v381, v385, v388] H386 nx387)
 (BI .add (nth xs14 4) (.int .i64 1) fun v389 =>
 K13 [nth xs14 0, nth xs14 1, v358, v362, v389] H363 nx364)))
 (LD false 1 (.ptr nx16 0) H250 fun v390 =>
 BI .eql v390 (.int .i64 15) fun v391 =>
 CND v391
 (LD false 1 (.ptr nx16 1) H250 fun v392 =>
 BSL 1 1 [.int .i64 0] [(0, v392)] fun cells393 =>
 APP 1 8 (nth xs14 2) (.slc nx251 0 1) (H250.put nx251 (some (.row 1 cells393))) (nx251 + 1) fun v394 H395 nx396 =>
 BSL 1 1 [.int .i64 0] [(0, v350)] fun cells397 =>
 APP 1 8 (nth xs14 3) (.slc nx396 0 1) (H395.put nx396 (some (.row 1 cells397))) (nx396 + 1) fun v398 H399 nx400 =>
 BI .add (nth xs14 4) (.int .i64 1) fun v401 =>
 K13 [nth xs14 0, nth xs14 1, v394, v398, v401] H399 nx400)
 (LD false 1 (.ptr nx16 0) H250 fun v402 =>
 BI .eql v402 (.int .i64 16) fun v403 =>
 CNDC v403
 (LD false 1 (.ptr nx16 1) H250 fun v404 =>
 BSL 1 1 [.int .i64 0] [(0, v404)] fun cells405 =>
 APP 1 8 (nth xs14 2) (.slc nx251 0 1) (H250.put nx251 (some (.row 1 cells405))) (nx251 + 1) fun v406 H407 nx408 =>
 BSL 1 1 [.int .i64 0] [(0, v350)] fun cells409 =>
 APP 1 8 (nth xs14 3) (.slc nx408 0 1) (H407.put nx408 (some (.row 1 cells409))) (nx408 + 1) fun v410 H411 nx412 =>
 BI .add (nth xs14 4) (.int .i64 1) fun v413 =>
 K13 [nth xs14 0, nth xs14 1, v406, v410, v413] H411 nx412)
 (BI .add (nth xs14 4) (.int .i64 1) fun v414 =>
 K13 [nth xs14 0, nth xs14 1, nth xs14 2, nth xs14 3, v414] H250 nx251))))
 (LD false 1 (.ptr nx16 0) H250 fun v415 =>
 BI .eql v415 (.int .i64 15) fun v416 =>
 CND v416
 (LD false 1 (.ptr nx16 1) H250 fun v417 =>
 BSL 1 1 [.int .i64 0] [(0, v417)] fun cells418 =>
 APP 1 8 (nth xs14 2) (.slc nx251 0 1) (H250.put nx251 (some (.row 1 cells418))) (nx251 + 1) fun v419 H420 nx421 =>
 BSL 1 1 [.int .i64 0] [(0, v350)] fun cells422 =>
 APP 1 8 (nth xs14 3) (.slc nx421 0 1) (H420.put nx421 (some (.row 1 cells422))) (nx421 + 1) fun v423 H424 nx425 =>
 BI .add (nth xs14 4) (.int .i64 1) fun v426 =>
 K13 [nth xs14 0, nth xs14 1, v419, v423, v426] H424 nx425)
 (LD false 1 (.ptr nx16 0) H250 fun v427 =>
 BI .eql v427 (.int .i64 16) fun v428 =>
 CNDC v428
 (LD false 1 (.ptr nx16 1) H250 fun v429 =>
 BSL 1 1 [.int .i64 0] [(0, v429)] fun cells430 =>
 APP 1 8 (nth xs14 2) (.slc nx251 0 1) (H250.put nx251 (some (.row 1 cells430))) (nx251 + 1) fun v431 H432 nx433 =>
 BSL 1 1 [.int .i64 0] [(0, v350)] fun cells434 =>
 APP 1 8 (nth xs14 3) (.slc nx433 0 1) (H432.put nx433 (some (.row 1 cells434))) (nx433 + 1) fun v435 H436 nx437 =>
 BI .add (nth xs14 4) (.int .i64 1) fun v438 =>
 K13 [nth xs14 0, nth xs14 1, v431, v435, v438] H436 nx437)
 (BI .add (nth xs14 4) (.int .i64 1) fun v439 =>
 K13 [nth xs14 0, nth xs14 1, nth xs14 2, nth xs14 3, v439] H250 nx251))))))
def zat (Q : QT) (K13 : J3) (xs14 : List AV) (H15 : Heap) (nx16 : Nat) : Prop :=
 LNL (nth xs14 2) fun v17 =>
 BI .lss (nth xs14 4) v17 fun v18 =>
 CNDC v18
 (IA 1 (nth xs14 2) (nth xs14 4) fun v19 =>
 LDR false 1 v19 H15 fun v20 _ =>
 IA 1 (nth xs14 3) (nth xs14 4) fun v22 =>
 LDR false 1 v22 H15 fun v23 _ =>
 BI .lss v20 (.int .i64 0) fun v25 =>
 CND v25
 (Q (.tup [.nils, .int .i64 8]) H15 nx16)
 (LNL (nth xs14 1) fun v26 =>
 BI .geq v20 v26 fun v27 =>
 CNDC v27
 (Q (.tup [.nils, .int .i64 8]) H15 nx16)
 (IA 1 (nth xs14 1) v20 fun v28 =>
 LD false 1 v28 H15 fun v29 =>
 BI .geq v29 (.int .i64 0) fun v30 =>
 CND v30
 (IA 1 (nth xs14 1) v20 fun v31 =>
 LD false 1 v31 H15 fun v32 =>
 BI .neq v32 v23 fun v33 =>
 CNDC v33
 (Q (.tup [.nils, .int .i64 10]) H15 nx16)
 (IA 1 (nth xs14 1) v20 fun v34 =>
 LD false 1 v34 H15 fun v35 =>
 BI .geq v35 (.int .i64 0) fun v36 =>
 CNDC v36
 (BI .add (nth xs14 4) (.int .i64 1) fun v37 =>
 K13 [nth xs14 0, nth xs14 1, nth xs14 2, nth xs14 3, v37] H15 nx16)
 (IA 1 (nth xs14 1) v20 fun v38 =>
 ST 1 v38 v23 H15 fun H39 =>
 FA 2 (nth xs14 0) fun v40 =>
 LD false 1 v40 H39 fun v41 =>
 IA 3 v41 v20 fun v42 =>
 LD true 3 v42 H39 fun v43 =>
 ST 3 (.ptr nx16 0) v43 (H39.put nx16 (some (.row 3 [.int .i64 0, .int .i64 0, .int .i64 0]))) fun H44 =>
 LD true 3 (.ptr nx16 0) H44 fun v45 =>
 za Tryz.prog 30 [v45] H44 (nx16 + 1) (zru v23 Q nx16 v20 xs14 K13))))
 (IA 1 (nth xs14 1) v20 fun v237 =>
 LD false 1 v237 H15 fun v238 =>
 BI .geq v238 (.int .i64 0) fun v239 =>
 CNDC v239
 (BI .add (nth xs14 4) (.int .i64 1) fun v240 =>
 K13 [nth xs14 0, nth xs14 1, nth xs14 2, nth xs14 3, v240] H15 nx16)
 (IA 1 (nth xs14 1) v20 fun v241 =>
 ST 1 v241 v23 H15 fun H242 =>
 FA 2 (nth xs14 0) fun v243 =>
 LD false 1 v243 H242 fun v244 =>
 IA 3 v244 v20 fun v245 =>
 LD true 3 v245 H242 fun v246 =>
 ST 3 (.ptr nx16 0) v246 (H242.put nx16 (some (.row 3 [.int .i64 0, .int .i64 0, .int .i64 0]))) fun H247 =>
 LD true 3 (.ptr nx16 0) H247 fun v248 =>
 za Tryz.prog 30 [v248] H247 (nx16 + 1) (zai v23 Q nx16 v20 xs14 K13))))))
 (Q (.tup [nth xs14 1, .int .i64 0]) H15 nx16)
def ziy (Q : QT) (K5 : J3) (xs6 : List AV) (H7 : Heap) (nx8 : Nat) : Prop :=
 BI .lss (nth xs6 3) (nth xs6 2) fun v9 =>
 CNDC v9
 (IA 1 (nth xs6 1) (nth xs6 3) fun v10 =>
 ST 1 v10 (.int .i64 (-1)) H7 fun H11 =>
 BI .add (nth xs6 3) (.int .i64 1) fun v12 =>
 K5 [nth xs6 0, nth xs6 1, nth xs6 2, v12] H11 nx8)
 (LP (zat Q) [nth xs6 0, nth xs6 1, .slc nx8 0 1, .slc (nx8 + 1) 0 1, .int .i64 0] ((H7.put nx8 (some (.row 1 [.int .i64 0]))).put ((nx8 + 1)) (some (.row 1 [.int .i64 0]))) (nx8 + 2))
def zix (a0 : AV) (H : Heap) (nx : Nat) (Q : QT) : Prop :=
 a0.sure = true ∧
 LD false 1 (.ptr nx 2) (H.put nx (some (.row a0.cells.length a0.cells))) fun v1 =>
 LNL v1 fun v2 =>
 MK 8 v2 v2 fun n3 =>
 LNL (.slc (nx + 1) 0 n3) fun v4 =>
 LP (ziy Q) [.ptr nx 0, .slc (nx + 1) 0 n3, v4, .int .i64 0] ((H.put nx (some (.row a0.cells.length a0.cells))).put ((nx + 1)) (some (.row 1 (List.replicate n3 [.int .i64 0]).flatten))) (nx + 2)
theorem znb (a0 : AV) (H : Heap) (nx : Nat) (Q : QT) : zix a0 H nx Q → za Tryz.prog 17 [a0] H nx Q :=
  ze (lv := lvOf [(2, 3, [1, 4, 19, 20]), (2, 9, [1, 4, 6, 7, 8])]) (c := zp Tryz.f17) zy zz mixed Tryz.func17 (by kernel_rfl) (by kernel_rfl) (by kernel_rfl) (by kernel_rfl) (by kernel_rfl)
def ziv (Q : QT) (xs13 : List AV) (K12 : J3) (v19 : AV) (H20 : Heap) (nx21 : Nat) : Prop :=
 UO .not v19 fun v22 =>
 CNDC v22
 (Q (.int .i64 7) H20 nx21)
 (BI .add (nth xs13 3) (.int .i64 1) fun v23 =>
 K12 [nth xs13 0, nth xs13 1, nth xs13 2, v23] H20 nx21)
def zeq (Q : QT) (K70 : J3) (xs83 : List AV) (H84 : Heap) (nx85 : Nat) : Prop :=
 FA 1 (nth xs83 2) fun v87 =>
 LDR false 1 v87 H84 fun v88 _ =>
 BI .lss v88 (nth xs83 3) fun v90 =>
 CND v90
 (Q (.int .i64 3) H84 nx85)
 (FA 1 (nth xs83 2) fun v91 =>
 LDR false 1 v91 H84 fun v92 _ =>
 BI .gtr v92 (nth xs83 4) fun v94 =>
 CND v94
 (Q (.int .i64 3) H84 nx85)
 (FA 0 (nth xs83 2) fun v95 =>
 LDR false 1 v95 H84 fun v96 _ =>
 BI .eql v96 (.int .i64 17) fun v98 =>
 CND v98
 (FA 2 (nth xs83 2) fun v99 =>
 LDR false 1 v99 H84 fun v100 _ =>
 FA 0 (nth xs83 0) fun v102 =>
 LDR false 1 v102 H84 fun v103 _ =>
 FA 1 (nth xs83 2) fun v105 =>
 LDR false 1 v105 H84 fun v106 _ =>
 IA 3 v103 v106 fun v108 =>
 FA 0 v108 fun v109 =>
 LDR false 1 v109 H84 fun v110 _ =>
 BI .neq v100 v110 fun v112 =>
 CND v112
 (Q (.int .i64 3) H84 nx85)
 (FA 0 (nth xs83 2) fun v113 =>
 LDR false 1 v113 H84 fun v114 _ =>
 BI .neq v114 (.int .i64 17) fun v116 =>
 CND v116
 (FA 2 (nth xs83 2) fun v117 =>
 LDR false 1 v117 H84 fun v118 _ =>
 BI .neq v118 (.int .i64 0) fun v120 =>
 CNDC v120
 (Q (.int .i64 3) H84 nx85)
 (BI .add (nth xs83 10) (.int .i64 1) fun v121 =>
 K70 [nth xs83 0, nth xs83 1, nth xs83 5, nth xs83 6, nth xs83 7, nth xs83 8, nth xs83 9, v121] H84 nx85))
 (BI .add (nth xs83 10) (.int .i64 1) fun v122 =>
 K70 [nth xs83 0, nth xs83 1, nth xs83 5, nth xs83 6, nth xs83 7, nth xs83 8, nth xs83 9, v122] H84 nx85)))
 (FA 0 (nth xs83 2) fun v123 =>
 LDR false 1 v123 H84 fun v124 _ =>
 BI .neq v124 (.int .i64 17) fun v126 =>
 CND v126
 (FA 2 (nth xs83 2) fun v127 =>
 LDR false 1 v127 H84 fun v128 _ =>
 BI .neq v128 (.int .i64 0) fun v130 =>
 CNDC v130
 (Q (.int .i64 3) H84 nx85)
 (BI .add (nth xs83 10) (.int .i64 1) fun v131 =>
 K70 [nth xs83 0, nth xs83 1, nth xs83 5, nth xs83 6, nth xs83 7, nth xs83 8, nth xs83 9, v131] H84 nx85))
 (BI .add (nth xs83 10) (.int .i64 1) fun v132 =>
 K70 [nth xs83 0, nth xs83 1, nth xs83 5, nth xs83 6, nth xs83 7, nth xs83 8, nth xs83 9, v132] H84 nx85))))
def ziw (v82 : AV) (xs71 : List AV) (nx73 : Nat) (H77 : Heap) (j86 : J3) : Prop :=
 BI .eql v82 (.int .i64 1) fun v133 =>
 CNDC v133
 (j86 [nth xs71 0, nth xs71 1, .ptr nx73 0, .int .i64 (-1073741824), .int .i64 1073741824, nth xs71 2, nth xs71 3, nth xs71 4, nth xs71 5, nth xs71 6, nth xs71 7] H77 (nx73 + 1))
 (BI .eql v82 (.int .i64 2) fun v134 =>
 CNDC v134
 (FA 1 (nth xs71 0) fun v135 =>
 LD false 1 v135 H77 fun v136 =>
 LNL v136 fun v137 =>
 BI .sub v137 (.int .i64 1) fun v138 =>
 j86 [nth xs71 0, nth xs71 1, .ptr nx73 0, .int .i64 0, v138, nth xs71 2, nth xs71 3, nth xs71 4, nth xs71 5, nth xs71 6, nth xs71 7] H77 (nx73 + 1))
 (BI .eql v82 (.int .i64 3) fun v139 =>
 CNDC v139
 (FA 1 (nth xs71 1) fun v140 =>
 LD false 1 v140 H77 fun v141 =>
 BI .sub v141 (.int .i64 1) fun v142 =>
 j86 [nth xs71 0, nth xs71 1, .ptr nx73 0, .int .i64 0, v142, nth xs71 2, nth xs71 3, nth xs71 4, nth xs71 5, nth xs71 6, nth xs71 7] H77 (nx73 + 1))
 (BI .eql v82 (.int .i64 4) fun v143 =>
 CNDC v143
 (FA 1 (nth xs71 1) fun v144 =>
 LD false 1 v144 H77 fun v145 =>
 BI .sub v145 (.int .i64 1) fun v146 =>
 j86 [nth xs71 0, nth xs71 1, .ptr nx73 0, .int .i64 0, v146, nth xs71 2, nth xs71 3, nth xs71 4, nth xs71 5, nth xs71 6, nth xs71 7] H77 (nx73 + 1))
 (BI .eql v82 (.int .i64 5) fun v147 =>
 CNDC v147
 (j86 [nth xs71 0, nth xs71 1, .ptr nx73 0, .int .i64 1, .int .i64 5, nth xs71 2, nth xs71 3, nth xs71 4, nth xs71 5, nth xs71 6, nth xs71 7] H77 (nx73 + 1))
 (BI .eql v82 (.int .i64 15) fun v148 =>
 CNDC v148
 (FA 2 (nth xs71 1) fun v149 =>
 LD false 1 v149 H77 fun v150 =>
 LNL v150 fun v151 =>
 BI .sub v151 (.int .i64 1) fun v152 =>
 j86 [nth xs71 0, nth xs71 1, .ptr nx73 0, .int .i64 0, v152, nth xs71 2, nth xs71 3, nth xs71 4, nth xs71 5, nth xs71 6, nth xs71 7] H77 (nx73 + 1))
 (BI .eql v82 (.int .i64 16) fun v153 =>
 CNDC v153
 (FA 2 (nth xs71 1) fun v154 =>
 LD false 1 v154 H77 fun v155 =>
 LNL v155 fun v156 =>
 BI .sub v156 (.int .i64 1) fun v157 =>
 j86 [nth xs71 0, nth xs71 1, .ptr nx73 0, .int .i64 0, v157, nth xs71 2, nth xs71 3, nth xs71 4, nth xs71 5, nth xs71 6, nth xs71 7] H77 (nx73 + 1))
 (BI .eql v82 (.int .i64 17) fun v158 =>
 CNDC v158
 (FA 0 (nth xs71 0) fun v159 =>
 LD false 1 v159 H77 fun v160 =>
 LNL v160 fun v161 =>
 BI .sub v161 (.int .i64 1) fun v162 =>
 j86 [nth xs71 0, nth xs71 1, .ptr nx73 0, .int .i64 0, v162, nth xs71 2, nth xs71 3, nth xs71 4, nth xs71 5, nth xs71 6, nth xs71 7] H77 (nx73 + 1))
 (j86 [nth xs71 0, nth xs71 1, .ptr nx73 0, .int .i64 0, .int .i64 0, nth xs71 2, nth xs71 3, nth xs71 4, nth xs71 5, nth xs71 6, nth xs71 7] H77 (nx73 + 1)))))))))
def ziu (Q : QT) (xs71 : List AV) (K60 : J3) (v164 : AV) (H165 : Heap) (nx166 : Nat) : Prop :=
 EX v164 0 fun _ =>
 EX v164 1 fun v168 =>
 BI .neq v168 (.int .i64 0) fun v169 =>
 CNDC v169
 (Q v168 H165 nx166)
 (BI .add (nth xs71 4) (.int .i64 1) fun v170 =>
 K60 [nth xs71 0, nth xs71 2, nth xs71 3, v170] H165 nx166)
def zep (Q : QT) (K60 : J3) (K70 : J3) (xs71 : List AV) (H72 : Heap) (nx73 : Nat) : Prop :=
 BI .lss (nth xs71 7) (nth xs71 6) fun v74 =>
 CNDC v74
 (IA 3 (nth xs71 5) (nth xs71 7) fun v75 =>
 LD true 3 v75 H72 fun v76 =>
 ST 3 (.ptr nx73 0) v76 (H72.put nx73 (some (.row 3 [.int .i64 0, .int .i64 0, .int .i64 0]))) fun H77 =>
 LD false 1 (.ptr nx73 0) H77 fun v78 =>
 BI .lss v78 (.int .i64 1) fun v79 =>
 CND v79
 (Q (.int .i64 1) H77 (nx73 + 1))
 (LD false 1 (.ptr nx73 0) H77 fun v80 =>
 BI .gtr v80 (.int .i64 19) fun v81 =>
 CNDC v81
 (Q (.int .i64 1) H77 (nx73 + 1))
 (LD false 1 (.ptr nx73 0) H77 fun v82 =>
 JN (zeq Q K70) (ziw v82 xs71 nx73 H77))))
 (LD true 3 (nth xs71 1) H72 fun v163 =>
 za Tryz.prog 17 [v163] H72 nx73 (ziu Q xs71 K60))
def zeo (Q : QT) (K60 : J3) (xs61 : List AV) (H62 : Heap) (nx63 : Nat) : Prop :=
 BI .lss (nth xs61 3) (nth xs61 2) fun v64 =>
 CNDC v64
 (IA 3 (nth xs61 1) (nth xs61 3) fun v65 =>
 LD true 3 v65 H62 fun v66 =>
 ST 3 (.ptr nx63 0) v66 (H62.put nx63 (some (.row 3 [.int .i64 0, .int .i64 0, .nils]))) fun H67 =>
 LD false 1 (.ptr nx63 2) H67 fun v68 =>
 LNL v68 fun v69 =>
 LP (zep Q K60) [nth xs61 0, .ptr nx63 0, nth xs61 1, nth xs61 2, nth xs61 3, v68, v69, .int .i64 0] H67 (nx63 + 1))
 (Q (.int .i64 0) H62 nx63)
def zen (Q : QT) (K33 : J3) (xs34 : List AV) (H35 : Heap) (nx36 : Nat) : Prop :=
 BI .lss (nth xs34 3) (nth xs34 2) fun v37 =>
 CNDC v37
 (IA 3 (nth xs34 1) (nth xs34 3) fun v38 =>
 LD true 3 v38 H35 fun v39 =>
 ST 3 (.ptr nx36 0) v39 (H35.put nx36 (some (.row 3 [.int .i64 0, .int .i64 0, .nils]))) fun H40 =>
 LD false 1 (.ptr nx36 0) H40 fun v41 =>
 BI .lss v41 (.int .i64 0) fun v42 =>
 CND v42
 (Q (.int .i64 3) H40 (nx36 + 1))
 (LD false 1 (.ptr nx36 0) H40 fun v43 =>
 BI .gtr v43 (.int .i64 4) fun v44 =>
 CND v44
 (Q (.int .i64 3) H40 (nx36 + 1))
 (LD false 1 (.ptr nx36 1) H40 fun v45 =>
 LD false 1 (.ptr nx36 0) H40 fun v46 =>
 BI .lss v45 v46 fun v47 =>
 CND v47
 (Q (.int .i64 3) H40 (nx36 + 1))
 (LD false 1 (.ptr nx36 1) H40 fun v48 =>
 BI .gtr v48 (.int .i64 8) fun v49 =>
 CND v49
 (Q (.int .i64 3) H40 (nx36 + 1))
 (LD false 1 (.ptr nx36 2) H40 fun v50 =>
 LNL v50 fun v51 =>
 BI .eql v51 (.int .i64 0) fun v52 =>
 CND v52
 (Q (.int .i64 3) H40 (nx36 + 1))
 (LD false 1 (.ptr nx36 2) H40 fun v53 =>
 LNL v53 fun v54 =>
 BI .gtr v54 (.int .i64 200) fun v55 =>
 CNDC v55
 (Q (.int .i64 3) H40 (nx36 + 1))
 (BI .add (nth xs34 3) (.int .i64 1) fun v56 =>
 K33 [nth xs34 0, nth xs34 1, nth xs34 2, v56] H40 (nx36 + 1))))))))
 (FA 0 (nth xs34 0) fun v57 =>
 LD false 1 v57 H35 fun v58 =>
 LNL v58 fun v59 =>
 LP (zeo Q) [nth xs34 0, v58, v59, .int .i64 0] H35 nx36)
def zem (Q : QT) (K12 : J3) (xs13 : List AV) (H14 : Heap) (nx15 : Nat) : Prop :=
 BI .lss (nth xs13 3) (nth xs13 2) fun v16 =>
 CNDC v16
 (IA 1 (nth xs13 1) (nth xs13 3) fun v17 =>
 LD false 1 v17 H14 fun v18 =>
 za Tryz.prog 16 [v18] H14 nx15 (ziv Q xs13 K12))
 (FA 0 (nth xs13 0) fun v24 =>
 LD false 1 v24 H14 fun v25 =>
 IA 3 v25 (.int .i64 0) fun v26 =>
 FA 0 v26 fun v27 =>
 LD false 1 v27 H14 fun v28 =>
 BI .neq v28 (.int .i64 0) fun v29 =>
 CNDC v29
 (Q (.int .i64 10) H14 nx15)
 (FA 0 (nth xs13 0) fun v30 =>
 LD false 1 v30 H14 fun v31 =>
 LNL v31 fun v32 =>
 LP (zen Q) [nth xs13 0, v31, v32, .int .i64 0] H14 nx15))
def zit (a0 : AV) (H : Heap) (nx : Nat) (Q : QT) : Prop :=
 a0.sure = true ∧
 LD false 1 (.ptr nx 0) (H.put nx (some (.row a0.cells.length a0.cells))) fun v1 =>
 LNL v1 fun v2 =>
 BI .eql v2 (.int .i64 0) fun v3 =>
 CND v3
 (Q (.int .i64 5) (H.put nx (some (.row a0.cells.length a0.cells))) (nx + 1))
 (LD false 1 (.ptr nx 0) (H.put nx (some (.row a0.cells.length a0.cells))) fun v4 =>
 LNL v4 fun v5 =>
 BI .gtr v5 (.int .i64 5) fun v6 =>
 CNDC v6
 (Q (.int .i64 5) (H.put nx (some (.row a0.cells.length a0.cells))) (nx + 1))
 (LD false 1 (.ptr nx 1) (H.put nx (some (.row a0.cells.length a0.cells))) fun v7 =>
 LNL v7 fun v8 =>
 BI .gtr v8 (.int .i64 16) fun v9 =>
 CNDC v9
 (Q (.int .i64 4) (H.put nx (some (.row a0.cells.length a0.cells))) (nx + 1))
 (LD false 1 (.ptr nx 1) (H.put nx (some (.row a0.cells.length a0.cells))) fun v10 =>
 LNL v10 fun v11 =>
 LP (zem Q) [.ptr nx 0, v10, v11, .int .i64 0] (H.put nx (some (.row a0.cells.length a0.cells))) (nx + 1))))
theorem zna (a0 : AV) (H : Heap) (nx : Nat) (Q : QT) : zit a0 H nx Q → za Tryz.prog 6 [a0] H nx Q :=
  ze (lv := lvOf [(1, 8, [1, 8, 10, 11, 12, 87, 88, 89, 94, 95, 96]), (2, 6, [1, 30, 31, 32]), (2, 14, [1, 47, 48, 49]), (2, 20, [1, 87, 88, 89]), (2, 23, [1, 8, 87, 88, 89, 94, 95, 96])]) (c := zp Tryz.f6) zy zz mixed Tryz.func6 (by kernel_rfl) (by kernel_rfl) (by kernel_rfl) (by kernel_rfl) (by kernel_rfl)
end Go.Proofs.YtdmibdjokofclaaGreatDoor
set_option maxRecDepth 8000
namespace Go.Proofs.YtdmibdjokofclaaGreatDoor
open Go Go.RowKit
end Go.Proofs.YtdmibdjokofclaaGreatDoor
set_option maxRecDepth 8000
namespace Go.Proofs.YtdmibdjokofclaaGreatDoor
open Go Go.RowKit
@[simp] theorem zaqg : eqsT 78 = true := by kernel_rfl
@[simp] theorem zaoo : eqsT 120 = true := by kernel_rfl
end Go.Proofs.YtdmibdjokofclaaGreatDoor
set_option maxRecDepth 8000
namespace Go.Proofs.YtdmibdjokofclaaGreatDoor
open Go Go.RowKit
inductive Rn (R : Nat → Prop) (gn g0 : Nat) : AV → AV → Prop
  | same (v : AV) : Bel R v → Rn R gn g0 v v
  | slc (off len : Nat) : Rn R gn g0 (.slc gn off len) (.slc g0 off len)
  | ptr (off : Nat) : Rn R gn g0 (.ptr gn off) (.ptr g0 off)
  | amap : Rn R gn g0 (.amap gn) (.amap g0)
  | agg (xs ys : List AV) : ys.length = xs.length → (∀ (j : Nat) (v u : AV), xs[j]? = some v → ys[j]? = some u → Rn R gn g0 v u) → Rn R gn g0 (.agg xs) (.agg ys)
def RnO (R : Nat → Prop) (gn g0 : Nat) : AObj → AObj → Prop
  | .row s cs, .row s' ds => s' = s ∧ ds.length = cs.length ∧ ∀ (j : Nat) (v u : AV), cs[j]? = some v → ds[j]? = some u → Rn R gn g0 v u
  | .mp es, .mp fs => fs.length = es.length ∧ ∀ (j : Nat) (v u : AV × AV), es[j]? = some v → fs[j]? = some u → Rn R gn g0 v.1 u.1 ∧ Rn R gn g0 v.2 u.2
  | _, _ => False
theorem VRel.rn {K : zn} {ρ ρ2 : Nat → Loc} {A A2 R : Nat → Prop} {gn g0 : Nat} {v u : AV} {c : Value} (h : VRel K ρ A v c) (hr : Rn R gn g0 v u) (hR : ∀ g, R g → A g → ρ2 g = ρ g ∧ A2 g) (hA : ∀ g, R g → A g) (hg : ρ2 g0 = ρ gn ∧ A2 g0) : VRel K ρ2 A2 u c := by
  induction hr generalizing c with
  | same _ hb => exact (h.restrict hb).mono (fun _ _ h => h) fun g hg => hR g hg (hA g hg)
  | slc off len =>
    cases h with
    | slc _ _ _ cap a h1 h2 h3 => exact .slc g0 off len cap a hg.2 h2 (by rw [hg.1]; exact h3)
  | ptr off =>
    cases h with
    | ptr _ _ a h1 h2 => exact .ptr g0 off a hg.2 (by rw [hg.1]; exact h2)
  | amap =>
    cases h with
    | amap _ r h1 h2 => exact .amap g0 r hg.2 (by rw [hg.1]; exact h2)
  | agg xs ys hl _ ih =>
    cases h with
    | agg _ cs h1 h2 =>
      exact .agg ys cs (by omega) fun j u c hu hc => by
        have hlt := (List.getElem?_eq_some_iff.1 hu).1
        have hx : xs[j]? = some (xs[j]'(by omega)) := List.getElem?_eq_getElem (by omega)
        exact ih j _ u hx hu (h2 j _ c hx hc)
theorem zan.rn {K : zn} {ρ ρ2 : Nat → Loc} {A A2 R : Nat → Prop} {gn g0 : Nat} {o o' : AObj} {w : World} {l : Loc} (h : zan K ρ A w l o) (hr : RnO R gn g0 o o') (hR : ∀ g, R g → A g → ρ2 g = ρ g ∧ A2 g) (hA : ∀ g, R g → A g) (hg : ρ2 g0 = ρ gn ∧ A2 g0) : zan K ρ2 A2 w l o' := by
  cases o with
  | row s cs =>
    cases o' with
    | mp fs | it _ _ _ => exact hr.elim
    | row s' ds =>
      obtain ⟨rfl, hl, hc⟩ := hr
      obtain ⟨c, e, lo, hi, h1, h0, h2, h3, h4, h5⟩ := h
      refine ⟨c, e, lo, hi, h1, h0, h2, h3, by rw [hl]; exact h4, fun j u hu => ?_⟩
      have hj : j < cs.length := by have := (List.getElem?_eq_some_iff.1 hu).1; omega
      have hv : cs[j]? = some cs[j] := List.getElem?_eq_getElem hj
      obtain ⟨cv, a1, a2⟩ := h5 j _ hv
      exact ⟨cv, a1, a2.rn (hc j _ u hv hu) hR hA hg⟩
  | mp es =>
    cases o' with
    | row s' ds | it _ _ _ => exact hr.elim
    | mp fs =>
      obtain ⟨hl, hc⟩ := hr
      obtain ⟨en, cl, h1, h2, h3, h4⟩ := h
      refine ⟨en, cl, h1, by rw [hl]; exact h2, fun j u e hu he => ?_, h4⟩
      have hj : j < es.length := by have := (List.getElem?_eq_some_iff.1 hu).1; omega
      have hv : es[j]? = some es[j] := List.getElem?_eq_getElem hj
      obtain ⟨a1, a2⟩ := h3 j _ e hv he
      obtain ⟨b1, b2⟩ := hc j _ u hv hu
      exact ⟨a1.rn b1 hR hA hg, a2.rn b2 hR hA hg⟩
  | it _ _ _ => exact hr.elim
theorem zik {D : zj} : ∀ {H : Heap} {g : Nat}, g ∉ domD D → (H.apply D) g = H g := by
  induction D with
  | nil => intros; rfl
  | cons d r ih =>
    obtain ⟨g', o⟩ := d
    intro H g hg
    simp only [domD, List.map_cons, List.mem_cons, not_or] at hg
    show ((H.put g' o).apply r) g = H g
    rw [ih (by simpa [domD] using hg.2), Heap.put_ne _ _ hg.1]
theorem LC.of_calls1 {P : Program} {f : FuncId} {args : List AV} {r : AV} {H0 : Heap} {rd : List Nat} {D : zj} {g0 : Nat} (hrd : ∀ g ∈ rd, (H0 g).isSome = true) (hdom : ∀ g ∈ domD D, g ∈ rd ∨ g = g0)
    (h : ∀ H nx, (∀ g ∈ rd, H g = H0 g ∧ g < nx) → za P f args H nx fun v H' nx' => ∃ gn, nx ≤ gn ∧ gn < nx' ∧ Rn (fun x => x ∈ rd) gn g0 v r ∧ (∀ g, g < nx → g ∉ domD D → H' g = H g) ∧
      (∀ g o, g ∈ domD D → g ≠ g0 → (H.apply D) g = some o → ∃ o', H' g = some o' ∧ RnO (fun x => x ∈ rd) gn g0 o' o) ∧ (∃ o o', (H.apply D) g0 = some o ∧ H' gn = some o' ∧ RnO (fun x => x ∈ rd) gn g0 o' o)) : LC P f args H0 rd [g0] D r := by
  intro A ρ H w cargs ⟨N0, hN0⟩ s ha hag hfresh
  obtain ⟨N, hN, hg0N⟩ : ∃ N, (∀ g, A g → g < N) ∧ g0 < N := ⟨max N0 (g0 + 1), fun g hg => by have := hN0 g hg; omega, by omega⟩
  have hg0 : ¬ A g0 := hfresh g0 (by simp)
  have sN : Sim (· < N) ρ H w := ⟨fun g o ho => hN g (s.live g o ho), fun g o ho => (s.obj g o ho).mono rfl (fun _ _ h => h) (fun g hg => ⟨rfl, hN g hg⟩), s.inj, s.lay⟩
  have aN : LRel (Kof ρ H w) ρ (· < N) args cargs.toList := ⟨ha.1, fun j v c hv hc => (ha.2 j v c hv hc).mono (fun _ _ h => h) (fun g hg => ⟨rfl, hN g hg⟩)⟩
  have hrdA : ∀ g ∈ rd, A g := fun g hg => by
    obtain ⟨o, ho⟩ := Option.isSome_iff_exists.1 (hrd g hg)
    exact s.live g o ((hag g hg).trans ho)
  refine zo (h H N (fun g hg => ⟨hag g hg, hN g (hrdA g hg)⟩) ρ w cargs sN aN) fun cv w' ⟨v, H', nx', ρ', ⟨gn, hgN, hgn, hv, hsame, hchg, onew, onew', hn1, hn2, hn3⟩, q3, q4, q5⟩ => ?_
  have hρ : ∀ g, g < N → ρ' g = ρ g := fun g hg => (q5.agree g hg).1
  let ρ2 : Nat → Loc := fun g => if g = g0 then ρ' gn else ρ' g
  have h20 : ρ2 g0 = ρ' gn := if_pos rfl
  have h2 : ∀ g, g ≠ g0 → ρ2 g = ρ' g := fun g hg => if_neg hg
  have hAne : ∀ g, A g → g ≠ g0 := fun g hg e => hg0 (e ▸ hg)
  have hR : ∀ g, g ∈ rd → g < nx' → ρ2 g = ρ' g ∧ (A g ∨ g ∈ [g0]) := fun g hg _ => ⟨h2 g (hAne g (hrdA g hg)), .inl (hrdA g hg)⟩
  have hRA : ∀ g, g ∈ rd → g < nx' := fun g hg => by have := hN g (hrdA g hg); omega
  have hG : ρ2 g0 = ρ' gn ∧ (A g0 ∨ g0 ∈ [g0]) := ⟨h20, .inr (by simp)⟩
  -- who stands for whom
  have lv : ∀ g o, (H.apply D) g = some o → (A g ∨ g ∈ [g0]) ∧ ∃ g' o', H' g' = some o' ∧ ρ2 g = ρ' g' ∧ (g = g0 → g' = gn) ∧ (g ≠ g0 → g' = g ∧ A g) ∧
      (∀ K, zan K ρ' (· < nx') w' (ρ' g') o' → zan K ρ2 (fun x => A x ∨ x ∈ [g0]) w' (ρ2 g) o) := fun g o ho => by
    by_cases hgg : g = g0
    · subst hgg
      rw [hn1] at ho
      obtain rfl := Option.some.inj ho
      exact ⟨.inr (by simp), gn, onew', hn2, h20, fun _ => rfl, fun h => absurd rfl h, fun K hk => by rw [h20]; exact hk.rn hn3 hR hRA hG⟩
    · by_cases hg : g ∈ domD D
      · obtain ⟨o', h1, h3⟩ := hchg g o hg hgg ho
        have hA : A g := by
          rcases hdom g hg with h | h
          · exact hrdA g h
          · exact absurd h hgg
        exact ⟨.inl hA, g, o', h1, h2 g hgg, fun h => absurd h hgg, fun _ => ⟨rfl, hA⟩, fun K hk => by rw [h2 g hgg]; exact hk.rn h3 hR hRA hG⟩
      · rw [zik hg] at ho
        have hA := s.live g o ho
        refine ⟨.inl hA, g, o, by rw [hsame g (hN g hA) hg]; exact ho, h2 g hgg, fun h => absurd h hgg, fun _ => ⟨rfl, hA⟩, fun K hk => ?_⟩
        rw [h2 g hgg]
        exact (hk.restrict (s.obj g o ho).bel).mono rfl (fun _ _ h => h) (fun x hx => ⟨h2 x (hAne x hx), .inl hx⟩)
  have hK : ∀ b o, Kof ρ' H' w' b = some o → Kof ρ2 (H.apply D) w' b = some o := fun b o hb => by
    obtain ⟨k1, k2⟩ := zu.1 hb
    refine zu.2 ⟨fun g hg => ?_, k2⟩
    obtain ⟨o1, ho1⟩ := Option.isSome_iff_exists.1 hg
    obtain ⟨_, g', o', e1, e2, _⟩ := lv g o1 ho1
    rw [e2]
    exact k1 g' (by rw [e1]; rfl)
  refine ⟨ρ2, ⟨fun g o ho => (lv g o ho).1, fun g o ho => ?_, fun x y hx hy hxy => ?_, q3.lay.mono hK⟩, ?_, ⟨fun g hg => ⟨(h2 g (hAne g hg)).trans (hρ g (hN g hg)), .inl hg⟩, fun b o hb => hK b o (q5.k b o hb), q5.os, q5.tape, q5.output, q5.size⟩⟩
  · obtain ⟨_, g', o', e1, _, _, _, e4⟩ := lv g o ho
    exact (e4 _ (q3.obj g' o' e1)).mono rfl hK (fun _ h => ⟨rfl, h⟩)
  · obtain ⟨o1, ho1⟩ := Option.isSome_iff_exists.1 hx
    obtain ⟨o2, ho2⟩ := Option.isSome_iff_exists.1 hy
    obtain ⟨_, x', p1, e1, e2, e3, e4, _⟩ := lv x o1 ho1
    obtain ⟨_, y', p2, f1, f2, f3, f4, _⟩ := lv y o2 ho2
    rw [e2, f2] at hxy
    have hxy' := q3.inj x' y' (by rw [e1]; rfl) (by rw [f1]; rfl) hxy
    by_cases hx0 : x = g0
    · by_cases hy0 : y = g0
      · rw [hx0, hy0]
      · have := (f4 hy0).1
        have hAy := hN y (f4 hy0).2
        have := e3 hx0
        omega
    · by_cases hy0 : y = g0
      · have := (e4 hx0).1
        have hAx := hN x (e4 hx0).2
        have := f3 hy0
        omega
      · rw [← (e4 hx0).1, ← (f4 hy0).1]; exact hxy'
  · exact (q4.rn hv hR hRA hG).mono hK (fun g hg => ⟨rfl, hg⟩)
end Go.Proofs.YtdmibdjokofclaaGreatDoor
