/- What is to be shown of each function, written out. -/
import Derived.Test.YtpbnaaoilgohkaaGreatDoorG5
set_option linter.unusedSimpArgs false
set_option linter.unusedVariables false
set_option maxRecDepth 8000
namespace Go.Proofs.YtpbnaaoilgohkaaGreatDoor
open Go Go.RowKit
def zht (a0 : AV) (H : Heap) (nx : Nat) (Q : QT) : Prop :=
 BL .eql a0 .nils fun v1 =>
 CNDC v1
 (Q .nils H nx)
 (APP 3 24 (.slc nx 0 0) a0 (H.put nx (some (.row 3 []))) (nx + 1) fun v2 H3 nx4 =>
 Q v2 H3 nx4)
theorem zmo (a0 : AV) (H : Heap) (nx : Nat) (Q : QT) : zht a0 H nx Q → za Tryz.prog 79 [a0] H nx Q :=
  zd (lv := lvOf []) (c := zl Tryz.f79) zp zq mixed Tryz.func79 (by kernel_rfl) (by kernel_rfl) (by kernel_rfl) (by kernel_rfl) (by kernel_rfl)
def zdo (a0 : AV) (H : Heap) (nx : Nat) (Q : QT) : Prop :=
 BL .eql a0 .nils fun v1 =>
 CNDC v1
 (Q .nils H nx)
 (APP 1 16 (.slc nx 0 0) a0 (H.put nx (some (.row 1 []))) (nx + 1) fun v2 H3 nx4 =>
 Q v2 H3 nx4)
theorem zih (a0 : AV) (H : Heap) (nx : Nat) (Q : QT) : zdo a0 H nx Q → za Tryz.prog 80 [a0] H nx Q :=
  zd (lv := lvOf []) (c := zl Tryz.f80) zp zq mixed Tryz.func80 (by kernel_rfl) (by kernel_rfl) (by kernel_rfl) (by kernel_rfl) (by kernel_rfl)
def ziw (a0 : AV) (H : Heap) (nx : Nat) (Q : QT) : Prop :=
 BL .eql a0 .nils fun v1 =>
 CNDC v1
 (Q .nils H nx)
 (APP 6 64 (.slc nx 0 0) a0 (H.put nx (some (.row 6 []))) (nx + 1) fun v2 H3 nx4 =>
 Q v2 H3 nx4)
theorem zne (a0 : AV) (H : Heap) (nx : Nat) (Q : QT) : ziw a0 H nx Q → za Tryz.prog 82 [a0] H nx Q :=
  zd (lv := lvOf []) (c := zl Tryz.f82) zp zq mixed Tryz.func82 (by kernel_rfl) (by kernel_rfl) (by kernel_rfl) (by kernel_rfl) (by kernel_rfl)
def zyo (nx6 : Nat) (xs4 : List AV) (K3 : J3) (v12 : AV) (H13 : Heap) (nx14 : Nat) : Prop :=
 ST 1 (.ptr nx6 2) v12 H13 fun H15 =>
 LD true 3 (.ptr nx6 0) H15 fun v16 =>
 BSL 1 3 [.int .i64 0, .int .i64 0, .nils] [(0, v16)] fun cells17 =>
 APP 3 40 (nth xs4 2) (.slc nx14 0 1) (H15.put nx14 (some (.row 3 cells17))) (nx14 + 1) fun v18 H19 nx20 =>
 BI .add (nth xs4 5) (.int .i64 1) fun v21 =>
 K3 [nth xs4 0, nth xs4 1, v18, nth xs4 3, nth xs4 4, v21] H19 nx20
def zkf (nx37 : Nat) (v44 : AV) (H41 : Heap) (D47 : zg) (rd49 : List Nat) (xs35 : List AV) (fr46 : List Nat) (K34 : J3) (v50 : AV) (_ : List Nat) (fr52 : List Nat) (D53 : zg) : Prop :=
 zbd 1 (.ptr nx37 2) v44 ((H41.apply D47).apply D53) fun _ _ fr56 D57 =>
 zbd 1 (.ptr nx37 3) v50 (((H41.apply D47).apply D53).apply D57) fun _ _ fr60 D61 =>
 zm (domD D47) [] (
 zm (domD D47) [] (
 zm (domD D47) rd49 (
 zm (domD D47) [] (
 zm (domD D53) [] (
 zm (domD D53) [] (
 LD true 4 (.ptr nx37 0) ((((H41.apply D47).apply D53).apply D57).apply D61) fun v62 =>
 BSL 1 4 [.int .i64 0, .int .i64 0, .nils, .nils] [(0, v62)] fun cells63 =>
 APP 4 64 (nth xs35 2) (.slc (((((nx37 + 1) + fr46.length) + fr52.length) + fr56.length) + fr60.length) 0 1) (((((H41.apply D47).apply D53).apply D57).apply D61).put ((((((nx37 + 1) + fr46.length) + fr52.length) + fr56.length) + fr60.length)) (some (.row 4 cells63))) ((((((nx37 + 1) + fr46.length) + fr52.length) + fr56.length) + fr60.length) + 1) fun v64 H65 nx66 =>
 BI .add (nth xs35 5) (.int .i64 1) fun v67 =>
 K34 [nth xs35 0, nth xs35 1, v64, nth xs35 3, nth xs35 4, v67] H65 nx66))))))
def ztc (nx37 : Nat) (H41 : Heap) (xs35 : List AV) (K34 : J3) (v44 : AV) (_ : List Nat) (fr46 : List Nat) (D47 : zg) : Prop :=
 LDR false 1 (.ptr nx37 3) (H41.apply D47) fun v48 rd49 =>
 zt Tryz.prog (.clo 81 []) [v48] (H41.apply D47) ((nx37 + 1) + fr46.length) (zkf nx37 v44 H41 D47 rd49 xs35 fr46 K34)
def zyn (xs35 : List AV) (Q : QT) (v70 : AV) (H71 : Heap) (nx72 : Nat) : Prop :=
 FA 4 (nth xs35 0) fun v73 =>
 ST 1 v73 (nth xs35 2) H71 fun H74 =>
 FA 5 (nth xs35 0) fun v75 =>
 ST 1 v75 v70 H74 fun H76 =>
 LD true 9 (nth xs35 0) H76 fun v77 =>
 ST 9 (nth xs35 1) v77 H76 fun H78 =>
 LD true 9 (nth xs35 1) H78 fun v79 =>
 Q v79 H78 nx72
def znu (Q : QT) (K34 : J3) (xs35 : List AV) (H36 : Heap) (nx37 : Nat) : Prop :=
 BI .lss (nth xs35 5) (nth xs35 4) fun v38 =>
 CNDC v38
 (IA 4 (nth xs35 3) (nth xs35 5) fun v39 =>
 LD true 4 v39 H36 fun v40 =>
 ST 4 (.ptr nx37 0) v40 (H36.put nx37 (some (.row 4 [.int .i64 0, .int .i64 0, .nils, .nils]))) fun H41 =>
 LDR false 1 (.ptr nx37 2) H41 fun v42 _ =>
 zt Tryz.prog (.clo 81 []) [v42] H41 (nx37 + 1) (ztc nx37 H41 xs35 K34))
 (FA 5 (nth xs35 0) fun v68 =>
 LD false 1 v68 H36 fun v69 =>
 za Tryz.prog 82 [v69] H36 nx37 (zyn xs35 Q))
def zym (xs4 : List AV) (Q : QT) (v25 : AV) (H26 : Heap) (nx27 : Nat) : Prop :=
 BD (zz tab [(22, 0), (23, 1)]) [.nils, .nils] [(0, nth xs4 2), (1, v25)] fun v28 =>
 FA 2 (nth xs4 0) fun v29 =>
 ST 2 v29 v28 H26 fun H30 =>
 FA 4 (nth xs4 0) fun v31 =>
 LD false 1 v31 H30 fun v32 =>
 LNL v32 fun v33 =>
 LP (znu Q) [nth xs4 0, nth xs4 1, .nils, v32, v33, .int .i64 0] H30 nx27
def znt (Q : QT) (K3 : J3) (xs4 : List AV) (H5 : Heap) (nx6 : Nat) : Prop :=
 BI .lss (nth xs4 5) (nth xs4 4) fun v7 =>
 CNDC v7
 (IA 3 (nth xs4 3) (nth xs4 5) fun v8 =>
 LD true 3 v8 H5 fun v9 =>
 ST 3 (.ptr nx6 0) v9 (H5.put nx6 (some (.row 3 [.int .i64 0, .int .i64 0, .nils]))) fun H10 =>
 LD false 1 (.ptr nx6 2) H10 fun v11 =>
 za Tryz.prog 79 [v11] H10 (nx6 + 1) (zyo nx6 xs4 K3))
 (FA 2 (nth xs4 0) fun v22 =>
 FA 1 v22 fun v23 =>
 LD false 1 v23 H5 fun v24 =>
 za Tryz.prog 80 [v24] H5 nx6 (zym xs4 Q))
def zyl (a0 : AV) (H : Heap) (nx : Nat) (Q : QT) : Prop :=
 a0.sure = true ∧
 LD false 1 (.ptr nx 2) ((H.put nx (some (.row a0.cells.length a0.cells))).put ((nx + 1)) (some (.row 9 [.int .i64 0, .int .i64 0, .nils, .nils, .nils, .nils, .int .i64 0, .int .i64 0, .int .i64 0]))) fun v1 =>
 LNL v1 fun v2 =>
 LP (znt Q) [.ptr nx 0, .ptr (nx + 1) 0, .nils, v1, v2, .int .i64 0] ((H.put nx (some (.row a0.cells.length a0.cells))).put ((nx + 1)) (some (.row 9 [.int .i64 0, .int .i64 0, .nils, .nils, .nils, .nils, .int .i64 0, .int .i64 0, .int .i64 0]))) (nx + 2)
theorem zaay (a0 : AV) (H : Heap) (nx : Nat) (Q : QT) : zyl a0 H nx Q → za Tryz.prog 53 [a0] H nx Q :=
  zd (lv := lvOf [(2, 3, [1, 2, 3, 11, 12, 13]), (2, 11, [1, 2, 6, 34, 35, 36])]) (c := zl Tryz.f53) zp zq mixed Tryz.func53 (by kernel_rfl) (by kernel_rfl) (by kernel_rfl) (by kernel_rfl) (by kernel_rfl)
def zio (Q : QT) (K39 : J3) (xs40 : List AV) (H41 : Heap) (nx42 : Nat) : Prop :=
 BI .lss (nth xs40 5) (nth xs40 4) fun v43 =>
 CNDC v43
 (FA 4 (nth xs40 1) fun v44 =>
 LD false 1 v44 H41 fun v45 =>
 IA 4 v45 (nth xs40 5) fun v46 =>
 NC v46 fun v47 =>
 FA 2 v47 fun v48 =>
 LD false 1 v48 H41 fun v49 =>
 CP 3 v49 (nth xs40 2) H41 fun v50 H51 =>
 SL 3 (nth xs40 2) (some v50) none H51 fun v52 =>
 NC v46 fun v53 =>
 FA 3 v53 fun v54 =>
 LD false 1 v54 H51 fun v55 =>
 CP 3 v55 v52 H51 fun v56 H57 =>
 SL 3 v52 (some v56) none H57 fun v58 =>
 BI .add (nth xs40 5) (.int .i64 1) fun v59 =>
 K39 [nth xs40 0, nth xs40 1, v58, nth xs40 3, nth xs40 4, v59] H57 nx42)
 (FA 5 (nth xs40 1) fun v60 =>
 ST 1 v60 (nth xs40 3) H41 fun H61 =>
 LD true 9 (nth xs40 1) H61 fun v62 =>
 ST 9 (nth xs40 0) v62 H61 fun H63 =>
 LD true 9 (nth xs40 0) H63 fun v64 =>
 Q v64 H63 nx42)
def zre (xs9 : List AV) (Q : QT) (v31 : AV) (H32 : Heap) (nx33 : Nat) : Prop :=
 EX v31 0 fun v34 =>
 EX v31 1 fun v35 =>
 FA 4 (nth xs9 1) fun v36 =>
 LD false 1 v36 H32 fun v37 =>
 LNL v37 fun v38 =>
 LP (zio Q) [nth xs9 0, nth xs9 1, v34, v35, v38, .int .i64 0] H32 nx33
def zin (Q : QT) (K8 : J3) (xs9 : List AV) (H10 : Heap) (nx11 : Nat) : Prop :=
 BI .lss (nth xs9 5) (nth xs9 4) fun v12 =>
 CNDC v12
 (IA 4 (nth xs9 3) (nth xs9 5) fun v13 =>
 LD true 4 v13 H10 fun v14 =>
 ST 4 (.ptr nx11 0) v14 (H10.put nx11 (some (.row 4 [.int .i64 0, .int .i64 0, .nils, .nils]))) fun H15 =>
 LDR false 1 (.ptr nx11 2) H15 fun v16 _ =>
 zx 3 32 (nth xs9 2) v16 H15 (nx11 + 1) fun v18 _ fr20 D21 =>
 LDR false 1 (.ptr nx11 3) (H15.apply D21) fun v22 rd23 =>
 zx 3 32 v18 v22 (H15.apply D21) ((nx11 + 1) + fr20.length) fun v24 _ fr26 D27 =>
 zm (domD D21) [] (
 zm (domD D21) [] (
 zm (domD D21) rd23 (
 zm (domD D21) [] (
 BI .add (nth xs9 5) (.int .i64 1) fun v28 =>
 K8 [nth xs9 0, nth xs9 1, v24, nth xs9 3, nth xs9 4, v28] ((H15.apply D21).apply D27) (((nx11 + 1) + fr20.length) + fr26.length))))))
 (FA 5 (nth xs9 1) fun v29 =>
 LD false 1 v29 H10 fun v30 =>
 za Tryz.prog 54 [v30, nth xs9 2] H10 nx11 (zre xs9 Q))
def zwo (Q : QT) (nx : Nat) (v2 : AV) (H3 : Heap) (nx4 : Nat) : Prop :=
 ST 9 (.ptr nx4 0) v2 (H3.put nx4 (some (.row 9 [.int .i64 0, .int .i64 0, .nils, .nils, .nils, .nils, .int .i64 0, .int .i64 0, .int .i64 0]))) fun H5 =>
 LD false 1 (.ptr nx4 4) H5 fun v6 =>
 LNL v6 fun v7 =>
 LP (zin Q) [.ptr (nx + 1) 0, .ptr nx4 0, .nils, v6, v7, .int .i64 0] H5 (nx4 + 1)
def zwn (a0 : AV) (H : Heap) (nx : Nat) (Q : QT) : Prop :=
 a0.sure = true ∧
 LD true 9 (.ptr nx 0) ((H.put nx (some (.row a0.cells.length a0.cells))).put ((nx + 1)) (some (.row 9 [.int .i64 0, .int .i64 0, .nils, .nils, .nils, .nils, .int .i64 0, .int .i64 0, .int .i64 0]))) fun v1 =>
 za Tryz.prog 53 [v1] ((H.put nx (some (.row a0.cells.length a0.cells))).put ((nx + 1)) (some (.row 9 [.int .i64 0, .int .i64 0, .nils, .nils, .nils, .nils, .int .i64 0, .int .i64 0, .int .i64 0]))) (nx + 2) (zwo Q nx)
theorem zzx (a0 : AV) (H : Heap) (nx : Nat) (Q : QT) : zwn a0 H nx Q → za Tryz.prog 27 [a0] H nx Q :=
  zd (lv := lvOf [(2, 4, [2, 3, 4, 13, 14, 15]), (2, 10, [2, 3, 4, 7, 36, 37])]) (c := zl Tryz.f27) zp zq mixed Tryz.func27 (by kernel_rfl) (by kernel_rfl) (by kernel_rfl) (by kernel_rfl) (by kernel_rfl)
def zni (a0 : AV) (H : Heap) (nx : Nat) (Q : QT) : Prop :=
 a0.sure = true ∧
 LD false 1 (.ptr nx 0) (H.put nx (some (.row a0.cells.length a0.cells))) fun v1 =>
 BI .eql v1 (.int .i64 17) fun v2 =>
 CNDC v2
 (LD false 1 (.ptr nx 2) (H.put nx (some (.row a0.cells.length a0.cells))) fun v3 =>
 Q (.tup [v3, .int .i64 1]) (H.put nx (some (.row a0.cells.length a0.cells))) (nx + 1))
 (zw (AK.int .i64) (.int .i64 1) = true ∧
 MU (.amap (nx + 1)) (.int .i64 1) (.agg [.int .i64 0, .int .i64 1]) ((H.put nx (some (.row a0.cells.length a0.cells))).put ((nx + 1)) (some (.mp []))) fun H4 =>
 zw (AK.int .i64) (.int .i64 2) = true ∧
 MU (.amap (nx + 1)) (.int .i64 2) (.agg [.int .i64 0, .int .i64 1]) H4 fun H5 =>
 zw (AK.int .i64) (.int .i64 3) = true ∧
 MU (.amap (nx + 1)) (.int .i64 3) (.agg [.int .i64 0, .int .i64 1]) H5 fun H6 =>
 zw (AK.int .i64) (.int .i64 4) = true ∧
 MU (.amap (nx + 1)) (.int .i64 4) (.agg [.int .i64 1, .int .i64 0]) H6 fun H7 =>
 zw (AK.int .i64) (.int .i64 5) = true ∧
 MU (.amap (nx + 1)) (.int .i64 5) (.agg [.int .i64 2, .int .i64 1]) H7 fun H8 =>
 zw (AK.int .i64) (.int .i64 6) = true ∧
 MU (.amap (nx + 1)) (.int .i64 6) (.agg [.int .i64 2, .int .i64 1]) H8 fun H9 =>
 zw (AK.int .i64) (.int .i64 7) = true ∧
 MU (.amap (nx + 1)) (.int .i64 7) (.agg [.int .i64 1, .int .i64 1]) H9 fun H10 =>
 zw (AK.int .i64) (.int .i64 8) = true ∧
 MU (.amap (nx + 1)) (.int .i64 8) (.agg [.int .i64 1, .int .i64 1]) H10 fun H11 =>
 zw (AK.int .i64) (.int .i64 9) = true ∧
 MU (.amap (nx + 1)) (.int .i64 9) (.agg [.int .i64 2, .int .i64 0]) H11 fun H12 =>
 zw (AK.int .i64) (.int .i64 10) = true ∧
 MU (.amap (nx + 1)) (.int .i64 10) (.agg [.int .i64 2, .int .i64 0]) H12 fun H13 =>
 zw (AK.int .i64) (.int .i64 11) = true ∧
 MU (.amap (nx + 1)) (.int .i64 11) (.agg [.int .i64 1, .int .i64 1]) H13 fun H14 =>
 zw (AK.int .i64) (.int .i64 12) = true ∧
 MU (.amap (nx + 1)) (.int .i64 12) (.agg [.int .i64 0, .int .i64 1]) H14 fun H15 =>
 zw (AK.int .i64) (.int .i64 13) = true ∧
 MU (.amap (nx + 1)) (.int .i64 13) (.agg [.int .i64 1, .int .i64 1]) H15 fun H16 =>
 zw (AK.int .i64) (.int .i64 14) = true ∧
 MU (.amap (nx + 1)) (.int .i64 14) (.agg [.int .i64 1, .int .i64 0]) H16 fun H17 =>
 zw (AK.int .i64) (.int .i64 15) = true ∧
 MU (.amap (nx + 1)) (.int .i64 15) (.agg [.int .i64 0, .int .i64 0]) H17 fun H18 =>
 zw (AK.int .i64) (.int .i64 16) = true ∧
 MU (.amap (nx + 1)) (.int .i64 16) (.agg [.int .i64 1, .int .i64 0]) H18 fun H19 =>
 zw (AK.int .i64) (.int .i64 18) = true ∧
 MU (.amap (nx + 1)) (.int .i64 18) (.agg [.int .i64 1, .int .i64 0]) H19 fun H20 =>
 zw (AK.int .i64) (.int .i64 19) = true ∧
 MU (.amap (nx + 1)) (.int .i64 19) (.agg [.int .i64 1, .int .i64 0]) H20 fun H21 =>
 LD false 1 (.ptr nx 0) H21 fun v22 =>
 zw (AK.int .i64) v22 = true ∧
 LK [.int .i64 0, .int .i64 0] true (.amap (nx + 1)) v22 false H21 fun v23 =>
 ST 2 (.ptr (nx + 2) 0) v23 (H21.put ((nx + 2)) (some (.row 1 [.int .i64 0, .int .i64 0]))) fun H24 =>
 AA 1 2 (.ptr (nx + 2) 0) (.int .i64 0) fun v25 =>
 LDR false 1 v25 H24 fun v26 _ =>
 AA 1 2 (.ptr (nx + 2) 0) (.int .i64 1) fun v28 =>
 LDR false 1 v28 H24 fun v29 _ =>
 Q (.tup [v26, v29]) H24 (nx + 3))
theorem zsp (a0 : AV) (H : Heap) (nx : Nat) (Q : QT) : zni a0 H nx Q → za Tryz.prog 47 [a0] H nx Q :=
  zd (lv := lvOf []) (c := zl Tryz.f47) zp zq mixed Tryz.func47 (by kernel_rfl) (by kernel_rfl) (by kernel_rfl) (by kernel_rfl) (by kernel_rfl)
def zut (v23 : AV) (Q : QT) (nx16 : Nat) (v20 : AV) (xs14 : List AV) (K13 : J3) (v46 : AV) (H47 : Heap) (nx48 : Nat) : Prop :=
 EX v46 0 fun v49 =>
 EX v46 1 fun v50 =>
 BI .lss v23 v49 fun v51 =>
 CND v51
 (Q (.tup [.nils, .int .i64 10]) H47 nx48)
 (LD false 1 (.ptr nx16 0) H47 fun v52 =>
 BI .eql v52 (.int .i64 18) fun v53 =>
 CND v53
 (BI .gtr v23 (.int .i64 1) fun v54 =>
 CNDC v54
 (Q (.tup [.nils, .int .i64 10]) H47 nx48)
 (BI .sub v23 v49 fun v55 =>
 BI .add v55 v50 fun v56 =>
 BI .gtr v56 (.int .i64 16) fun v57 =>
 CNDC v57
 (Q (.tup [.nils, .int .i64 4]) H47 nx48)
 (LD false 1 (.ptr nx16 0) H47 fun v58 =>
 BI .neq v58 (.int .i64 15) fun v59 =>
 CND v59
 (LD false 1 (.ptr nx16 0) H47 fun v60 =>
 BI .neq v60 (.int .i64 18) fun v61 =>
 CNDC v61
 (BI .add v20 (.int .i64 1) fun v62 =>
 BSL 1 1 [.int .i64 0] [(0, v62)] fun cells63 =>
 APP 1 8 (nth xs14 2) (.slc nx48 0 1) (H47.put nx48 (some (.row 1 cells63))) (nx48 + 1) fun v64 H65 nx66 =>
 BSL 1 1 [.int .i64 0] [(0, v56)] fun cells67 =>
 APP 1 8 (nth xs14 3) (.slc nx66 0 1) (H65.put nx66 (some (.row 1 cells67))) (nx66 + 1) fun v68 H69 nx70 =>
 LD false 1 (.ptr nx16 0) H69 fun v71 =>
 BI .eql v71 (.int .i64 15) fun v72 =>
 CND v72
 (LD false 1 (.ptr nx16 1) H69 fun v73 =>
 BSL 1 1 [.int .i64 0] [(0, v73)] fun cells74 =>
 APP 1 8 v64 (.slc nx70 0 1) (H69.put nx70 (some (.row 1 cells74))) (nx70 + 1) fun v75 H76 nx77 =>
 BSL 1 1 [.int .i64 0] [(0, v56)] fun cells78 =>
 APP 1 8 v68 (.slc nx77 0 1) (H76.put nx77 (some (.row 1 cells78))) (nx77 + 1) fun v79 H80 nx81 =>
 BI .add (nth xs14 4) (.int .i64 1) fun v82 =>
 K13 [nth xs14 0, nth xs14 1, v75, v79, v82] H80 nx81)
 (LD false 1 (.ptr nx16 0) H69 fun v83 =>
 BI .eql v83 (.int .i64 16) fun v84 =>
 CNDC v84
 (LD false 1 (.ptr nx16 1) H69 fun v85 =>
 BSL 1 1 [.int .i64 0] [(0, v85)] fun cells86 =>
 APP 1 8 v64 (.slc nx70 0 1) (H69.put nx70 (some (.row 1 cells86))) (nx70 + 1) fun v87 H88 nx89 =>
 BSL 1 1 [.int .i64 0] [(0, v56)] fun cells90 =>
 APP 1 8 v68 (.slc nx89 0 1) (H88.put nx89 (some (.row 1 cells90))) (nx89 + 1) fun v91 H92 nx93 =>
 BI .add (nth xs14 4) (.int .i64 1) fun v94 =>
 K13 [nth xs14 0, nth xs14 1, v87, v91, v94] H92 nx93)
 (BI .add (nth xs14 4) (.int .i64 1) fun v95 =>
 K13 [nth xs14 0, nth xs14 1, v64, v68, v95] H69 nx70)))
 (LD false 1 (.ptr nx16 0) H47 fun v96 =>
 BI .eql v96 (.int .i64 15) fun v97 =>
 CND v97
 (LD false 1 (.ptr nx16 1) H47 fun v98 =>
 BSL 1 1 [.int .i64 0] [(0, v98)] fun cells99 =>
 APP 1 8 (nth xs14 2) (.slc nx48 0 1) (H47.put nx48 (some (.row 1 cells99))) (nx48 + 1) fun v100 H101 nx102 =>
 BSL 1 1 [.int .i64 0] [(0, v56)] fun cells103 =>
 APP 1 8 (nth xs14 3) (.slc nx102 0 1) (H101.put nx102 (some (.row 1 cells103))) (nx102 + 1) fun v104 H105 nx106 =>
 BI .add (nth xs14 4) (.int .i64 1) fun v107 =>
 K13 [nth xs14 0, nth xs14 1, v100, v104, v107] H105 nx106)
 (LD false 1 (.ptr nx16 0) H47 fun v108 =>
 BI .eql v108 (.int .i64 16) fun v109 =>
 CNDC v109
 (LD false 1 (.ptr nx16 1) H47 fun v110 =>
 BSL 1 1 [.int .i64 0] [(0, v110)] fun cells111 =>
 APP 1 8 (nth xs14 2) (.slc nx48 0 1) (H47.put nx48 (some (.row 1 cells111))) (nx48 + 1) fun v112 H113 nx114 =>
 BSL 1 1 [.int .i64 0] [(0, v56)] fun cells115 =>
 APP 1 8 (nth xs14 3) (.slc nx114 0 1) (H113.put nx114 (some (.row 1 cells115))) (nx114 + 1) fun v116 H117 nx118 =>
 BI .add (nth xs14 4) (.int .i64 1) fun v119 =>
 K13 [nth xs14 0, nth xs14 1, v112, v116, v119] H117 nx118)
 (BI .add (nth xs14 4) (.int .i64 1) fun v120 =>
 K13 [nth xs14 0, nth xs14 1, nth xs14 2, nth xs14 3, v120] H47 nx48))))
 (LD false 1 (.ptr nx16 0) H47 fun v121 =>
 BI .eql v121 (.int .i64 15) fun v122 =>
 CND v122
 (LD false 1 (.ptr nx16 1) H47 fun v123 =>
 BSL 1 1 [.int .i64 0] [(0, v123)] fun cells124 =>
 APP 1 8 (nth xs14 2) (.slc nx48 0 1) (H47.put nx48 (some (.row 1 cells124))) (nx48 + 1) fun v125 H126 nx127 =>
 BSL 1 1 [.int .i64 0] [(0, v56)] fun cells128 =>
 APP 1 8 (nth xs14 3) (.slc nx127 0 1) (H126.put nx127 (some (.row 1 cells128))) (nx127 + 1) fun v129 H130 nx131 =>
 BI .add (nth xs14 4) (.int .i64 1) fun v132 =>
 K13 [nth xs14 0, nth xs14 1, v125, v129, v132] H130 nx131)
 (LD false 1 (.ptr nx16 0) H47 fun v133 =>
 BI .eql v133 (.int .i64 16) fun v134 =>
 CNDC v134
 (LD false 1 (.ptr nx16 1) H47 fun v135 =>
 BSL 1 1 [.int .i64 0] [(0, v135)] fun cells136 =>
 APP 1 8 (nth xs14 2) (.slc nx48 0 1) (H47.put nx48 (some (.row 1 cells136))) (nx48 + 1) fun v137 H138 nx139 =>
 BSL 1 1 [.int .i64 0] [(0, v56)] fun cells140 =>
 APP 1 8 (nth xs14 3) (.slc nx139 0 1) (H138.put nx139 (some (.row 1 cells140))) (nx139 + 1) fun v141 H142 nx143 =>
 BI .add (nth xs14 4) (.int .i64 1) fun v144 =>
 K13 [nth xs14 0, nth xs14 1, v137, v141, v144] H142 nx143)
 (BI .add (nth xs14 4) (.int .i64 1) fun v145 =>
 K13 [nth xs14 0, nth xs14 1, nth xs14 2, nth xs14 3, v145] H47 nx48))))))
 (BI .sub v23 v49 fun v146 =>
 BI .add v146 v50 fun v147 =>
 BI .gtr v147 (.int .i64 16) fun v148 =>
 CNDC v148
 (Q (.tup [.nils, .int .i64 4]) H47 nx48)
 (LD false 1 (.ptr nx16 0) H47 fun v149 =>
 BI .neq v149 (.int .i64 15) fun v150 =>
 CND v150
 (LD false 1 (.ptr nx16 0) H47 fun v151 =>
 BI .neq v151 (.int .i64 18) fun v152 =>
 CNDC v152
 (BI .add v20 (.int .i64 1) fun v153 =>
 BSL 1 1 [.int .i64 0] [(0, v153)] fun cells154 =>
 APP 1 8 (nth xs14 2) (.slc nx48 0 1) (H47.put nx48 (some (.row 1 cells154))) (nx48 + 1) fun v155 H156 nx157 =>
 BSL 1 1 [.int .i64 0] [(0, v147)] fun cells158 =>
 APP 1 8 (nth xs14 3) (.slc nx157 0 1) (H156.put nx157 (some (.row 1 cells158))) (nx157 + 1) fun v159 H160 nx161 =>
 LD false 1 (.ptr nx16 0) H160 fun v162 =>
 BI .eql v162 (.int .i64 15) fun v163 =>
 CND v163
 (LD false 1 (.ptr nx16 1) H160 fun v164 =>
 BSL 1 1 [.int .i64 0] [(0, v164)] fun cells165 =>
 APP 1 8 v155 (.slc nx161 0 1) (H160.put nx161 (some (.row 1 cells165))) (nx161 + 1) fun v166 H167 nx168 =>
 BSL 1 1 [.int .i64 0] [(0, v147)] fun cells169 =>
 APP 1 8 v159 (.slc nx168 0 1) (H167.put nx168 (some (.row 1 cells169))) (nx168 + 1) fun v170 H171 nx172 =>
 BI .add (nth xs14 4) (.int .i64 1) fun v173 =>
 K13 [nth xs14 0, nth xs14 1, v166, v170, v173] H171 nx172)
 (LD false 1 (.ptr nx16 0) H160 fun v174 =>
 BI .eql v174 (.int .i64 16) fun v175 =>
 CNDC v175
 (LD false 1 (.ptr nx16 1) H160 fun v176 =>
 BSL 1 1 [.int .i64 0] [(0, v176)] fun cells177 =>
 APP 1 8 v155 (.slc nx161 0 1) (H160.put nx161 (some (.row 1 cells177))) (nx161 + 1) fun v178 H179 nx180 =>
 BSL 1 1 [.int .i64 0] [(0, v147)] fun cells181 =>
 APP 1 8 v159 (.slc nx180 0 1) (H179.put nx180 (some (.row 1 cells181))) (nx180 + 1) fun v182 H183 nx184 =>
 BI .add (nth xs14 4) (.int .i64 1) fun v185 =>
 K13 [nth xs14 0, nth xs14 1, v178, v182, v185] H183 nx184)
 (BI .add (nth xs14 4) (.int .i64 1) fun v186 =>
 K13 [nth xs14 0, nth xs14 1, v155, v159, v186] H160 nx161)))
 (LD false 1 (.ptr nx16 0) H47 fun v187 =>
 BI .eql v187 (.int .i64 15) fun v188 =>
 CND v188
 (LD false 1 (.ptr nx16 1) H47 fun v189 =>
 BSL 1 1 [.int .i64 0] [(0, v189)] fun cells190 =>
 APP 1 8 (nth xs14 2) (.slc nx48 0 1) (H47.put nx48 (some (.row 1 cells190))) (nx48 + 1) fun v191 H192 nx193 =>
 BSL 1 1 [.int .i64 0] [(0, v147)] fun cells194 =>
 APP 1 8 (nth xs14 3) (.slc nx193 0 1) (H192.put nx193 (some (.row 1 cells194))) (nx193 + 1) fun v195 H196 nx197 =>
 BI .add (nth xs14 4) (.int .i64 1) fun v198 =>
 K13 [nth xs14 0, nth xs14 1, v191, v195, v198] H196 nx197)
 (LD false 1 (.ptr nx16 0) H47 fun v199 =>
 BI .eql v199 (.int .i64 16) fun v200 =>
 CNDC v200
 (LD false 1 (.ptr nx16 1) H47 fun v201 =>
 BSL 1 1 [.int .i64 0] [(0, v201)] fun cells202 =>
 APP 1 8 (nth xs14 2) (.slc nx48 0 1) (H47.put nx48 (some (.row 1 cells202))) (nx48 + 1) fun v203 H204 nx205 =>
 BSL 1 1 [.int .i64 0] [(0, v147)] fun cells206 =>
 APP 1 8 (nth xs14 3) (.slc nx205 0 1) (H204.put nx205 (some (.row 1 cells206))) (nx205 + 1) fun v207 H208 nx209 =>
 BI .add (nth xs14 4) (.int .i64 1) fun v210 =>
 K13 [nth xs14 0, nth xs14 1, v203, v207, v210] H208 nx209)
 (BI .add (nth xs14 4) (.int .i64 1) fun v211 =>
 K13 [nth xs14 0, nth xs14 1, nth xs14 2, nth xs14 3, v211] H47 nx48))))
 (LD false 1 (.ptr nx16 0) H47 fun v212 =>
 BI .eql v212 (.int .i64 15) fun v213 =>
 CND v213
 (LD false 1 (.ptr nx16 1) H47 fun v214 =>
 BSL 1 1 [.int .i64 0] [(0, v214)] fun cells215 =>
 APP 1 8 (nth xs14 2) (.slc nx48 0 1) (H47.put nx48 (some (.row 1 cells215))) (nx48 + 1) fun v216 H217 nx218 =>
 BSL 1 1 [.int .i64 0] [(0, v147)] fun cells219 =>
 APP 1 8 (nth xs14 3) (.slc nx218 0 1) (H217.put nx218 (some (.row 1 cells219))) (nx218 + 1) fun v220 H221 nx222 =>
 BI .add (nth xs14 4) (.int .i64 1) fun v223 =>
 K13 [nth xs14 0, nth xs14 1, v216, v220, v223] H221 nx222)
 (LD false 1 (.ptr nx16 0) H47 fun v224 =>
 BI .eql v224 (.int .i64 16) fun v225 =>
 CNDC v225
 (LD false 1 (.ptr nx16 1) H47 fun v226 =>
 BSL 1 1 [.int .i64 0] [(0, v226)] fun cells227 =>
 APP 1 8 (nth xs14 2) (.slc nx48 0 1) (H47.put nx48 (some (.row 1 cells227))) (nx48 + 1) fun v228 H229 nx230 =>
 BSL 1 1 [.int .i64 0] [(0, v147)] fun cells231 =>
 APP 1 8 (nth xs14 3) (.slc nx230 0 1) (H229.put nx230 (some (.row 1 cells231))) (nx230 + 1) fun v232 H233 nx234 =>
 BI .add (nth xs14 4) (.int .i64 1) fun v235 =>
 K13 [nth xs14 0, nth xs14 1, v228, v232, v235] H233 nx234)
 (BI .add (nth xs14 4) (.int .i64 1) fun v236 =>
 K13 [nth xs14 0, nth xs14 1, nth xs14 2, nth xs14 3, v236] H47 nx48))))))
def zab (v23 : AV) (Q : QT) (nx16 : Nat) (v20 : AV) (xs14 : List AV) (K13 : J3) (v249 : AV) (H250 : Heap) (nx251 : Nat) : Prop :=
 EX v249 0 fun v252 =>
 EX v249 1 fun v253 =>
 BI .lss v23 v252 fun v254 =>
 CND v254
 (Q (.tup [.nils, .int .i64 10]) H250 nx251)
 (LD false 1 (.ptr nx16 0) H250 fun v255 =>
 BI .eql v255 (.int .i64 18) fun v256 =>
 CND v256
 (BI .gtr v23 (.int .i64 1) fun v257 =>
 CNDC v257
 (Q (.tup [.nils, .int .i64 10]) H250 nx251)
 (BI .sub v23 v252 fun v258 =>
 BI .add v258 v253 fun v259 =>
 BI .gtr v259 (.int .i64 16) fun v260 =>
 CNDC v260
 (Q (.tup [.nils, .int .i64 4]) H250 nx251)
 (LD false 1 (.ptr nx16 0) H250 fun v261 =>
 BI .neq v261 (.int .i64 15) fun v262 =>
 CND v262
 (LD false 1 (.ptr nx16 0) H250 fun v263 =>
 BI .neq v263 (.int .i64 18) fun v264 =>
 CNDC v264
 (BI .add v20 (.int .i64 1) fun v265 =>
 BSL 1 1 [.int .i64 0] [(0, v265)] fun cells266 =>
 APP 1 8 (nth xs14 2) (.slc nx251 0 1) (H250.put nx251 (some (.row 1 cells266))) (nx251 + 1) fun v267 H268 nx269 =>
 BSL 1 1 [.int .i64 0] [(0, v259)] fun cells270 =>
 APP 1 8 (nth xs14 3) (.slc nx269 0 1) (H268.put nx269 (some (.row 1 cells270))) (nx269 + 1) fun v271 H272 nx273 =>
 LD false 1 (.ptr nx16 0) H272 fun v274 =>
 BI .eql v274 (.int .i64 15) fun v275 =>
 CND v275
 (LD false 1 (.ptr nx16 1) H272 fun v276 =>
 BSL 1 1 [.int .i64 0] [(0, v276)] fun cells277 =>
 APP 1 8 v267 (.slc nx273 0 1) (H272.put nx273 (some (.row 1 cells277))) (nx273 + 1) fun v278 H279 nx280 =>
 BSL 1 1 [.int .i64 0] [(0, v259)] fun cells281 =>
 APP 1 8 v271 (.slc nx280 0 1) (H279.put nx280 (some (.row 1 cells281))) (nx280 + 1) fun v282 H283 nx284 =>
 BI .add (nth xs14 4) (.int .i64 1) fun v285 =>
 K13 [nth xs14 0, nth xs14 1, v278, v282, v285] H283 nx284)
 (LD false 1 (.ptr nx16 0) H272 fun v286 =>
 BI .eql v286 (.int .i64 16) fun v287 =>
 CNDC v287
 (LD false 1 (.ptr nx16 1) H272 fun v288 =>
 BSL 1 1 [.int .i64 0] [(0, v288)] fun cells289 =>
 APP 1 8 v267 (.slc nx273 0 1) (H272.put nx273 (some (.row 1 cells289))) (nx273 + 1) fun v290 H291 nx292 =>
 BSL 1 1 [.int .i64 0] [(0, v259)] fun cells293 =>
 APP 1 8 v271 (.slc nx292 0 1) (H291.put nx292 (some (.row 1 cells293))) (nx292 + 1) fun v294 H295 nx296 =>
 BI .add (nth xs14 4) (.int .i64 1) fun v297 =>
 K13 [nth xs14 0, nth xs14 1, v290, v294, v297] H295 nx296)
 (BI .add (nth xs14 4) (.int .i64 1) fun v298 =>
 K13 [nth xs14 0, nth xs14 1, v267, v271, v298] H272 nx273)))
 (LD false 1 (.ptr nx16 0) H250 fun v299 =>
 BI .eql v299 (.int .i64 15) fun v300 =>
 CND v300
 (LD false 1 (.ptr nx16 1) H250 fun v301 =>
 BSL 1 1 [.int .i64 0] [(0, v301)] fun cells302 =>
 APP 1 8 (nth xs14 2) (.slc nx251 0 1) (H250.put nx251 (some (.row 1 cells302))) (nx251 + 1) fun v303 H304 nx305 =>
 BSL 1 1 [.int .i64 0] [(0, v259)] fun cells306 =>
 APP 1 8 (nth xs14 3) (.slc nx305 0 1) (H304.put nx305 (some (.row 1 cells306))) (nx305 + 1) fun v307 H308 nx309 =>
 BI .add (nth xs14 4) (.int .i64 1) fun v310 =>
 K13 [nth xs14 0, nth xs14 1, v303, v307, v310] H308 nx309)
 (LD false 1 (.ptr nx16 0) H250 fun v311 =>
 BI .eql v311 (.int .i64 16) fun v312 =>
 CNDC v312
 (LD false 1 (.ptr nx16 1) H250 fun v313 =>
 BSL 1 1 [.int .i64 0] [(0, v313)] fun cells314 =>
 APP 1 8 (nth xs14 2) (.slc nx251 0 1) (H250.put nx251 (some (.row 1 cells314))) (nx251 + 1) fun v315 H316 nx317 =>
 BSL 1 1 [.int .i64 0] [(0, v259)] fun cells318 =>
 APP 1 8 (nth xs14 3) (.slc nx317 0 1) (H316.put nx317 (some (.row 1 cells318))) (nx317 + 1) fun v319 H320 nx321 =>
 BI .add (nth xs14 4) (.int .i64 1) fun v322 =>
 K13 [nth xs14 0, nth xs14 1, v315, v319, v322] H320 nx321)
 (BI .add (nth xs14 4) (.int .i64 1) fun v323 =>
 K13 [nth xs14 0, nth xs14 1, nth xs14 2, nth xs14 3, v323] H250 nx251))))
 (LD false 1 (.ptr nx16 0) H250 fun v324 =>
 BI .eql v324 (.int .i64 15) fun v325 =>
 CND v325
 (LD false 1 (.ptr nx16 1) H250 fun v326 =>
 BSL 1 1 [.int .i64 0] [(0, v326)] fun cells327 =>
 APP 1 8 (nth xs14 2) (.slc nx251 0 1) (H250.put nx251 (some (.row 1 cells327))) (nx251 + 1) fun v328 H329 nx330 =>
 BSL 1 1 [.int .i64 0] [(0, v259)] fun cells331 =>
 APP 1 8 (nth xs14 3) (.slc nx330 0 1) (H329.put nx330 (some (.row 1 cells331))) (nx330 + 1) fun v332 H333 nx334 =>
 BI .add (nth xs14 4) (.int .i64 1) fun v335 =>
 K13 [nth xs14 0, nth xs14 1, v328, v332, v335] H333 nx334)
 (LD false 1 (.ptr nx16 0) H250 fun v336 =>
 BI .eql v336 (.int .i64 16) fun v337 =>
 CNDC v337
 (LD false 1 (.ptr nx16 1) H250 fun v338 =>
 BSL 1 1 [.int .i64 0] [(0, v338)] fun cells339 =>
 APP 1 8 (nth xs14 2) (.slc nx251 0 1) (H250.put nx251 (some (.row 1 cells339))) (nx251 + 1) fun v340 H341 nx342 =>
 BSL 1 1 [.int .i64 0] [(0, v259)] fun cells343 =>
 APP 1 8 (nth xs14 3) (.slc nx342 0 1) (H341.put nx342 (some (.row 1 cells343))) (nx342 + 1) fun v344 H345 nx346 =>
 BI .add (nth xs14 4) (.int .i64 1) fun v347 =>
 K13 [nth xs14 0, nth xs14 1, v340, v344, v347] H345 nx346)
 (BI .add (nth xs14 4) (.int .i64 1) fun v348 =>
 K13 [nth xs14 0, nth xs14 1, nth xs14 2, nth xs14 3, v348] H250 nx251))))))
 (BI .sub v23 v252 fun v349 =>
 BI .add v349 v253 fun v350 =>
 BI .gtr v350 (.int .i64 16) fun v351 =>
 CNDC v351
 (Q (.tup [.nils, .int .i64 4]) H250 nx251)
 (LD false 1 (.ptr nx16 0) H250 fun v352 =>
 BI .neq v352 (.int .i64 15) fun v353 =>
 CND v353
 (LD false 1 (.ptr nx16 0) H250 fun v354 =>
 BI .neq v354 (.int .i64 18) fun v355 =>
 CNDC v355
 (BI .add v20 (.int .i64 1) fun v356 =>
 BSL 1 1 [.int .i64 0] [(0, v356)] fun cells357 =>
 APP 1 8 (nth xs14 2) (.slc nx251 0 1) (H250.put nx251 (some (.row 1 cells357))) (nx251 + 1) fun v358 H359 nx360 =>
 BSL 1 1 [.int .i64 0] [(0, v350)] fun cells361 =>
 APP 1 8 (nth xs14 3) (.slc nx360 0 1) (H359.put nx360 (some (.row 1 cells361))) (nx360 + 1) fun v362 H363 nx364 =>
 LD false 1 (.ptr nx16 0) H363 fun v365 =>
 BI .eql v365 (.int .i64 15) fun v366 =>
 CND v366
 (LD false 1 (.ptr nx16 1) H363 fun v367 =>
 BSL 1 1 [.int .i64 0] [(0, v367)] fun cells368 =>
 APP 1 8 v358 (.slc nx364 0 1) (H363.put nx364 (some (.row 1 cells368))) (nx364 + 1) fun v369 H370 nx371 =>
 BSL 1 1 [.int .i64 0] [(0, v350)] fun cells372 =>
 APP 1 8 v362 (.slc nx371 0 1) (H370.put nx371 (some (.row 1 cells372))) (nx371 + 1) fun v373 H374 nx375 =>
 BI .add (nth xs14 4) (.int .i64 1) fun v376 =>
 K13 [nth xs14 0, nth xs14 1, v369, v373, v376] H374 nx375)
 (LD false 1 (.ptr nx16 0) H363 fun v377 =>
 BI .eql v377 (.int .i64 16) fun v378 =>
 CNDC v378
 (LD false 1 (.ptr nx16 1) H363 fun v379 =>
 BSL 1 1 [.int .i64 0] [(0, v379)] fun cells380 =>
 APP 1 8 v358 (.slc nx364 0 1) (H363.put nx364 (some (.row 1 cells380))) (nx364 + 1) fun v381 H382 nx383 =>
 BSL 1 1 [.int .i64 0] [(0, v350)] fun cells384 =>
 APP 1 8 v362 (.slc nx383 0 1) (H382.put nx383 (some (.row 1 cells384))) (nx383 + 1) fun v385 H386 nx387 =>
 BI .add (nth xs14 4) (.int .i64 1) fun v388 =>
 K13 [nth xs14 0, nth xs14 1, v381, v385, v388] H386 nx387)
 (BI .add (nth xs14 4) (.int .i64 1) fun v389 =>
 K13 [nth xs14 0, nth xs14 1, v358, v362, v389] H363 nx364)))
 (LD false 1 (.ptr nx16 0) H250 fun v390 =>
 BI .eql v390 (.int .i64 15) fun v391 =>
 CND v391
 (LD false 1 (.ptr nx16 1) H250 fun v392 =>
 BSL 1 1 [.int .i64 0] [(0, v392)] fun cells393 =>
 APP 1 8 (nth xs14 2) (.slc nx251 0 1) (H250.put nx251 (some (.row 1 cells393))) (nx251 + 1) fun v394 H395 nx396 =>
 BSL 1 1 [.int .i64 0] [(0, v350)] fun cells397 =>
 APP 1 8 (nth xs14 3) (.slc nx396 0 1) (H395.put nx396 (some (.row 1 cells397))) (nx396 + 1) fun v398 H399 nx400 =>
 BI .add (nth xs14 4) (.int .i64 1) fun v401 =>
 K13 [nth xs14 0, nth xs14 1, v394, v398, v401] H399 nx400)
 (LD false 1 (.ptr nx16 0) H250 fun v402 =>
 BI .eql v402 (.int .i64 16) fun v403 =>
 CNDC v403
 (LD false 1 (.ptr nx16 1) H250 fun v404 =>
 BSL 1 1 [.int .i64 0] [(0, v404)] fun cells405 =>
 APP 1 8 (nth xs14 2) (.slc nx251 0 1) (H250.put nx251 (some (.row 1 cells405))) (nx251 + 1) fun v406 H407 nx408 =>
 BSL 1 1 [.int .i64 0] [(0, v350)] fun cells409 =>
 APP 1 8 (nth xs14 3) (.slc nx408 0 1) (H407.put nx408 (some (.row 1 cells409))) (nx408 + 1) fun v410 H411 nx412 =>
 BI .add (nth xs14 4) (.int .i64 1) fun v413 =>
 K13 [nth xs14 0, nth xs14 1, v406, v410, v413] H411 nx412)
 (BI .add (nth xs14 4) (.int .i64 1) fun v414 =>
 K13 [nth xs14 0, nth xs14 1, nth xs14 2, nth xs14 3, v414] H250 nx251))))
 (LD false 1 (.ptr nx16 0) H250 fun v415 =>
 BI .eql v415 (.int .i64 15) fun v416 =>
 CND v416
 (LD false 1 (.ptr nx16 1) H250 fun v417 =>
 BSL 1 1 [.int .i64 0] [(0, v417)] fun cells418 =>
 APP 1 8 (nth xs14 2) (.slc nx251 0 1) (H250.put nx251 (some (.row 1 cells418))) (nx251 + 1) fun v419 H420 nx421 =>
 BSL 1 1 [.int .i64 0] [(0, v350)] fun cells422 =>
 APP 1 8 (nth xs14 3) (.slc nx421 0 1) (H420.put nx421 (some (.row 1 cells422))) (nx421 + 1) fun v423 H424 nx425 =>
 BI .add (nth xs14 4) (.int .i64 1) fun v426 =>
 K13 [nth xs14 0, nth xs14 1, v419, v423, v426] H424 nx425)
 (LD false 1 (.ptr nx16 0) H250 fun v427 =>
 BI .eql v427 (.int .i64 16) fun v428 =>
 CNDC v428
 (LD false 1 (.ptr nx16 1) H250 fun v429 =>
 BSL 1 1 [.int .i64 0] [(0, v429)] fun cells430 =>
 APP 1 8 (nth xs14 2) (.slc nx251 0 1) (H250.put nx251 (some (.row 1 cells430))) (nx251 + 1) fun v431 H432 nx433 =>
 BSL 1 1 [.int .i64 0] [(0, v350)] fun cells434 =>
 APP 1 8 (nth xs14 3) (.slc nx433 0 1) (H432.put nx433 (some (.row 1 cells434))) (nx433 + 1) fun v435 H436 nx437 =>
 BI .add (nth xs14 4) (.int .i64 1) fun v438 =>
 K13 [nth xs14 0, nth xs14 1, v431, v435, v438] H436 nx437)
 (BI .add (nth xs14 4) (.int .i64 1) fun v439 =>
 K13 [nth xs14 0, nth xs14 1, nth xs14 2, nth xs14 3, v439] H250 nx251))))))
def zat (Q : QT) (K13 : J3) (xs14 : List AV) (H15 : Heap) (nx16 : Nat) : Prop :=
 LNL (nth xs14 2) fun v17 =>
 BI .lss (nth xs14 4) v17 fun v18 =>
 CNDC v18
 (IA 1 (nth xs14 2) (nth xs14 4) fun v19 =>
 LDR false 1 v19 H15 fun v20 _ =>
 IA 1 (nth xs14 3) (nth xs14 4) fun v22 =>
 LDR false 1 v22 H15 fun v23 _ =>
 BI .lss v20 (.int .i64 0) fun v25 =>
 CND v25
 (Q (.tup [.nils, .int .i64 8]) H15 nx16)
 (LNL (nth xs14 1) fun v26 =>
 BI .geq v20 v26 fun v27 =>
 CNDC v27
 (Q (.tup [.nils, .int .i64 8]) H15 nx16)
 (IA 1 (nth xs14 1) v20 fun v28 =>
 LD false 1 v28 H15 fun v29 =>
 BI .geq v29 (.int .i64 0) fun v30 =>
 CND v30
 (IA 1 (nth xs14 1) v20 fun v31 =>
 LD false 1 v31 H15 fun v32 =>
 BI .neq v32 v23 fun v33 =>
 CNDC v33
 (Q (.tup [.nils, .int .i64 10]) H15 nx16)
 (IA 1 (nth xs14 1) v20 fun v34 =>
 LD false 1 v34 H15 fun v35 =>
 BI .geq v35 (.int .i64 0) fun v36 =>
 CNDC v36
 (BI .add (nth xs14 4) (.int .i64 1) fun v37 =>
 K13 [nth xs14 0, nth xs14 1, nth xs14 2, nth xs14 3, v37] H15 nx16)
 (IA 1 (nth xs14 1) v20 fun v38 =>
 ST 1 v38 v23 H15 fun H39 =>
 FA 2 (nth xs14 0) fun v40 =>
 LD false 1 v40 H39 fun v41 =>
 IA 3 v41 v20 fun v42 =>
 LD true 3 v42 H39 fun v43 =>
 ST 3 (.ptr nx16 0) v43 (H39.put nx16 (some (.row 3 [.int .i64 0, .int .i64 0, .int .i64 0]))) fun H44 =>
 LD true 3 (.ptr nx16 0) H44 fun v45 =>
 za Tryz.prog 47 [v45] H44 (nx16 + 1) (zut v23 Q nx16 v20 xs14 K13))))
 (IA 1 (nth xs14 1) v20 fun v237 =>
 LD false 1 v237 H15 fun v238 =>
 BI .geq v238 (.int .i64 0) fun v239 =>
 CNDC v239
 (BI .add (nth xs14 4) (.int .i64 1) fun v240 =>
 K13 [nth xs14 0, nth xs14 1, nth xs14 2, nth xs14 3, v240] H15 nx16)
 (IA 1 (nth xs14 1) v20 fun v241 =>
 ST 1 v241 v23 H15 fun H242 =>
 FA 2 (nth xs14 0) fun v243 =>
 LD false 1 v243 H242 fun v244 =>
 IA 3 v244 v20 fun v245 =>
 LD true 3 v245 H242 fun v246 =>
 ST 3 (.ptr nx16 0) v246 (H242.put nx16 (some (.row 3 [.int .i64 0, .int .i64 0, .int .i64 0]))) fun H247 =>
 LD true 3 (.ptr nx16 0) H247 fun v248 =>
 za Tryz.prog 47 [v248] H247 (nx16 + 1) (zab v23 Q nx16 v20 xs14 K13))))))
 (Q (.tup [nth xs14 1, .int .i64 0]) H15 nx16)
def zli (Q : QT) (K5 : J3) (xs6 : List AV) (H7 : Heap) (nx8 : Nat) : Prop :=
 BI .lss (nth xs6 3) (nth xs6 2) fun v9 =>
 CNDC v9
 (IA 1 (nth xs6 1) (nth xs6 3) fun v10 =>
 ST 1 v10 (.int .i64 (-1)) H7 fun H11 =>
 BI .add (nth xs6 3) (.int .i64 1) fun v12 =>
 K5 [nth xs6 0, nth xs6 1, nth xs6 2, v12] H11 nx8)
 (LP (zat Q) [nth xs6 0, nth xs6 1, .slc nx8 0 1, .slc (nx8 + 1) 0 1, .int .i64 0] ((H7.put nx8 (some (.row 1 [.int .i64 0]))).put ((nx8 + 1)) (some (.row 1 [.int .i64 0]))) (nx8 + 2))
def zlh (a0 : AV) (H : Heap) (nx : Nat) (Q : QT) : Prop :=
 a0.sure = true ∧
 LD false 1 (.ptr nx 2) (H.put nx (some (.row a0.cells.length a0.cells))) fun v1 =>
 LNL v1 fun v2 =>
 MK 8 v2 v2 fun n3 =>
 LNL (.slc (nx + 1) 0 n3) fun v4 =>
 LP (zli Q) [.ptr nx 0, .slc (nx + 1) 0 n3, v4, .int .i64 0] ((H.put nx (some (.row a0.cells.length a0.cells))).put ((nx + 1)) (some (.row 1 (List.replicate n3 [.int .i64 0]).flatten))) (nx + 2)
theorem zqs (a0 : AV) (H : Heap) (nx : Nat) (Q : QT) : zlh a0 H nx Q → za Tryz.prog 17 [a0] H nx Q :=
  zd (lv := lvOf [(2, 3, [1, 4, 19, 20]), (2, 9, [1, 4, 6, 7, 8])]) (c := zl Tryz.f17) zp zq mixed Tryz.func17 (by kernel_rfl) (by kernel_rfl) (by kernel_rfl) (by kernel_rfl) (by kernel_rfl)
def zpl (Q : QT) (K2 : J3) (xs3 : List AV) (H4 : Heap) (nx5 : Nat) : Prop :=
 BI .lss (nth xs3 2) (nth xs3 1) fun v6 =>
 CNDC v6
 (IX (nth xs3 0) (nth xs3 2) fun v7 =>
 BI .lss v7 (.int .u8 32) fun v8 =>
 CND v8
 (Q (.bool false) H4 nx5)
 (IX (nth xs3 0) (nth xs3 2) fun v9 =>
 BI .gtr v9 (.int .u8 126) fun v10 =>
 CND v10
 (Q (.bool false) H4 nx5)
 (IX (nth xs3 0) (nth xs3 2) fun v11 =>
 BI .eql v11 (.int .u8 39) fun v12 =>
 CNDC v12
 (Q (.bool false) H4 nx5)
 (BI .add (nth xs3 2) (.int .i64 1) fun v13 =>
 K2 [nth xs3 0, nth xs3 1, v13] H4 nx5))))
 (LNS (nth xs3 0) fun v14 =>
 BI .lss v14 (.int .i64 13) fun v15 =>
 Q v15 H4 nx5)
def zpk (a0 : AV) (H : Heap) (nx : Nat) (Q : QT) : Prop :=
 LNS a0 fun v1 =>
 LP (zpl Q) [a0, v1, .int .i64 0] H nx
theorem zuu (a0 : AV) (H : Heap) (nx : Nat) (Q : QT) : zpk a0 H nx Q → za Tryz.prog 46 [a0] H nx Q :=
  zd (lv := lvOf [(2, 2, [0, 5, 6])]) (c := zl Tryz.f46) zp zq mixed Tryz.func46 (by kernel_rfl) (by kernel_rfl) (by kernel_rfl) (by kernel_rfl) (by kernel_rfl)
def zlf (Q : QT) (xs13 : List AV) (K12 : J3) (v19 : AV) (H20 : Heap) (nx21 : Nat) : Prop :=
 UO .not v19 fun v22 =>
 CNDC v22
 (Q (.int .i64 7) H20 nx21)
 (BI .add (nth xs13 3) (.int .i64 1) fun v23 =>
 K12 [nth xs13 0, nth xs13 1, nth xs13 2, v23] H20 nx21)
def zgn (Q : QT) (K70 : J3) (xs83 : List AV) (H84 : Heap) (nx85 : Nat) : Prop :=
 FA 1 (nth xs83 2) fun v87 =>
 LDR false 1 v87 H84 fun v88 _ =>
 BI .lss v88 (nth xs83 3) fun v90 =>
 CND v90
 (Q (.int .i64 3) H84 nx85)
 (FA 1 (nth xs83 2) fun v91 =>
 LDR false 1 v91 H84 fun v92 _ =>
 BI .gtr v92 (nth xs83 4) fun v94 =>
 CND v94
 (Q (.int .i64 3) H84 nx85)
 (FA 0 (nth xs83 2) fun v95 =>
 LDR false 1 v95 H84 fun v96 _ =>
 BI .eql v96 (.int .i64 17) fun v98 =>
 CND v98
 (FA 2 (nth xs83 2) fun v99 =>
 LDR false 1 v99 H84 fun v100 _ =>
 FA 0 (nth xs83 0) fun v102 =>
 LDR false 1 v102 H84 fun v103 _ =>
 FA 1 (nth xs83 2) fun v105 =>
 LDR false 1 v105 H84 fun v106 _ =>
 IA 3 v103 v106 fun v108 =>
 FA 0 v108 fun v109 =>
 LDR false 1 v109 H84 fun v110 _ =>
 BI .neq v100 v110 fun v112 =>
 CND v112
 (Q (.int .i64 3) H84 nx85)
 (FA 0 (nth xs83 2) fun v113 =>
 LDR false 1 v113 H84 fun v114 _ =>
 BI .neq v114 (.int .i64 17) fun v116 =>
 CND v116
 (FA 2 (nth xs83 2) fun v117 =>
 LDR false 1 v117 H84 fun v118 _ =>
 BI .neq v118 (.int .i64 0) fun v120 =>
 CNDC v120
 (Q (.int .i64 3) H84 nx85)
 (BI .add (nth xs83 10) (.int .i64 1) fun v121 =>
 K70 [nth xs83 0, nth xs83 1, nth xs83 5, nth xs83 6, nth xs83 7, nth xs83 8, nth xs83 9, v121] H84 nx85))
 (BI .add (nth xs83 10) (.int .i64 1) fun v122 =>
 K70 [nth xs83 0, nth xs83 1, nth xs83 5, nth xs83 6, nth xs83 7, nth xs83 8, nth xs83 9, v122] H84 nx85)))
 (FA 0 (nth xs83 2) fun v123 =>
 LDR false 1 v123 H84 fun v124 _ =>
 BI .neq v124 (.int .i64 17) fun v126 =>
 CND v126
 (FA 2 (nth xs83 2) fun v127 =>
 LDR false 1 v127 H84 fun v128 _ =>
 BI .neq v128 (.int .i64 0) fun v130 =>
 CNDC v130
 (Q (.int .i64 3) H84 nx85)
 (BI .add (nth xs83 10) (.int .i64 1) fun v131 =>
 K70 [nth xs83 0, nth xs83 1, nth xs83 5, nth xs83 6, nth xs83 7, nth xs83 8, nth xs83 9, v131] H84 nx85))
 (BI .add (nth xs83 10) (.int .i64 1) fun v132 =>
 K70 [nth xs83 0, nth xs83 1, nth xs83 5, nth xs83 6, nth xs83 7, nth xs83 8, nth xs83 9, v132] H84 nx85))))
def zlg (v82 : AV) (xs71 : List AV) (nx73 : Nat) (H77 : Heap) (j86 : J3) : Prop :=
 BI .eql v82 (.int .i64 1) fun v133 =>
 CNDC v133
 (j86 [nth xs71 0, nth xs71 1, .ptr nx73 0, .int .i64 (-1073741824), .int .i64 1073741824, nth xs71 2, nth xs71 3, nth xs71 4, nth xs71 5, nth xs71 6, nth xs71 7] H77 (nx73 + 1))
 (BI .eql v82 (.int .i64 2) fun v134 =>
 CNDC v134
 (FA 1 (nth xs71 0) fun v135 =>
 LD false 1 v135 H77 fun v136 =>
 LNL v136 fun v137 =>
 BI .sub v137 (.int .i64 1) fun v138 =>
 j86 [nth xs71 0, nth xs71 1, .ptr nx73 0, .int .i64 0, v138, nth xs71 2, nth xs71 3, nth xs71 4, nth xs71 5, nth xs71 6, nth xs71 7] H77 (nx73 + 1))
 (BI .eql v82 (.int .i64 3) fun v139 =>
 CNDC v139
 (FA 1 (nth xs71 1) fun v140 =>
 LD false 1 v140 H77 fun v141 =>
 BI .sub v141 (.int .i64 1) fun v142 =>
 j86 [nth xs71 0, nth xs71 1, .ptr nx73 0, .int .i64 0, v142, nth xs71 2, nth xs71 3, nth xs71 4, nth xs71 5, nth xs71 6, nth xs71 7] H77 (nx73 + 1))
 (BI .eql v82 (.int .i64 4) fun v143 =>
 CNDC v143
 (FA 1 (nth xs71 1) fun v144 =>
 LD false 1 v144 H77 fun v145 =>
 BI .sub v145 (.int .i64 1) fun v146 =>
 j86 [nth xs71 0, nth xs71 1, .ptr nx73 0, .int .i64 0, v146, nth xs71 2, nth xs71 3, nth xs71 4, nth xs71 5, nth xs71 6, nth xs71 7] H77 (nx73 + 1))
 (BI .eql v82 (.int .i64 5) fun v147 =>
 CNDC v147
 (j86 [nth xs71 0, nth xs71 1, .ptr nx73 0, .int .i64 1, .int .i64 5, nth xs71 2, nth xs71 3, nth xs71 4, nth xs71 5, nth xs71 6, nth xs71 7] H77 (nx73 + 1))
 (BI .eql v82 (.int .i64 15) fun v148 =>
 CNDC v148
 (FA 2 (nth xs71 1) fun v149 =>
 LD false 1 v149 H77 fun v150 =>
 LNL v150 fun v151 =>
 BI .sub v151 (.int .i64 1) fun v152 =>
 j86 [nth xs71 0, nth xs71 1, .ptr nx73 0, .int .i64 0, v152, nth xs71 2, nth xs71 3, nth xs71 4, nth xs71 5, nth xs71 6, nth xs71 7] H77 (nx73 + 1))
 (BI .eql v82 (.int .i64 16) fun v153 =>
 CNDC v153
 (FA 2 (nth xs71 1) fun v154 =>
 LD false 1 v154 H77 fun v155 =>
 LNL v155 fun v156 =>
 BI .sub v156 (.int .i64 1) fun v157 =>
 j86 [nth xs71 0, nth xs71 1, .ptr nx73 0, .int .i64 0, v157, nth xs71 2, nth xs71 3, nth xs71 4, nth xs71 5, nth xs71 6, nth xs71 7] H77 (nx73 + 1))
 (BI .eql v82 (.int .i64 17) fun v158 =>
 CNDC v158
 (FA 0 (nth xs71 0) fun v159 =>
 LD false 1 v159 H77 fun v160 =>
 LNL v160 fun v161 =>
 BI .sub v161 (.int .i64 1) fun v162 =>
 j86 [nth xs71 0, nth xs71 1, .ptr nx73 0, .int .i64 0, v162, nth xs71 2, nth xs71 3, nth xs71 4, nth xs71 5, nth xs71 6, nth xs71 7] H77 (nx73 + 1))
 (j86 [nth xs71 0, nth xs71 1, .ptr nx73 0, .int .i64 0, .int .i64 0, nth xs71 2, nth xs71 3, nth xs71 4, nth xs71 5, nth xs71 6, nth xs71 7] H77 (nx73 + 1)))))))))
def zle (Q : QT) (xs71 : List AV) (K60 : J3) (v164 : AV) (H165 : Heap) (nx166 : Nat) : Prop :=
 EX v164 0 fun _ =>
 EX v164 1 fun v168 =>
 BI .neq v168 (.int .i64 0) fun v169 =>
 CNDC v169
 (Q v168 H165 nx166)
 (BI .add (nth xs71 4) (.int .i64 1) fun v170 =>
 K60 [nth xs71 0, nth xs71 2, nth xs71 3, v170] H165 nx166)
def zgm (Q : QT) (K60 : J3) (K70 : J3) (xs71 : List AV) (H72 : Heap) (nx73 : Nat) : Prop :=
 BI .lss (nth xs71 7) (nth xs71 6) fun v74 =>
 CNDC v74
 (IA 3 (nth xs71 5) (nth xs71 7) fun v75 =>
 LD true 3 v75 H72 fun v76 =>
 ST 3 (.ptr nx73 0) v76 (H72.put nx73 (some (.row 3 [.int .i64 0, .int .i64 0, .int .i64 0]))) fun H77 =>
 LD false 1 (.ptr nx73 0) H77 fun v78 =>
 BI .lss v78 (.int .i64 1) fun v79 =>
 CND v79
 (Q (.int .i64 1) H77 (nx73 + 1))
 (LD false 1 (.ptr nx73 0) H77 fun v80 =>
 BI .gtr v80 (.int .i64 19) fun v81 =>
 CNDC v81
 (Q (.int .i64 1) H77 (nx73 + 1))
 (LD false 1 (.ptr nx73 0) H77 fun v82 =>
 JN (zgn Q K70) (zlg v82 xs71 nx73 H77))))
 (LD true 3 (nth xs71 1) H72 fun v163 =>
 za Tryz.prog 17 [v163] H72 nx73 (zle Q xs71 K60))
def zgl (Q : QT) (K60 : J3) (xs61 : List AV) (H62 : Heap) (nx63 : Nat) : Prop :=
 BI .lss (nth xs61 3) (nth xs61 2) fun v64 =>
 CNDC v64
 (IA 3 (nth xs61 1) (nth xs61 3) fun v65 =>
 LD true 3 v65 H62 fun v66 =>
 ST 3 (.ptr nx63 0) v66 (H62.put nx63 (some (.row 3 [.int .i64 0, .int .i64 0, .nils]))) fun H67 =>
 LD false 1 (.ptr nx63 2) H67 fun v68 =>
 LNL v68 fun v69 =>
 LP (zgm Q K60) [nth xs61 0, .ptr nx63 0, nth xs61 1, nth xs61 2, nth xs61 3, v68, v69, .int .i64 0] H67 (nx63 + 1))
 (Q (.int .i64 0) H62 nx63)
def zgk (Q : QT) (K33 : J3) (xs34 : List AV) (H35 : Heap) (nx36 : Nat) : Prop :=
 BI .lss (nth xs34 3) (nth xs34 2) fun v37 =>
 CNDC v37
 (IA 3 (nth xs34 1) (nth xs34 3) fun v38 =>
 LD true 3 v38 H35 fun v39 =>
 ST 3 (.ptr nx36 0) v39 (H35.put nx36 (some (.row 3 [.int .i64 0, .int .i64 0, .nils]))) fun H40 =>
 LD false 1 (.ptr nx36 0) H40 fun v41 =>
 BI .lss v41 (.int .i64 0) fun v42 =>
 CND v42
 (Q (.int .i64 3) H40 (nx36 + 1))
 (LD false 1 (.ptr nx36 0) H40 fun v43 =>
 BI .gtr v43 (.int .i64 4) fun v44 =>
 CND v44
 (Q (.int .i64 3) H40 (nx36 + 1))
 (LD false 1 (.ptr nx36 1) H40 fun v45 =>
 LD false 1 (.ptr nx36 0) H40 fun v46 =>
 BI .lss v45 v46 fun v47 =>
 CND v47
 (Q (.int .i64 3) H40 (nx36 + 1))
 (LD false 1 (.ptr nx36 1) H40 fun v48 =>
 BI .gtr v48 (.int .i64 8) fun v49 =>
 CND v49
 (Q (.int .i64 3) H40 (nx36 + 1))
 (LD false 1 (.ptr nx36 2) H40 fun v50 =>
 LNL v50 fun v51 =>
 BI .eql v51 (.int .i64 0) fun v52 =>
 CND v52
 (Q (.int .i64 3) H40 (nx36 + 1))
 (LD false 1 (.ptr nx36 2) H40 fun v53 =>
 LNL v53 fun v54 =>
 BI .gtr v54 (.int .i64 200) fun v55 =>
 CNDC v55
 (Q (.int .i64 3) H40 (nx36 + 1))
 (BI .add (nth xs34 3) (.int .i64 1) fun v56 =>
 K33 [nth xs34 0, nth xs34 1, nth xs34 2, v56] H40 (nx36 + 1))))))))
 (FA 0 (nth xs34 0) fun v57 =>
 LD false 1 v57 H35 fun v58 =>
 LNL v58 fun v59 =>
 LP (zgl Q) [nth xs34 0, v58, v59, .int .i64 0] H35 nx36)
def zgj (Q : QT) (K12 : J3) (xs13 : List AV) (H14 : Heap) (nx15 : Nat) : Prop :=
 BI .lss (nth xs13 3) (nth xs13 2) fun v16 =>
 CNDC v16
 (IA 1 (nth xs13 1) (nth xs13 3) fun v17 =>
 LD false 1 v17 H14 fun v18 =>
 za Tryz.prog 46 [v18] H14 nx15 (zlf Q xs13 K12))
 (FA 0 (nth xs13 0) fun v24 =>
 LD false 1 v24 H14 fun v25 =>
 IA 3 v25 (.int .i64 0) fun v26 =>
 FA 0 v26 fun v27 =>
 LD false 1 v27 H14 fun v28 =>
 BI .neq v28 (.int .i64 0) fun v29 =>
 CNDC v29
 (Q (.int .i64 10) H14 nx15)
 (FA 0 (nth xs13 0) fun v30 =>
 LD false 1 v30 H14 fun v31 =>
 LNL v31 fun v32 =>
 LP (zgk Q) [nth xs13 0, v31, v32, .int .i64 0] H14 nx15))
def zld (a0 : AV) (H : Heap) (nx : Nat) (Q : QT) : Prop :=
 a0.sure = true ∧
 LD false 1 (.ptr nx 0) (H.put nx (some (.row a0.cells.length a0.cells))) fun v1 =>
 LNL v1 fun v2 =>
 BI .eql v2 (.int .i64 0) fun v3 =>
 CND v3
 (Q (.int .i64 5) (H.put nx (some (.row a0.cells.length a0.cells))) (nx + 1))
 (LD false 1 (.ptr nx 0) (H.put nx (some (.row a0.cells.length a0.cells))) fun v4 =>
 LNL v4 fun v5 =>
 BI .gtr v5 (.int .i64 5) fun v6 =>
 CNDC v6
 (Q (.int .i64 5) (H.put nx (some (.row a0.cells.length a0.cells))) (nx + 1))
 (LD false 1 (.ptr nx 1) (H.put nx (some (.row a0.cells.length a0.cells))) fun v7 =>
 LNL v7 fun v8 =>
 BI .gtr v8 (.int .i64 16) fun v9 =>
 CNDC v9
 (Q (.int .i64 4) (H.put nx (some (.row a0.cells.length a0.cells))) (nx + 1))
 (LD false 1 (.ptr nx 1) (H.put nx (some (.row a0.cells.length a0.cells))) fun v10 =>
 LNL v10 fun v11 =>
 LP (zgj Q) [.ptr nx 0, v10, v11, .int .i64 0] (H.put nx (some (.row a0.cells.length a0.cells))) (nx + 1))))
theorem zqr (a0 : AV) (H : Heap) (nx : Nat) (Q : QT) : zld a0 H nx Q → za Tryz.prog 16 [a0] H nx Q :=
  zd (lv := lvOf [(1, 8, [1, 8, 10, 11, 12, 87, 88, 89, 94, 95, 96]), (2, 6, [1, 30, 31, 32]), (2, 14, [1, 47, 48, 49]), (2, 20, [1, 87, 88, 89]), (2, 23, [1, 8, 87, 88, 89, 94, 95, 96])]) (c := zl Tryz.f16) zp zq mixed Tryz.func16 (by kernel_rfl) (by kernel_rfl) (by kernel_rfl) (by kernel_rfl) (by kernel_rfl)
def znn (Q : QT) (xs126 : List AV) (K125 : J3) (v137 : AV) (H138 : Heap) (nx139 : Nat) : Prop :=
 BI .neq v137 (.int .i64 0) fun v140 =>
 CNDC v140
 (Q v137 H138 nx139)
 (BI .add (nth xs126 7) (.int .i64 1) fun v141 =>
 K125 [nth xs126 0, nth xs126 1, nth xs126 2, nth xs126 3, nth xs126 4, nth xs126 5, nth xs126 6, v141] H138 nx139)
def zij (Q : QT) (K54 : J3) (K125 : J3) (xs126 : List AV) (H127 : Heap) (nx128 : Nat) : Prop :=
 BI .lss (nth xs126 7) (nth xs126 6) fun v129 =>
 CNDC v129
 (IA 3 (nth xs126 5) (nth xs126 7) fun v130 =>
 LD true 3 v130 H127 fun v131 =>
 ST 3 (.ptr nx128 0) v131 (H127.put nx128 (some (.row 3 [.int .i64 0, .int .i64 0, .str []]))) fun H132 =>
 LD true 3 (.ptr nx128 0) H132 fun v133 =>
 FA 5 (nth xs126 1) fun v134 =>
 LD false 1 v134 H132 fun v135 =>
 LNL v135 fun v136 =>
 za Tryz.prog 18 [v133, v136] H132 (nx128 + 1) (znn Q xs126 K125))
 (BI .add (nth xs126 4) (.int .i64 1) fun v142 =>
 K54 [nth xs126 0, nth xs126 1, nth xs126 2, nth xs126 3, v142] H127 nx128)
def zci (Q : QT) (j104 : J3) (xs143 : List AV) (H144 : Heap) (nx145 : Nat) : Prop :=
 CNDC (nth xs143 11)
 (BI .sub (nth xs143 6) (.int .i64 1) fun v147 =>
 FA 1 (nth xs143 3) fun v148 =>
 LD false 1 v148 H144 fun v149 =>
 BI .eql v149 (.int .i64 0) fun v150 =>
 CNDC v150
 (Q (.int .i64 10) H144 nx145)
 (FA 2 (nth xs143 4) fun v151 =>
 LD false 1 v151 H144 fun v152 =>
 FA 1 (nth xs143 3) fun v153 =>
 LD false 1 v153 H144 fun v154 =>
 BI .sub v154 (.int .i64 1) fun v155 =>
 IA 3 v152 v155 fun v156 =>
 LD true 3 v156 H144 fun v157 =>
 ST 3 (.ptr nx145 0) v157 (H144.put nx145 (some (.row 3 [.int .i64 0, .int .i64 0, .int .i64 0]))) fun H158 =>
 FA 1 (nth xs143 3) fun v159 =>
 LD false 1 v159 H158 fun v160 =>
 BI .sub v160 (.int .i64 1) fun v161 =>
 IA 1 (nth xs143 5) v161 fun v162 =>
 LD false 1 v162 H158 fun v163 =>
 BI .geq v163 (.int .i64 0) fun v164 =>
 CNDC (nth xs143 7)
 (CND v164
 (LD false 1 (.ptr nx145 0) H158 fun v165 =>
 BI .eql v165 (.int .i64 13) fun v166 =>
 UO .not v166 fun v167 =>
 CNDC v167
 (Q (.int .i64 10) H158 (nx145 + 1))
 (j104 [nth xs143 0, nth xs143 1, nth xs143 3, v147, nth xs143 8, nth xs143 9, nth xs143 10] H158 (nx145 + 1)))
 (UO .not (.bool false) fun v168 =>
 CNDC v168
 (Q (.int .i64 10) H158 (nx145 + 1))
 (j104 [nth xs143 0, nth xs143 1, nth xs143 3, v147, nth xs143 8, nth xs143 9, nth xs143 10] H158 (nx145 + 1))))
 (CND v164
 (LDR false 1 (.ptr nx145 0) H158 fun v169 _ =>
 BI .eql v169 (.int .i64 17) fun v171 =>
 CND v171
 (LDR false 1 (.ptr nx145 1) H158 fun v172 _ =>
 FA 4 (nth xs143 1) fun v174 =>
 LDR false 1 v174 H158 fun v175 _ =>
 BI .add (nth xs143 2) (.int .i64 1) fun v177 =>
 IA 4 v175 v177 fun v178 =>
 FA 0 v178 fun v179 =>
 LDR false 1 v179 H158 fun v180 _ =>
 BI .eql v172 v180 fun v182 =>
 UO .not v182 fun v183 =>
 CNDC v183
 (Q (.int .i64 10) H158 (nx145 + 1))
 (j104 [nth xs143 0, nth xs143 1, nth xs143 3, v147, nth xs143 8, nth xs143 9, nth xs143 10] H158 (nx145 + 1)))
 (UO .not (.bool false) fun v184 =>
 CNDC v184
 (Q (.int .i64 10) H158 (nx145 + 1))
 (j104 [nth xs143 0, nth xs143 1, nth xs143 3, v147, nth xs143 8, nth xs143 9, nth xs143 10] H158 (nx145 + 1))))
 (UO .not (.bool false) fun v185 =>
 CNDC v185
 (Q (.int .i64 10) H158 (nx145 + 1))
 (j104 [nth xs143 0, nth xs143 1, nth xs143 3, v147, nth xs143 8, nth xs143 9, nth xs143 10] H158 (nx145 + 1))))))
 (j104 [nth xs143 0, nth xs143 1, nth xs143 3, nth xs143 6, nth xs143 8, nth xs143 9, nth xs143 10] H144 nx145)
def zil (v100 : AV) (xs55 : List AV) (nx57 : Nat) (v91 : AV) (v95 : AV) (H89 : Heap) (nx90 : Nat) (j146 : J3) : Prop :=
 UO .not v100 fun v186 =>
 CND v186
 (j146 [nth xs55 0, nth xs55 1, nth xs55 4, .ptr nx57 0, .ptr (nx57 + 1) 0, v91, v95, v100, nth xs55 2, nth xs55 3, nth xs55 4, .bool true] H89 nx90)
 (j146 [nth xs55 0, nth xs55 1, nth xs55 4, .ptr nx57 0, .ptr (nx57 + 1) 0, v91, v95, v100, nth xs55 2, nth xs55 3, nth xs55 4, nth xs55 0] H89 nx90)
def zbg (Q : QT) (K54 : J3) (xs101 : List AV) (H102 : Heap) (nx103 : Nat) : Prop :=
 BI .lss (nth xs101 3) (.int .i64 0) fun v105 =>
 CND v105
 (Q (.int .i64 10) H102 nx103)
 (FA 3 (nth xs101 2) fun v106 =>
 LD false 1 v106 H102 fun v107 =>
 LNL v107 fun v108 =>
 BI .neq (nth xs101 3) v108 fun v109 =>
 CNDC v109
 (Q (.int .i64 10) H102 nx103)
 (FA 2 (nth xs101 2) fun v110 =>
 LDR false 1 v110 (H102.put nx103 (some (.row 3 []))) fun v111 rd112 =>
 zx 3 32 (.slc nx103 0 0) v111 (H102.put nx103 (some (.row 3 []))) (nx103 + 1) fun v113 _ fr115 D116 =>
 FA 3 (nth xs101 2) fun v117 =>
 LDR false 1 v117 ((H102.put nx103 (some (.row 3 []))).apply D116) fun v118 rd119 =>
 zx 3 32 v113 v118 ((H102.put nx103 (some (.row 3 []))).apply D116) ((nx103 + 1) + fr115.length) fun v120 _ fr122 D123 =>
 LNL v120 fun v124 =>
 nx103 ∉ [] ∧
 nx103 ∉ [] ∧
 nx103 ∉ rd112 ∧
 nx103 ∉ [] ∧
 nx103 ∉ [] ∧
 nx103 ∉ [] ∧
 zm (domD D116) [] (
 zm (domD D116) [] (
 nx103 ∉ rd119 ∧
 nx103 ∉ [] ∧
 zm (domD D116) rd119 (
 zm (domD D116) [] (
 nx103 ∉ [] ∧
 nx103 ∉ [] ∧
 zm (domD D116) [] (
 zm (domD D116) [] (
 zm (domD D123) [] (
 zm (domD D123) [] (
 LP (zij Q K54) [nth xs101 0, nth xs101 1, nth xs101 4, nth xs101 5, nth xs101 6, v120, v124, .int .i64 0] (((H102.put nx103 (some (.row 3 []))).apply D116).apply D123) (((nx103 + 1) + fr115.length) + fr122.length)))))))))))
def zno (Q : QT) (v100 : AV) (xs55 : List AV) (nx57 : Nat) (v91 : AV) (v95 : AV) (H89 : Heap) (nx90 : Nat) (j104 : J3) : Prop :=
 JN (zci Q j104) (zil v100 xs55 nx57 v91 v95 H89 nx90)
def znm (nx57 : Nat) (xs55 : List AV) (Q : QT) (K54 : J3) (v88 : AV) (H89 : Heap) (nx90 : Nat) : Prop :=
 EX v88 0 fun v91 =>
 EX v88 1 fun _ =>
 LD false 1 (.ptr nx57 1) H89 fun v93 =>
 IA 1 v91 v93 fun v94 =>
 LD false 1 v94 H89 fun v95 =>
 FA 4 (nth xs55 1) fun v96 =>
 LD false 1 v96 H89 fun v97 =>
 LNL v97 fun v98 =>
 BI .sub v98 (.int .i64 1) fun v99 =>
 BI .eql (nth xs55 4) v99 fun v100 =>
 JN (zbg Q K54) (zno Q v100 xs55 nx57 v91 v95 H89 nx90)
def znl (Q : QT) (xs191 : List AV) (K190 : J3) (v210 : AV) (H211 : Heap) (nx212 : Nat) : Prop :=
 BI .neq v210 (.int .i64 0) fun v213 =>
 CNDC v213
 (Q v210 H211 nx212)
 (BI .add (nth xs191 3) (.int .i64 1) fun v214 =>
 K190 [nth xs191 0, nth xs191 1, nth xs191 2, v214] H211 nx212)
def znk (Q : QT) (nx193 : Nat) (xs191 : List AV) (K190 : J3) (v202 : AV) (H203 : Heap) (nx204 : Nat) : Prop :=
 BI .neq v202 (.int .i64 0) fun v205 =>
 CNDC v205
 (Q v202 H203 nx204)
 (LD true 3 (.ptr nx193 3) H203 fun v206 =>
 FA 5 (nth xs191 0) fun v207 =>
 LD false 1 v207 H203 fun v208 =>
 LNL v208 fun v209 =>
 za Tryz.prog 18 [v206, v209] H203 nx204 (znl Q xs191 K190))
def zii (Q : QT) (K190 : J3) (xs191 : List AV) (H192 : Heap) (nx193 : Nat) : Prop :=
 BI .lss (nth xs191 3) (nth xs191 2) fun v194 =>
 CNDC v194
 (IA 6 (nth xs191 1) (nth xs191 3) fun v195 =>
 LD true 6 v195 H192 fun v196 =>
 ST 6 (.ptr nx193 0) v196 (H192.put nx193 (some (.row 6 [.int .i64 0, .int .i64 0, .str [], .int .i64 0, .int .i64 0, .str []]))) fun H197 =>
 LD true 3 (.ptr nx193 0) H197 fun v198 =>
 FA 5 (nth xs191 0) fun v199 =>
 LD false 1 v199 H197 fun v200 =>
 LNL v200 fun v201 =>
 za Tryz.prog 18 [v198, v201] H197 (nx193 + 1) (znk Q nx193 xs191 K190))
 (Q (.int .i64 0) H192 nx193)
def zaj (Q : QT) (K54 : J3) (xs55 : List AV) (H56 : Heap) (nx57 : Nat) : Prop :=
 BI .lss (nth xs55 4) (nth xs55 3) fun v58 =>
 CNDC v58
 (IA 4 (nth xs55 2) (nth xs55 4) fun v59 =>
 LD true 4 v59 H56 fun v60 =>
 ST 4 (.ptr nx57 0) v60 (H56.put nx57 (some (.row 4 [.int .i64 0, .int .i64 0, .nils, .nils]))) fun H61 =>
 LD false 1 (.ptr nx57 0) H61 fun v62 =>
 BI .lss v62 (.int .i64 0) fun v63 =>
 CND v63
 (Q (.int .i64 3) H61 (nx57 + 1))
 (LD false 1 (.ptr nx57 0) H61 fun v64 =>
 FA 2 (nth xs55 1) fun v65 =>
 FA 0 v65 fun v66 =>
 LD false 1 v66 H61 fun v67 =>
 LNL v67 fun v68 =>
 BI .geq v64 v68 fun v69 =>
 CNDC v69
 (Q (.int .i64 3) H61 (nx57 + 1))
 (FA 2 (nth xs55 1) fun v70 =>
 FA 0 v70 fun v71 =>
 LD false 1 v71 H61 fun v72 =>
 LD false 1 (.ptr nx57 0) H61 fun v73 =>
 IA 3 v72 v73 fun v74 =>
 LD true 3 v74 H61 fun v75 =>
 ST 3 (.ptr (nx57 + 1) 0) v75 (H61.put ((nx57 + 1)) (some (.row 3 [.int .i64 0, .int .i64 0, .nils]))) fun H76 =>
 LD false 1 (.ptr nx57 1) H76 fun v77 =>
 BI .lss v77 (.int .i64 0) fun v78 =>
 CND v78
 (Q (.int .i64 3) H76 (nx57 + 2))
 (LD false 1 (.ptr nx57 1) H76 fun v79 =>
 LD false 1 (.ptr (nx57 + 1) 2) H76 fun v80 =>
 LNL v80 fun v81 =>
 BI .geq v79 v81 fun v82 =>
 CND v82
 (Q (.int .i64 3) H76 (nx57 + 2))
 (LD false 1 (.ptr nx57 2) H76 fun v83 =>
 LNL v83 fun v84 =>
 LD false 1 (.ptr (nx57 + 1) 1) H76 fun v85 =>
 BI .neq v84 v85 fun v86 =>
 CNDC v86
 (Q (.int .i64 3) H76 (nx57 + 2))
 (LD true 3 (.ptr (nx57 + 1) 0) H76 fun v87 =>
 za Tryz.prog 17 [v87] H76 (nx57 + 2) (znm nx57 xs55 Q K54)))))))
 (FA 5 (nth xs55 1) fun v187 =>
 LD false 1 v187 H56 fun v188 =>
 LNL v188 fun v189 =>
 LP (zii Q) [nth xs55 1, v188, v189, .int .i64 0] H56 nx57)
def zbf (Q : QT) (K18 : J3) (xs19 : List AV) (H20 : Heap) (nx21 : Nat) : Prop :=
 BI .lss (nth xs19 4) (nth xs19 3) fun v22 =>
 CNDC v22
 (IA 2 (nth xs19 2) (nth xs19 4) fun v23 =>
 LD true 2 v23 H20 fun v24 =>
 ST 2 (.ptr nx21 0) v24 (H20.put nx21 (some (.row 1 [.int .i64 0, .int .i64 0]))) fun H25 =>
 AA 1 2 (.ptr nx21 0) (.int .i64 0) fun v26 =>
 LD false 1 v26 H25 fun v27 =>
 BI .lss v27 (.int .i64 0) fun v28 =>
 CND v28
 (Q (.int .i64 3) H25 (nx21 + 1))
 (AA 1 2 (.ptr nx21 0) (.int .i64 0) fun v29 =>
 LD false 1 v29 H25 fun v30 =>
 AA 1 2 (.ptr nx21 0) (.int .i64 1) fun v31 =>
 LD false 1 v31 H25 fun v32 =>
 BI .gtr v30 v32 fun v33 =>
 CNDC v33
 (Q (.int .i64 3) H25 (nx21 + 1))
 (BI .add (nth xs19 4) (.int .i64 1) fun v34 =>
 K18 [nth xs19 0, nth xs19 1, nth xs19 2, nth xs19 3, v34] H25 (nx21 + 1))))
 (FA 4 (nth xs19 1) fun v35 =>
 LD false 1 v35 H20 fun v36 =>
 LNL v36 fun v37 =>
 BI .eql v37 (.int .i64 0) fun v38 =>
 CND v38
 (Q (.int .i64 5) H20 nx21)
 (FA 4 (nth xs19 1) fun v39 =>
 LD false 1 v39 H20 fun v40 =>
 LNL v40 fun v41 =>
 BI .gtr v41 (.int .i64 12) fun v42 =>
 CNDC v42
 (Q (.int .i64 5) H20 nx21)
 (FA 5 (nth xs19 1) fun v43 =>
 LD false 1 v43 H20 fun v44 =>
 LNL v44 fun v45 =>
 FA 6 (nth xs19 1) fun v46 =>
 FA 1 v46 fun v47 =>
 LD false 1 v47 H20 fun v48 =>
 BI .add v45 v48 fun v49 =>
 BI .gtr v49 (.int .i64 60) fun v50 =>
 CNDC v50
 (Q (.int .i64 4) H20 nx21)
 (FA 4 (nth xs19 1) fun v51 =>
 LD false 1 v51 H20 fun v52 =>
 LNL v52 fun v53 =>
 LP (zaj Q) [nth xs19 0, nth xs19 1, v52, v53, .int .i64 0] H20 nx21))))
def zik (Q : QT) (nx : Nat) (a1 : AV) (v2 : AV) (H3 : Heap) (nx4 : Nat) : Prop :=
 BI .neq v2 (.int .i64 0) fun v5 =>
 CNDC v5
 (Q v2 H3 nx4)
 (LD false 1 (.ptr nx 0) H3 fun v6 =>
 BD (fun i => some (i * 1, 1)) [.int .i64 0, .int .i64 0] [(0, v6), (1, .int .i64 1073741824)] fun v7 =>
 LD false 1 (.ptr nx 1) H3 fun v8 =>
 BD (fun i => some (i * 1, 1)) [.int .i64 0, .int .i64 0] [(0, v8), (1, .int .i64 1073741824)] fun v9 =>
 LD false 1 (.ptr nx 6) H3 fun v10 =>
 BD (fun i => some (i * 1, 1)) [.int .i64 0, .int .i64 0] [(0, v10), (1, .int .i64 2000)] fun v11 =>
 LD false 1 (.ptr nx 7) H3 fun v12 =>
 BD (fun i => some (i * 1, 1)) [.int .i64 0, .int .i64 0] [(0, v12), (1, .int .i64 60)] fun v13 =>
 LD false 1 (.ptr nx 8) H3 fun v14 =>
 BD (fun i => some (i * 1, 1)) [.int .i64 0, .int .i64 0] [(0, v14), (1, .int .i64 12)] fun v15 =>
 BSL 5 2 [.int .i64 0, .int .i64 0] [(0, v7), (1, v9), (2, v11), (3, v13), (4, v15)] fun cells16 =>
 LNL (.slc nx4 0 5) fun v17 =>
 LP (zbf Q) [a1, .ptr nx 0, .slc nx4 0 5, v17, .int .i64 0] (H3.put nx4 (some (.row 2 cells16))) (nx4 + 1))
def znj (a0 a1 : AV) (H : Heap) (nx : Nat) (Q : QT) : Prop :=
 a0.sure = true ∧
 LD true 2 (.ptr nx 2) (H.put nx (some (.row a0.cells.length a0.cells))) fun v1 =>
 za Tryz.prog 16 [v1] (H.put nx (some (.row a0.cells.length a0.cells))) (nx + 1) (zik Q nx a1)
theorem zsq (a0 a1 : AV) (H : Heap) (nx : Nat) (Q : QT) : znj a0 a1 H nx Q → za Tryz.prog 7 [a0, a1] H nx Q :=
  zd (lv := lvOf [(0, 25, [1, 2, 8, 9, 10, 11, 13, 14, 84, 85, 86, 149]), (2, 5, [1, 2, 48, 49, 50]), (2, 15, [1, 2, 84, 85, 86]), (2, 39, [1, 2, 84, 85, 86, 211, 212, 213]), (2, 47, [2, 228, 229, 230]), (3, 36, [1, 2, 9, 13, 84, 85, 86])]) (c := zl Tryz.f7) zp zq mixed Tryz.func7 (by kernel_rfl) (by kernel_rfl) (by kernel_rfl) (by kernel_rfl) (by kernel_rfl)
def zth (Q : QT) (K4 : J3) (xs5 : List AV) (H6 : Heap) (nx7 : Nat) : Prop :=
 BI .lss (nth xs5 2) (nth xs5 1) fun v8 =>
 CNDC v8
 (IX (nth xs5 0) (nth xs5 2) fun v9 =>
 BI .lss v9 (.int .u8 32) fun v10 =>
 CND v10
 (Q (.bool false) H6 nx7)
 (IX (nth xs5 0) (nth xs5 2) fun v11 =>
 BI .gtr v11 (.int .u8 126) fun v12 =>
 CND v12
 (Q (.bool false) H6 nx7)
 (IX (nth xs5 0) (nth xs5 2) fun v13 =>
 BI .eql v13 (.int .u8 39) fun v14 =>
 CNDC v14
 (Q (.bool false) H6 nx7)
 (BI .add (nth xs5 2) (.int .i64 1) fun v15 =>
 K4 [nth xs5 0, nth xs5 1, v15] H6 nx7))))
 (Q (.bool true) H6 nx7)
def ztg (a0 : AV) (H : Heap) (nx : Nat) (Q : QT) : Prop :=
 LNS a0 fun v1 =>
 BI .gtr v1 (.int .i64 12) fun v2 =>
 CNDC v2
 (Q (.bool false) H nx)
 (LNS a0 fun v3 =>
 LP (zth Q) [a0, v3, .int .i64 0] H nx)
theorem zwp (a0 : AV) (H : Heap) (nx : Nat) (Q : QT) : ztg a0 H nx Q → za Tryz.prog 76 [a0] H nx Q :=
  zd (lv := lvOf [(2, 4, [0, 8, 9])]) (c := zl Tryz.f76) zp zq mixed Tryz.func76 (by kernel_rfl) (by kernel_rfl) (by kernel_rfl) (by kernel_rfl) (by kernel_rfl)
def zjj (a0 a1 : AV) (H : Heap) (nx : Nat) (Q : QT) : Prop :=
 BI .geq a0 (.int .i64 0) fun v1 =>
 CND v1
 (BI .lss a0 a1 fun v2 =>
 Q v2 H nx)
 (Q (.bool false) H nx)
theorem zpb (a0 a1 : AV) (H : Heap) (nx : Nat) (Q : QT) : zjj a0 a1 H nx Q → za Tryz.prog 89 [a0, a1] H nx Q :=
  zd (lv := lvOf []) (c := zl Tryz.f89) zp zq mixed Tryz.func89 (by kernel_rfl) (by kernel_rfl) (by kernel_rfl) (by kernel_rfl) (by kernel_rfl)
def zbo (j7 : J3) (nx : Nat) (H : Heap) (a2 : AV) (v34 : AV) (rd35 : List Nat) (fr36 : List Nat) (D37 : zg) : Prop :=
 j7 [AV.ptr nx 0, v34] ((H.put nx (some (AObj.row a2.cells.length a2.cells))).apply D37) ((nx + 1) + fr36.length)
def zbn (j7 : J3) (xs38 : List AV) (H39 : Heap) (nx40 : Nat) (v49 : AV) (rd50 : List Nat) (fr51 : List Nat) (D52 : zg) : Prop :=
 j7 [nth xs38 2, v49] (H39.apply D52) (nx40 + fr51.length)
def zbm (j7 : J3) (xs38 : List AV) (H39 : Heap) (nx40 : Nat) (v69 : AV) (rd70 : List Nat) (fr71 : List Nat) (D72 : zg) : Prop :=
 j7 [nth xs38 2, v69] (H39.apply D72) (nx40 + fr71.length)
def zbl (j7 : J3) (xs38 : List AV) (H39 : Heap) (nx40 : Nat) (v82 : AV) (rd83 : List Nat) (fr84 : List Nat) (D85 : zg) : Prop :=
 j7 [nth xs38 2, v82] (H39.apply D85) (nx40 + fr84.length)
def zbk (xs38 : List AV) (H39 : Heap) (j7 : J3) (nx40 : Nat) (v95 : AV) (_ : List Nat) (fr97 : List Nat) (D98 : zg) : Prop :=
 CND v95
 (FA 2 (nth xs38 2) fun v99 =>
 LDR false 1 v99 (H39.apply D98) fun v100 _ =>
 NC (nth xs38 0) fun v102 =>
 FA 0 v102 fun v103 =>
 LDR false 1 v103 (H39.apply D98) fun v104 _ =>
 FA 1 (nth xs38 2) fun v106 =>
 LDR false 1 v106 (H39.apply D98) fun v107 _ =>
 IA 3 v104 v107 fun v109 =>
 FA 0 v109 fun v110 =>
 LDR false 1 v110 (H39.apply D98) fun v111 _ =>
 BI .eql v100 v111 fun v113 =>
 j7 [nth xs38 2, v113] (H39.apply D98) (nx40 + fr97.length))
 (j7 [nth xs38 2, .bool false] (H39.apply D98) (nx40 + fr97.length))
def zbq (j7 : J3) (xs38 : List AV) (H39 : Heap) (nx40 : Nat) : Prop :=
 CNDC (nth xs38 6)
 (FA 1 (nth xs38 2) fun v42 =>
 LDR false 1 v42 H39 fun v43 _ =>
 NC (nth xs38 1) fun v45 =>
 FA 1 v45 fun v46 =>
 LDR false 1 v46 H39 fun v47 _ =>
 zt Tryz.prog (nth xs38 3) [v43, v47] H39 nx40 (zbn j7 xs38 H39 nx40))
 (BI .eql (nth xs38 5) (.int .i64 5) fun v53 =>
 CNDC v53
 (FA 1 (nth xs38 2) fun v54 =>
 LD false 1 v54 H39 fun v55 =>
 BI .geq v55 (.int .i64 1) fun v56 =>
 CND v56
 (FA 1 (nth xs38 2) fun v57 =>
 LD false 1 v57 H39 fun v58 =>
 BI .leq v58 (.int .i64 5) fun v59 =>
 j7 [nth xs38 2, v59] H39 nx40)
 (j7 [nth xs38 2, .bool false] H39 nx40))
 (BI .eql (nth xs38 5) (.int .i64 15) fun v60 =>
 CNDC v60
 (FA 1 (nth xs38 2) fun v61 =>
 LDR false 1 v61 H39 fun v62 _ =>
 NC (nth xs38 1) fun v64 =>
 FA 2 v64 fun v65 =>
 LDR false 1 v65 H39 fun v66 _ =>
 LNL v66 fun v68 =>
 zt Tryz.prog (nth xs38 3) [v62, v68] H39 nx40 (zbm j7 xs38 H39 nx40))
 (BI .eql (nth xs38 5) (.int .i64 16) fun v73 =>
 CNDC v73
 (FA 1 (nth xs38 2) fun v74 =>
 LDR false 1 v74 H39 fun v75 _ =>
 NC (nth xs38 1) fun v77 =>
 FA 2 v77 fun v78 =>
 LDR false 1 v78 H39 fun v79 _ =>
 LNL v79 fun v81 =>
 zt Tryz.prog (nth xs38 3) [v75, v81] H39 nx40 (zbl j7 xs38 H39 nx40))
 (BI .eql (nth xs38 5) (.int .i64 17) fun v86 =>
 CNDC v86
 (FA 1 (nth xs38 2) fun v87 =>
 LDR false 1 v87 H39 fun v88 _ =>
 NC (nth xs38 0) fun v90 =>
 FA 0 v90 fun v91 =>
 LDR false 1 v91 H39 fun v92 _ =>
 LNL v92 fun v94 =>
 zt Tryz.prog (nth xs38 3) [v88, v94] H39 nx40 (zbk xs38 H39 j7 nx40))
 (j7 [nth xs38 2, nth xs38 4] H39 nx40)))))
def zbs (v3 : AV) (a0 : AV) (a1 : AV) (nx : Nat) (v2 : AV) (H : Heap) (a2 : AV) (j41 : J3) : Prop :=
 BI .eql v3 (.int .i64 3) fun v114 =>
 CNDC v114
 (j41 [a0, a1, .ptr nx 0, .clo 89 [], v2, v3, .bool true] (H.put nx (some (.row a2.cells.length a2.cells))) (nx + 1))
 (BI .eql v3 (.int .i64 4) fun v115 =>
 j41 [a0, a1, .ptr nx 0, .clo 89 [], v2, v3, v115] (H.put nx (some (.row a2.cells.length a2.cells))) (nx + 1))
def zbp (Q : QT) (xs4 : List AV) (H5 : Heap) (nx6 : Nat) : Prop :=
 FA 0 (nth xs4 0) fun v8 =>
 LD false 1 v8 H5 fun v9 =>
 BI .lss v9 (.int .i64 1) fun v10 =>
 CND v10
 (Q (.int .i64 1) H5 nx6)
 (FA 0 (nth xs4 0) fun v11 =>
 LD false 1 v11 H5 fun v12 =>
 BI .gtr v12 (.int .i64 19) fun v13 =>
 CNDC v13
 (Q (.int .i64 1) H5 nx6)
 (UO .not (nth xs4 1) fun v14 =>
 CND v14
 (Q (.int .i64 3) H5 nx6)
 (FA 0 (nth xs4 0) fun v15 =>
 LD false 1 v15 H5 fun v16 =>
 BI .neq v16 (.int .i64 17) fun v17 =>
 CND v17
 (FA 2 (nth xs4 0) fun v18 =>
 LD false 1 v18 H5 fun v19 =>
 BI .neq v19 (.int .i64 0) fun v20 =>
 CNDC v20
 (Q (.int .i64 3) H5 nx6)
 (Q (.int .i64 0) H5 nx6))
 (Q (.int .i64 0) H5 nx6))))
def zbr (v3 : AV) (nx : Nat) (H : Heap) (a2 : AV) (a0 : AV) (a1 : AV) (v2 : AV) (j7 : J3) : Prop :=
 BI .eql v3 (.int .i64 1) fun v21 =>
 CNDC v21
 (LD false 1 (.ptr nx 1) (H.put nx (some (.row a2.cells.length a2.cells))) fun v22 =>
 BI .geq v22 (.int .i64 (-1073741824)) fun v23 =>
 CND v23
 (LD false 1 (.ptr nx 1) (H.put nx (some (.row a2.cells.length a2.cells))) fun v24 =>
 BI .leq v24 (.int .i64 1073741824) fun v25 =>
 j7 [.ptr nx 0, v25] (H.put nx (some (.row a2.cells.length a2.cells))) (nx + 1))
 (j7 [.ptr nx 0, .bool false] (H.put nx (some (.row a2.cells.length a2.cells))) (nx + 1)))
 (BI .eql v3 (.int .i64 2) fun v26 =>
 CNDC v26
 (LDR false 1 (.ptr nx 1) (H.put nx (some (.row a2.cells.length a2.cells))) fun v27 _ =>
 NC a0 fun v29 =>
 FA 1 v29 fun v30 =>
 LDR false 1 v30 (H.put nx (some (.row a2.cells.length a2.cells))) fun v31 _ =>
 LNL v31 fun v33 =>
 zt Tryz.prog (.clo 89 []) [v27, v33] (H.put nx (some (.row a2.cells.length a2.cells))) (nx + 1) (zbo j7 nx H a2))
 (JN (zbq j7) (zbs v3 a0 a1 nx v2 H a2)))
def zlj (a0 a1 a2 : AV) (H : Heap) (nx : Nat) (Q : QT) : Prop :=
 a2.sure = true ∧
 LD false 1 (.ptr nx 1) (H.put nx (some (.row a2.cells.length a2.cells))) fun v1 =>
 BI .eql v1 (.int .i64 0) fun v2 =>
 LD false 1 (.ptr nx 0) (H.put nx (some (.row a2.cells.length a2.cells))) fun v3 =>
 JN (zbp Q) (zbr v3 nx H a2 a0 a1 v2)
theorem zrf (a0 a1 a2 : AV) (H : Heap) (nx : Nat) (Q : QT) : zlj a0 a1 a2 H nx Q → za Tryz.prog 77 [a0, a1, a2] H nx Q :=
  zd (lv := lvOf [(1, 0, [5, 8]), (3, 10, [0, 1, 5, 7, 8, 13, 35])]) (c := zl Tryz.f77) zp zq mixed Tryz.func77 (by kernel_rfl) (by kernel_rfl) (by kernel_rfl) (by kernel_rfl) (by kernel_rfl)
def zmk (a0 : AV) (H : Heap) (nx : Nat) (Q : QT) : Prop :=
 a0.sure = true ∧
 LD false 1 (.ptr nx 0) (H.put nx (some (.row a0.cells.length a0.cells))) fun v1 =>
 BI .eql v1 (.int .i64 1) fun v2 =>
 CNDC v2
 (Q (.tup [.int .i64 0, .int .i64 1]) (H.put nx (some (.row a0.cells.length a0.cells))) (nx + 1))
 (BI .eql v1 (.int .i64 2) fun v3 =>
 CNDC v3
 (Q (.tup [.int .i64 0, .int .i64 1]) (H.put nx (some (.row a0.cells.length a0.cells))) (nx + 1))
 (BI .eql v1 (.int .i64 3) fun v4 =>
 CNDC v4
 (Q (.tup [.int .i64 0, .int .i64 1]) (H.put nx (some (.row a0.cells.length a0.cells))) (nx + 1))
 (BI .eql v1 (.int .i64 12) fun v5 =>
 CNDC v5
 (Q (.tup [.int .i64 0, .int .i64 1]) (H.put nx (some (.row a0.cells.length a0.cells))) (nx + 1))
 (BI .eql v1 (.int .i64 4) fun v6 =>
 CNDC v6
 (Q (.tup [.int .i64 1, .int .i64 0]) (H.put nx (some (.row a0.cells.length a0.cells))) (nx + 1))
 (BI .eql v1 (.int .i64 14) fun v7 =>
 CNDC v7
 (Q (.tup [.int .i64 1, .int .i64 0]) (H.put nx (some (.row a0.cells.length a0.cells))) (nx + 1))
 (BI .eql v1 (.int .i64 16) fun v8 =>
 CNDC v8
 (Q (.tup [.int .i64 1, .int .i64 0]) (H.put nx (some (.row a0.cells.length a0.cells))) (nx + 1))
 (BI .eql v1 (.int .i64 19) fun v9 =>
 CNDC v9
 (Q (.tup [.int .i64 1, .int .i64 0]) (H.put nx (some (.row a0.cells.length a0.cells))) (nx + 1))
 (BI .eql v1 (.int .i64 18) fun v10 =>
 CNDC v10
 (Q (.tup [.int .i64 1, .int .i64 0]) (H.put nx (some (.row a0.cells.length a0.cells))) (nx + 1))
 (BI .eql v1 (.int .i64 5) fun v11 =>
 CNDC v11
 (Q (.tup [.int .i64 2, .int .i64 1]) (H.put nx (some (.row a0.cells.length a0.cells))) (nx + 1))
 (BI .eql v1 (.int .i64 6) fun v12 =>
 CNDC v12
 (Q (.tup [.int .i64 2, .int .i64 1]) (H.put nx (some (.row a0.cells.length a0.cells))) (nx + 1))
 (BI .eql v1 (.int .i64 7) fun v13 =>
 CNDC v13
 (Q (.tup [.int .i64 1, .int .i64 1]) (H.put nx (some (.row a0.cells.length a0.cells))) (nx + 1))
 (BI .eql v1 (.int .i64 8) fun v14 =>
 CNDC v14
 (Q (.tup [.int .i64 1, .int .i64 1]) (H.put nx (some (.row a0.cells.length a0.cells))) (nx + 1))
 (BI .eql v1 (.int .i64 11) fun v15 =>
 CNDC v15
 (Q (.tup [.int .i64 1, .int .i64 1]) (H.put nx (some (.row a0.cells.length a0.cells))) (nx + 1))
 (BI .eql v1 (.int .i64 13) fun v16 =>
 CNDC v16
 (Q (.tup [.int .i64 1, .int .i64 1]) (H.put nx (some (.row a0.cells.length a0.cells))) (nx + 1))
 (BI .eql v1 (.int .i64 9) fun v17 =>
 CNDC v17
 (Q (.tup [.int .i64 2, .int .i64 0]) (H.put nx (some (.row a0.cells.length a0.cells))) (nx + 1))
 (BI .eql v1 (.int .i64 10) fun v18 =>
 CNDC v18
 (Q (.tup [.int .i64 2, .int .i64 0]) (H.put nx (some (.row a0.cells.length a0.cells))) (nx + 1))
 (BI .eql v1 (.int .i64 17) fun v19 =>
 CNDC v19
 (LD false 1 (.ptr nx 2) (H.put nx (some (.row a0.cells.length a0.cells))) fun v20 =>
 Q (.tup [v20, .int .i64 1]) (H.put nx (some (.row a0.cells.length a0.cells))) (nx + 1))
 (Q (.tup [.int .i64 0, .int .i64 0]) (H.put nx (some (.row a0.cells.length a0.cells))) (nx + 1)))))))))))))))))))
theorem zso (a0 : AV) (H : Heap) (nx : Nat) (Q : QT) : zmk a0 H nx Q → za Tryz.prog 90 [a0] H nx Q :=
  zd (lv := lvOf []) (c := zl Tryz.f90) zp zq mixed Tryz.func90 (by kernel_rfl) (by kernel_rfl) (by kernel_rfl) (by kernel_rfl) (by kernel_rfl)
def zac (v25 : AV) (Q : QT) (nx16 : Nat) (v21 : AV) (v27 : AV) (K13 : J3) (xs14 : List AV) (v45 : AV) (H46 : Heap) (nx47 : Nat) : Prop :=
 EX v45 0 fun v48 =>
 EX v45 1 fun v49 =>
 BI .lss v25 v48 fun v50 =>
 CND v50
 (Q (.tup [.nils, .int .i64 10]) H46 nx47)
 (LD false 1 (.ptr nx16 0) H46 fun v51 =>
 BI .eql v51 (.int .i64 18) fun v52 =>
 CND v52
 (BI .neq v25 (.int .i64 1) fun v53 =>
 CNDC v53
 (Q (.tup [.nils, .int .i64 10]) H46 nx47)
 (BI .sub v49 v48 fun v54 =>
 BI .add v25 v54 fun v55 =>
 BI .gtr v55 (.int .i64 16) fun v56 =>
 CNDC v56
 (Q (.tup [.nils, .int .i64 4]) H46 nx47)
 (LD false 1 (.ptr nx16 0) H46 fun v57 =>
 BI .neq v57 (.int .i64 15) fun v58 =>
 CND v58
 (LD false 1 (.ptr nx16 0) H46 fun v59 =>
 BI .neq v59 (.int .i64 18) fun v60 =>
 CNDC v60
 (BI .add v21 (.int .i64 1) fun v61 =>
 BD (fun i => some (i * 1, 1)) [.int .i64 0, .int .i64 0] [(0, v61), (1, v55)] fun v62 =>
 BSL 1 2 [.int .i64 0, .int .i64 0] [(0, v62)] fun cells63 =>
 APP 2 16 v27 (.slc nx47 0 1) (H46.put nx47 (some (.row 2 cells63))) (nx47 + 1) fun v64 H65 nx66 =>
 LD false 1 (.ptr nx16 0) H65 fun v67 =>
 BI .eql v67 (.int .i64 15) fun v68 =>
 CND v68
 (LD false 1 (.ptr nx16 1) H65 fun v69 =>
 BD (fun i => some (i * 1, 1)) [.int .i64 0, .int .i64 0] [(0, v69), (1, v55)] fun v70 =>
 BSL 1 2 [.int .i64 0, .int .i64 0] [(0, v70)] fun cells71 =>
 APP 2 16 v64 (.slc nx66 0 1) (H65.put nx66 (some (.row 2 cells71))) (nx66 + 1) fun v72 H73 nx74 =>
 K13 [nth xs14 0, nth xs14 1, v72] H73 nx74)
 (LD false 1 (.ptr nx16 0) H65 fun v75 =>
 BI .eql v75 (.int .i64 16) fun v76 =>
 CNDC v76
 (LD false 1 (.ptr nx16 1) H65 fun v77 =>
 BD (fun i => some (i * 1, 1)) [.int .i64 0, .int .i64 0] [(0, v77), (1, v55)] fun v78 =>
 BSL 1 2 [.int .i64 0, .int .i64 0] [(0, v78)] fun cells79 =>
 APP 2 16 v64 (.slc nx66 0 1) (H65.put nx66 (some (.row 2 cells79))) (nx66 + 1) fun v80 H81 nx82 =>
 K13 [nth xs14 0, nth xs14 1, v80] H81 nx82)
 (K13 [nth xs14 0, nth xs14 1, v64] H65 nx66)))
 (LD false 1 (.ptr nx16 0) H46 fun v83 =>
 BI .eql v83 (.int .i64 15) fun v84 =>
 CND v84
 (LD false 1 (.ptr nx16 1) H46 fun v85 =>
 BD (fun i => some (i * 1, 1)) [.int .i64 0, .int .i64 0] [(0, v85), (1, v55)] fun v86 =>
 BSL 1 2 [.int .i64 0, .int .i64 0] [(0, v86)] fun cells87 =>
 APP 2 16 v27 (.slc nx47 0 1) (H46.put nx47 (some (.row 2 cells87))) (nx47 + 1) fun v88 H89 nx90 =>
 K13 [nth xs14 0, nth xs14 1, v88] H89 nx90)
 (LD false 1 (.ptr nx16 0) H46 fun v91 =>
 BI .eql v91 (.int .i64 16) fun v92 =>
 CNDC v92
 (LD false 1 (.ptr nx16 1) H46 fun v93 =>
 BD (fun i => some (i * 1, 1)) [.int .i64 0, .int .i64 0] [(0, v93), (1, v55)] fun v94 =>
 BSL 1 2 [.int .i64 0, .int .i64 0] [(0, v94)] fun cells95 =>
 APP 2 16 v27 (.slc nx47 0 1) (H46.put nx47 (some (.row 2 cells95))) (nx47 + 1) fun v96 H97 nx98 =>
 K13 [nth xs14 0, nth xs14 1, v96] H97 nx98)
 (K13 [nth xs14 0, nth xs14 1, v27] H46 nx47))))
 (LD false 1 (.ptr nx16 0) H46 fun v99 =>
 BI .eql v99 (.int .i64 15) fun v100 =>
 CND v100
 (LD false 1 (.ptr nx16 1) H46 fun v101 =>
 BD (fun i => some (i * 1, 1)) [.int .i64 0, .int .i64 0] [(0, v101), (1, v55)] fun v102 =>
 BSL 1 2 [.int .i64 0, .int .i64 0] [(0, v102)] fun cells103 =>
 APP 2 16 v27 (.slc nx47 0 1) (H46.put nx47 (some (.row 2 cells103))) (nx47 + 1) fun v104 H105 nx106 =>
 K13 [nth xs14 0, nth xs14 1, v104] H105 nx106)
 (LD false 1 (.ptr nx16 0) H46 fun v107 =>
 BI .eql v107 (.int .i64 16) fun v108 =>
 CNDC v108
 (LD false 1 (.ptr nx16 1) H46 fun v109 =>
 BD (fun i => some (i * 1, 1)) [.int .i64 0, .int .i64 0] [(0, v109), (1, v55)] fun v110 =>
 BSL 1 2 [.int .i64 0, .int .i64 0] [(0, v110)] fun cells111 =>
 APP 2 16 v27 (.slc nx47 0 1) (H46.put nx47 (some (.row 2 cells111))) (nx47 + 1) fun v112 H113 nx114 =>
 K13 [nth xs14 0, nth xs14 1, v112] H113 nx114)
 (K13 [nth xs14 0, nth xs14 1, v27] H46 nx47))))))
 (BI .sub v49 v48 fun v115 =>
 BI .add v25 v115 fun v116 =>
 BI .gtr v116 (.int .i64 16) fun v117 =>
 CNDC v117
 (Q (.tup [.nils, .int .i64 4]) H46 nx47)
 (LD false 1 (.ptr nx16 0) H46 fun v118 =>
 BI .neq v118 (.int .i64 15) fun v119 =>
 CND v119
 (LD false 1 (.ptr nx16 0) H46 fun v120 =>
 BI .neq v120 (.int .i64 18) fun v121 =>
 CNDC v121
 (BI .add v21 (.int .i64 1) fun v122 =>
 BD (fun i => some (i * 1, 1)) [.int .i64 0, .int .i64 0] [(0, v122), (1, v116)] fun v123 =>
 BSL 1 2 [.int .i64 0, .int .i64 0] [(0, v123)] fun cells124 =>
 APP 2 16 v27 (.slc nx47 0 1) (H46.put nx47 (some (.row 2 cells124))) (nx47 + 1) fun v125 H126 nx127 =>
 LD false 1 (.ptr nx16 0) H126 fun v128 =>
 BI .eql v128 (.int .i64 15) fun v129 =>
 CND v129
 (LD false 1 (.ptr nx16 1) H126 fun v130 =>
 BD (fun i => some (i * 1, 1)) [.int .i64 0, .int .i64 0] [(0, v130), (1, v116)] fun v131 =>
 BSL 1 2 [.int .i64 0, .int .i64 0] [(0, v131)] fun cells132 =>
 APP 2 16 v125 (.slc nx127 0 1) (H126.put nx127 (some (.row 2 cells132))) (nx127 + 1) fun v133 H134 nx135 =>
 K13 [nth xs14 0, nth xs14 1, v133] H134 nx135)
 (LD false 1 (.ptr nx16 0) H126 fun v136 =>
 BI .eql v136 (.int .i64 16) fun v137 =>
 CNDC v137
 (LD false 1 (.ptr nx16 1) H126 fun v138 =>
 BD (fun i => some (i * 1, 1)) [.int .i64 0, .int .i64 0] [(0, v138), (1, v116)] fun v139 =>
 BSL 1 2 [.int .i64 0, .int .i64 0] [(0, v139)] fun cells140 =>
 APP 2 16 v125 (.slc nx127 0 1) (H126.put nx127 (some (.row 2 cells140))) (nx127 + 1) fun v141 H142 nx143 =>
 K13 [nth xs14 0, nth xs14 1, v141] H142 nx143)
 (K13 [nth xs14 0, nth xs14 1, v125] H126 nx127)))
 (LD false 1 (.ptr nx16 0) H46 fun v144 =>
 BI .eql v144 (.int .i64 15) fun v145 =>
 CND v145
 (LD false 1 (.ptr nx16 1) H46 fun v146 =>
 BD (fun i => some (i * 1, 1)) [.int .i64 0, .int .i64 0] [(0, v146), (1, v116)] fun v147 =>
 BSL 1 2 [.int .i64 0, .int .i64 0] [(0, v147)] fun cells148 =>
 APP 2 16 v27 (.slc nx47 0 1) (H46.put nx47 (some (.row 2 cells148))) (nx47 + 1) fun v149 H150 nx151 =>
 K13 [nth xs14 0, nth xs14 1, v149] H150 nx151)
 (LD false 1 (.ptr nx16 0) H46 fun v152 =>
 BI .eql v152 (.int .i64 16) fun v153 =>
 CNDC v153
 (LD false 1 (.ptr nx16 1) H46 fun v154 =>
 BD (fun i => some (i * 1, 1)) [.int .i64 0, .int .i64 0] [(0, v154), (1, v116)] fun v155 =>
 BSL 1 2 [.int .i64 0, .int .i64 0] [(0, v155)] fun cells156 =>
 APP 2 16 v27 (.slc nx47 0 1) (H46.put nx47 (some (.row 2 cells156))) (nx47 + 1) fun v157 H158 nx159 =>
 K13 [nth xs14 0, nth xs14 1, v157] H158 nx159)
 (K13 [nth xs14 0, nth xs14 1, v27] H46 nx47))))
 (LD false 1 (.ptr nx16 0) H46 fun v160 =>
 BI .eql v160 (.int .i64 15) fun v161 =>
 CND v161
 (LD false 1 (.ptr nx16 1) H46 fun v162 =>
 BD (fun i => some (i * 1, 1)) [.int .i64 0, .int .i64 0] [(0, v162), (1, v116)] fun v163 =>
 BSL 1 2 [.int .i64 0, .int .i64 0] [(0, v163)] fun cells164 =>
 APP 2 16 v27 (.slc nx47 0 1) (H46.put nx47 (some (.row 2 cells164))) (nx47 + 1) fun v165 H166 nx167 =>
 K13 [nth xs14 0, nth xs14 1, v165] H166 nx167)
 (LD false 1 (.ptr nx16 0) H46 fun v168 =>
 BI .eql v168 (.int .i64 16) fun v169 =>
 CNDC v169
 (LD false 1 (.ptr nx16 1) H46 fun v170 =>
 BD (fun i => some (i * 1, 1)) [.int .i64 0, .int .i64 0] [(0, v170), (1, v116)] fun v171 =>
 BSL 1 2 [.int .i64 0, .int .i64 0] [(0, v171)] fun cells172 =>
 APP 2 16 v27 (.slc nx47 0 1) (H46.put nx47 (some (.row 2 cells172))) (nx47 + 1) fun v173 H174 nx175 =>
 K13 [nth xs14 0, nth xs14 1, v173] H174 nx175)
 (K13 [nth xs14 0, nth xs14 1, v27] H46 nx47))))))
def zau (Q : QT) (K13 : J3) (xs14 : List AV) (H15 : Heap) (nx16 : Nat) : Prop :=
 LNL (nth xs14 2) fun v17 =>
 BI .gtr v17 (.int .i64 0) fun v18 =>
 CNDC v18
 (IA 2 (nth xs14 2) (.int .i64 0) fun v19 =>
 AA 1 2 v19 (.int .i64 0) fun v20 =>
 LDR false 1 v20 H15 fun v21 _ =>
 IA 2 (nth xs14 2) (.int .i64 0) fun v23 =>
 AA 1 2 v23 (.int .i64 1) fun v24 =>
 LDR false 1 v24 H15 fun v25 _ =>
 SL 2 (nth xs14 2) (some (.int .i64 1)) none H15 fun v27 =>
 BI .lss v21 (.int .i64 0) fun v28 =>
 CND v28
 (Q (.tup [.nils, .int .i64 8]) H15 nx16)
 (LNL (nth xs14 1) fun v29 =>
 BI .geq v21 v29 fun v30 =>
 CNDC v30
 (Q (.tup [.nils, .int .i64 8]) H15 nx16)
 (IA 1 (nth xs14 1) v21 fun v31 =>
 LD false 1 v31 H15 fun v32 =>
 BI .geq v32 (.int .i64 0) fun v33 =>
 CNDC v33
 (IA 1 (nth xs14 1) v21 fun v34 =>
 LD false 1 v34 H15 fun v35 =>
 BI .neq v35 v25 fun v36 =>
 CNDC v36
 (Q (.tup [.nils, .int .i64 10]) H15 nx16)
 (K13 [nth xs14 0, nth xs14 1, v27] H15 nx16))
 (IA 1 (nth xs14 1) v21 fun v37 =>
 ST 1 v37 v25 H15 fun H38 =>
 FA 2 (nth xs14 0) fun v39 =>
 LD false 1 v39 H38 fun v40 =>
 IA 3 v40 v21 fun v41 =>
 LD true 3 v41 H38 fun v42 =>
 ST 3 (.ptr nx16 0) v42 (H38.put nx16 (some (.row 3 [.int .i64 0, .int .i64 0, .int .i64 0]))) fun H43 =>
 LD true 3 (.ptr nx16 0) H43 fun v44 =>
 za Tryz.prog 90 [v44] H43 (nx16 + 1) (zac v25 Q nx16 v21 v27 K13 xs14)))))
 (Q (.tup [nth xs14 1, .int .i64 0]) H15 nx16)
def zlp (Q : QT) (K5 : J3) (xs6 : List AV) (H7 : Heap) (nx8 : Nat) : Prop :=
 BI .lss (nth xs6 3) (nth xs6 2) fun v9 =>
 CNDC v9
 (IA 1 (nth xs6 1) (nth xs6 3) fun v10 =>
 ST 1 v10 (.int .i64 (-1)) H7 fun H11 =>
 BI .add (nth xs6 3) (.int .i64 1) fun v12 =>
 K5 [nth xs6 0, nth xs6 1, nth xs6 2, v12] H11 nx8)
 (LP (zau Q) [nth xs6 0, nth xs6 1, .slc nx8 0 1] (H7.put nx8 (some (.row 2 [.int .i64 0, .int .i64 0]))) (nx8 + 1))
def zlo (a0 : AV) (H : Heap) (nx : Nat) (Q : QT) : Prop :=
 a0.sure = true ∧
 LD false 1 (.ptr nx 2) (H.put nx (some (.row a0.cells.length a0.cells))) fun v1 =>
 LNL v1 fun v2 =>
 MK 8 v2 v2 fun n3 =>
 LNL (.slc (nx + 1) 0 n3) fun v4 =>
 LP (zlp Q) [.ptr nx 0, .slc (nx + 1) 0 n3, v4, .int .i64 0] ((H.put nx (some (.row a0.cells.length a0.cells))).put ((nx + 1)) (some (.row 1 (List.replicate n3 [.int .i64 0]).flatten))) (nx + 2)
theorem zrh (a0 : AV) (H : Heap) (nx : Nat) (Q : QT) : zlo a0 H nx Q → za Tryz.prog 78 [a0] H nx Q :=
  zd (lv := lvOf [(2, 3, [1, 4, 17, 18]), (2, 8, [1, 4, 6])]) (c := zl Tryz.f78) zp zq mixed Tryz.func78 (by kernel_rfl) (by kernel_rfl) (by kernel_rfl) (by kernel_rfl) (by kernel_rfl)
def zln (Q : QT) (xs13 : List AV) (K12 : J3) (v19 : AV) (H20 : Heap) (nx21 : Nat) : Prop :=
 UO .not v19 fun v22 =>
 CNDC v22
 (Q (.int .i64 7) H20 nx21)
 (BI .add (nth xs13 3) (.int .i64 1) fun v23 =>
 K12 [nth xs13 0, nth xs13 1, nth xs13 2, v23] H20 nx21)
def zlm (Q : QT) (H99 : Heap) (nx95 : Nat) (xs93 : List AV) (K92 : J3) (v106 : AV) (_ : List Nat) (fr108 : List Nat) (D109 : zg) : Prop :=
 BI .neq v106 (.int .i64 0) fun v110 =>
 CNDC v110
 (Q v106 (H99.apply D109) ((nx95 + 1) + fr108.length))
 (BI .add (nth xs93 6) (.int .i64 1) fun v111 =>
 K92 [nth xs93 0, nth xs93 1, nth xs93 2, nth xs93 3, nth xs93 4, nth xs93 5, v111] (H99.apply D109) ((nx95 + 1) + fr108.length))
def zll (Q : QT) (xs93 : List AV) (K81 : J3) (v116 : AV) (H117 : Heap) (nx118 : Nat) : Prop :=
 EX v116 0 fun _ =>
 EX v116 1 fun v120 =>
 BI .neq v120 (.int .i64 0) fun v121 =>
 CNDC v121
 (Q v120 H117 nx118)
 (BI .add (nth xs93 3) (.int .i64 1) fun v122 =>
 K81 [nth xs93 0, nth xs93 2, v122] H117 nx118)
def zgs (Q : QT) (K81 : J3) (K92 : J3) (xs93 : List AV) (H94 : Heap) (nx95 : Nat) : Prop :=
 BI .lss (nth xs93 6) (nth xs93 5) fun v96 =>
 CNDC v96
 (IA 3 (nth xs93 4) (nth xs93 6) fun v97 =>
 LD true 3 v97 H94 fun v98 =>
 ST 3 (.ptr nx95 0) v98 (H94.put nx95 (some (.row 3 [.int .i64 0, .int .i64 0, .int .i64 0]))) fun H99 =>
 FA 0 (nth xs93 0) fun v100 =>
 LDR false 1 v100 H99 fun v101 _ =>
 IA 3 v101 (nth xs93 1) fun v103 =>
 LDR true 3 (.ptr nx95 0) H99 fun v104 _ =>
 zt Tryz.prog (.clo 77 []) [nth xs93 0, v103, v104] H99 (nx95 + 1) (zlm Q H99 nx95 xs93 K92))
 (FA 0 (nth xs93 0) fun v112 =>
 LD false 1 v112 H94 fun v113 =>
 IA 3 v113 (nth xs93 1) fun v114 =>
 LD true 3 v114 H94 fun v115 =>
 za Tryz.prog 78 [v115] H94 nx95 (zll Q xs93 K81))
def zgr (Q : QT) (K81 : J3) (xs82 : List AV) (H83 : Heap) (nx84 : Nat) : Prop :=
 BI .lss (nth xs82 2) (nth xs82 1) fun v85 =>
 CNDC v85
 (FA 0 (nth xs82 0) fun v86 =>
 LD false 1 v86 H83 fun v87 =>
 IA 3 v87 (nth xs82 2) fun v88 =>
 FA 2 v88 fun v89 =>
 LD false 1 v89 H83 fun v90 =>
 LNL v90 fun v91 =>
 LP (zgs Q K81) [nth xs82 0, nth xs82 2, nth xs82 1, nth xs82 2, v90, v91, .int .i64 0] H83 nx84)
 (Q (.int .i64 0) H83 nx84)
def zgq (Q : QT) (K33 : J3) (xs34 : List AV) (H35 : Heap) (nx36 : Nat) : Prop :=
 BI .lss (nth xs34 2) (nth xs34 1) fun v37 =>
 CNDC v37
 (FA 0 (nth xs34 0) fun v38 =>
 LD false 1 v38 H35 fun v39 =>
 IA 3 v39 (nth xs34 2) fun v40 =>
 NC v40 fun v41 =>
 FA 0 v41 fun v42 =>
 LDR false 1 v42 H35 fun v43 _ =>
 BI .lss v43 (.int .i64 0) fun v45 =>
 CND v45
 (Q (.int .i64 3) H35 nx36)
 (NC v40 fun v46 =>
 FA 0 v46 fun v47 =>
 LDR false 1 v47 H35 fun v48 _ =>
 BI .gtr v48 (.int .i64 4) fun v50 =>
 CND v50
 (Q (.int .i64 3) H35 nx36)
 (NC v40 fun v51 =>
 FA 1 v51 fun v52 =>
 LDR false 1 v52 H35 fun v53 _ =>
 NC v40 fun v55 =>
 FA 0 v55 fun v56 =>
 LDR false 1 v56 H35 fun v57 _ =>
 BI .lss v53 v57 fun v59 =>
 CND v59
 (Q (.int .i64 3) H35 nx36)
 (NC v40 fun v60 =>
 FA 1 v60 fun v61 =>
 LDR false 1 v61 H35 fun v62 _ =>
 BI .gtr v62 (.int .i64 8) fun v64 =>
 CND v64
 (Q (.int .i64 3) H35 nx36)
 (NC v40 fun v65 =>
 FA 2 v65 fun v66 =>
 LDR false 1 v66 H35 fun v67 _ =>
 LNL v67 fun v69 =>
 BI .lss v69 (.int .i64 1) fun v70 =>
 CND v70
 (Q (.int .i64 3) H35 nx36)
 (NC v40 fun v71 =>
 FA 2 v71 fun v72 =>
 LDR false 1 v72 H35 fun v73 _ =>
 LNL v73 fun v75 =>
 BI .gtr v75 (.int .i64 200) fun v76 =>
 CNDC v76
 (Q (.int .i64 3) H35 nx36)
 (BI .add (nth xs34 2) (.int .i64 1) fun v77 =>
 K33 [nth xs34 0, nth xs34 1, v77] H35 nx36)))))))
 (FA 0 (nth xs34 0) fun v78 =>
 LD false 1 v78 H35 fun v79 =>
 LNL v79 fun v80 =>
 LP (zgr Q) [nth xs34 0, v80, .int .i64 0] H35 nx36)
def zgp (Q : QT) (K12 : J3) (xs13 : List AV) (H14 : Heap) (nx15 : Nat) : Prop :=
 BI .lss (nth xs13 3) (nth xs13 2) fun v16 =>
 CNDC v16
 (IA 1 (nth xs13 1) (nth xs13 3) fun v17 =>
 LD false 1 v17 H14 fun v18 =>
 za Tryz.prog 76 [v18] H14 nx15 (zln Q xs13 K12))
 (FA 0 (nth xs13 0) fun v24 =>
 LD false 1 v24 H14 fun v25 =>
 IA 3 v25 (.int .i64 0) fun v26 =>
 FA 0 v26 fun v27 =>
 LD false 1 v27 H14 fun v28 =>
 BI .neq v28 (.int .i64 0) fun v29 =>
 CNDC v29
 (Q (.int .i64 10) H14 nx15)
 (FA 0 (nth xs13 0) fun v30 =>
 LD false 1 v30 H14 fun v31 =>
 LNL v31 fun v32 =>
 LP (zgq Q) [nth xs13 0, v32, .int .i64 0] H14 nx15))
def zlk (a0 : AV) (H : Heap) (nx : Nat) (Q : QT) : Prop :=
 a0.sure = true ∧
 LD false 1 (.ptr nx 0) (H.put nx (some (.row a0.cells.length a0.cells))) fun v1 =>
 LNL v1 fun v2 =>
 BI .lss v2 (.int .i64 1) fun v3 =>
 CND v3
 (Q (.int .i64 5) (H.put nx (some (.row a0.cells.length a0.cells))) (nx + 1))
 (LD false 1 (.ptr nx 0) (H.put nx (some (.row a0.cells.length a0.cells))) fun v4 =>
 LNL v4 fun v5 =>
 BI .gtr v5 (.int .i64 5) fun v6 =>
 CNDC v6
 (Q (.int .i64 5) (H.put nx (some (.row a0.cells.length a0.cells))) (nx + 1))
 (LD false 1 (.ptr nx 1) (H.put nx (some (.row a0.cells.length a0.cells))) fun v7 =>
 LNL v7 fun v8 =>
 BI .gtr v8 (.int .i64 16) fun v9 =>
 CNDC v9
 (Q (.int .i64 4) (H.put nx (some (.row a0.cells.length a0.cells))) (nx + 1))
 (LD false 1 (.ptr nx 1) (H.put nx (some (.row a0.cells.length a0.cells))) fun v10 =>
 LNL v10 fun v11 =>
 LP (zgp Q) [.ptr nx 0, v10, v11, .int .i64 0] (H.put nx (some (.row a0.cells.length a0.cells))) (nx + 1))))
theorem zrg (a0 : AV) (H : Heap) (nx : Nat) (Q : QT) : zlk a0 H nx Q → za Tryz.prog 50 [a0] H nx Q :=
  zd (lv := lvOf [(2, 6, [1, 28, 29, 30]), (2, 14, [1, 46, 47]), (2, 21, [1, 103, 104]), (2, 24, [1, 7, 103, 104, 112, 113, 114])]) (c := zl Tryz.f50) zp zq mixed Tryz.func50 (by kernel_rfl) (by kernel_rfl) (by kernel_rfl) (by kernel_rfl) (by kernel_rfl)
def znw (Q : QT) (H107 : Heap) (nx103 : Nat) (xs101 : List AV) (K100 : J3) (v115 : AV) (_ : List Nat) (fr117 : List Nat) (D118 : zg) : Prop :=
 BI .neq v115 (.int .i64 0) fun v119 =>
 CNDC v119
 (Q v115 (H107.apply D118) ((nx103 + 1) + fr117.length))
 (BI .add (nth xs101 6) (.int .i64 1) fun v120 =>
 K100 [nth xs101 0, nth xs101 1, nth xs101 2, nth xs101 3, nth xs101 4, nth xs101 5, v120] (H107.apply D118) ((nx103 + 1) + fr117.length))
def ziq (Q : QT) (K92 : J3) (K100 : J3) (xs101 : List AV) (H102 : Heap) (nx103 : Nat) : Prop :=
 BI .lss (nth xs101 6) (nth xs101 5) fun v104 =>
 CNDC v104
 (IA 3 (nth xs101 4) (nth xs101 6) fun v105 =>
 LD true 3 v105 H102 fun v106 =>
 ST 3 (.ptr nx103 0) v106 (H102.put nx103 (some (.row 3 [.int .i64 0, .int .i64 0, .str []]))) fun H107 =>
 LDR true 3 (.ptr nx103 0) H107 fun v108 _ =>
 NC (nth xs101 0) fun v110 =>
 FA 5 v110 fun v111 =>
 LDR false 1 v111 H107 fun v112 _ =>
 LNL v112 fun v114 =>
 zt Tryz.prog (.clo 52 []) [v108, v114] H107 (nx103 + 1) (znw Q H107 nx103 xs101 K100))
 (BI .add (nth xs101 3) (.int .i64 1) fun v121 =>
 K92 [nth xs101 0, nth xs101 1, nth xs101 2, v121] H102 nx103)
def zip (Q : QT) (K92 : J3) (xs93 : List AV) (H94 : Heap) (nx95 : Nat) : Prop :=
 BI .lss (nth xs93 3) (nth xs93 2) fun v96 =>
 CNDC v96
 (IA 1 (nth xs93 1) (nth xs93 3) fun v97 =>
 LD false 1 v97 H94 fun v98 =>
 LNL v98 fun v99 =>
 LP (ziq Q K92) [nth xs93 0, nth xs93 1, nth xs93 2, nth xs93 3, v98, v99, .int .i64 0] H94 nx95)
 (Q (.int .i64 0) H94 nx95)
def zir (Q : QT) (j75 : J3) (xs127 : List AV) (H128 : Heap) (nx129 : Nat) : Prop :=
 NC (nth xs127 0) fun v131 =>
 FA 4 v131 fun v132 =>
 LDR false 1 v132 H128 fun v133 _ =>
 LNL v133 fun v135 =>
 BI .sub v135 (.int .i64 1) fun v136 =>
 BI .lss (nth xs127 1) v136 fun v137 =>
 CND v137
 (FA 0 (nth xs127 5) fun v138 =>
 LDR false 1 v138 H128 fun v139 _ =>
 BI .neq v139 (.int .i64 17) fun v141 =>
 CND v141
 (Q (.int .i64 10) H128 nx129)
 (FA 1 (nth xs127 5) fun v142 =>
 LDR false 1 v142 H128 fun v143 _ =>
 NC (nth xs127 0) fun v145 =>
 FA 4 v145 fun v146 =>
 LDR false 1 v146 H128 fun v147 _ =>
 BI .add (nth xs127 1) (.int .i64 1) fun v149 =>
 IA 4 v147 v149 fun v150 =>
 FA 0 v150 fun v151 =>
 LDR false 1 v151 H128 fun v152 _ =>
 BI .neq v143 v152 fun v154 =>
 CND v154
 (Q (.int .i64 10) H128 nx129)
 (NC (nth xs127 0) fun v155 =>
 FA 4 v155 fun v156 =>
 LDR false 1 v156 H128 fun v157 _ =>
 LNL v157 fun v159 =>
 BI .sub v159 (.int .i64 1) fun v160 =>
 BI .eql (nth xs127 1) v160 fun v161 =>
 CND v161
 (FA 0 (nth xs127 5) fun v162 =>
 LDR false 1 v162 H128 fun v163 _ =>
 BI .neq v163 (.int .i64 13) fun v165 =>
 CND v165
 (Q (.int .i64 10) H128 nx129)
 (NC (nth xs127 2) fun v166 =>
 FA 1 v166 fun v167 =>
 LDR false 1 v167 H128 fun v168 _ =>
 BI .sub v168 (.int .i64 1) fun v170 =>
 IA 1 (nth xs127 3) v170 fun v171 =>
 LDR false 1 v171 H128 fun v172 _ =>
 BI .lss v172 (.int .i64 0) fun v174 =>
 CNDC v174
 (Q (.int .i64 10) H128 nx129)
 (j75 [nth xs127 0, nth xs127 2, nth xs127 4] H128 nx129)))
 (NC (nth xs127 2) fun v175 =>
 FA 1 v175 fun v176 =>
 LDR false 1 v176 H128 fun v177 _ =>
 BI .sub v177 (.int .i64 1) fun v179 =>
 IA 1 (nth xs127 3) v179 fun v180 =>
 LDR false 1 v180 H128 fun v181 _ =>
 BI .lss v181 (.int .i64 0) fun v183 =>
 CNDC v183
 (Q (.int .i64 10) H128 nx129)
 (j75 [nth xs127 0, nth xs127 2, nth xs127 4] H128 nx129)))))
 (NC (nth xs127 0) fun v184 =>
 FA 4 v184 fun v185 =>
 LDR false 1 v185 H128 fun v186 _ =>
 LNL v186 fun v188 =>
 BI .sub v188 (.int .i64 1) fun v189 =>
 BI .eql (nth xs127 1) v189 fun v190 =>
 CND v190
 (FA 0 (nth xs127 5) fun v191 =>
 LDR false 1 v191 H128 fun v192 _ =>
 BI .neq v192 (.int .i64 13) fun v194 =>
 CND v194
 (Q (.int .i64 10) H128 nx129)
 (NC (nth xs127 2) fun v195 =>
 FA 1 v195 fun v196 =>
 LDR false 1 v196 H128 fun v197 _ =>
 BI .sub v197 (.int .i64 1) fun v199 =>
 IA 1 (nth xs127 3) v199 fun v200 =>
 LDR false 1 v200 H128 fun v201 _ =>
 BI .lss v201 (.int .i64 0) fun v203 =>
 CNDC v203
 (Q (.int .i64 10) H128 nx129)
 (j75 [nth xs127 0, nth xs127 2, nth xs127 4] H128 nx129)))
 (NC (nth xs127 2) fun v204 =>
 FA 1 v204 fun v205 =>
 LDR false 1 v205 H128 fun v206 _ =>
 BI .sub v206 (.int .i64 1) fun v208 =>
 IA 1 (nth xs127 3) v208 fun v209 =>
 LDR false 1 v209 H128 fun v210 _ =>
 BI .lss v210 (.int .i64 0) fun v212 =>
 CNDC v212
 (Q (.int .i64 10) H128 nx129)
 (j75 [nth xs127 0, nth xs127 2, nth xs127 4] H128 nx129)))
def znz (xs68 : List AV) (H69 : Heap) (nx70 : Nat) (v122 : AV) (j130 : J3) : Prop :=
 NC (nth xs68 3) fun v213 =>
 FA 2 v213 fun v214 =>
 LDR false 1 v214 H69 fun v215 rd216 =>
 NC (nth xs68 2) fun v217 =>
 FA 1 v217 fun v218 =>
 LDR false 1 v218 H69 fun v219 rd220 =>
 BI .sub v219 (.int .i64 1) fun v221 =>
 IA 3 v215 v221 fun v222 =>
 LDR true 3 v222 H69 fun v223 rd224 =>
 zbd 3 (.ptr nx70 0) v223 (H69.put nx70 (some (.row 3 [.int .i64 0, .int .i64 0, .int .i64 0]))) fun _ _ fr227 D228 =>
 nx70 ∉ [] ∧
 nx70 ∉ [] ∧
 nx70 ∉ [] ∧
 nx70 ∉ rd216 ∧
 nx70 ∉ [] ∧
 nx70 ∉ [] ∧
 nx70 ∉ [] ∧
 nx70 ∉ rd220 ∧
 nx70 ∉ [] ∧
 nx70 ∉ [] ∧
 nx70 ∉ rd224 ∧
 j130 [nth xs68 0, nth xs68 1, nth xs68 2, nth xs68 4, v122, .ptr nx70 0] ((H69.put nx70 (some (.row 3 [.int .i64 0, .int .i64 0, .int .i64 0]))).apply D228) ((nx70 + 1) + fr227.length)
def zcl (Q : QT) (xs72 : List AV) (H73 : Heap) (nx74 : Nat) : Prop :=
 BI .lss (nth xs72 2) (.int .i64 0) fun v76 =>
 CND v76
 (Q (.int .i64 10) H73 nx74)
 (NC (nth xs72 1) fun v77 =>
 FA 3 v77 fun v78 =>
 LD false 1 v78 H73 fun v79 =>
 LNL v79 fun v80 =>
 BI .neq v80 (nth xs72 2) fun v81 =>
 CNDC v81
 (Q (.int .i64 10) H73 nx74)
 (NC (nth xs72 1) fun v82 =>
 FA 2 v82 fun v83 =>
 LDR false 1 v83 H73 fun v84 _ =>
 NC (nth xs72 1) fun v86 =>
 FA 3 v86 fun v87 =>
 LDR false 1 v87 H73 fun v88 _ =>
 BSL 2 1 [.nils] [(0, v84), (1, v88)] fun cells90 =>
 LNL (.slc nx74 0 2) fun v91 =>
 nx74 ∉ [] ∧
 nx74 ∉ [] ∧
 LP (zip Q) [nth xs72 0, .slc nx74 0 2, v91, .int .i64 0] (H73.put nx74 (some (.row 1 cells90))) (nx74 + 1)))
def zel (xs68 : List AV) (H69 : Heap) (Q : QT) (nx70 : Nat) (j75 : J3) : Prop :=
 CNDC (nth xs68 6)
 (BI .sub (nth xs68 5) (.int .i64 1) fun v122 =>
 NC (nth xs68 2) fun v123 =>
 FA 1 v123 fun v124 =>
 LD false 1 v124 H69 fun v125 =>
 BI .eql v125 (.int .i64 0) fun v126 =>
 CNDC v126
 (Q (.int .i64 10) H69 nx70)
 (JN (zir Q j75) (znz xs68 H69 nx70 v122)))
 (j75 [nth xs68 0, nth xs68 2, nth xs68 5] H69 nx70)
def znx (Q : QT) (xs68 : List AV) (H69 : Heap) (nx70 : Nat) : Prop :=
 JN (zcl Q) (zel xs68 H69 Q nx70)
def zny (a0 : AV) (H59 : Heap) (a1 : AV) (v4 : AV) (v30 : AV) (v61 : AV) (v67 : AV) (nx60 : Nat) (a2 : AV) (j71 : J3) : Prop :=
 NC a0 fun v229 =>
 FA 4 v229 fun v230 =>
 LD false 1 v230 H59 fun v231 =>
 LNL v231 fun v232 =>
 BI .sub v232 (.int .i64 1) fun v233 =>
 BI .lss a1 v233 fun v234 =>
 CND v234
 (j71 [a0, a1, v4, v30, v61, v67, .bool true] H59 nx60)
 (j71 [a0, a1, v4, v30, v61, v67, a2] H59 nx60)
def znv (v4 : AV) (Q : QT) (a0 : AV) (a1 : AV) (v30 : AV) (a2 : AV) (v58 : AV) (H59 : Heap) (nx60 : Nat) : Prop :=
 EX v58 0 fun v61 =>
 EX v58 1 fun _ =>
 NC v4 fun v63 =>
 FA 1 v63 fun v64 =>
 LD false 1 v64 H59 fun v65 =>
 IA 1 v61 v65 fun v66 =>
 LD false 1 v66 H59 fun v67 =>
 JN (znx Q) (zny a0 H59 a1 v4 v30 v61 v67 nx60 a2)
def zbh (a0 a1 a2 : AV) (H : Heap) (nx : Nat) (Q : QT) : Prop :=
 NC a0 fun v1 =>
 FA 4 v1 fun v2 =>
 LD false 1 v2 H fun v3 =>
 IA 4 v3 a1 fun v4 =>
 NC v4 fun v5 =>
 FA 0 v5 fun v6 =>
 LDR false 1 v6 H fun v7 _ =>
 BI .lss v7 (.int .i64 0) fun v9 =>
 CND v9
 (Q (.int .i64 3) H nx)
 (NC v4 fun v10 =>
 FA 0 v10 fun v11 =>
 LDR false 1 v11 H fun v12 _ =>
 NC a0 fun v14 =>
 FA 2 v14 fun v15 =>
 FA 0 v15 fun v16 =>
 LDR false 1 v16 H fun v17 _ =>
 LNL v17 fun v19 =>
 BI .geq v12 v19 fun v20 =>
 CNDC v20
 (Q (.int .i64 3) H nx)
 (NC a0 fun v21 =>
 FA 2 v21 fun v22 =>
 FA 0 v22 fun v23 =>
 LDR false 1 v23 H fun v24 _ =>
 NC v4 fun v26 =>
 FA 0 v26 fun v27 =>
 LDR false 1 v27 H fun v28 _ =>
 IA 3 v24 v28 fun v30 =>
 NC v4 fun v31 =>
 FA 1 v31 fun v32 =>
 LDR false 1 v32 H fun v33 _ =>
 BI .lss v33 (.int .i64 0) fun v35 =>
 CND v35
 (Q (.int .i64 3) H nx)
 (NC v4 fun v36 =>
 FA 1 v36 fun v37 =>
 LDR false 1 v37 H fun v38 _ =>
 NC v30 fun v40 =>
 FA 2 v40 fun v41 =>
 LDR false 1 v41 H fun v42 _ =>
 LNL v42 fun v44 =>
 BI .geq v38 v44 fun v45 =>
 CND v45
 (Q (.int .i64 3) H nx)
 (NC v4 fun v46 =>
 FA 2 v46 fun v47 =>
 LDR false 1 v47 H fun v48 _ =>
 LNL v48 fun v50 =>
 NC v30 fun v51 =>
 FA 1 v51 fun v52 =>
 LDR false 1 v52 H fun v53 _ =>
 BI .neq v50 v53 fun v55 =>
 CNDC v55
 (Q (.int .i64 3) H nx)
 (NC v30 fun v56 =>
 LD true 3 v56 H fun v57 =>
 za Tryz.prog 78 [v57] H nx (znv v4 Q a0 a1 v30 a2))))))
theorem ztd (a0 a1 a2 : AV) (H : Heap) (nx : Nat) (Q : QT) : zbh a0 a1 a2 H nx Q → za Tryz.prog 51 [a0, a1, a2] H nx Q :=
  zd (lv := lvOf [(0, 9, [0, 1, 7, 8, 9, 11, 12]), (0, 14, [0, 1, 7, 9, 11, 13]), (2, 20, [0, 198, 199, 200]), (2, 23, [0, 198, 199, 200, 204, 205, 206]), (3, 17, [0, 7, 11])]) (c := zl Tryz.f51) zp zq mixed Tryz.func51 (by kernel_rfl) (by kernel_rfl) (by kernel_rfl) (by kernel_rfl) (by kernel_rfl)
def zob (Q : QT) (xs42 : List AV) (K41 : J3) (v46 : AV) (H47 : Heap) (nx48 : Nat) : Prop :=
 BI .neq v46 (.int .i64 0) fun v49 =>
 CNDC v49
 (Q v46 H47 nx48)
 (BI .add (nth xs42 3) (.int .i64 1) fun v50 =>
 K41 [nth xs42 0, nth xs42 1, nth xs42 2, v50] H47 nx48)
def ziu (Q : QT) (xs67 : List AV) (K66 : J3) (v78 : AV) (H79 : Heap) (nx80 : Nat) : Prop :=
 BI .neq v78 (.int .i64 0) fun v81 =>
 CNDC v81
 (Q v78 H79 nx80)
 (BI .add (nth xs67 6) (.int .i64 1) fun v82 =>
 K66 [nth xs67 0, nth xs67 1, nth xs67 2, nth xs67 3, nth xs67 4, nth xs67 5, v82] H79 nx80)
def zem (Q : QT) (K54 : J3) (K66 : J3) (xs67 : List AV) (H68 : Heap) (nx69 : Nat) : Prop :=
 BI .lss (nth xs67 6) (nth xs67 5) fun v70 =>
 CNDC v70
 (IA 3 (nth xs67 4) (nth xs67 6) fun v71 =>
 LD true 3 v71 H68 fun v72 =>
 ST 3 (.ptr nx69 0) v72 (H68.put nx69 (some (.row 3 [.int .i64 0, .int .i64 0, .str []]))) fun H73 =>
 LD true 3 (.ptr nx69 0) H73 fun v74 =>
 FA 5 (nth xs67 0) fun v75 =>
 LD false 1 v75 H73 fun v76 =>
 LNL v76 fun v77 =>
 za Tryz.prog 52 [v74, v77] H73 (nx69 + 1) (ziu Q xs67 K66))
 (BI .add (nth xs67 3) (.int .i64 1) fun v83 =>
 K54 [nth xs67 0, nth xs67 1, nth xs67 2, v83] H68 nx69)
def zit (Q : QT) (K54 : J3) (xs55 : List AV) (H56 : Heap) (nx57 : Nat) : Prop :=
 BI .lss (nth xs55 3) (nth xs55 2) fun v58 =>
 CNDC v58
 (IA 6 (nth xs55 1) (nth xs55 3) fun v59 =>
 LD true 6 v59 H56 fun v60 =>
 ST 6 (.ptr nx57 0) v60 (H56.put nx57 (some (.row 6 [.int .i64 0, .int .i64 0, .str [], .int .i64 0, .int .i64 0, .str []]))) fun H61 =>
 LD true 3 (.ptr nx57 0) H61 fun v62 =>
 LD true 3 (.ptr nx57 3) H61 fun v63 =>
 BSL 2 3 [.int .i64 0, .int .i64 0, .str []] [(0, v62), (1, v63)] fun cells64 =>
 LNL (.slc (nx57 + 1) 0 2) fun v65 =>
 LP (zem Q K54) [nth xs55 0, nth xs55 1, nth xs55 2, nth xs55 3, .slc (nx57 + 1) 0 2, v65, .int .i64 0] (H61.put ((nx57 + 1)) (some (.row 3 cells64))) (nx57 + 2))
 (Q (.int .i64 0) H56 nx57)
def zis (Q : QT) (K41 : J3) (xs42 : List AV) (H43 : Heap) (nx44 : Nat) : Prop :=
 BI .lss (nth xs42 3) (nth xs42 2) fun v45 =>
 CNDC v45
 (za Tryz.prog 51 [nth xs42 1, nth xs42 3, nth xs42 0] H43 nx44 (zob Q xs42 K41))
 (FA 5 (nth xs42 1) fun v51 =>
 LD false 1 v51 H43 fun v52 =>
 LNL v52 fun v53 =>
 LP (zit Q) [nth xs42 1, v52, v53, .int .i64 0] H43 nx44)
def zen (Q : QT) (nx : Nat) (a1 : AV) (v2 : AV) (H3 : Heap) (nx4 : Nat) : Prop :=
 BI .neq v2 (.int .i64 0) fun v5 =>
 CNDC v5
 (Q v2 H3 nx4)
 (LD true 3 (.ptr nx 6) H3 fun v6 =>
 ST 3 (.ptr nx4 0) v6 (H3.put nx4 (some (.row 3 [.int .i64 0, .int .i64 0, .int .i64 0]))) fun H7 =>
 LD false 1 (.ptr nx 0) H7 fun v8 =>
 BI .lss v8 (.int .i64 0) fun v9 =>
 CND v9
 (Q (.int .i64 3) H7 (nx4 + 1))
 (LD false 1 (.ptr nx 0) H7 fun v10 =>
 BI .gtr v10 (.int .i64 1073741824) fun v11 =>
 CND v11
 (Q (.int .i64 3) H7 (nx4 + 1))
 (LD false 1 (.ptr nx 1) H7 fun v12 =>
 BI .lss v12 (.int .i64 0) fun v13 =>
 CND v13
 (Q (.int .i64 3) H7 (nx4 + 1))
 (LD false 1 (.ptr nx 1) H7 fun v14 =>
 BI .gtr v14 (.int .i64 1073741824) fun v15 =>
 CND v15
 (Q (.int .i64 3) H7 (nx4 + 1))
 (LD false 1 (.ptr nx4 0) H7 fun v16 =>
 BI .lss v16 (.int .i64 0) fun v17 =>
 CND v17
 (Q (.int .i64 3) H7 (nx4 + 1))
 (LD false 1 (.ptr nx4 0) H7 fun v18 =>
 BI .gtr v18 (.int .i64 2000) fun v19 =>
 CND v19
 (Q (.int .i64 3) H7 (nx4 + 1))
 (LD false 1 (.ptr nx4 1) H7 fun v20 =>
 BI .lss v20 (.int .i64 0) fun v21 =>
 CND v21
 (Q (.int .i64 3) H7 (nx4 + 1))
 (LD false 1 (.ptr nx4 1) H7 fun v22 =>
 BI .gtr v22 (.int .i64 60) fun v23 =>
 CND v23
 (Q (.int .i64 3) H7 (nx4 + 1))
 (LD false 1 (.ptr nx4 2) H7 fun v24 =>
 BI .lss v24 (.int .i64 0) fun v25 =>
 CND v25
 (Q (.int .i64 3) H7 (nx4 + 1))
 (LD false 1 (.ptr nx4 2) H7 fun v26 =>
 BI .gtr v26 (.int .i64 12) fun v27 =>
 CNDC v27
 (Q (.int .i64 3) H7 (nx4 + 1))
 (LD false 1 (.ptr nx 4) H7 fun v28 =>
 LNL v28 fun v29 =>
 BI .lss v29 (.int .i64 1) fun v30 =>
 CND v30
 (Q (.int .i64 5) H7 (nx4 + 1))
 (LD false 1 (.ptr nx 4) H7 fun v31 =>
 LNL v31 fun v32 =>
 BI .gtr v32 (.int .i64 12) fun v33 =>
 CNDC v33
 (Q (.int .i64 5) H7 (nx4 + 1))
 (LD false 1 (.ptr nx 5) H7 fun v34 =>
 LNL v34 fun v35 =>
 LD false 1 (.ptr nx4 1) H7 fun v36 =>
 BI .sub (.int .i64 60) v36 fun v37 =>
 BI .gtr v35 v37 fun v38 =>
 CNDC v38
 (Q (.int .i64 4) H7 (nx4 + 1))
 (LD false 1 (.ptr nx 4) H7 fun v39 =>
 LNL v39 fun v40 =>
 LP (zis Q) [a1, .ptr nx 0, v40, .int .i64 0] H7 (nx4 + 1)))))))))))))))
def zoa (a0 a1 : AV) (H : Heap) (nx : Nat) (Q : QT) : Prop :=
 a0.sure = true ∧
 LD true 2 (.ptr nx 2) (H.put nx (some (.row a0.cells.length a0.cells))) fun v1 =>
 za Tryz.prog 50 [v1] (H.put nx (some (.row a0.cells.length a0.cells))) (nx + 1) (zen Q nx a1)
theorem zte (a0 a1 : AV) (H : Heap) (nx : Nat) (Q : QT) : zoa a0 a1 H nx Q → za Tryz.prog 25 [a0, a1] H nx Q :=
  zd (lv := lvOf [(2, 12, [1, 2, 89, 90]), (2, 19, [2, 101, 102, 103]), (2, 22, [2, 101, 102, 103, 111, 112, 113])]) (c := zl Tryz.f25) zp zq mixed Tryz.func25 (by kernel_rfl) (by kernel_rfl) (by kernel_rfl) (by kernel_rfl) (by kernel_rfl)
end Go.Proofs.YtpbnaaoilgohkaaGreatDoor
