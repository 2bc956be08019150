/- What is to be shown of each function, written out. What is to be shown of each function, written out. The plain law of wire: numbers as bytes, and back; no program in sight. Bits of bytes and of 64 bits, as sums. The machine: an agent's steps, as a plain function (chapter 7). -/
import Derived.Test.YtpbnaaoilgohkaaGreatDoorG5
import Derived.Test.YtpbnaaoilgohkaaGreatDoorG6
import Derived.WalkKit
import Derived.WalkSmall
set_option linter.unusedSimpArgs false
set_option linter.unusedVariables false
set_option maxRecDepth 8000
namespace Go.Proofs.YtpbnaaoilgohkaaGreatDoor
open Go Go.RowKit
def zfp (a0 : AV) (H : Heap) (nx : Nat) (Q : QT) : Prop :=
 BL .eql a0 .nils fun v1 =>
 CNDC v1
 (Q .nils H nx)
 (APP 3 24 (.slc nx 0 0) a0 (H.put nx (some (.row 3 []))) (nx + 1) fun v2 H3 nx4 =>
 Q v2 H3 nx4)
theorem zjn (a0 : AV) (H : Heap) (nx : Nat) (Q : QT) : zfp a0 H nx Q → za Tryz.prog 79 [a0] H nx Q :=
  zj (lv := lvOf []) (c := zp Tryz.f79) zac zah mixed Tryz.func79 (by kernel_rfl) (by kernel_rfl) (by kernel_rfl) (by kernel_rfl) (by kernel_rfl)
def zct (a0 : AV) (H : Heap) (nx : Nat) (Q : QT) : Prop :=
 BL .eql a0 .nils fun v1 =>
 CNDC v1
 (Q .nils H nx)
 (APP 1 16 (.slc nx 0 0) a0 (H.put nx (some (.row 1 []))) (nx + 1) fun v2 H3 nx4 =>
 Q v2 H3 nx4)
theorem zfx (a0 : AV) (H : Heap) (nx : Nat) (Q : QT) : zct a0 H nx Q → za Tryz.prog 80 [a0] H nx Q :=
  zj (lv := lvOf []) (c := zp Tryz.f80) zac zah mixed Tryz.func80 (by kernel_rfl) (by kernel_rfl) (by kernel_rfl) (by kernel_rfl) (by kernel_rfl)
def zgm (a0 : AV) (H : Heap) (nx : Nat) (Q : QT) : Prop :=
 BL .eql a0 .nils fun v1 =>
 CNDC v1
 (Q .nils H nx)
 (APP 6 64 (.slc nx 0 0) a0 (H.put nx (some (.row 6 []))) (nx + 1) fun v2 H3 nx4 =>
 Q v2 H3 nx4)
theorem zka (a0 : AV) (H : Heap) (nx : Nat) (Q : QT) : zgm a0 H nx Q → za Tryz.prog 82 [a0] H nx Q :=
  zj (lv := lvOf []) (c := zp Tryz.f82) zac zah mixed Tryz.func82 (by kernel_rfl) (by kernel_rfl) (by kernel_rfl) (by kernel_rfl) (by kernel_rfl)
def ztn (nx6 : Nat) (xs4 : List AV) (K3 : J3) (v12 : AV) (H13 : Heap) (nx14 : Nat) : Prop :=
 ST 1 (.ptr nx6 2) v12 H13 fun H15 =>
 LD true 3 (.ptr nx6 0) H15 fun v16 =>
 BSL 1 3 [.int .i64 0, .int .i64 0, .nils] [(0, v16)] fun cells17 =>
 APP 3 40 (nth xs4 2) (.slc nx14 0 1) (H15.put nx14 (some (.row 3 cells17))) (nx14 + 1) fun v18 H19 nx20 =>
 BI .add (nth xs4 5) (.int .i64 1) fun v21 =>
 K3 [nth xs4 0, nth xs4 1, v18, nth xs4 3, nth xs4 4, v21] H19 nx20
def zhi (nx37 : Nat) (v44 : AV) (H41 : Heap) (D47 : zl) (rd49 : List Nat) (xs35 : List AV) (fr46 : List Nat) (K34 : J3) (v50 : AV) (_ : List Nat) (fr52 : List Nat) (D53 : zl) : Prop :=
 zbq 1 (.ptr nx37 2) v44 ((H41.apply D47).apply D53) fun _ _ fr56 D57 =>
 zbq 1 (.ptr nx37 3) v50 (((H41.apply D47).apply D53).apply D57) fun _ _ fr60 D61 =>
 zg (domD D47) [] (
 zg (domD D47) [] (
 zg (domD D47) rd49 (
 zg (domD D47) [] (
 zg (domD D53) [] (
 zg (domD D53) [] (
 LD true 4 (.ptr nx37 0) ((((H41.apply D47).apply D53).apply D57).apply D61) fun v62 =>
 BSL 1 4 [.int .i64 0, .int .i64 0, .nils, .nils] [(0, v62)] fun cells63 =>
 APP 4 64 (nth xs35 2) (.slc (((((nx37 + 1) + fr46.length) + fr52.length) + fr56.length) + fr60.length) 0 1) (((((H41.apply D47).apply D53).apply D57).apply D61).put ((((((nx37 + 1) + fr46.length) + fr52.length) + fr56.length) + fr60.length)) (some (.row 4 cells63))) ((((((nx37 + 1) + fr46.length) + fr52.length) + fr56.length) + fr60.length) + 1) fun v64 H65 nx66 =>
 BI .add (nth xs35 5) (.int .i64 1) fun v67 =>
 K34 [nth xs35 0, nth xs35 1, v64, nth xs35 3, nth xs35 4, v67] H65 nx66))))))
def zoo (nx37 : Nat) (H41 : Heap) (xs35 : List AV) (K34 : J3) (v44 : AV) (_ : List Nat) (fr46 : List Nat) (D47 : zl) : Prop :=
 LDR false 1 (.ptr nx37 3) (H41.apply D47) fun v48 rd49 =>
 zy Tryz.prog (.clo 81 []) [v48] (H41.apply D47) ((nx37 + 1) + fr46.length) (zhi nx37 v44 H41 D47 rd49 xs35 fr46 K34)
def ztm (xs35 : List AV) (Q : QT) (v70 : AV) (H71 : Heap) (nx72 : Nat) : Prop :=
 FA 4 (nth xs35 0) fun v73 =>
 ST 1 v73 (nth xs35 2) H71 fun H74 =>
 FA 5 (nth xs35 0) fun v75 =>
 ST 1 v75 v70 H74 fun H76 =>
 LD true 9 (nth xs35 0) H76 fun v77 =>
 ST 9 (nth xs35 1) v77 H76 fun H78 =>
 LD true 9 (nth xs35 1) H78 fun v79 =>
 Q v79 H78 nx72
def zkt (Q : QT) (K34 : J3) (xs35 : List AV) (H36 : Heap) (nx37 : Nat) : Prop :=
 BI .lss (nth xs35 5) (nth xs35 4) fun v38 =>
 CNDC v38
 (IA 4 (nth xs35 3) (nth xs35 5) fun v39 =>
 LD true 4 v39 H36 fun v40 =>
 ST 4 (.ptr nx37 0) v40 (H36.put nx37 (some (.row 4 [.int .i64 0, .int .i64 0, .nils, .nils]))) fun H41 =>
 LDR false 1 (.ptr nx37 2) H41 fun v42 _ =>
 zy Tryz.prog (.clo 81 []) [v42] H41 (nx37 + 1) (zoo nx37 H41 xs35 K34))
 (FA 5 (nth xs35 0) fun v68 =>
 LD false 1 v68 H36 fun v69 =>
 za Tryz.prog 82 [v69] H36 nx37 (ztm xs35 Q))
def ztl (xs4 : List AV) (Q : QT) (v25 : AV) (H26 : Heap) (nx27 : Nat) : Prop :=
 BD (zas tab [(22, 0), (23, 1)]) [.nils, .nils] [(0, nth xs4 2), (1, v25)] fun v28 =>
 FA 2 (nth xs4 0) fun v29 =>
 ST 2 v29 v28 H26 fun H30 =>
 FA 4 (nth xs4 0) fun v31 =>
 LD false 1 v31 H30 fun v32 =>
 LNL v32 fun v33 =>
 LP (zkt Q) [nth xs4 0, nth xs4 1, .nils, v32, v33, .int .i64 0] H30 nx27
def zks (Q : QT) (K3 : J3) (xs4 : List AV) (H5 : Heap) (nx6 : Nat) : Prop :=
 BI .lss (nth xs4 5) (nth xs4 4) fun v7 =>
 CNDC v7
 (IA 3 (nth xs4 3) (nth xs4 5) fun v8 =>
 LD true 3 v8 H5 fun v9 =>
 ST 3 (.ptr nx6 0) v9 (H5.put nx6 (some (.row 3 [.int .i64 0, .int .i64 0, .nils]))) fun H10 =>
 LD false 1 (.ptr nx6 2) H10 fun v11 =>
 za Tryz.prog 79 [v11] H10 (nx6 + 1) (ztn nx6 xs4 K3))
 (FA 2 (nth xs4 0) fun v22 =>
 FA 1 v22 fun v23 =>
 LD false 1 v23 H5 fun v24 =>
 za Tryz.prog 80 [v24] H5 nx6 (ztl xs4 Q))
def ztk (a0 : AV) (H : Heap) (nx : Nat) (Q : QT) : Prop :=
 a0.sure = true ∧
 LD false 1 (.ptr nx 2) ((H.put nx (some (.row a0.cells.length a0.cells))).put ((nx + 1)) (some (.row 9 [.int .i64 0, .int .i64 0, .nils, .nils, .nils, .nils, .int .i64 0, .int .i64 0, .int .i64 0]))) fun v1 =>
 LNL v1 fun v2 =>
 LP (zks Q) [.ptr nx 0, .ptr (nx + 1) 0, .nils, v1, v2, .int .i64 0] ((H.put nx (some (.row a0.cells.length a0.cells))).put ((nx + 1)) (some (.row 9 [.int .i64 0, .int .i64 0, .nils, .nils, .nils, .nils, .int .i64 0, .int .i64 0, .int .i64 0]))) (nx + 2)
theorem zvs (a0 : AV) (H : Heap) (nx : Nat) (Q : QT) : ztk a0 H nx Q → za Tryz.prog 53 [a0] H nx Q :=
  zj (lv := lvOf [(2, 3, [1, 2, 3, 11, 12, 13]), (2, 11, [1, 2, 6, 34, 35, 36])]) (c := zp Tryz.f53) zac zah mixed Tryz.func53 (by kernel_rfl) (by kernel_rfl) (by kernel_rfl) (by kernel_rfl) (by kernel_rfl)
def zgl (Q : QT) (K39 : J3) (xs40 : List AV) (H41 : Heap) (nx42 : Nat) : Prop :=
 BI .lss (nth xs40 5) (nth xs40 4) fun v43 =>
 CNDC v43
 (FA 4 (nth xs40 1) fun v44 =>
 LD false 1 v44 H41 fun v45 =>
 IA 4 v45 (nth xs40 5) fun v46 =>
 NC v46 fun v47 =>
 FA 2 v47 fun v48 =>
 LD false 1 v48 H41 fun v49 =>
 CP 3 v49 (nth xs40 2) H41 fun v50 H51 =>
 SL 3 (nth xs40 2) (some v50) none H51 fun v52 =>
 NC v46 fun v53 =>
 FA 3 v53 fun v54 =>
 LD false 1 v54 H51 fun v55 =>
 CP 3 v55 v52 H51 fun v56 H57 =>
 SL 3 v52 (some v56) none H57 fun v58 =>
 BI .add (nth xs40 5) (.int .i64 1) fun v59 =>
 K39 [nth xs40 0, nth xs40 1, v58, nth xs40 3, nth xs40 4, v59] H57 nx42)
 (FA 5 (nth xs40 1) fun v60 =>
 ST 1 v60 (nth xs40 3) H41 fun H61 =>
 LD true 9 (nth xs40 1) H61 fun v62 =>
 ST 9 (nth xs40 0) v62 H61 fun H63 =>
 LD true 9 (nth xs40 0) H63 fun v64 =>
 Q v64 H63 nx42)
def znb (xs9 : List AV) (Q : QT) (v31 : AV) (H32 : Heap) (nx33 : Nat) : Prop :=
 EX v31 0 fun v34 =>
 EX v31 1 fun v35 =>
 FA 4 (nth xs9 1) fun v36 =>
 LD false 1 v36 H32 fun v37 =>
 LNL v37 fun v38 =>
 LP (zgl Q) [nth xs9 0, nth xs9 1, v34, v35, v38, .int .i64 0] H32 nx33
def zgk (Q : QT) (K8 : J3) (xs9 : List AV) (H10 : Heap) (nx11 : Nat) : Prop :=
 BI .lss (nth xs9 5) (nth xs9 4) fun v12 =>
 CNDC v12
 (IA 4 (nth xs9 3) (nth xs9 5) fun v13 =>
 LD true 4 v13 H10 fun v14 =>
 ST 4 (.ptr nx11 0) v14 (H10.put nx11 (some (.row 4 [.int .i64 0, .int .i64 0, .nils, .nils]))) fun H15 =>
 LDR false 1 (.ptr nx11 2) H15 fun v16 _ =>
 zt 3 32 (nth xs9 2) v16 H15 (nx11 + 1) fun v18 _ fr20 D21 =>
 LDR false 1 (.ptr nx11 3) (H15.apply D21) fun v22 rd23 =>
 zt 3 32 v18 v22 (H15.apply D21) ((nx11 + 1) + fr20.length) fun v24 _ fr26 D27 =>
 zg (domD D21) [] (
 zg (domD D21) [] (
 zg (domD D21) rd23 (
 zg (domD D21) [] (
 BI .add (nth xs9 5) (.int .i64 1) fun v28 =>
 K8 [nth xs9 0, nth xs9 1, v24, nth xs9 3, nth xs9 4, v28] ((H15.apply D21).apply D27) (((nx11 + 1) + fr20.length) + fr26.length))))))
 (FA 5 (nth xs9 1) fun v29 =>
 LD false 1 v29 H10 fun v30 =>
 za Tryz.prog 54 [v30, nth xs9 2] H10 nx11 (znb xs9 Q))
def zrt (Q : QT) (nx : Nat) (v2 : AV) (H3 : Heap) (nx4 : Nat) : Prop :=
 ST 9 (.ptr nx4 0) v2 (H3.put nx4 (some (.row 9 [.int .i64 0, .int .i64 0, .nils, .nils, .nils, .nils, .int .i64 0, .int .i64 0, .int .i64 0]))) fun H5 =>
 LD false 1 (.ptr nx4 4) H5 fun v6 =>
 LNL v6 fun v7 =>
 LP (zgk Q) [.ptr (nx + 1) 0, .ptr nx4 0, .nils, v6, v7, .int .i64 0] H5 (nx4 + 1)
def zrs (a0 : AV) (H : Heap) (nx : Nat) (Q : QT) : Prop :=
 a0.sure = true ∧
 LD true 9 (.ptr nx 0) ((H.put nx (some (.row a0.cells.length a0.cells))).put ((nx + 1)) (some (.row 9 [.int .i64 0, .int .i64 0, .nils, .nils, .nils, .nils, .int .i64 0, .int .i64 0, .int .i64 0]))) fun v1 =>
 za Tryz.prog 53 [v1] ((H.put nx (some (.row a0.cells.length a0.cells))).put ((nx + 1)) (some (.row 9 [.int .i64 0, .int .i64 0, .nils, .nils, .nils, .nils, .int .i64 0, .int .i64 0, .int .i64 0]))) (nx + 2) (zrt Q nx)
theorem zur (a0 : AV) (H : Heap) (nx : Nat) (Q : QT) : zrs a0 H nx Q → za Tryz.prog 27 [a0] H nx Q :=
  zj (lv := lvOf [(2, 4, [2, 3, 4, 13, 14, 15]), (2, 10, [2, 3, 4, 7, 36, 37])]) (c := zp Tryz.f27) zac zah mixed Tryz.func27 (by kernel_rfl) (by kernel_rfl) (by kernel_rfl) (by kernel_rfl) (by kernel_rfl)
def zcs (Q : QT) (K34 : J3) (xs35 : List AV) (H36 : Heap) (nx37 : Nat) : Prop :=
 BI .lss (nth xs35 7) (nth xs35 6) fun v38 =>
 CNDC v38
 (IA 4 (nth xs35 5) (nth xs35 7) fun v39 =>
 LD true 4 v39 H36 fun v40 =>
 ST 4 (.ptr nx37 0) v40 (H36.put nx37 (some (.row 4 [.int .i64 0, .int .i64 0, .nils, .nils]))) fun H41 =>
 LDR false 1 (.ptr nx37 2) H41 fun v42 _ =>
 LNL v42 fun v44 =>
 LDR false 1 (.ptr nx37 3) H41 fun v45 _ =>
 LNL v45 fun v47 =>
 zao 3 (nth xs35 2) none (some v44) (H41.put ((nx37 + 1)) (some (.row 3 []))) fun v48 rd49 fr50 D51 =>
 zt 3 32 (.slc (nx37 + 1) 0 0) v48 ((H41.put ((nx37 + 1)) (some (.row 3 []))).apply D51) ((nx37 + 2) + fr50.length) fun v52 rd53 fr54 D55 =>
 BI .add v44 v47 fun v56 =>
 zao 3 (nth xs35 2) (some v44) (some v56) ((((H41.put ((nx37 + 1)) (some (.row 3 []))).apply D51).apply D55).put ((((nx37 + 2) + fr50.length) + fr54.length)) (some (.row 3 []))) fun v57 rd58 fr59 D60 =>
 zt 3 32 (.slc (((nx37 + 2) + fr50.length) + fr54.length) 0 0) v57 (((((H41.put ((nx37 + 1)) (some (.row 3 []))).apply D51).apply D55).put ((((nx37 + 2) + fr50.length) + fr54.length)) (some (.row 3 []))).apply D60) (((((nx37 + 2) + fr50.length) + fr54.length) + 1) + fr59.length) fun v61 _ fr63 D64 =>
 zbq 1 (.ptr nx37 2) v52 ((((((H41.put ((nx37 + 1)) (some (.row 3 []))).apply D51).apply D55).put ((((nx37 + 2) + fr50.length) + fr54.length)) (some (.row 3 []))).apply D60).apply D64) fun _ _ fr67 D68 =>
 zbq 1 (.ptr nx37 3) v61 (((((((H41.put ((nx37 + 1)) (some (.row 3 []))).apply D51).apply D55).put ((((nx37 + 2) + fr50.length) + fr54.length)) (some (.row 3 []))).apply D60).apply D64).apply D68) fun _ _ fr71 D72 =>
 (nx37 + 1) ∉ [] ∧
 (nx37 + 1) ∉ [] ∧
 (nx37 + 1) ∉ [] ∧
 (nx37 + 1) ∉ [] ∧
 (nx37 + 1) ∉ rd49 ∧
 (nx37 + 1) ∉ (domD D51) ∧
 zg (domD D51) [] (
 (nx37 + 1) ∉ [] ∧
 (nx37 + 1) ∉ [(((nx37 + 2) + fr50.length) + fr54.length)] ∧
 (((nx37 + 2) + fr50.length) + fr54.length) ∉ [] ∧
 (((nx37 + 2) + fr50.length) + fr54.length) ∉ [] ∧
 (((nx37 + 2) + fr50.length) + fr54.length) ∉ [] ∧
 zg (domD D51) [] (
 zg (domD D51) [(((nx37 + 2) + fr50.length) + fr54.length)] (
 (((nx37 + 2) + fr50.length) + fr54.length) ∉ rd49 ∧
 zg (domD D55) [] (
 zg (domD D55) [(((nx37 + 2) + fr50.length) + fr54.length)] (
 (((nx37 + 2) + fr50.length) + fr54.length) ∉ rd53 ∧
 (nx37 + 1) ∉ [] ∧
 (nx37 + 1) ∉ [] ∧
 zg (domD D55) [] (
 zg (domD D55) [] (
 (((nx37 + 2) + fr50.length) + fr54.length) ∉ [] ∧
 (((nx37 + 2) + fr50.length) + fr54.length) ∉ [] ∧
 (nx37 + 1) ∉ [] ∧
 (nx37 + 1) ∉ [] ∧
 zg (domD D55) [] (
 zg (domD D55) [] (
 (((nx37 + 2) + fr50.length) + fr54.length) ∉ [] ∧
 (((nx37 + 2) + fr50.length) + fr54.length) ∉ [] ∧
 (nx37 + 1) ∉ [] ∧
 (nx37 + 1) ∉ [] ∧
 zg (domD D55) [] (
 zg (domD D55) [] (
 (((nx37 + 2) + fr50.length) + fr54.length) ∉ [] ∧
 (((nx37 + 2) + fr50.length) + fr54.length) ∉ [] ∧
 (nx37 + 1) ∉ [] ∧
 (nx37 + 1) ∉ [] ∧
 zg (domD D55) [] (
 zg (domD D55) [] (
 (((nx37 + 2) + fr50.length) + fr54.length) ∉ [] ∧
 (((nx37 + 2) + fr50.length) + fr54.length) ∉ [] ∧
 (nx37 + 1) ∉ [] ∧
 (nx37 + 1) ∉ [] ∧
 zg (domD D55) [] (
 zg (domD D55) [] (
 (((nx37 + 2) + fr50.length) + fr54.length) ∉ [] ∧
 (((nx37 + 2) + fr50.length) + fr54.length) ∉ [] ∧
 (nx37 + 1) ∉ rd58 ∧
 (nx37 + 1) ∉ (domD D60) ∧
 zg (domD D60) [] (
 zg (domD D55) rd58 (
 zg (domD D55) (domD D60) (
 zg (domD D60) rd53 (
 (((nx37 + 2) + fr50.length) + fr54.length) ∉ rd58 ∧
 (((nx37 + 2) + fr50.length) + fr54.length) ∉ (domD D60) ∧
 zg (domD D60) [] (
 (((nx37 + 2) + fr50.length) + fr54.length) ∉ [] ∧
 (((nx37 + 2) + fr50.length) + fr54.length) ∉ [] ∧
 zg (domD D64) [] (
 zg (domD D64) [] (
 BI .add v44 v47 fun v73 =>
 SL 3 (nth xs35 2) (some v73) none ((((((((H41.put ((nx37 + 1)) (some (.row 3 []))).apply D51).apply D55).put ((((nx37 + 2) + fr50.length) + fr54.length)) (some (.row 3 []))).apply D60).apply D64).apply D68).apply D72) fun v74 =>
 LD true 4 (.ptr nx37 0) ((((((((H41.put ((nx37 + 1)) (some (.row 3 []))).apply D51).apply D55).put ((((nx37 + 2) + fr50.length) + fr54.length)) (some (.row 3 []))).apply D60).apply D64).apply D68).apply D72) fun v75 =>
 BSL 1 4 [.int .i64 0, .int .i64 0, .nils, .nils] [(0, v75)] fun cells76 =>
 APP 4 64 (nth xs35 4) (.slc ((((((((nx37 + 2) + fr50.length) + fr54.length) + 1) + fr59.length) + fr63.length) + fr67.length) + fr71.length) 0 1) (((((((((H41.put ((nx37 + 1)) (some (.row 3 []))).apply D51).apply D55).put ((((nx37 + 2) + fr50.length) + fr54.length)) (some (.row 3 []))).apply D60).apply D64).apply D68).apply D72).put (((((((((nx37 + 2) + fr50.length) + fr54.length) + 1) + fr59.length) + fr63.length) + fr67.length) + fr71.length)) (some (.row 4 cells76))) (((((((((nx37 + 2) + fr50.length) + fr54.length) + 1) + fr59.length) + fr63.length) + fr67.length) + fr71.length) + 1) fun v77 H78 nx79 =>
 BI .add (nth xs35 7) (.int .i64 1) fun v80 =>
 K34 [nth xs35 0, nth xs35 1, v74, nth xs35 3, v77, nth xs35 5, nth xs35 6, v80] H78 nx79)))))))))))))))))))))))
 (FA 4 (nth xs35 0) fun v81 =>
 ST 1 v81 (nth xs35 4) H36 fun H82 =>
 FA 5 (nth xs35 0) fun v83 =>
 ST 1 v83 (nth xs35 3) H82 fun H84 =>
 LD true 9 (nth xs35 0) H84 fun v85 =>
 ST 9 (nth xs35 1) v85 H84 fun H86 =>
 LD true 9 (nth xs35 1) H86 fun v87 =>
 Q v87 H86 nx37)
def zgw (xs4 : List AV) (Q : QT) (v26 : AV) (H27 : Heap) (nx28 : Nat) : Prop :=
 EX v26 0 fun v29 =>
 EX v26 1 fun v30 =>
 FA 4 (nth xs4 0) fun v31 =>
 LD false 1 v31 H27 fun v32 =>
 LNL v32 fun v33 =>
 LP (zcs Q) [nth xs4 0, nth xs4 1, v29, v30, .nils, v32, v33, .int .i64 0] H27 nx28
def zcr (Q : QT) (K3 : J3) (xs4 : List AV) (H5 : Heap) (nx6 : Nat) : Prop :=
 BI .lss (nth xs4 5) (nth xs4 4) fun v7 =>
 CNDC v7
 (IA 4 (nth xs4 3) (nth xs4 5) fun v8 =>
 LD true 4 v8 H5 fun v9 =>
 ST 4 (.ptr nx6 0) v9 (H5.put nx6 (some (.row 4 [.int .i64 0, .int .i64 0, .nils, .nils]))) fun H10 =>
 LDR false 1 (.ptr nx6 2) H10 fun v11 _ =>
 zt 3 32 (nth xs4 2) v11 H10 (nx6 + 1) fun v13 _ fr15 D16 =>
 LDR false 1 (.ptr nx6 3) (H10.apply D16) fun v17 rd18 =>
 zt 3 32 v13 v17 (H10.apply D16) ((nx6 + 1) + fr15.length) fun v19 _ fr21 D22 =>
 zg (domD D16) [] (
 zg (domD D16) [] (
 zg (domD D16) rd18 (
 zg (domD D16) [] (
 BI .add (nth xs4 5) (.int .i64 1) fun v23 =>
 K3 [nth xs4 0, nth xs4 1, v19, nth xs4 3, nth xs4 4, v23] ((H10.apply D16).apply D22) (((nx6 + 1) + fr15.length) + fr21.length))))))
 (FA 5 (nth xs4 0) fun v24 =>
 LD false 1 v24 H5 fun v25 =>
 za Tryz.prog 36 [v25, nth xs4 2] H5 nx6 (zgw xs4 Q))
def zlr (a0 : AV) (H : Heap) (nx : Nat) (Q : QT) : Prop :=
 a0.sure = true ∧
 LD false 1 (.ptr nx 4) ((H.put nx (some (.row a0.cells.length a0.cells))).put ((nx + 1)) (some (.row 9 [.int .i64 0, .int .i64 0, .nils, .nils, .nils, .nils, .int .i64 0, .int .i64 0, .int .i64 0]))) fun v1 =>
 LNL v1 fun v2 =>
 LP (zcr Q) [.ptr nx 0, .ptr (nx + 1) 0, .nils, v1, v2, .int .i64 0] ((H.put nx (some (.row a0.cells.length a0.cells))).put ((nx + 1)) (some (.row 9 [.int .i64 0, .int .i64 0, .nils, .nils, .nils, .nils, .int .i64 0, .int .i64 0, .int .i64 0]))) (nx + 2)
theorem zqe (a0 : AV) (H : Heap) (nx : Nat) (Q : QT) : zlr a0 H nx Q → za Tryz.prog 11 [a0] H nx Q :=
  zj (lv := lvOf [(2, 3, [1, 2, 3, 14, 15, 16]), (2, 10, [1, 2, 6, 7, 8, 36, 37, 38])]) (c := zp Tryz.f11) zac zah mixed Tryz.func11 (by kernel_rfl) (by kernel_rfl) (by kernel_rfl) (by kernel_rfl) (by kernel_rfl)
def zkc (a0 : AV) (H : Heap) (nx : Nat) (Q : QT) : Prop :=
 a0.sure = true ∧
 LD false 1 (.ptr nx 0) (H.put nx (some (.row a0.cells.length a0.cells))) fun v1 =>
 BI .eql v1 (.int .i64 17) fun v2 =>
 CNDC v2
 (LD false 1 (.ptr nx 2) (H.put nx (some (.row a0.cells.length a0.cells))) fun v3 =>
 Q (.tup [v3, .int .i64 1]) (H.put nx (some (.row a0.cells.length a0.cells))) (nx + 1))
 (zq (AK.int .i64) (.int .i64 1) = true ∧
 MU (.amap (nx + 1)) (.int .i64 1) (.agg [.int .i64 0, .int .i64 1]) ((H.put nx (some (.row a0.cells.length a0.cells))).put ((nx + 1)) (some (.mp []))) fun H4 =>
 zq (AK.int .i64) (.int .i64 2) = true ∧
 MU (.amap (nx + 1)) (.int .i64 2) (.agg [.int .i64 0, .int .i64 1]) H4 fun H5 =>
 zq (AK.int .i64) (.int .i64 3) = true ∧
 MU (.amap (nx + 1)) (.int .i64 3) (.agg [.int .i64 0, .int .i64 1]) H5 fun H6 =>
 zq (AK.int .i64) (.int .i64 4) = true ∧
 MU (.amap (nx + 1)) (.int .i64 4) (.agg [.int .i64 1, .int .i64 0]) H6 fun H7 =>
 zq (AK.int .i64) (.int .i64 5) = true ∧
 MU (.amap (nx + 1)) (.int .i64 5) (.agg [.int .i64 2, .int .i64 1]) H7 fun H8 =>
 zq (AK.int .i64) (.int .i64 6) = true ∧
 MU (.amap (nx + 1)) (.int .i64 6) (.agg [.int .i64 2, .int .i64 1]) H8 fun H9 =>
 zq (AK.int .i64) (.int .i64 7) = true ∧
 MU (.amap (nx + 1)) (.int .i64 7) (.agg [.int .i64 1, .int .i64 1]) H9 fun H10 =>
 zq (AK.int .i64) (.int .i64 8) = true ∧
 MU (.amap (nx + 1)) (.int .i64 8) (.agg [.int .i64 1, .int .i64 1]) H10 fun H11 =>
 zq (AK.int .i64) (.int .i64 9) = true ∧
 MU (.amap (nx + 1)) (.int .i64 9) (.agg [.int .i64 2, .int .i64 0]) H11 fun H12 =>
 zq (AK.int .i64) (.int .i64 10) = true ∧
 MU (.amap (nx + 1)) (.int .i64 10) (.agg [.int .i64 2, .int .i64 0]) H12 fun H13 =>
 zq (AK.int .i64) (.int .i64 11) = true ∧
 MU (.amap (nx + 1)) (.int .i64 11) (.agg [.int .i64 1, .int .i64 1]) H13 fun H14 =>
 zq (AK.int .i64) (.int .i64 12) = true ∧
 MU (.amap (nx + 1)) (.int .i64 12) (.agg [.int .i64 0, .int .i64 1]) H14 fun H15 =>
 zq (AK.int .i64) (.int .i64 13) = true ∧
 MU (.amap (nx + 1)) (.int .i64 13) (.agg [.int .i64 1, .int .i64 1]) H15 fun H16 =>
 zq (AK.int .i64) (.int .i64 14) = true ∧
 MU (.amap (nx + 1)) (.int .i64 14) (.agg [.int .i64 1, .int .i64 0]) H16 fun H17 =>
 zq (AK.int .i64) (.int .i64 15) = true ∧
 MU (.amap (nx + 1)) (.int .i64 15) (.agg [.int .i64 0, .int .i64 0]) H17 fun H18 =>
 zq (AK.int .i64) (.int .i64 16) = true ∧
 MU (.amap (nx + 1)) (.int .i64 16) (.agg [.int .i64 1, .int .i64 0]) H18 fun H19 =>
 zq (AK.int .i64) (.int .i64 18) = true ∧
 MU (.amap (nx + 1)) (.int .i64 18) (.agg [.int .i64 1, .int .i64 0]) H19 fun H20 =>
 zq (AK.int .i64) (.int .i64 19) = true ∧
 MU (.amap (nx + 1)) (.int .i64 19) (.agg [.int .i64 1, .int .i64 0]) H20 fun H21 =>
 LD false 1 (.ptr nx 0) H21 fun v22 =>
 zq (AK.int .i64) v22 = true ∧
 LK [.int .i64 0, .int .i64 0] true (.amap (nx + 1)) v22 false H21 fun v23 =>
 ST 2 (.ptr (nx + 2) 0) v23 (H21.put ((nx + 2)) (some (.row 1 [.int .i64 0, .int .i64 0]))) fun H24 =>
 AA 1 2 (.ptr (nx + 2) 0) (.int .i64 0) fun v25 =>
 LDR false 1 v25 H24 fun v26 _ =>
 AA 1 2 (.ptr (nx + 2) 0) (.int .i64 1) fun v28 =>
 LDR false 1 v28 H24 fun v29 _ =>
 Q (.tup [v26, v29]) H24 (nx + 3))
theorem zob (a0 : AV) (H : Heap) (nx : Nat) (Q : QT) : zkc a0 H nx Q → za Tryz.prog 47 [a0] H nx Q :=
  zj (lv := lvOf []) (c := zp Tryz.f47) zac zah mixed Tryz.func47 (by kernel_rfl) (by kernel_rfl) (by kernel_rfl) (by kernel_rfl) (by kernel_rfl)
def zqf (v23 : AV) (Q : QT) (nx16 : Nat) (v20 : AV) (xs14 : List AV) (K13 : J3) (v46 : AV) (H47 : Heap) (nx48 : Nat) : Prop :=
 EX v46 0 fun v49 =>
 EX v46 1 fun v50 =>
 BI .lss v23 v49 fun v51 =>
 CND v51
 (Q (.tup [.nils, .int .i64 10]) H47 nx48)
 (LD false 1 (.ptr nx16 0) H47 fun v52 =>
 BI .eql v52 (.int .i64 18) fun v53 =>
 CND v53
 (BI .gtr v23 (.int .i64 1) fun v54 =>
 CNDC v54
 (Q (.tup [.nils, .int .i64 10]) H47 nx48)
 (BI .sub v23 v49 fun v55 =>
 BI .add v55 v50 fun v56 =>
 BI .gtr v56 (.int .i64 16) fun v57 =>
 CNDC v57
 (Q (.tup [.nils, .int .i64 4]) H47 nx48)
 (LD false 1 (.ptr nx16 0) H47 fun v58 =>
 BI .neq v58 (.int .i64 15) fun v59 =>
 CND v59
 (LD false 1 (.ptr nx16 0) H47 fun v60 =>
 BI .neq v60 (.int .i64 18) fun v61 =>
 CNDC v61
 (BI .add v20 (.int .i64 1) fun v62 =>
 BSL 1 1 [.int .i64 0] [(0, v62)] fun cells63 =>
 APP 1 8 (nth xs14 2) (.slc nx48 0 1) (H47.put nx48 (some (.row 1 cells63))) (nx48 + 1) fun v64 H65 nx66 =>
 BSL 1 1 [.int .i64 0] [(0, v56)] fun cells67 =>
 APP 1 8 (nth xs14 3) (.slc nx66 0 1) (H65.put nx66 (some (.row 1 cells67))) (nx66 + 1) fun v68 H69 nx70 =>
 LD false 1 (.ptr nx16 0) H69 fun v71 =>
 BI .eql v71 (.int .i64 15) fun v72 =>
 CND v72
 (LD false 1 (.ptr nx16 1) H69 fun v73 =>
 BSL 1 1 [.int .i64 0] [(0, v73)] fun cells74 =>
 APP 1 8 v64 (.slc nx70 0 1) (H69.put nx70 (some (.row 1 cells74))) (nx70 + 1) fun v75 H76 nx77 =>
 BSL 1 1 [.int .i64 0] [(0, v56)] fun cells78 =>
 APP 1 8 v68 (.slc nx77 0 1) (H76.put nx77 (some (.row 1 cells78))) (nx77 + 1) fun v79 H80 nx81 =>
 BI .add (nth xs14 4) (.int .i64 1) fun v82 =>
 K13 [nth xs14 0, nth xs14 1, v75, v79, v82] H80 nx81)
 (LD false 1 (.ptr nx16 0) H69 fun v83 =>
 BI .eql v83 (.int .i64 16) fun v84 =>
 CNDC v84
 (LD false 1 (.ptr nx16 1) H69 fun v85 =>
 BSL 1 1 [.int .i64 0] [(0, v85)] fun cells86 =>
 APP 1 8 v64 (.slc nx70 0 1) (H69.put nx70 (some (.row 1 cells86))) (nx70 + 1) fun v87 H88 nx89 =>
 BSL 1 1 [.int .i64 0] [(0, v56)] fun cells90 =>
 APP 1 8 v68 (.slc nx89 0 1) (H88.put nx89 (some (.row 1 cells90))) (nx89 + 1) fun v91 H92 nx93 =>
 BI .add (nth xs14 4) (.int .i64 1) fun v94 =>
 K13 [nth xs14 0, nth xs14 1, v87, v91, v94] H92 nx93)
 (BI .add (nth xs14 4) (.int .i64 1) fun v95 =>
 K13 [nth xs14 0, nth xs14 1, v64, v68, v95] H69 nx70)))
 (LD false 1 (.ptr nx16 0) H47 fun v96 =>
 BI .eql v96 (.int .i64 15) fun v97 =>
 CND v97
 (LD false 1 (.ptr nx16 1) H47 fun v98 =>
 BSL 1 1 [.int .i64 0] [(0, v98)] fun cells99 =>
 APP 1 8 (nth xs14 2) (.slc nx48 0 1) (H47.put nx48 (some (.row 1 cells99))) (nx48 + 1) fun v100 H101 nx102 =>
 BSL 1 1 [.int .i64 0] [(0, v56)] fun cells103 =>
 APP 1 8 (nth xs14 3) (.slc nx102 0 1) (H101.put nx102 (some (.row 1 cells103))) (nx102 + 1) fun v104 H105 nx106 =>
 BI .add (nth xs14 4) (.int .i64 1) fun v107 =>
 K13 [nth xs14 0, nth xs14 1, v100, v104, v107] H105 nx106)
 (LD false 1 (.ptr nx16 0) H47 fun v108 =>
 BI .eql v108 (.int .i64 16) fun v109 =>
 CNDC v109
 (LD false 1 (.ptr nx16 1) H47 fun v110 =>
 BSL 1 1 [.int .i64 0] [(0, v110)] fun cells111 =>
 APP 1 8 (nth xs14 2) (.slc nx48 0 1) (H47.put nx48 (some (.row 1 cells111))) (nx48 + 1) fun v112 H113 nx114 =>
 BSL 1 1 [.int .i64 0] [(0, v56)] fun cells115 =>
 APP 1 8 (nth xs14 3) (.slc nx114 0 1) (H113.put nx114 (some (.row 1 cells115))) (nx114 + 1) fun v116 H117 nx118 =>
 BI .add (nth xs14 4) (.int .i64 1) fun v119 =>
 K13 [nth xs14 0, nth xs14 1, v112, v116, v119] H117 nx118)
 (BI .add (nth xs14 4) (.int .i64 1) fun v120 =>
 K13 [nth xs14 0, nth xs14 1, nth xs14 2, nth xs14 3, v120] H47 nx48))))
 (LD false 1 (.ptr nx16 0) H47 fun v121 =>
 BI .eql v121 (.int .i64 15) fun v122 =>
 CND v122
 (LD false 1 (.ptr nx16 1) H47 fun v123 =>
 BSL 1 1 [.int .i64 0] [(0, v123)] fun cells124 =>
 APP 1 8 (nth xs14 2) (.slc nx48 0 1) (H47.put nx48 (some (.row 1 cells124))) (nx48 + 1) fun v125 H126 nx127 =>
 BSL 1 1 [.int .i64 0] [(0, v56)] fun cells128 =>
 APP 1 8 (nth xs14 3) (.slc nx127 0 1) (H126.put nx127 (some (.row 1 cells128))) (nx127 + 1) fun v129 H130 nx131 =>
 BI .add (nth xs14 4) (.int .i64 1) fun v132 =>
 K13 [nth xs14 0, nth xs14 1, v125, v129, v132] H130 nx131)
 (LD false 1 (.ptr nx16 0) H47 fun v133 =>
 BI .eql v133 (.int .i64 16) fun v134 =>
 CNDC v134
 (LD false 1 (.ptr nx16 1) H47 fun v135 =>
 BSL 1 1 [.int .i64 0] [(0, v135)] fun cells136 =>
 APP 1 8 (nth xs14 2) (.slc nx48 0 1) (H47.put nx48 (some (.row 1 cells136))) (nx48 + 1) fun v137 H138 nx139 =>
 BSL 1 1 [.int .i64 0] [(0, v56)] fun cells140 =>
 APP 1 8 (nth xs14 3) (.slc nx139 0 1) (H138.put nx139 (some (.row 1 cells140))) (nx139 + 1) fun v141 H142 nx143 =>
 BI .add (nth xs14 4) (.int .i64 1) fun v144 =>
 K13 [nth xs14 0, nth xs14 1, v137, v141, v144] H142 nx143)
 (BI .add (nth xs14 4) (.int .i64 1) fun v145 =>
 K13 [nth xs14 0, nth xs14 1, nth xs14 2, nth xs14 3, v145] H47 nx48))))))
 (BI .sub v23 v49 fun v146 =>
 BI .add v146 v50 fun v147 =>
 BI .gtr v147 (.int .i64 16) fun v148 =>
 CNDC v148
 (Q (.tup [.nils, .int .i64 4]) H47 nx48)
 (LD false 1 (.ptr nx16 0) H47 fun v149 =>
 BI .neq v149 (.int .i64 15) fun v150 =>
 CND v150
 (LD false 1 (.ptr nx16 0) H47 fun v151 =>
 BI .neq v151 (.int .i64 18) fun v152 =>
 CNDC v152
 (BI .add v20 (.int .i64 1) fun v153 =>
 BSL 1 1 [.int .i64 0] [(0, v153)] fun cells154 =>
 APP 1 8 (nth xs14 2) (.slc nx48 0 1) (H47.put nx48 (some (.row 1 cells154))) (nx48 + 1) fun v155 H156 nx157 =>
 BSL 1 1 [.int .i64 0] [(0, v147)] fun cells158 =>
 APP 1 8 (nth xs14 3) (.slc nx157 0 1) (H156.put nx157 (some (.row 1 cells158))) (nx157 + 1) fun v159 H160 nx161 =>
 LD false 1 (.ptr nx16 0) H160 fun v162 =>
 BI .eql v162 (.int .i64 15) fun v163 =>
 CND v163
 (LD false 1 (.ptr nx16 1) H160 fun v164 =>
 BSL 1 1 [.int .i64 0] [(0, v164)] fun cells165 =>
 APP 1 8 v155 (.slc nx161 0 1) (H160.put nx161 (some (.row 1 cells165))) (nx161 + 1) fun v166 H167 nx168 =>
 BSL 1 1 [.int .i64 0] [(0, v147)] fun cells169 =>
 APP 1 8 v159 (.slc nx168 0 1) (H167.put nx168 (some (.row 1 cells169))) (nx168 + 1) fun v170 H171 nx172 =>
 BI .add (nth xs14 4) (.int .i64 1) fun v173 =>
 K13 [nth xs14 0, nth xs14 1, v166, v170, v173] H171 nx172)
 (LD false 1 (.ptr nx16 0) H160 fun v174 =>
 BI .eql v174 (.int .i64 16) fun v175 =>
 CNDC v175
 (LD false 1 (.ptr nx16 1) H160 fun v176 =>
 BSL 1 1 [.int .i64 0] [(0, v176)] fun cells177 =>
 APP 1 8 v155 (.slc nx161 0 1) (H160.put nx161 (some (.row 1 cells177))) (nx161 + 1) fun v178 H179 nx180 =>
 BSL 1 1 [.int .i64 0] [(0, v147)] fun cells181 =>
 APP 1 8 v159 (.slc nx180 0 1) (H179.put nx180 (some (.row 1 cells181))) (nx180 + 1) fun v182 H183 nx184 =>
 BI .add (nth xs14 4) (.int .i64 1) fun v185 =>
 K13 [nth xs14 0, nth xs14 1, v178, v182, v185] H183 nx184)
 (BI .add (nth xs14 4) (.int .i64 1) fun v186 =>
 K13 [nth xs14 0, nth xs14 1, v155, v159, v186] H160 nx161)))
 (LD false 1 (.ptr nx16 0) H47 fun v187 =>
 BI .eql v187 (.int .i64 15) fun v188 =>
 CND v188
 (LD false 1 (.ptr nx16 1) H47 fun v189 =>
 BSL 1 1 [.int .i64 0] [(0, v189)] fun cells190 =>
 APP 1 8 (nth xs14 2) (.slc nx48 0 1) (H47.put nx48 (some (.row 1 cells190))) (nx48 + 1) fun v191 H192 nx193 =>
 BSL 1 1 [.int .i64 0] [(0, v147)] fun cells194 =>
 APP 1 8 (nth xs14 3) (.slc nx193 0 1) (H192.put nx193 (some (.row 1 cells194))) (nx193 + 1) fun v195 H196 nx197 =>
 BI .add (nth xs14 4) (.int .i64 1) fun v198 =>
 K13 [nth xs14 0, nth xs14 1, v191, v195, v198] H196 nx197)
 (LD false 1 (.ptr nx16 0) H47 fun v199 =>
 BI .eql v199 (.int .i64 16) fun v200 =>
 CNDC v200
 (LD false 1 (.ptr nx16 1) H47 fun v201 =>
 BSL 1 1 [.int .i64 0] [(0, v201)] fun cells202 =>
 APP 1 8 (nth xs14 2) (.slc nx48 0 1) (H47.put nx48 (some (.row 1 cells202))) (nx48 + 1) fun v203 H204 nx205 =>
 BSL 1 1 [.int .i64 0] [(0, v147)] fun cells206 =>
 APP 1 8 (nth xs14 3) (.slc nx205 0 1) (H204.put nx205 (some (.row 1 cells206))) (nx205 + 1) fun v207 H208 nx209 =>
 BI .add (nth xs14 4) (.int .i64 1) fun v210 =>
 K13 [nth xs14 0, nth xs14 1, v203, v207, v210] H208 nx209)
 (BI .add (nth xs14 4) (.int .i64 1) fun v211 =>
 K13 [nth xs14 0, nth xs14 1, nth xs14 2, nth xs14 3, v211] H47 nx48))))
 (LD false 1 (.ptr nx16 0) H47 fun v212 =>
 BI .eql v212 (.int .i64 15) fun v213 =>
 CND v213
 (LD false 1 (.ptr nx16 1) H47 fun v214 =>
 BSL 1 1 [.int .i64 0] [(0, v214)] fun cells215 =>
 APP 1 8 (nth xs14 2) (.slc nx48 0 1) (H47.put nx48 (some (.row 1 cells215))) (nx48 + 1) fun v216 H217 nx218 =>
 BSL 1 1 [.int .i64 0] [(0, v147)] fun cells219 =>
 APP 1 8 (nth xs14 3) (.slc nx218 0 1) (H217.put nx218 (some (.row 1 cells219))) (nx218 + 1) fun v220 H221 nx222 =>
 BI .add (nth xs14 4) (.int .i64 1) fun v223 =>
 K13 [nth xs14 0, nth xs14 1, v216, v220, v223] H221 nx222)
 (LD false 1 (.ptr nx16 0) H47 fun v224 =>
 BI .eql v224 (.int .i64 16) fun v225 =>
 CNDC v225
 (LD false 1 (.ptr nx16 1) H47 fun v226 =>
 BSL 1 1 [.int .i64 0] [(0, v226)] fun cells227 =>
 APP 1 8 (nth xs14 2) (.slc nx48 0 1) (H47.put nx48 (some (.row 1 cells227))) (nx48 + 1) fun v228 H229 nx230 =>
 BSL 1 1 [.int .i64 0] [(0, v147)] fun cells231 =>
 APP 1 8 (nth xs14 3) (.slc nx230 0 1) (H229.put nx230 (some (.row 1 cells231))) (nx230 + 1) fun v232 H233 nx234 =>
 BI .add (nth xs14 4) (.int .i64 1) fun v235 =>
 K13 [nth xs14 0, nth xs14 1, v228, v232, v235] H233 nx234)
 (BI .add (nth xs14 4) (.int .i64 1) fun v236 =>
 K13 [nth xs14 0, nth xs14 1, nth xs14 2, nth xs14 3, v236] H47 nx48))))))
def zx (v23 : AV) (Q : QT) (nx16 : Nat) (v20 : AV) (xs14 : List AV) (K13 : J3) (v249 : AV) (H250 : Heap) (nx251 : Nat) : Prop :=
 EX v249 0 fun v252 =>
 EX v249 1 fun v253 =>
 BI .lss v23 v252 fun v254 =>
 CND v254
 (Q (.tup [.nils, .int .i64 10]) H250 nx251)
 (LD false 1 (.ptr nx16 0) H250 fun v255 =>
 BI .eql v255 (.int .i64 18) fun v256 =>
 CND v256
 (BI .gtr v23 (.int .i64 1) fun v257 =>
 CNDC v257
 (Q (.tup [.nils, .int .i64 10]) H250 nx251)
 (BI .sub v23 v252 fun v258 =>
 BI .add v258 v253 fun v259 =>
 BI .gtr v259 (.int .i64 16) fun v260 =>
 CNDC v260
 (Q (.tup [.nils, .int .i64 4]) H250 nx251)
 (LD false 1 (.ptr nx16 0) H250 fun v261 =>
 BI .neq v261 (.int .i64 15) fun v262 =>
 CND v262
 (LD false 1 (.ptr nx16 0) H250 fun v263 =>
 BI .neq v263 (.int .i64 18) fun v264 =>
 CNDC v264
 (BI .add v20 (.int .i64 1) fun v265 =>
 BSL 1 1 [.int .i64 0] [(0, v265)] fun cells266 =>
 APP 1 8 (nth xs14 2) (.slc nx251 0 1) (H250.put nx251 (some (.row 1 cells266))) (nx251 + 1) fun v267 H268 nx269 =>
 BSL 1 1 [.int .i64 0] [(0, v259)] fun cells270 =>
 APP 1 8 (nth xs14 3) (.slc nx269 0 1) (H268.put nx269 (some (.row 1 cells270))) (nx269 + 1) fun v271 H272 nx273 =>
 LD false 1 (.ptr nx16 0) H272 fun v274 =>
 BI .eql v274 (.int .i64 15) fun v275 =>
 CND v275
 (LD false 1 (.ptr nx16 1) H272 fun v276 =>
 BSL 1 1 [.int .i64 0] [(0, v276)] fun cells277 =>
 APP 1 8 v267 (.slc nx273 0 1) (H272.put nx273 (some (.row 1 cells277))) (nx273 + 1) fun v278 H279 nx280 =>
 BSL 1 1 [.int .i64 0] [(0, v259)] fun cells281 =>
 APP 1 8 v271 (.slc nx280 0 1) (H279.put nx280 (some (.row 1 cells281))) (nx280 + 1) fun v282 H283 nx284 =>
 BI .add (nth xs14 4) (.int .i64 1) fun v285 =>
 K13 [nth xs14 0, nth xs14 1, v278, v282, v285] H283 nx284)
 (LD false 1 (.ptr nx16 0) H272 fun v286 =>
 BI .eql v286 (.int .i64 16) fun v287 =>
 CNDC v287
 (LD false 1 (.ptr nx16 1) H272 fun v288 =>
 BSL 1 1 [.int .i64 0] [(0, v288)] fun cells289 =>
 APP 1 8 v267 (.slc nx273 0 1) (H272.put nx273 (some (.row 1 cells289))) (nx273 + 1) fun v290 H291 nx292 =>
 BSL 1 1 [.int .i64 0] [(0, v259)] fun cells293 =>
 APP 1 8 v271 (.slc nx292 0 1) (H291.put nx292 (some (.row 1 cells293))) (nx292 + 1) fun v294 H295 nx296 =>
 BI .add (nth xs14 4) (.int .i64 1) fun v297 =>
 K13 [nth xs14 0, nth xs14 1, v290, v294, v297] H295 nx296)
 (BI .add (nth xs14 4) (.int .i64 1) fun v298 =>
 K13 [nth xs14 0, nth xs14 1, v267, v271, v298] H272 nx273)))
 (LD false 1 (.ptr nx16 0) H250 fun v299 =>
 BI .eql v299 (.int .i64 15) fun v300 =>
 CND v300
 (LD false 1 (.ptr nx16 1) H250 fun v301 =>
 BSL 1 1 [.int .i64 0] [(0, v301)] fun cells302 =>
 APP 1 8 (nth xs14 2) (.slc nx251 0 1) (H250.put nx251 (some (.row 1 cells302))) (nx251 + 1) fun v303 H304 nx305 =>
 BSL 1 1 [.int .i64 0] [(0, v259)] fun cells306 =>
 APP 1 8 (nth xs14 3) (.slc nx305 0 1) (H304.put nx305 (some (.row 1 cells306))) (nx305 + 1) fun v307 H308 nx309 =>
 BI .add (nth xs14 4) (.int .i64 1) fun v310 =>
 K13 [nth xs14 0, nth xs14 1, v303, v307, v310] H308 nx309)
 (LD false 1 (.ptr nx16 0) H250 fun v311 =>
 BI .eql v311 (.int .i64 16) fun v312 =>
 CNDC v312
 (LD false 1 (.ptr nx16 1) H250 fun v313 =>
 BSL 1 1 [.int .i64 0] [(0, v313)] fun cells314 =>
 APP 1 8 (nth xs14 2) (.slc nx251 0 1) (H250.put nx251 (some (.row 1 cells314))) (nx251 + 1) fun v315 H316 nx317 =>
 BSL 1 1 [.int .i64 0] [(0, v259)] fun cells318 =>
 APP 1 8 (nth xs14 3) (.slc nx317 0 1) (H316.put nx317 (some (.row 1 cells318))) (nx317 + 1) fun v319 H320 nx321 =>
 BI .add (nth xs14 4) (.int .i64 1) fun v322 =>
 K13 [nth xs14 0, nth xs14 1, v315, v319, v322] H320 nx321)
 (BI .add (nth xs14 4) (.int .i64 1) fun v323 =>
 K13 [nth xs14 0, nth xs14 1, nth xs14 2, nth xs14 3, v323] H250 nx251))))
 (LD false 1 (.ptr nx16 0) H250 fun v324 =>
 BI .eql v324 (.int .i64 15) fun v325 =>
 CND v325
 (LD false 1 (.ptr nx16 1) H250 fun v326 =>
 BSL 1 1 [.int .i64 0] [(0, v326)] fun cells327 =>
 APP 1 8 (nth xs14 2) (.slc nx251 0 1) (H250.put nx251 (some (.row 1 cells327))) (nx251 + 1) fun v328 H329 nx330 =>
 BSL 1 1 [.int .i64 0] [(0, v259)] fun cells331 =>
 APP 1 8 (nth xs14 3) (.slc nx330 0 1) (H329.put nx330 (some (.row 1 cells331))) (nx330 + 1) fun v332 H333 nx334 =>
 BI .add (nth xs14 4) (.int .i64 1) fun v335 =>
 K13 [nth xs14 0, nth xs14 1, v328, v332, v335] H333 nx334)
 (LD false 1 (.ptr nx16 0) H250 fun v336 =>
 BI .eql v336 (.int .i64 16) fun v337 =>
 CNDC v337
 (LD false 1 (.ptr nx16 1) H250 fun v338 =>
 BSL 1 1 [.int .i64 0] [(0, v338)] fun cells339 =>
 APP 1 8 (nth xs14 2) (.slc nx251 0 1) (H250.put nx251 (some (.row 1 cells339))) (nx251 + 1) fun v340 H341 nx342 =>
 BSL 1 1 [.int .i64 0] [(0, v259)] fun cells343 =>
 APP 1 8 (nth xs14 3) (.slc nx342 0 1) (H341.put nx342 (some (.row 1 cells343))) (nx342 + 1) fun v344 H345 nx346 =>
 BI .add (nth xs14 4) (.int .i64 1) fun v347 =>
 K13 [nth xs14 0, nth xs14 1, v340, v344, v347] H345 nx346)
 (BI .add (nth xs14 4) (.int .i64 1) fun v348 =>
 K13 [nth xs14 0, nth xs14 1, nth xs14 2, nth xs14 3, v348] H250 nx251))))))
 (BI .sub v23 v252 fun v349 =>
 BI .add v349 v253 fun v350 =>
 BI .gtr v350 (.int .i64 16) fun v351 =>
 CNDC v351
 (Q (.tup [.nils, .int .i64 4]) H250 nx251)
 (LD false 1 (.ptr nx16 0) H250 fun v352 =>
 BI .neq v352 (.int .i64 15) fun v353 =>
 CND v353
 (LD false 1 (.ptr nx16 0) H250 fun v354 =>
 BI .neq v354 (.int .i64 18) fun v355 =>
 CNDC v355
 (BI .add v20 (.int .i64 1) fun v356 =>
 BSL 1 1 [.int .i64 0] [(0, v356)] fun cells357 =>
 APP 1 8 (nth xs14 2) (.slc nx251 0 1) (H250.put nx251 (some (.row 1 cells357))) (nx251 + 1) fun v358 H359 nx360 =>
 BSL 1 1 [.int .i64 0] [(0, v350)] fun cells361 =>
 APP 1 8 (nth xs14 3) (.slc nx360 0 1) (H359.put nx360 (some (.row 1 cells361))) (nx360 + 1) fun v362 H363 nx364 =>
 LD false 1 (.ptr nx16 0) H363 fun v365 =>
 BI .eql v365 (.int .i64 15) fun v366 =>
 CND v366
 (LD false 1 (.ptr nx16 1) H363 fun v367 =>
 BSL 1 1 [.int .i64 0] [(0, v367)] fun cells368 =>
 APP 1 8 v358 (.slc nx364 0 1) (H363.put nx364 (some (.row 1 cells368))) (nx364 + 1) fun v369 H370 nx371 =>
 BSL 1 1 [.int .i64 0] [(0, v350)] fun cells372 =>
 APP 1 8 v362 (.slc nx371 0 1) (H370.put nx371 (some (.row 1 cells372))) (nx371 + 1) fun v373 H374 nx375 =>
 BI .add (nth xs14 4) (.int .i64 1) fun v376 =>
 K13 [nth xs14 0, nth xs14 1, v369, v373, v376] H374 nx375)
 (LD false 1 (.ptr nx16 0) H363 fun v377 =>
 BI .eql v377 (.int .i64 16) fun v378 =>
 CNDC v378
 (LD false 1 (.ptr nx16 1) H363 fun v379 =>
 BSL 1 1 [.int .i64 0] [(0, v379)] fun cells380 =>
 APP 1 8 v358 (.slc nx364 0 1) (H363.put nx364 (some (.row 1 cells380))) (nx364 + 1) fun v381 H382 nx383 =>
 BSL 1 1 [.int .i64 0] [(0, v350)] fun cells384 =>
 APP 1 8 v362 (.slc nx383 0 1) (H382.put nx383 (some (.row 1 cells384))) (nx383 + 1) fun v385 H386 nx387 =>
 BI .add (nth xs14 4) (.int .i64 1) fun v388 =>
 K13 [nth xs14 0, nth xs14 1, v381, v385, v388] H386 nx387)
 (BI .add (nth xs14 4) (.int .i64 1) fun v389 =>
 K13 [nth xs14 0, nth xs14 1, v358, v362, v389] H363 nx364)))
 (LD false 1 (.ptr nx16 0) H250 fun v390 =>
 BI .eql v390 (.int .i64 15) fun v391 =>
 CND v391
 (LD false 1 (.ptr nx16 1) H250 fun v392 =>
 BSL 1 1 [.int .i64 0] [(0, v392)] fun cells393 =>
 APP 1 8 (nth xs14 2) (.slc nx251 0 1) (H250.put nx251 (some (.row 1 cells393))) (nx251 + 1) fun v394 H395 nx396 =>
 BSL 1 1 [.int .i64 0] [(0, v350)] fun cells397 =>
 APP 1 8 (nth xs14 3) (.slc nx396 0 1) (H395.put nx396 (some (.row 1 cells397))) (nx396 + 1) fun v398 H399 nx400 =>
 BI .add (nth xs14 4) (.int .i64 1) fun v401 =>
 K13 [nth xs14 0, nth xs14 1, v394, v398, v401] H399 nx400)
 (LD false 1 (.ptr nx16 0) H250 fun v402 =>
 BI .eql v402 (.int .i64 16) fun v403 =>
 CNDC v403
 (LD false 1 (.ptr nx16 1) H250 fun v404 =>
 BSL 1 1 [.int .i64 0] [(0, v404)] fun cells405 =>
 APP 1 8 (nth xs14 2) (.slc nx251 0 1) (H250.put nx251 (some (.row 1 cells405))) (nx251 + 1) fun v406 H407 nx408 =>
 BSL 1 1 [.int .i64 0] [(0, v350)] fun cells409 =>
 APP 1 8 (nth xs14 3) (.slc nx408 0 1) (H407.put nx408 (some (.row 1 cells409))) (nx408 + 1) fun v410 H411 nx412 =>
 BI .add (nth xs14 4) (.int .i64 1) fun v413 =>
 K13 [nth xs14 0, nth xs14 1, v406, v410, v413] H411 nx412)
 (BI .add (nth xs14 4) (.int .i64 1) fun v414 =>
 K13 [nth xs14 0, nth xs14 1, nth xs14 2, nth xs14 3, v414] H250 nx251))))
 (LD false 1 (.ptr nx16 0) H250 fun v415 =>
 BI .eql v415 (.int .i64 15) fun v416 =>
 CND v416
 (LD false 1 (.ptr nx16 1) H250 fun v417 =>
 BSL 1 1 [.int .i64 0] [(0, v417)] fun cells418 =>
 APP 1 8 (nth xs14 2) (.slc nx251 0 1) (H250.put nx251 (some (.row 1 cells418))) (nx251 + 1) fun v419 H420 nx421 =>
 BSL 1 1 [.int .i64 0] [(0, v350)] fun cells422 =>
 APP 1 8 (nth xs14 3) (.slc nx421 0 1) (H420.put nx421 (some (.row 1 cells422))) (nx421 + 1) fun v423 H424 nx425 =>
 BI .add (nth xs14 4) (.int .i64 1) fun v426 =>
 K13 [nth xs14 0, nth xs14 1, v419, v423, v426] H424 nx425)
 (LD false 1 (.ptr nx16 0) H250 fun v427 =>
 BI .eql v427 (.int .i64 16) fun v428 =>
 CNDC v428
 (LD false 1 (.ptr nx16 1) H250 fun v429 =>
 BSL 1 1 [.int .i64 0] [(0, v429)] fun cells430 =>
 APP 1 8 (nth xs14 2) (.slc nx251 0 1) (H250.put nx251 (some (.row 1 cells430))) (nx251 + 1) fun v431 H432 nx433 =>
 BSL 1 1 [.int .i64 0] [(0, v350)] fun cells434 =>
 APP 1 8 (nth xs14 3) (.slc nx433 0 1) (H432.put nx433 (some (.row 1 cells434))) (nx433 + 1) fun v435 H436 nx437 =>
 BI .add (nth xs14 4) (.int .i64 1) fun v438 =>
 K13 [nth xs14 0, nth xs14 1, v431, v435, v438] H436 nx437)
 (BI .add (nth xs14 4) (.int .i64 1) fun v439 =>
 K13 [nth xs14 0, nth xs14 1, nth xs14 2, nth xs14 3, v439] H250 nx251))))))
def zan (Q : QT) (K13 : J3) (xs14 : List AV) (H15 : Heap) (nx16 : Nat) : Prop :=
 LNL (nth xs14 2) fun v17 =>
 BI .lss (nth xs14 4) v17 fun v18 =>
 CNDC v18
 (IA 1 (nth xs14 2) (nth xs14 4) fun v19 =>
 LDR false 1 v19 H15 fun v20 _ =>
 IA 1 (nth xs14 3) (nth xs14 4) fun v22 =>
 LDR false 1 v22 H15 fun v23 _ =>
 BI .lss v20 (.int .i64 0) fun v25 =>
 CND v25
 (Q (.tup [.nils, .int .i64 8]) H15 nx16)
 (LNL (nth xs14 1) fun v26 =>
 BI .geq v20 v26 fun v27 =>
 CNDC v27
 (Q (.tup [.nils, .int .i64 8]) H15 nx16)
 (IA 1 (nth xs14 1) v20 fun v28 =>
 LD false 1 v28 H15 fun v29 =>
 BI .geq v29 (.int .i64 0) fun v30 =>
 CND v30
 (IA 1 (nth xs14 1) v20 fun v31 =>
 LD false 1 v31 H15 fun v32 =>
 BI .neq v32 v23 fun v33 =>
 CNDC v33
 (Q (.tup [.nils, .int .i64 10]) H15 nx16)
 (IA 1 (nth xs14 1) v20 fun v34 =>
 LD false 1 v34 H15 fun v35 =>
 BI .geq v35 (.int .i64 0) fun v36 =>
 CNDC v36
 (BI .add (nth xs14 4) (.int .i64 1) fun v37 =>
 K13 [nth xs14 0, nth xs14 1, nth xs14 2, nth xs14 3, v37] H15 nx16)
 (IA 1 (nth xs14 1) v20 fun v38 =>
 ST 1 v38 v23 H15 fun H39 =>
 FA 2 (nth xs14 0) fun v40 =>
 LD false 1 v40 H39 fun v41 =>
 IA 3 v41 v20 fun v42 =>
 LD true 3 v42 H39 fun v43 =>
 ST 3 (.ptr nx16 0) v43 (H39.put nx16 (some (.row 3 [.int .i64 0, .int .i64 0, .int .i64 0]))) fun H44 =>
 LD true 3 (.ptr nx16 0) H44 fun v45 =>
 za Tryz.prog 47 [v45] H44 (nx16 + 1) (zqf v23 Q nx16 v20 xs14 K13))))
 (IA 1 (nth xs14 1) v20 fun v237 =>
 LD false 1 v237 H15 fun v238 =>
 BI .geq v238 (.int .i64 0) fun v239 =>
 CNDC v239
 (BI .add (nth xs14 4) (.int .i64 1) fun v240 =>
 K13 [nth xs14 0, nth xs14 1, nth xs14 2, nth xs14 3, v240] H15 nx16)
 (IA 1 (nth xs14 1) v20 fun v241 =>
 ST 1 v241 v23 H15 fun H242 =>
 FA 2 (nth xs14 0) fun v243 =>
 LD false 1 v243 H242 fun v244 =>
 IA 3 v244 v20 fun v245 =>
 LD true 3 v245 H242 fun v246 =>
 ST 3 (.ptr nx16 0) v246 (H242.put nx16 (some (.row 3 [.int .i64 0, .int .i64 0, .int .i64 0]))) fun H247 =>
 LD true 3 (.ptr nx16 0) H247 fun v248 =>
 za Tryz.prog 47 [v248] H247 (nx16 + 1) (zx v23 Q nx16 v20 xs14 K13))))))
 (Q (.tup [nth xs14 1, .int .i64 0]) H15 nx16)
def zil (Q : QT) (K5 : J3) (xs6 : List AV) (H7 : Heap) (nx8 : Nat) : Prop :=
 BI .lss (nth xs6 3) (nth xs6 2) fun v9 =>
 CNDC v9
 (IA 1 (nth xs6 1) (nth xs6 3) fun v10 =>
 ST 1 v10 (.int .i64 (-1)) H7 fun H11 =>
 BI .add (nth xs6 3) (.int .i64 1) fun v12 =>
 K5 [nth xs6 0, nth xs6 1, nth xs6 2, v12] H11 nx8)
 (LP (zan Q) [nth xs6 0, nth xs6 1, .slc nx8 0 1, .slc (nx8 + 1) 0 1, .int .i64 0] ((H7.put nx8 (some (.row 1 [.int .i64 0]))).put ((nx8 + 1)) (some (.row 1 [.int .i64 0]))) (nx8 + 2))
def zik (a0 : AV) (H : Heap) (nx : Nat) (Q : QT) : Prop :=
 a0.sure = true ∧
 LD false 1 (.ptr nx 2) (H.put nx (some (.row a0.cells.length a0.cells))) fun v1 =>
 LNL v1 fun v2 =>
 MK 8 v2 v2 fun n3 =>
 LNL (.slc (nx + 1) 0 n3) fun v4 =>
 LP (zil Q) [.ptr nx 0, .slc (nx + 1) 0 n3, v4, .int .i64 0] ((H.put nx (some (.row a0.cells.length a0.cells))).put ((nx + 1)) (some (.row 1 (List.replicate n3 [.int .i64 0]).flatten))) (nx + 2)
theorem zmp (a0 : AV) (H : Heap) (nx : Nat) (Q : QT) : zik a0 H nx Q → za Tryz.prog 17 [a0] H nx Q :=
  zj (lv := lvOf [(2, 3, [1, 4, 19, 20]), (2, 9, [1, 4, 6, 7, 8])]) (c := zp Tryz.f17) zac zah mixed Tryz.func17 (by kernel_rfl) (by kernel_rfl) (by kernel_rfl) (by kernel_rfl) (by kernel_rfl)
def zlt (Q : QT) (K2 : J3) (xs3 : List AV) (H4 : Heap) (nx5 : Nat) : Prop :=
 BI .lss (nth xs3 2) (nth xs3 1) fun v6 =>
 CNDC v6
 (IX (nth xs3 0) (nth xs3 2) fun v7 =>
 BI .lss v7 (.int .u8 32) fun v8 =>
 CND v8
 (Q (.bool false) H4 nx5)
 (IX (nth xs3 0) (nth xs3 2) fun v9 =>
 BI .gtr v9 (.int .u8 126) fun v10 =>
 CND v10
 (Q (.bool false) H4 nx5)
 (IX (nth xs3 0) (nth xs3 2) fun v11 =>
 BI .eql v11 (.int .u8 39) fun v12 =>
 CNDC v12
 (Q (.bool false) H4 nx5)
 (BI .add (nth xs3 2) (.int .i64 1) fun v13 =>
 K2 [nth xs3 0, nth xs3 1, v13] H4 nx5))))
 (LNS (nth xs3 0) fun v14 =>
 BI .lss v14 (.int .i64 13) fun v15 =>
 Q v15 H4 nx5)
def zls (a0 : AV) (H : Heap) (nx : Nat) (Q : QT) : Prop :=
 LNS a0 fun v1 =>
 LP (zlt Q) [a0, v1, .int .i64 0] H nx
theorem zqg (a0 : AV) (H : Heap) (nx : Nat) (Q : QT) : zls a0 H nx Q → za Tryz.prog 46 [a0] H nx Q :=
  zj (lv := lvOf [(2, 2, [0, 5, 6])]) (c := zp Tryz.f46) zac zah mixed Tryz.func46 (by kernel_rfl) (by kernel_rfl) (by kernel_rfl) (by kernel_rfl) (by kernel_rfl)
def zii (Q : QT) (xs13 : List AV) (K12 : J3) (v19 : AV) (H20 : Heap) (nx21 : Nat) : Prop :=
 UO .not v19 fun v22 =>
 CNDC v22
 (Q (.int .i64 7) H20 nx21)
 (BI .add (nth xs13 3) (.int .i64 1) fun v23 =>
 K12 [nth xs13 0, nth xs13 1, nth xs13 2, v23] H20 nx21)
def zes (Q : QT) (K70 : J3) (xs83 : List AV) (H84 : Heap) (nx85 : Nat) : Prop :=
 FA 1 (nth xs83 2) fun v87 =>
 LDR false 1 v87 H84 fun v88 _ =>
 BI .lss v88 (nth xs83 3) fun v90 =>
 CND v90
 (Q (.int .i64 3) H84 nx85)
 (FA 1 (nth xs83 2) fun v91 =>
 LDR false 1 v91 H84 fun v92 _ =>
 BI .gtr v92 (nth xs83 4) fun v94 =>
 CND v94
 (Q (.int .i64 3) H84 nx85)
 (FA 0 (nth xs83 2) fun v95 =>
 LDR false 1 v95 H84 fun v96 _ =>
 BI .eql v96 (.int .i64 17) fun v98 =>
 CND v98
 (FA 2 (nth xs83 2) fun v99 =>
 LDR false 1 v99 H84 fun v100 _ =>
 FA 0 (nth xs83 0) fun v102 =>
 LDR false 1 v102 H84 fun v103 _ =>
 FA 1 (nth xs83 2) fun v105 =>
 LDR false 1 v105 H84 fun v106 _ =>
 IA 3 v103 v106 fun v108 =>
 FA 0 v108 fun v109 =>
 LDR false 1 v109 H84 fun v110 _ =>
 BI .neq v100 v110 fun v112 =>
 CND v112
 (Q (.int .i64 3) H84 nx85)
 (FA 0 (nth xs83 2) fun v113 =>
 LDR false 1 v113 H84 fun v114 _ =>
 BI .neq v114 (.int .i64 17) fun v116 =>
 CND v116
 (FA 2 (nth xs83 2) fun v117 =>
 LDR false 1 v117 H84 fun v118 _ =>
 BI .neq v118 (.int .i64 0) fun v120 =>
 CNDC v120
 (Q (.int .i64 3) H84 nx85)
 (BI .add (nth xs83 10) (.int .i64 1) fun v121 =>
 K70 [nth xs83 0, nth xs83 1, nth xs83 5, nth xs83 6, nth xs83 7, nth xs83 8, nth xs83 9, v121] H84 nx85))
 (BI .add (nth xs83 10) (.int .i64 1) fun v122 =>
 K70 [nth xs83 0, nth xs83 1, nth xs83 5, nth xs83 6, nth xs83 7, nth xs83 8, nth xs83 9, v122] H84 nx85)))
 (FA 0 (nth xs83 2) fun v123 =>
 LDR false 1 v123 H84 fun v124 _ =>
 BI .neq v124 (.int .i64 17) fun v126 =>
 CND v126
 (FA 2 (nth xs83 2) fun v127 =>
 LDR false 1 v127 H84 fun v128 _ =>
 BI .neq v128 (.int .i64 0) fun v130 =>
 CNDC v130
 (Q (.int .i64 3) H84 nx85)
 (BI .add (nth xs83 10) (.int .i64 1) fun v131 =>
 K70 [nth xs83 0, nth xs83 1, nth xs83 5, nth xs83 6, nth xs83 7, nth xs83 8, nth xs83 9, v131] H84 nx85))
 (BI .add (nth xs83 10) (.int .i64 1) fun v132 =>
 K70 [nth xs83 0, nth xs83 1, nth xs83 5, nth xs83 6, nth xs83 7, nth xs83 8, nth xs83 9, v132] H84 nx85))))
def zij (v82 : AV) (xs71 : List AV) (nx73 : Nat) (H77 : Heap) (j86 : J3) : Prop :=
 BI .eql v82 (.int .i64 1) fun v133 =>
 CNDC v133
 (j86 [nth xs71 0, nth xs71 1, .ptr nx73 0, .int .i64 (-1073741824), .int .i64 1073741824, nth xs71 2, nth xs71 3, nth xs71 4, nth xs71 5, nth xs71 6, nth xs71 7] H77 (nx73 + 1))
 (BI .eql v82 (.int .i64 2) fun v134 =>
 CNDC v134
 (FA 1 (nth xs71 0) fun v135 =>
 LD false 1 v135 H77 fun v136 =>
 LNL v136 fun v137 =>
 BI .sub v137 (.int .i64 1) fun v138 =>
 j86 [nth xs71 0, nth xs71 1, .ptr nx73 0, .int .i64 0, v138, nth xs71 2, nth xs71 3, nth xs71 4, nth xs71 5, nth xs71 6, nth xs71 7] H77 (nx73 + 1))
 (BI .eql v82 (.int .i64 3) fun v139 =>
 CNDC v139
 (FA 1 (nth xs71 1) fun v140 =>
 LD false 1 v140 H77 fun v141 =>
 BI .sub v141 (.int .i64 1) fun v142 =>
 j86 [nth xs71 0, nth xs71 1, .ptr nx73 0, .int .i64 0, v142, nth xs71 2, nth xs71 3, nth xs71 4, nth xs71 5, nth xs71 6, nth xs71 7] H77 (nx73 + 1))
 (BI .eql v82 (.int .i64 4) fun v143 =>
 CNDC v143
 (FA 1 (nth xs71 1) fun v144 =>
 LD false 1 v144 H77 fun v145 =>
 BI .sub v145 (.int .i64 1) fun v146 =>
 j86 [nth xs71 0, nth xs71 1, .ptr nx73 0, .int .i64 0, v146, nth xs71 2, nth xs71 3, nth xs71 4, nth xs71 5, nth xs71 6, nth xs71 7] H77 (nx73 + 1))
 (BI .eql v82 (.int .i64 5) fun v147 =>
 CNDC v147
 (j86 [nth xs71 0, nth xs71 1, .ptr nx73 0, .int .i64 1, .int .i64 5, nth xs71 2, nth xs71 3, nth xs71 4, nth xs71 5, nth xs71 6, nth xs71 7] H77 (nx73 + 1))
 (BI .eql v82 (.int .i64 15) fun v148 =>
 CNDC v148
 (FA 2 (nth xs71 1) fun v149 =>
 LD false 1 v149 H77 fun v150 =>
 LNL v150 fun v151 =>
 BI .sub v151 (.int .i64 1) fun v152 =>
 j86 [nth xs71 0, nth xs71 1, .ptr nx73 0, .int .i64 0, v152, nth xs71 2, nth xs71 3, nth xs71 4, nth xs71 5, nth xs71 6, nth xs71 7] H77 (nx73 + 1))
 (BI .eql v82 (.int .i64 16) fun v153 =>
 CNDC v153
 (FA 2 (nth xs71 1) fun v154 =>
 LD false 1 v154 H77 fun v155 =>
 LNL v155 fun v156 =>
 BI .sub v156 (.int .i64 1) fun v157 =>
 j86 [nth xs71 0, nth xs71 1, .ptr nx73 0, .int .i64 0, v157, nth xs71 2, nth xs71 3, nth xs71 4, nth xs71 5, nth xs71 6, nth xs71 7] H77 (nx73 + 1))
 (BI .eql v82 (.int .i64 17) fun v158 =>
 CNDC v158
 (FA 0 (nth xs71 0) fun v159 =>
 LD false 1 v159 H77 fun v160 =>
 LNL v160 fun v161 =>
 BI .sub v161 (.int .i64 1) fun v162 =>
 j86 [nth xs71 0, nth xs71 1, .ptr nx73 0, .int .i64 0, v162, nth xs71 2, nth xs71 3, nth xs71 4, nth xs71 5, nth xs71 6, nth xs71 7] H77 (nx73 + 1))
 (j86 [nth xs71 0, nth xs71 1, .ptr nx73 0, .int .i64 0, .int .i64 0, nth xs71 2, nth xs71 3, nth xs71 4, nth xs71 5, nth xs71 6, nth xs71 7] H77 (nx73 + 1)))))))))
def zih (Q : QT) (xs71 : List AV) (K60 : J3) (v164 : AV) (H165 : Heap) (nx166 : Nat) : Prop :=
 EX v164 0 fun _ =>
 EX v164 1 fun v168 =>
 BI .neq v168 (.int .i64 0) fun v169 =>
 CNDC v169
 (Q v168 H165 nx166)
 (BI .add (nth xs71 4) (.int .i64 1) fun v170 =>
 K60 [nth xs71 0, nth xs71 2, nth xs71 3, v170] H165 nx166)
def zer (Q : QT) (K60 : J3) (K70 : J3) (xs71 : List AV) (H72 : Heap) (nx73 : Nat) : Prop :=
 BI .lss (nth xs71 7) (nth xs71 6) fun v74 =>
 CNDC v74
 (IA 3 (nth xs71 5) (nth xs71 7) fun v75 =>
 LD true 3 v75 H72 fun v76 =>
 ST 3 (.ptr nx73 0) v76 (H72.put nx73 (some (.row 3 [.int .i64 0, .int .i64 0, .int .i64 0]))) fun H77 =>
 LD false 1 (.ptr nx73 0) H77 fun v78 =>
 BI .lss v78 (.int .i64 1) fun v79 =>
 CND v79
 (Q (.int .i64 1) H77 (nx73 + 1))
 (LD false 1 (.ptr nx73 0) H77 fun v80 =>
 BI .gtr v80 (.int .i64 19) fun v81 =>
 CNDC v81
 (Q (.int .i64 1) H77 (nx73 + 1))
 (LD false 1 (.ptr nx73 0) H77 fun v82 =>
 JN (zes Q K70) (zij v82 xs71 nx73 H77))))
 (LD true 3 (nth xs71 1) H72 fun v163 =>
 za Tryz.prog 17 [v163] H72 nx73 (zih Q xs71 K60))
def zeq (Q : QT) (K60 : J3) (xs61 : List AV) (H62 : Heap) (nx63 : Nat) : Prop :=
 BI .lss (nth xs61 3) (nth xs61 2) fun v64 =>
 CNDC v64
 (IA 3 (nth xs61 1) (nth xs61 3) fun v65 =>
 LD true 3 v65 H62 fun v66 =>
 ST 3 (.ptr nx63 0) v66 (H62.put nx63 (some (.row 3 [.int .i64 0, .int .i64 0, .nils]))) fun H67 =>
 LD false 1 (.ptr nx63 2) H67 fun v68 =>
 LNL v68 fun v69 =>
 LP (zer Q K60) [nth xs61 0, .ptr nx63 0, nth xs61 1, nth xs61 2, nth xs61 3, v68, v69, .int .i64 0] H67 (nx63 + 1))
 (Q (.int .i64 0) H62 nx63)
def zep (Q : QT) (K33 : J3) (xs34 : List AV) (H35 : Heap) (nx36 : Nat) : Prop :=
 BI .lss (nth xs34 3) (nth xs34 2) fun v37 =>
 CNDC v37
 (IA 3 (nth xs34 1) (nth xs34 3) fun v38 =>
 LD true 3 v38 H35 fun v39 =>
 ST 3 (.ptr nx36 0) v39 (H35.put nx36 (some (.row 3 [.int .i64 0, .int .i64 0, .nils]))) fun H40 =>
 LD false 1 (.ptr nx36 0) H40 fun v41 =>
 BI .lss v41 (.int .i64 0) fun v42 =>
 CND v42
 (Q (.int .i64 3) H40 (nx36 + 1))
 (LD false 1 (.ptr nx36 0) H40 fun v43 =>
 BI .gtr v43 (.int .i64 4) fun v44 =>
 CND v44
 (Q (.int .i64 3) H40 (nx36 + 1))
 (LD false 1 (.ptr nx36 1) H40 fun v45 =>
 LD false 1 (.ptr nx36 0) H40 fun v46 =>
 BI .lss v45 v46 fun v47 =>
 CND v47
 (Q (.int .i64 3) H40 (nx36 + 1))
 (LD false 1 (.ptr nx36 1) H40 fun v48 =>
 BI .gtr v48 (.int .i64 8) fun v49 =>
 CND v49
 (Q (.int .i64 3) H40 (nx36 + 1))
 (LD false 1 (.ptr nx36 2) H40 fun v50 =>
 LNL v50 fun v51 =>
 BI .eql v51 (.int .i64 0) fun v52 =>
 CND v52
 (Q (.int .i64 3) H40 (nx36 + 1))
 (LD false 1 (.ptr nx36 2) H40 fun v53 =>
 LNL v53 fun v54 =>
 BI .gtr v54 (.int .i64 200) fun v55 =>
 CNDC v55
 (Q (.int .i64 3) H40 (nx36 + 1))
 (BI .add (nth xs34 3) (.int .i64 1) fun v56 =>
 K33 [nth xs34 0, nth xs34 1, nth xs34 2, v56] H40 (nx36 + 1))))))))
 (FA 0 (nth xs34 0) fun v57 =>
 LD false 1 v57 H35 fun v58 =>
 LNL v58 fun v59 =>
 LP (zeq Q) [nth xs34 0, v58, v59, .int .i64 0] H35 nx36)
def zeo (Q : QT) (K12 : J3) (xs13 : List AV) (H14 : Heap) (nx15 : Nat) : Prop :=
 BI .lss (nth xs13 3) (nth xs13 2) fun v16 =>
 CNDC v16
 (IA 1 (nth xs13 1) (nth xs13 3) fun v17 =>
 LD false 1 v17 H14 fun v18 =>
 za Tryz.prog 46 [v18] H14 nx15 (zii Q xs13 K12))
 (FA 0 (nth xs13 0) fun v24 =>
 LD false 1 v24 H14 fun v25 =>
 IA 3 v25 (.int .i64 0) fun v26 =>
 FA 0 v26 fun v27 =>
 LD false 1 v27 H14 fun v28 =>
 BI .neq v28 (.int .i64 0) fun v29 =>
 CNDC v29
 (Q (.int .i64 10) H14 nx15)
 (FA 0 (nth xs13 0) fun v30 =>
 LD false 1 v30 H14 fun v31 =>
 LNL v31 fun v32 =>
 LP (zep Q) [nth xs13 0, v31, v32, .int .i64 0] H14 nx15))
def zif (a0 : AV) (H : Heap) (nx : Nat) (Q : QT) : Prop :=
 a0.sure = true ∧
 LD false 1 (.ptr nx 0) (H.put nx (some (.row a0.cells.length a0.cells))) fun v1 =>
 LNL v1 fun v2 =>
 BI .eql v2 (.int .i64 0) fun v3 =>
 CND v3
 (Q (.int .i64 5) (H.put nx (some (.row a0.cells.length a0.cells))) (nx + 1))
 (LD false 1 (.ptr nx 0) (H.put nx (some (.row a0.cells.length a0.cells))) fun v4 =>
 LNL v4 fun v5 =>
 BI .gtr v5 (.int .i64 5) fun v6 =>
 CNDC v6
 (Q (.int .i64 5) (H.put nx (some (.row a0.cells.length a0.cells))) (nx + 1))
 (LD false 1 (.ptr nx 1) (H.put nx (some (.row a0.cells.length a0.cells))) fun v7 =>
 LNL v7 fun v8 =>
 BI .gtr v8 (.int .i64 16) fun v9 =>
 CNDC v9
 (Q (.int .i64 4) (H.put nx (some (.row a0.cells.length a0.cells))) (nx + 1))
 (LD false 1 (.ptr nx 1) (H.put nx (some (.row a0.cells.length a0.cells))) fun v10 =>
 LNL v10 fun v11 =>
 LP (zeo Q) [.ptr nx 0, v10, v11, .int .i64 0] (H.put nx (some (.row a0.cells.length a0.cells))) (nx + 1))))
theorem zmo (a0 : AV) (H : Heap) (nx : Nat) (Q : QT) : zif a0 H nx Q → za Tryz.prog 16 [a0] H nx Q :=
  zj (lv := lvOf [(1, 8, [1, 8, 10, 11, 12, 87, 88, 89, 94, 95, 96]), (2, 6, [1, 30, 31, 32]), (2, 14, [1, 47, 48, 49]), (2, 20, [1, 87, 88, 89]), (2, 23, [1, 8, 87, 88, 89, 94, 95, 96])]) (c := zp Tryz.f16) zac zah mixed Tryz.func16 (by kernel_rfl) (by kernel_rfl) (by kernel_rfl) (by kernel_rfl) (by kernel_rfl)
def zkh (Q : QT) (xs126 : List AV) (K125 : J3) (v137 : AV) (H138 : Heap) (nx139 : Nat) : Prop :=
 BI .neq v137 (.int .i64 0) fun v140 =>
 CNDC v140
 (Q v137 H138 nx139)
 (BI .add (nth xs126 7) (.int .i64 1) fun v141 =>
 K125 [nth xs126 0, nth xs126 1, nth xs126 2, nth xs126 3, nth xs126 4, nth xs126 5, nth xs126 6, v141] H138 nx139)
def zfz (Q : QT) (K54 : J3) (K125 : J3) (xs126 : List AV) (H127 : Heap) (nx128 : Nat) : Prop :=
 BI .lss (nth xs126 7) (nth xs126 6) fun v129 =>
 CNDC v129
 (IA 3 (nth xs126 5) (nth xs126 7) fun v130 =>
 LD true 3 v130 H127 fun v131 =>
 ST 3 (.ptr nx128 0) v131 (H127.put nx128 (some (.row 3 [.int .i64 0, .int .i64 0, .str []]))) fun H132 =>
 LD true 3 (.ptr nx128 0) H132 fun v133 =>
 FA 5 (nth xs126 1) fun v134 =>
 LD false 1 v134 H132 fun v135 =>
 LNL v135 fun v136 =>
 za Tryz.prog 18 [v133, v136] H132 (nx128 + 1) (zkh Q xs126 K125))
 (BI .add (nth xs126 4) (.int .i64 1) fun v142 =>
 K54 [nth xs126 0, nth xs126 1, nth xs126 2, nth xs126 3, v142] H127 nx128)
def zbo (Q : QT) (j104 : J3) (xs143 : List AV) (H144 : Heap) (nx145 : Nat) : Prop :=
 CNDC (nth xs143 11)
 (BI .sub (nth xs143 6) (.int .i64 1) fun v147 =>
 FA 1 (nth xs143 3) fun v148 =>
 LD false 1 v148 H144 fun v149 =>
 BI .eql v149 (.int .i64 0) fun v150 =>
 CNDC v150
 (Q (.int .i64 10) H144 nx145)
 (FA 2 (nth xs143 4) fun v151 =>
 LD false 1 v151 H144 fun v152 =>
 FA 1 (nth xs143 3) fun v153 =>
 LD false 1 v153 H144 fun v154 =>
 BI .sub v154 (.int .i64 1) fun v155 =>
 IA 3 v152 v155 fun v156 =>
 LD true 3 v156 H144 fun v157 =>
 ST 3 (.ptr nx145 0) v157 (H144.put nx145 (some (.row 3 [.int .i64 0, .int .i64 0, .int .i64 0]))) fun H158 =>
 FA 1 (nth xs143 3) fun v159 =>
 LD false 1 v159 H158 fun v160 =>
 BI .sub v160 (.int .i64 1) fun v161 =>
 IA 1 (nth xs143 5) v161 fun v162 =>
 LD false 1 v162 H158 fun v163 =>
 BI .geq v163 (.int .i64 0) fun v164 =>
 CNDC (nth xs143 7)
 (CND v164
 (LD false 1 (.ptr nx145 0) H158 fun v165 =>
 BI .eql v165 (.int .i64 13) fun v166 =>
 UO .not v166 fun v167 =>
 CNDC v167
 (Q (.int .i64 10) H158 (nx145 + 1))
 (j104 [nth xs143 0, nth xs143 1, nth xs143 3, v147, nth xs143 8, nth xs143 9, nth xs143 10] H158 (nx145 + 1)))
 (UO .not (.bool false) fun v168 =>
 CNDC v168
 (Q (.int .i64 10) H158 (nx145 + 1))
 (j104 [nth xs143 0, nth xs143 1, nth xs143 3, v147, nth xs143 8, nth xs143 9, nth xs143 10] H158 (nx145 + 1))))
 (CND v164
 (LDR false 1 (.ptr nx145 0) H158 fun v169 _ =>
 BI .eql v169 (.int .i64 17) fun v171 =>
 CND v171
 (LDR false 1 (.ptr nx145 1) H158 fun v172 _ =>
 FA 4 (nth xs143 1) fun v174 =>
 LDR false 1 v174 H158 fun v175 _ =>
 BI .add (nth xs143 2) (.int .i64 1) fun v177 =>
 IA 4 v175 v177 fun v178 =>
 FA 0 v178 fun v179 =>
 LDR false 1 v179 H158 fun v180 _ =>
 BI .eql v172 v180 fun v182 =>
 UO .not v182 fun v183 =>
 CNDC v183
 (Q (.int .i64 10) H158 (nx145 + 1))
 (j104 [nth xs143 0, nth xs143 1, nth xs143 3, v147, nth xs143 8, nth xs143 9, nth xs143 10] H158 (nx145 + 1)))
 (UO .not (.bool false) fun v184 =>
 CNDC v184
 (Q (.int .i64 10) H158 (nx145 + 1))
 (j104 [nth xs143 0, nth xs143 1, nth xs143 3, v147, nth xs143 8, nth xs143 9, nth xs143 10] H158 (nx145 + 1))))
 (UO .not (.bool false) fun v185 =>
 CNDC v185
 (Q (.int .i64 10) H158 (nx145 + 1))
 (j104 [nth xs143 0, nth xs143 1, nth xs143 3, v147, nth xs143 8, nth xs143 9, nth xs143 10] H158 (nx145 + 1))))))
 (j104 [nth xs143 0, nth xs143 1, nth xs143 3, nth xs143 6, nth xs143 8, nth xs143 9, nth xs143 10] H144 nx145)
def zgb (v100 : AV) (xs55 : List AV) (nx57 : Nat) (v91 : AV) (v95 : AV) (H89 : Heap) (nx90 : Nat) (j146 : J3) : Prop :=
 UO .not v100 fun v186 =>
 CND v186
 (j146 [nth xs55 0, nth xs55 1, nth xs55 4, .ptr nx57 0, .ptr (nx57 + 1) 0, v91, v95, v100, nth xs55 2, nth xs55 3, nth xs55 4, .bool true] H89 nx90)
 (j146 [nth xs55 0, nth xs55 1, nth xs55 4, .ptr nx57 0, .ptr (nx57 + 1) 0, v91, v95, v100, nth xs55 2, nth xs55 3, nth xs55 4, nth xs55 0] H89 nx90)
def zaw (Q : QT) (K54 : J3) (xs101 : List AV) (H102 : Heap) (nx103 : Nat) : Prop :=
 BI .lss (nth xs101 3) (.int .i64 0) fun v105 =>
 CND v105
 (Q (.int .i64 10) H102 nx103)
 (FA 3 (nth xs101 2) fun v106 =>
 LD false 1 v106 H102 fun v107 =>
 LNL v107 fun v108 =>
 BI .neq (nth xs101 3) v108 fun v109 =>
 CNDC v109
 (Q (.int .i64 10) H102 nx103)
 (FA 2 (nth xs101 2) fun v110 =>
 LDR false 1 v110 (H102.put nx103 (some (.row 3 []))) fun v111 rd112 =>
 zt 3 32 (.slc nx103 0 0) v111 (H102.put nx103 (some (.row 3 []))) (nx103 + 1) fun v113 _ fr115 D116 =>
 FA 3 (nth xs101 2) fun v117 =>
 LDR false 1 v117 ((H102.put nx103 (some (.row 3 []))).apply D116) fun v118 rd119 =>
 zt 3 32 v113 v118 ((H102.put nx103 (some (.row 3 []))).apply D116) ((nx103 + 1) + fr115.length) fun v120 _ fr122 D123 =>
 LNL v120 fun v124 =>
 nx103 ∉ [] ∧
 nx103 ∉ [] ∧
 nx103 ∉ rd112 ∧
 nx103 ∉ [] ∧
 nx103 ∉ [] ∧
 nx103 ∉ [] ∧
 zg (domD D116) [] (
 zg (domD D116) [] (
 nx103 ∉ rd119 ∧
 nx103 ∉ [] ∧
 zg (domD D116) rd119 (
 zg (domD D116) [] (
 nx103 ∉ [] ∧
 nx103 ∉ [] ∧
 zg (domD D116) [] (
 zg (domD D116) [] (
 zg (domD D123) [] (
 zg (domD D123) [] (
 LP (zfz Q K54) [nth xs101 0, nth xs101 1, nth xs101 4, nth xs101 5, nth xs101 6, v120, v124, .int .i64 0] (((H102.put nx103 (some (.row 3 []))).apply D116).apply D123) (((nx103 + 1) + fr115.length) + fr122.length)))))))))))
def zki (Q : QT) (v100 : AV) (xs55 : List AV) (nx57 : Nat) (v91 : AV) (v95 : AV) (H89 : Heap) (nx90 : Nat) (j104 : J3) : Prop :=
 JN (zbo Q j104) (zgb v100 xs55 nx57 v91 v95 H89 nx90)
def zkg (nx57 : Nat) (xs55 : List AV) (Q : QT) (K54 : J3) (v88 : AV) (H89 : Heap) (nx90 : Nat) : Prop :=
 EX v88 0 fun v91 =>
 EX v88 1 fun _ =>
 LD false 1 (.ptr nx57 1) H89 fun v93 =>
 IA 1 v91 v93 fun v94 =>
 LD false 1 v94 H89 fun v95 =>
 FA 4 (nth xs55 1) fun v96 =>
 LD false 1 v96 H89 fun v97 =>
 LNL v97 fun v98 =>
 BI .sub v98 (.int .i64 1) fun v99 =>
 BI .eql (nth xs55 4) v99 fun v100 =>
 JN (zaw Q K54) (zki Q v100 xs55 nx57 v91 v95 H89 nx90)
def zkf (Q : QT) (xs191 : List AV) (K190 : J3) (v210 : AV) (H211 : Heap) (nx212 : Nat) : Prop :=
 BI .neq v210 (.int .i64 0) fun v213 =>
 CNDC v213
 (Q v210 H211 nx212)
 (BI .add (nth xs191 3) (.int .i64 1) fun v214 =>
 K190 [nth xs191 0, nth xs191 1, nth xs191 2, v214] H211 nx212)
def zke (Q : QT) (nx193 : Nat) (xs191 : List AV) (K190 : J3) (v202 : AV) (H203 : Heap) (nx204 : Nat) : Prop :=
 BI .neq v202 (.int .i64 0) fun v205 =>
 CNDC v205
 (Q v202 H203 nx204)
 (LD true 3 (.ptr nx193 3) H203 fun v206 =>
 FA 5 (nth xs191 0) fun v207 =>
 LD false 1 v207 H203 fun v208 =>
 LNL v208 fun v209 =>
 za Tryz.prog 18 [v206, v209] H203 nx204 (zkf Q xs191 K190))
def zfy (Q : QT) (K190 : J3) (xs191 : List AV) (H192 : Heap) (nx193 : Nat) : Prop :=
 BI .lss (nth xs191 3) (nth xs191 2) fun v194 =>
 CNDC v194
 (IA 6 (nth xs191 1) (nth xs191 3) fun v195 =>
 LD true 6 v195 H192 fun v196 =>
 ST 6 (.ptr nx193 0) v196 (H192.put nx193 (some (.row 6 [.int .i64 0, .int .i64 0, .str [], .int .i64 0, .int .i64 0, .str []]))) fun H197 =>
 LD true 3 (.ptr nx193 0) H197 fun v198 =>
 FA 5 (nth xs191 0) fun v199 =>
 LD false 1 v199 H197 fun v200 =>
 LNL v200 fun v201 =>
 za Tryz.prog 18 [v198, v201] H197 (nx193 + 1) (zke Q nx193 xs191 K190))
 (Q (.int .i64 0) H192 nx193)
def zae (Q : QT) (K54 : J3) (xs55 : List AV) (H56 : Heap) (nx57 : Nat) : Prop :=
 BI .lss (nth xs55 4) (nth xs55 3) fun v58 =>
 CNDC v58
 (IA 4 (nth xs55 2) (nth xs55 4) fun v59 =>
 LD true 4 v59 H56 fun v60 =>
 ST 4 (.ptr nx57 0) v60 (H56.put nx57 (some (.row 4 [.int .i64 0, .int .i64 0, .nils, .nils]))) fun H61 =>
 LD false 1 (.ptr nx57 0) H61 fun v62 =>
 BI .lss v62 (.int .i64 0) fun v63 =>
 CND v63
 (Q (.int .i64 3) H61 (nx57 + 1))
 (LD false 1 (.ptr nx57 0) H61 fun v64 =>
 FA 2 (nth xs55 1) fun v65 =>
 FA 0 v65 fun v66 =>
 LD false 1 v66 H61 fun v67 =>
 LNL v67 fun v68 =>
 BI .geq v64 v68 fun v69 =>
 CNDC v69
 (Q (.int .i64 3) H61 (nx57 + 1))
 (FA 2 (nth xs55 1) fun v70 =>
 FA 0 v70 fun v71 =>
 LD false 1 v71 H61 fun v72 =>
 LD false 1 (.ptr nx57 0) H61 fun v73 =>
 IA 3 v72 v73 fun v74 =>
 LD true 3 v74 H61 fun v75 =>
 ST 3 (.ptr (nx57 + 1) 0) v75 (H61.put ((nx57 + 1)) (some (.row 3 [.int .i64 0, .int .i64 0, .nils]))) fun H76 =>
 LD false 1 (.ptr nx57 1) H76 fun v77 =>
 BI .lss v77 (.int .i64 0) fun v78 =>
 CND v78
 (Q (.int .i64 3) H76 (nx57 + 2))
 (LD false 1 (.ptr nx57 1) H76 fun v79 =>
 LD false 1 (.ptr (nx57 + 1) 2) H76 fun v80 =>
 LNL v80 fun v81 =>
 BI .geq v79 v81 fun v82 =>
 CND v82
 (Q (.int .i64 3) H76 (nx57 + 2))
 (LD false 1 (.ptr nx57 2) H76 fun v83 =>
 LNL v83 fun v84 =>
 LD false 1 (.ptr (nx57 + 1) 1) H76 fun v85 =>
 BI .neq v84 v85 fun v86 =>
 CNDC v86
 (Q (.int .i64 3) H76 (nx57 + 2))
 (LD true 3 (.ptr (nx57 + 1) 0) H76 fun v87 =>
 za Tryz.prog 17 [v87] H76 (nx57 + 2) (zkg nx57 xs55 Q K54)))))))
 (FA 5 (nth xs55 1) fun v187 =>
 LD false 1 v187 H56 fun v188 =>
 LNL v188 fun v189 =>
 LP (zfy Q) [nth xs55 1, v188, v189, .int .i64 0] H56 nx57)
def zav (Q : QT) (K18 : J3) (xs19 : List AV) (H20 : Heap) (nx21 : Nat) : Prop :=
 BI .lss (nth xs19 4) (nth xs19 3) fun v22 =>
 CNDC v22
 (IA 2 (nth xs19 2) (nth xs19 4) fun v23 =>
 LD true 2 v23 H20 fun v24 =>
 ST 2 (.ptr nx21 0) v24 (H20.put nx21 (some (.row 1 [.int .i64 0, .int .i64 0]))) fun H25 =>
 AA 1 2 (.ptr nx21 0) (.int .i64 0) fun v26 =>
 LD false 1 v26 H25 fun v27 =>
 BI .lss v27 (.int .i64 0) fun v28 =>
 CND v28
 (Q (.int .i64 3) H25 (nx21 + 1))
 (AA 1 2 (.ptr nx21 0) (.int .i64 0) fun v29 =>
 LD false 1 v29 H25 fun v30 =>
 AA 1 2 (.ptr nx21 0) (.int .i64 1) fun v31 =>
 LD false 1 v31 H25 fun v32 =>
 BI .gtr v30 v32 fun v33 =>
 CNDC v33
 (Q (.int .i64 3) H25 (nx21 + 1))
 (BI .add (nth xs19 4) (.int .i64 1) fun v34 =>
 K18 [nth xs19 0, nth xs19 1, nth xs19 2, nth xs19 3, v34] H25 (nx21 + 1))))
 (FA 4 (nth xs19 1) fun v35 =>
 LD false 1 v35 H20 fun v36 =>
 LNL v36 fun v37 =>
 BI .eql v37 (.int .i64 0) fun v38 =>
 CND v38
 (Q (.int .i64 5) H20 nx21)
 (FA 4 (nth xs19 1) fun v39 =>
 LD false 1 v39 H20 fun v40 =>
 LNL v40 fun v41 =>
 BI .gtr v41 (.int .i64 12) fun v42 =>
 CNDC v42
 (Q (.int .i64 5) H20 nx21)
 (FA 5 (nth xs19 1) fun v43 =>
 LD false 1 v43 H20 fun v44 =>
 LNL v44 fun v45 =>
 FA 6 (nth xs19 1) fun v46 =>
 FA 1 v46 fun v47 =>
 LD false 1 v47 H20 fun v48 =>
 BI .add v45 v48 fun v49 =>
 BI .gtr v49 (.int .i64 60) fun v50 =>
 CNDC v50
 (Q (.int .i64 4) H20 nx21)
 (FA 4 (nth xs19 1) fun v51 =>
 LD false 1 v51 H20 fun v52 =>
 LNL v52 fun v53 =>
 LP (zae Q) [nth xs19 0, nth xs19 1, v52, v53, .int .i64 0] H20 nx21))))
def zga (Q : QT) (nx : Nat) (a1 : AV) (v2 : AV) (H3 : Heap) (nx4 : Nat) : Prop :=
 BI .neq v2 (.int .i64 0) fun v5 =>
 CNDC v5
 (Q v2 H3 nx4)
 (LD false 1 (.ptr nx 0) H3 fun v6 =>
 BD (fun i => some (i * 1, 1)) [.int .i64 0, .int .i64 0] [(0, v6), (1, .int .i64 1073741824)] fun v7 =>
 LD false 1 (.ptr nx 1) H3 fun v8 =>
 BD (fun i => some (i * 1, 1)) [.int .i64 0, .int .i64 0] [(0, v8), (1, .int .i64 1073741824)] fun v9 =>
 LD false 1 (.ptr nx 6) H3 fun v10 =>
 BD (fun i => some (i * 1, 1)) [.int .i64 0, .int .i64 0] [(0, v10), (1, .int .i64 2000)] fun v11 =>
 LD false 1 (.ptr nx 7) H3 fun v12 =>
 BD (fun i => some (i * 1, 1)) [.int .i64 0, .int .i64 0] [(0, v12), (1, .int .i64 60)] fun v13 =>
 LD false 1 (.ptr nx 8) H3 fun v14 =>
 BD (fun i => some (i * 1, 1)) [.int .i64 0, .int .i64 0] [(0, v14), (1, .int .i64 12)] fun v15 =>
 BSL 5 2 [.int .i64 0, .int .i64 0] [(0, v7), (1, v9), (2, v11), (3, v13), (4, v15)] fun cells16 =>
 LNL (.slc nx4 0 5) fun v17 =>
 LP (zav Q) [a1, .ptr nx 0, .slc nx4 0 5, v17, .int .i64 0] (H3.put nx4 (some (.row 2 cells16))) (nx4 + 1))
def zkd (a0 a1 : AV) (H : Heap) (nx : Nat) (Q : QT) : Prop :=
 a0.sure = true ∧
 LD true 2 (.ptr nx 2) (H.put nx (some (.row a0.cells.length a0.cells))) fun v1 =>
 za Tryz.prog 16 [v1] (H.put nx (some (.row a0.cells.length a0.cells))) (nx + 1) (zga Q nx a1)
theorem zoc (a0 a1 : AV) (H : Heap) (nx : Nat) (Q : QT) : zkd a0 a1 H nx Q → za Tryz.prog 7 [a0, a1] H nx Q :=
  zj (lv := lvOf [(0, 25, [1, 2, 8, 9, 10, 11, 13, 14, 84, 85, 86, 149]), (2, 5, [1, 2, 48, 49, 50]), (2, 15, [1, 2, 84, 85, 86]), (2, 39, [1, 2, 84, 85, 86, 211, 212, 213]), (2, 47, [2, 228, 229, 230]), (3, 36, [1, 2, 9, 13, 84, 85, 86])]) (c := zp Tryz.f7) zac zah mixed Tryz.func7 (by kernel_rfl) (by kernel_rfl) (by kernel_rfl) (by kernel_rfl) (by kernel_rfl)
end Go.Proofs.YtpbnaaoilgohkaaGreatDoor
set_option maxRecDepth 8000
namespace Go.Proofs.YtpbnaaoilgohkaaGreatDoor
open Go Go.RowKit
def zeu (Q : QT) (K5 : J3) (xs6 : List AV) (H7 : Heap) (nx8 : Nat) : Prop :=
 BI .geq (nth xs6 1) (.int .u64 128) fun v9 =>
 CNDC v9
 (CV .u8 (nth xs6 1) fun v10 =>
 BI .or v10 (.int .u8 128) fun v11 =>
 BSL 1 1 [.int .u8 0] [(0, v11)] fun cells12 =>
 PUTH H7 nx8 (.row 1 cells12) fun H13 =>
 APP 1 1 (nth xs6 0) (.slc nx8 0 1) H13 (nx8 + 1) fun v14 H15 nx16 =>
 BI .shr (nth xs6 1) (.int .u64 7) fun v17 =>
 K5 [v14, v17] H15 nx16)
 (CV .u8 (nth xs6 1) fun v18 =>
 BSL 1 1 [.int .u8 0] [(0, v18)] fun cells19 =>
 PUTH H7 nx8 (.row 1 cells19) fun H20 =>
 APP 1 1 (nth xs6 0) (.slc nx8 0 1) H20 (nx8 + 1) fun v21 H22 nx23 =>
 Q v21 H22 nx23)
def zlj (a0 a1 : AV) (H : Heap) (nx : Nat) (Q : QT) : Prop :=
 CV .u64 a1 fun v1 =>
 BI .shl v1 (.int .u64 1) fun v2 =>
 BI .lss a1 (.int .i64 0) fun v3 =>
 CNDC v3
 (UO .xor v2 fun v4 =>
 LP (zeu Q) [a0, v4] H nx)
 (LP (zeu Q) [a0, v2] H nx)
theorem zsu (a0 a1 : AV) (H : Heap) (nx : Nat) (Q : QT) : zlj a0 a1 H nx Q → za Tryz.prog 55 [a0, a1] H nx Q :=
  zj (lv := lvOf [(2, 4, [0, 5])]) (c := zp Tryz.f55) zac zah mixed Tryz.func55 (by kernel_rfl) (by kernel_rfl) (by kernel_rfl) (by kernel_rfl) (by kernel_rfl)
def zgp (xs3 : List AV) (K2 : J3) (v12 : AV) (H13 : Heap) (nx14 : Nat) : Prop :=
 NC (nth xs3 0) fun v15 =>
 FA 0 v15 fun v16 =>
 ST 1 v16 v12 H13 fun H17 =>
 BI .add (nth xs3 3) (.int .i64 1) fun v18 =>
 K2 [nth xs3 0, nth xs3 1, nth xs3 2, v18] H17 nx14
def zdd (Q : QT) (K2 : J3) (xs3 : List AV) (H4 : Heap) (nx5 : Nat) : Prop :=
 BI .lss (nth xs3 3) (nth xs3 2) fun v6 =>
 CNDC v6
 (IA 1 (nth xs3 1) (nth xs3 3) fun v7 =>
 LD false 1 v7 H4 fun v8 =>
 NC (nth xs3 0) fun v9 =>
 FA 0 v9 fun v10 =>
 LD false 1 v10 H4 fun v11 =>
 za Tryz.prog 55 [v11, v8] H4 nx5 (zgp xs3 K2))
 (Q (.tup []) H4 nx5)
def zgo (a0 a1 : AV) (H : Heap) (nx : Nat) (Q : QT) : Prop :=
 LNL a1 fun v1 =>
 LP (zdd Q) [a0, a1, v1, .int .i64 0] H nx
theorem zkb (a0 a1 : AV) (H : Heap) (nx : Nat) (Q : QT) : zgo a0 a1 H nx Q → za Tryz.prog 28 [a0, a1] H nx Q :=
  zj (lv := lvOf [(2, 1, [0, 6, 7, 8])]) (c := zp Tryz.f28) zac zah mixed Tryz.func28 (by kernel_rfl) (by kernel_rfl) (by kernel_rfl) (by kernel_rfl) (by kernel_rfl)
def zon (a1 : AV) (Q : QT) (v2 : AV) (H3 : Heap) (nx4 : Nat) : Prop :=
 APP 1 1 v2 a1 H3 nx4 fun v5 H6 nx7 =>
 Q v5 H6 nx7
def zom (a0 a1 : AV) (H : Heap) (nx : Nat) (Q : QT) : Prop :=
 LNS a1 fun v1 =>
 za Tryz.prog 55 [a0, v1] H nx (zon a1 Q)
theorem zrr (a0 a1 : AV) (H : Heap) (nx : Nat) (Q : QT) : zom a0 a1 H nx Q → za Tryz.prog 56 [a0, a1] H nx Q :=
  zj (lv := lvOf []) (c := zp Tryz.f56) zac zah mixed Tryz.func56 (by kernel_rfl) (by kernel_rfl) (by kernel_rfl) (by kernel_rfl) (by kernel_rfl)
def zen (xs15 : List AV) (K14 : J3) (v24 : AV) (H25 : Heap) (nx26 : Nat) : Prop :=
 NC (nth xs15 0) fun v27 =>
 FA 0 v27 fun v28 =>
 ST 1 v28 v24 H25 fun H29 =>
 BI .add (nth xs15 4) (.int .i64 1) fun v30 =>
 K14 [nth xs15 0, nth xs15 1, nth xs15 2, nth xs15 3, v30] H29 nx26
def zem (xs65 : List AV) (K64 : J3) (_ : AV) (H79 : Heap) (nx80 : Nat) : Prop :=
 BI .add (nth xs65 6) (.int .i64 1) fun v81 =>
 K64 [nth xs65 0, nth xs65 1, nth xs65 2, nth xs65 3, nth xs65 4, nth xs65 5, v81] H79 nx80
def zcd (K44 : J3) (K64 : J3) (xs65 : List AV) (H66 : Heap) (nx67 : Nat) : Prop :=
 BI .lss (nth xs65 6) (nth xs65 5) fun v68 =>
 CNDC v68
 (IA 3 (nth xs65 4) (nth xs65 6) fun v69 =>
 LD true 3 v69 H66 fun v70 =>
 PUTH H66 nx67 (.row 3 [.int .i64 0, .int .i64 0, .int .i64 0]) fun H71 =>
 ST 3 (.ptr nx67 0) v70 H71 fun H72 =>
 LD false 1 (.ptr nx67 0) H72 fun v73 =>
 LD false 1 (.ptr nx67 1) H72 fun v74 =>
 LD false 1 (.ptr nx67 2) H72 fun v75 =>
 BSL 3 1 [.int .i64 0] [(0, v73), (1, v74), (2, v75)] fun cells76 =>
 PUTH H72 (nx67 + 1) (.row 1 cells76) fun H77 =>
 za Tryz.prog 28 [nth xs65 0, .slc (nx67 + 1) 0 3] H77 (nx67 + 2) (zem xs65 K64))
 (BI .add (nth xs65 3) (.int .i64 1) fun v82 =>
 K44 [nth xs65 0, nth xs65 1, nth xs65 2, v82] H66 nx67)
def zel (nx47 : Nat) (K44 : J3) (xs45 : List AV) (_ : AV) (H60 : Heap) (nx61 : Nat) : Prop :=
 LD false 1 (.ptr nx47 2) H60 fun v62 =>
 LNL v62 fun v63 =>
 LP (zcd K44) [nth xs45 0, nth xs45 1, nth xs45 2, nth xs45 3, v62, v63, .int .i64 0] H60 nx61
def zbc (Q : QT) (K44 : J3) (xs45 : List AV) (H46 : Heap) (nx47 : Nat) : Prop :=
 BI .lss (nth xs45 3) (nth xs45 2) fun v48 =>
 CNDC v48
 (IA 3 (nth xs45 1) (nth xs45 3) fun v49 =>
 LD true 3 v49 H46 fun v50 =>
 PUTH H46 nx47 (.row 3 [.int .i64 0, .int .i64 0, .nils]) fun H51 =>
 ST 3 (.ptr nx47 0) v50 H51 fun H52 =>
 LD false 1 (.ptr nx47 0) H52 fun v53 =>
 LD false 1 (.ptr nx47 1) H52 fun v54 =>
 LD false 1 (.ptr nx47 2) H52 fun v55 =>
 LNL v55 fun v56 =>
 BSL 3 1 [.int .i64 0] [(0, v53), (1, v54), (2, v56)] fun cells57 =>
 PUTH H52 (nx47 + 1) (.row 1 cells57) fun H58 =>
 za Tryz.prog 28 [nth xs45 0, .slc (nx47 + 1) 0 3] H58 (nx47 + 2) (zel nx47 K44 xs45))
 (Q (.tup []) H46 nx47)
def zek (xs15 : List AV) (Q : QT) (_ : AV) (H38 : Heap) (nx39 : Nat) : Prop :=
 NC (nth xs15 1) fun v40 =>
 FA 0 v40 fun v41 =>
 LD false 1 v41 H38 fun v42 =>
 LNL v42 fun v43 =>
 LP (zbc Q) [nth xs15 0, v42, v43, .int .i64 0] H38 nx39
def zcc (Q : QT) (K14 : J3) (xs15 : List AV) (H16 : Heap) (nx17 : Nat) : Prop :=
 BI .lss (nth xs15 4) (nth xs15 3) fun v18 =>
 CNDC v18
 (IA 1 (nth xs15 2) (nth xs15 4) fun v19 =>
 LD false 1 v19 H16 fun v20 =>
 NC (nth xs15 0) fun v21 =>
 FA 0 v21 fun v22 =>
 LD false 1 v22 H16 fun v23 =>
 za Tryz.prog 56 [v23, v20] H16 nx17 (zen xs15 K14))
 (NC (nth xs15 1) fun v31 =>
 FA 0 v31 fun v32 =>
 LD false 1 v32 H16 fun v33 =>
 LNL v33 fun v34 =>
 BSL 1 1 [.int .i64 0] [(0, v34)] fun cells35 =>
 PUTH H16 nx17 (.row 1 cells35) fun H36 =>
 za Tryz.prog 28 [nth xs15 0, .slc nx17 0 1] H36 (nx17 + 1) (zek xs15 Q))
def zej (a1 : AV) (Q : QT) (a0 : AV) (_ : AV) (H8 : Heap) (nx9 : Nat) : Prop :=
 NC a1 fun v10 =>
 FA 1 v10 fun v11 =>
 LD false 1 v11 H8 fun v12 =>
 LNL v12 fun v13 =>
 LP (zcc Q) [a0, a1, v12, v13, .int .i64 0] H8 nx9
def zei (a0 a1 : AV) (H : Heap) (nx : Nat) (Q : QT) : Prop :=
 NC a1 fun v1 =>
 FA 1 v1 fun v2 =>
 LD false 1 v2 H fun v3 =>
 LNL v3 fun v4 =>
 BSL 1 1 [.int .i64 0] [(0, v4)] fun cells5 =>
 PUTH H nx (.row 1 cells5) fun H6 =>
 za Tryz.prog 28 [a0, .slc nx 0 1] H6 (nx + 1) (zej a1 Q a0)
theorem zib (a0 a1 : AV) (H : Heap) (nx : Nat) (Q : QT) : zei a0 a1 H nx Q → za Tryz.prog 29 [a0, a1] H nx Q :=
  zj (lv := lvOf [(2, 2, [0, 1, 21, 22, 23]), (2, 8, [0, 48, 49, 50]), (2, 12, [0, 48, 49, 50, 65, 66, 67])]) (c := zp Tryz.f29) zac zah mixed Tryz.func29 (by kernel_rfl) (by kernel_rfl) (by kernel_rfl) (by kernel_rfl) (by kernel_rfl)
def zft (a0 : AV) (H6 : Heap) (Q : QT) (nx7 : Nat) (v16 : AV) (_ : List Nat) (fr18 : List Nat) (D19 : zl) : Prop :=
 NC a0 fun v20 =>
 FA 0 v20 fun v21 =>
 zbq 1 v21 v16 (H6.apply D19) fun _ _ fr24 D25 =>
 zg (domD D19) [] (
 Q (.tup []) ((H6.apply D19).apply D25) ((nx7 + fr18.length) + fr24.length))
def zfs (Q : QT) (v29 : AV) (H30 : Heap) (nx31 : Nat) : Prop :=
 Q (AV.tup []) H30 nx31
def zcv (nx : Nat) (a0 : AV) (Q : QT) (_ : AV) (H6 : Heap) (nx7 : Nat) : Prop :=
 LD false 1 (.ptr nx 0) H6 fun v8 =>
 BI .eql v8 (.int .i64 1) fun v9 =>
 CNDC v9
 (NC a0 fun v10 =>
 FA 0 v10 fun v11 =>
 LDR false 1 v11 H6 fun v12 _ =>
 LDR false 1 (.ptr nx 2) H6 fun v14 _ =>
 zy Tryz.prog (.clo 56 []) [v12, v14] H6 nx7 (zft a0 H6 Q nx7))
 (LD false 1 (.ptr nx 1) H6 fun v26 =>
 BSL 1 1 [.int .i64 0] [(0, v26)] fun cells27 =>
 PUTH H6 nx7 (.row 1 cells27) fun H28 =>
 za Tryz.prog 28 [a0, .slc nx7 0 1] H28 (nx7 + 1) (zfs Q))
def zfr (a0 a1 : AV) (H : Heap) (nx : Nat) (Q : QT) : Prop :=
 a1.sure = true ∧
 PUTH H nx (.row a1.cells.length a1.cells) fun H1 =>
 LD false 1 (.ptr nx 0) H1 fun v2 =>
 BSL 1 1 [.int .i64 0] [(0, v2)] fun cells3 =>
 PUTH H1 (nx + 1) (.row 1 cells3) fun H4 =>
 za Tryz.prog 28 [a0, .slc (nx + 1) 0 1] H4 (nx + 2) (zcv nx a0 Q)
theorem zjr (a0 a1 : AV) (H : Heap) (nx : Nat) (Q : QT) : zfr a0 a1 H nx Q → za Tryz.prog 31 [a0, a1] H nx Q :=
  zj (lv := lvOf []) (c := zp Tryz.f31) zac zah mixed Tryz.func31 (by kernel_rfl) (by kernel_rfl) (by kernel_rfl) (by kernel_rfl) (by kernel_rfl)
def zfc (xs9 : List AV) (K8 : J3) (_ : AV) (H19 : Heap) (nx20 : Nat) : Prop :=
 BI .add (nth xs9 3) (.int .i64 1) fun v21 =>
 K8 [nth xs9 0, nth xs9 1, nth xs9 2, v21] H19 nx20
def zcp (Q : QT) (K8 : J3) (xs9 : List AV) (H10 : Heap) (nx11 : Nat) : Prop :=
 BI .lss (nth xs9 3) (nth xs9 2) fun v12 =>
 CNDC v12
 (IA 3 (nth xs9 1) (nth xs9 3) fun v13 =>
 LD true 3 v13 H10 fun v14 =>
 PUTH H10 nx11 (.row 3 [.int .i64 0, .int .i64 0, .str []]) fun H15 =>
 ST 3 (.ptr nx11 0) v14 H15 fun H16 =>
 LD true 3 (.ptr nx11 0) H16 fun v17 =>
 za Tryz.prog 31 [nth xs9 0, v17] H16 (nx11 + 1) (zfc xs9 K8))
 (Q (.tup []) H10 nx11)
def zfb (a1 : AV) (Q : QT) (a0 : AV) (_ : AV) (H5 : Heap) (nx6 : Nat) : Prop :=
 LNL a1 fun v7 =>
 LP (zcp Q) [a0, a1, v7, .int .i64 0] H5 nx6
def zfa (a0 a1 : AV) (H : Heap) (nx : Nat) (Q : QT) : Prop :=
 LNL a1 fun v1 =>
 BSL 1 1 [.int .i64 0] [(0, v1)] fun cells2 =>
 PUTH H nx (.row 1 cells2) fun H3 =>
 za Tryz.prog 28 [a0, .slc nx 0 1] H3 (nx + 1) (zfb a1 Q a0)
theorem zis (a0 a1 : AV) (H : Heap) (nx : Nat) (Q : QT) : zfa a0 a1 H nx Q → za Tryz.prog 30 [a0, a1] H nx Q :=
  zj (lv := lvOf [(2, 2, [0, 11, 12, 13])]) (c := zp Tryz.f30) zac zah mixed Tryz.func30 (by kernel_rfl) (by kernel_rfl) (by kernel_rfl) (by kernel_rfl) (by kernel_rfl)
def zql (xs3 : List AV) (K2 : J3) (v11 : AV) (H12 : Heap) (nx13 : Nat) : Prop :=
 BI .mul v11 (.int .u32 16777619) fun v14 =>
 BI .add (nth xs3 3) (.int .i64 1) fun v15 =>
 K2 [v14, nth xs3 1, nth xs3 2, v15] H12 nx13
def zli (Q : QT) (K2 : J3) (xs3 : List AV) (H4 : Heap) (nx5 : Nat) : Prop :=
 BI .lss (nth xs3 3) (nth xs3 2) fun v6 =>
 CNDC v6
 (IA 1 (nth xs3 1) (nth xs3 3) fun v7 =>
 LD false 1 v7 H4 fun v8 =>
 CV .u32 v8 fun v9 =>
 BI .xor (nth xs3 0) v9 fun v10 =>
 za Tryz.prog 57 [v10, .int .i64 5] H4 nx5 (zql xs3 K2))
 (CV .i64 (nth xs3 0) fun v16 =>
 Q v16 H4 nx5)
def zqk (a0 : AV) (H : Heap) (nx : Nat) (Q : QT) : Prop :=
 LNL a0 fun v1 =>
 LP (zli Q) [.int .u32 2166136261, a0, v1, .int .i64 0] H nx
theorem zst (a0 : AV) (H : Heap) (nx : Nat) (Q : QT) : zqk a0 H nx Q → za Tryz.prog 32 [a0] H nx Q :=
  zj (lv := lvOf [(2, 3, [3, 6, 7, 8])]) (c := zp Tryz.f32) zac zah mixed Tryz.func32 (by kernel_rfl) (by kernel_rfl) (by kernel_rfl) (by kernel_rfl) (by kernel_rfl)
def zmi (xs32 : List AV) (K31 : J3) (_ : AV) (H53 : Heap) (nx54 : Nat) : Prop :=
 BI .add (nth xs32 4) (.int .i64 1) fun v55 =>
 K31 [nth xs32 0, nth xs32 1, nth xs32 2, nth xs32 3, v55] H53 nx54
def zmh (nx34 : Nat) (xs32 : List AV) (K31 : J3) (_ : AV) (H49 : Heap) (nx50 : Nat) : Prop :=
 LD false 1 (.ptr nx34 3) H49 fun v51 =>
 za Tryz.prog 30 [nth xs32 1, v51] H49 nx50 (zmi xs32 K31)
def zmg (nx34 : Nat) (xs32 : List AV) (K31 : J3) (_ : AV) (H45 : Heap) (nx46 : Nat) : Prop :=
 LD false 1 (.ptr nx34 2) H45 fun v47 =>
 za Tryz.prog 30 [nth xs32 1, v47] H45 nx46 (zmh nx34 xs32 K31)
def zmf (xs68 : List AV) (K67 : J3) (_ : AV) (H82 : Heap) (nx83 : Nat) : Prop :=
 BI .add (nth xs68 3) (.int .i64 1) fun v84 =>
 K67 [nth xs68 0, nth xs68 1, nth xs68 2, v84] H82 nx83
def zme (nx70 : Nat) (xs68 : List AV) (K67 : J3) (_ : AV) (H78 : Heap) (nx79 : Nat) : Prop :=
 LD true 3 (.ptr nx70 3) H78 fun v80 =>
 za Tryz.prog 31 [nth xs68 0, v80] H78 nx79 (zmf xs68 K67)
def zmd (xs68 : List AV) (Q : QT) (_ : AV) (H94 : Heap) (nx95 : Nat) : Prop :=
 NC (nth xs68 0) fun v96 =>
 FA 0 v96 fun v97 =>
 LD false 1 v97 H94 fun v98 =>
 Q v98 H94 nx95
def zmc (xs68 : List AV) (Q : QT) (v88 : AV) (H89 : Heap) (nx90 : Nat) : Prop :=
 BSL 1 1 [.int .i64 0] [(0, v88)] fun cells91 =>
 PUTH H89 nx90 (.row 1 cells91) fun H92 =>
 za Tryz.prog 28 [nth xs68 0, .slc nx90 0 1] H92 (nx90 + 1) (zmd xs68 Q)
def zhe (Q : QT) (K67 : J3) (xs68 : List AV) (H69 : Heap) (nx70 : Nat) : Prop :=
 BI .lss (nth xs68 3) (nth xs68 2) fun v71 =>
 CNDC v71
 (IA 6 (nth xs68 1) (nth xs68 3) fun v72 =>
 LD true 6 v72 H69 fun v73 =>
 PUTH H69 nx70 (.row 6 [.int .i64 0, .int .i64 0, .str [], .int .i64 0, .int .i64 0, .str []]) fun H74 =>
 ST 6 (.ptr nx70 0) v73 H74 fun H75 =>
 LD true 3 (.ptr nx70 0) H75 fun v76 =>
 za Tryz.prog 31 [nth xs68 0, v76] H75 (nx70 + 1) (zme nx70 xs68 K67))
 (NC (nth xs68 0) fun v85 =>
 FA 0 v85 fun v86 =>
 LD false 1 v86 H69 fun v87 =>
 za Tryz.prog 32 [v87] H69 nx70 (zmc xs68 Q))
def zmb (xs32 : List AV) (Q : QT) (_ : AV) (H62 : Heap) (nx63 : Nat) : Prop :=
 FA 5 (nth xs32 0) fun v64 =>
 LD false 1 v64 H62 fun v65 =>
 LNL v65 fun v66 =>
 LP (zhe Q) [nth xs32 1, v65, v66, .int .i64 0] H62 nx63
def zhd (Q : QT) (K31 : J3) (xs32 : List AV) (H33 : Heap) (nx34 : Nat) : Prop :=
 BI .lss (nth xs32 4) (nth xs32 3) fun v35 =>
 CNDC v35
 (IA 4 (nth xs32 2) (nth xs32 4) fun v36 =>
 LD true 4 v36 H33 fun v37 =>
 PUTH H33 nx34 (.row 4 [.int .i64 0, .int .i64 0, .nils, .nils]) fun H38 =>
 ST 4 (.ptr nx34 0) v37 H38 fun H39 =>
 LD false 1 (.ptr nx34 0) H39 fun v40 =>
 LD false 1 (.ptr nx34 1) H39 fun v41 =>
 BSL 2 1 [.int .i64 0] [(0, v40), (1, v41)] fun cells42 =>
 PUTH H39 (nx34 + 1) (.row 1 cells42) fun H43 =>
 za Tryz.prog 28 [nth xs32 1, .slc (nx34 + 1) 0 2] H43 (nx34 + 2) (zmg nx34 xs32 K31))
 (FA 5 (nth xs32 0) fun v56 =>
 LD false 1 v56 H33 fun v57 =>
 LNL v57 fun v58 =>
 BSL 1 1 [.int .i64 0] [(0, v58)] fun cells59 =>
 PUTH H33 nx34 (.row 1 cells59) fun H60 =>
 za Tryz.prog 28 [nth xs32 1, .slc nx34 0 1] H60 (nx34 + 1) (zmb xs32 Q))
def zma (nx5 : Nat) (Q : QT) (_ : AV) (H27 : Heap) (nx28 : Nat) : Prop :=
 LD false 1 (.ptr nx5 4) H27 fun v29 =>
 LNL v29 fun v30 =>
 LP (zhd Q) [.ptr nx5 0, .ptr (nx5 + 1) 0, v29, v30, .int .i64 0] H27 nx28
def zkz (nx5 : Nat) (Q : QT) (_ : AV) (H20 : Heap) (nx21 : Nat) : Prop :=
 LD false 1 (.ptr nx5 4) H20 fun v22 =>
 LNL v22 fun v23 =>
 BSL 1 1 [.int .i64 0] [(0, v23)] fun cells24 =>
 PUTH H20 nx21 (.row 1 cells24) fun H25 =>
 za Tryz.prog 28 [.ptr (nx5 + 1) 0, .slc nx21 0 1] H25 (nx21 + 1) (zma nx5 Q)
def zky (nx5 : Nat) (Q : QT) (v16 : AV) (H17 : Heap) (nx18 : Nat) : Prop :=
 za Tryz.prog 29 [AV.ptr (nx5 + 1) 0, AV.ptr nx5 2] H17 nx18 (zkz nx5 Q)
def zkx (Q : QT) (v3 : AV) (H4 : Heap) (nx5 : Nat) : Prop :=
 PUTH H4 nx5 (.row 9 [.int .i64 0, .int .i64 0, .nils, .nils, .nils, .nils, .int .i64 0, .int .i64 0, .int .i64 0]) fun H6 =>
 ST 9 (.ptr nx5 0) v3 H6 fun H7 =>
 true = true ∧
 PUTH H7 (nx5 + 1) (.row 1 [.nils]) fun H8 =>
 LD false 1 (.ptr nx5 0) H8 fun v9 =>
 LD false 1 (.ptr nx5 1) H8 fun v10 =>
 LD false 1 (.ptr nx5 6) H8 fun v11 =>
 LD false 1 (.ptr nx5 7) H8 fun v12 =>
 LD false 1 (.ptr nx5 8) H8 fun v13 =>
 BSL 5 1 [.int .i64 0] [(0, v9), (1, v10), (2, v11), (3, v12), (4, v13)] fun cells14 =>
 PUTH H8 (nx5 + 2) (.row 1 cells14) fun H15 =>
 za Tryz.prog 28 [.ptr (nx5 + 1) 0, .slc (nx5 + 2) 0 5] H15 (nx5 + 3) (zky nx5 Q)
def zlz (a0 : AV) (H : Heap) (nx : Nat) (Q : QT) : Prop :=
 a0.sure = true ∧
 PUTH H nx (.row a0.cells.length a0.cells) fun H1 =>
 LD true 9 (.ptr nx 0) H1 fun v2 =>
 za Tryz.prog 27 [v2] H1 (nx + 1) (zkx Q)
theorem zqi (a0 : AV) (H : Heap) (nx : Nat) (Q : QT) : zlz a0 H nx Q → za Tryz.prog 9 [a0] H nx Q :=
  zj (lv := lvOf [(2, 7, [3, 4, 39, 40, 41]), (2, 15, [4, 68, 69, 70])]) (c := zp Tryz.f9) zac zah mixed Tryz.func9 (by kernel_rfl) (by kernel_rfl) (by kernel_rfl) (by kernel_rfl) (by kernel_rfl)
def zdn (a0 a1 : AV) (H : Heap) (nx : Nat) (Q : QT) : Prop :=
 CV .u64 a1 fun v1 =>
 BI .and v1 (.int .u64 31) fun v2 =>
 BI .shl a0 v2 fun v3 =>
 BI .sub (.int .u64 32) v2 fun v4 =>
 BI .shr a0 v4 fun v5 =>
 BI .or v3 v5 fun v6 =>
 Q v6 H nx
theorem zha (a0 a1 : AV) (H : Heap) (nx : Nat) (Q : QT) : zdn a0 a1 H nx Q → za Tryz.prog 57 [a0, a1] H nx Q :=
  zj (lv := lvOf []) (c := zp Tryz.f57) zac zah mixed Tryz.func57 (by kernel_rfl) (by kernel_rfl) (by kernel_rfl) (by kernel_rfl) (by kernel_rfl)
def zgj (v16 : AV) (Q : QT) (v54 : AV) (H55 : Heap) (nx56 : Nat) : Prop :=
 CBS v54 H55 fun v57 =>
 BS .eql v57 v16 fun v58 =>
 Q v58 H55 nx56
def zbv (v16 : AV) (Q : QT) (v51 : AV) (H52 : Heap) (nx53 : Nat) : Prop :=
 za Tryz.prog 9 [v51] H52 nx53 (zgj v16 Q)
def zgi (v16 : AV) (Q : QT) (nx : Nat) (v45 : AV) (H46 : Heap) (nx47 : Nat) : Prop :=
 CBS v45 H46 fun v48 =>
 BS .neq v48 v16 fun v49 =>
 CNDC v49
 (Q (.bool false) H46 nx47)
 (LD true 9 (.ptr nx 0) H46 fun v50 =>
 za Tryz.prog 11 [v50] H46 nx47 (zbv v16 Q))
def zdc (nx15 : Nat) (v16 : AV) (Q : QT) (nx : Nat) (v40 : AV) (H41 : Heap) (nx42 : Nat) : Prop :=
 BI .eql v40 (.int .i64 0) fun v43 =>
 CND v43
 (LD true 9 (.ptr nx15 0) H41 fun v44 =>
 za Tryz.prog 9 [v44] H41 nx42 (zgi v16 Q nx))
 (LD true 9 (.ptr nx 0) H41 fun v59 =>
 za Tryz.prog 11 [v59] H41 nx42 (zbv v16 Q))
def zgh (nx : Nat) (Q : QT) (v13 : AV) (H14 : Heap) (nx15 : Nat) : Prop :=
 CBS v13 H14 fun v16 =>
 LD true 9 (.ptr nx 0) H14 fun v17 =>
 PUTH H14 nx15 (.row 9 [.int .i64 0, .int .i64 0, .nils, .nils, .nils, .nils, .int .i64 0, .int .i64 0, .int .i64 0]) fun H18 =>
 ST 9 (.ptr nx15 0) v17 H18 fun H19 =>
 PUTH H19 (nx15 + 1) (.row 6 []) fun H20 =>
 LDR false 1 (.ptr nx 5) H20 fun v21 rd22 =>
 zt 6 64 (.slc (nx15 + 1) 0 0) v21 H20 (nx15 + 2) fun v23 rd24 fr25 D26 =>
 LDR true 6 (.ptr (nx + 1) 0) (H20.apply D26) fun v27 rd28 =>
 BSL 1 6 [.int .i64 0, .int .i64 0, .str [], .int .i64 0, .int .i64 0, .str []] [(0, v27)] fun cells29 =>
 PUTH (H20.apply D26) ((nx15 + 2) + fr25.length) (.row 6 cells29) fun H30 =>
 zt 6 64 v23 (.slc ((nx15 + 2) + fr25.length) 0 1) H30 (((nx15 + 2) + fr25.length) + 1) fun v31 _ fr33 D34 =>
 zbq 1 (.ptr nx15 5) v31 (H30.apply D34) fun _ _ fr37 D38 =>
 (nx15 + 1) ∉ [] ∧
 (nx15 + 1) ∉ [] ∧
 (nx15 + 1) ∉ rd22 ∧
 (nx15 + 1) ∉ [] ∧
 (nx15 + 1) ∉ rd28 ∧
 (nx15 + 1) ∉ [] ∧
 zg (domD D26) rd28 (
 zg (domD D26) [] (
 (nx15 + 1) ∉ [] ∧
 (nx15 + 1) ∉ [((nx15 + 2) + fr25.length)] ∧
 ((nx15 + 2) + fr25.length) ∉ [] ∧
 ((nx15 + 2) + fr25.length) ∉ [] ∧
 ((nx15 + 2) + fr25.length) ∉ rd22 ∧
 zg (domD D26) [] (
 zg (domD D26) [((nx15 + 2) + fr25.length)] (
 ((nx15 + 2) + fr25.length) ∉ rd24 ∧
 LD true 9 (.ptr nx15 0) ((H30.apply D34).apply D38) fun v39 =>
 za Tryz.prog 7 [v39, .bool true] ((H30.apply D34).apply D38) (((((nx15 + 2) + fr25.length) + 1) + fr33.length) + fr37.length) (zdc nx15 v16 Q nx)))))
def zdb (Q : QT) (nx : Nat) (v8 : AV) (H9 : Heap) (nx10 : Nat) : Prop :=
 BI .neq v8 (.int .i64 0) fun v11 =>
 CNDC v11
 (Q (.bool true) H9 nx10)
 (LD true 9 (.ptr nx 0) H9 fun v12 =>
 za Tryz.prog 9 [v12] H9 nx10 (zgh nx Q))
def zgg (Q : QT) (nx : Nat) (v3 : AV) (H4 : Heap) (nx5 : Nat) : Prop :=
 UO .not v3 fun v6 =>
 CNDC v6
 (Q (.bool false) H4 nx5)
 (LD true 9 (.ptr nx 0) H4 fun v7 =>
 za Tryz.prog 7 [v7, .bool true] H4 nx5 (zdb Q nx))
def zgf (a0 a1 : AV) (H : Heap) (nx : Nat) (Q : QT) : Prop :=
 a0.sure = true ∧
 PUTH H nx (.row a0.cells.length a0.cells) fun H1 =>
 a1.sure = true ∧
 PUTH H1 (nx + 1) (.row a1.cells.length a1.cells) fun H2 =>
 za Tryz.prog 6 [] H2 (nx + 2) (zgg Q nx)
theorem zjz (a0 a1 : AV) (H : Heap) (nx : Nat) (Q : QT) : zgf a0 a1 H nx Q → za Tryz.prog 4 [a0, a1] H nx Q :=
  zj (lv := lvOf []) (c := zp Tryz.f4) zac zah mixed Tryz.func4 (by kernel_rfl) (by kernel_rfl) (by kernel_rfl) (by kernel_rfl) (by kernel_rfl)
end Go.Proofs.YtpbnaaoilgohkaaGreatDoor
set_option maxRecDepth 8000
namespace Go.Proofs.YtpbnaaoilgohkaaGreatDoor
namespace WM
abbrev Bytes := List UInt8
def zig (n : Int) : Nat := if n < 0 then (-(2 * n) - 1).toNat else (2 * n).toNat
def enc : Nat → Nat → Bytes
  | 0, u => [UInt8.ofNat u]
  | f + 1, u => if 128 ≤ u then UInt8.ofNat (u % 128 + 128) :: enc f (u / 128) else [UInt8.ofNat u]
def num (n : Int) : Bytes := enc 9 (zig n)
theorem zig_lt (n : Int) (h : -9223372036854775808 ≤ n) (h' : n ≤ 9223372036854775807) : zig n < 2 ^ 64 := by
  unfold zig
  split <;> omega
theorem enc_length (f u : Nat) : (enc f u).length ≤ f + 1 := by
  induction f generalizing u with
  | zero => simp [enc]
  | succ f ih =>
    simp only [enc]
    split
    · simp; exact ih _
    · simp
def rot5 (u : Nat) : Nat := (u * 32 % 4294967296) ||| (u / 134217728)
def sumStep (s : Nat) (c : UInt8) : Nat := rot5 (s ^^^ c.toNat) * 16777619 % 4294967296
def sum (b : Bytes) : Nat := b.foldl sumStep 2166136261
end WM
end Go.Proofs.YtpbnaaoilgohkaaGreatDoor
set_option maxRecDepth 8000
namespace Go.Proofs.YtpbnaaoilgohkaaGreatDoor
open Go Go.RowKit
theorem zaer (c : Nat) (h : c < 256) : bits .or .u8 (c : Int) 128 = ((c % 128 + 128 : Nat) : Int) := by
  have h1 := u8_or_nat c 128 h (by omega)
  rw [show ((128 : Nat) : Int) = 128 from rfl] at h1
  rw [h1]
  congr 1
  have hd : c = 128 * (c / 128) + c % 128 := by omega
  have hc2 : c / 128 = 0 ∨ c / 128 = 1 := by omega
  have e : (2 : Nat) ^ 7 = 128 := rfl
  have hlow : c % 128 ||| 128 = c % 128 + 128 := by
    have := Nat.two_pow_add_eq_or_of_lt (i := 7) (b := c % 128) (by omega) 1
    rw [Nat.or_comm]
    simp at this
    omega
  rcases hc2 with h0 | h0
  · have : c = c % 128 := by omega
    rw [← this] at hlow ⊢
    exact hlow
  · have h2 := Nat.two_pow_add_eq_or_of_lt (i := 7) (b := c % 128) (by omega) 1
    have h3 : c = 128 ||| c % 128 := by simp at h2; omega
    have h4 : c ||| 128 = c % 128 ||| 128 := by
      conv => lhs; rw [h3]
      rw [Nat.or_comm 128, Nat.or_assoc, Nat.or_self]
    rw [h4, hlow]
end Go.Proofs.YtpbnaaoilgohkaaGreatDoor
set_option maxRecDepth 8000
namespace Go.Proofs.YtpbnaaoilgohkaaGreatDoor
structure Fct where
  key : Str
  val : Val
structure Spt where
  name : Str
  facts : List Fct
  fuel : Int
  cells : Int
structure Evt where
  kind : Int
  text : Str
  err : Int
namespace VM
def ev0 : Evt := ⟨0, [], 0⟩
def dead (e : Int) : Evt := ⟨5, [], e⟩
def ask (l : List Fct) (k : Str) : Val := match l.find? (fun f => decide (f.key = k)) with
  | some f => f.val
  | none => vzero
def cl0 : Cl := ⟨vzero, vzero⟩
def toF (a : Agt) (fs : List Frm) (f : Frm) : Agt := { a with frames := fs ++ [f] }
def top1 (st : List Val) : Val := st.getD (st.length - 1) vzero
def top2 (st : List Val) : Val := st.getD (st.length - 2) vzero
def low (k : Nat) (st : List Val) : List Val := st.take (st.length - k)
def push (a : Agt) (fs : List Frm) (f : Frm) (st : List Val) (v : Val) : Agt × Evt := (toF a fs { f with stack := st ++ [v] }, ev0)
def codeAt (p : Prg) (n : Int) : Cod := p.codes.getD n.toNat ⟨0, 0, []⟩
def opDo (a : Agt) (s : Spt) (fs : List Frm) (f : Frm) (i : Ins) : Agt × Evt :=
  if i.op = 1 then push a fs f f.stack ⟨0, i.a, []⟩
  else if i.op = 2 then push a fs f f.stack (cText (a.prog.words.getD i.a.toNat []))
  else if i.op = 3 then push a fs f f.stack (f.vars.getD i.a.toNat vzero)
  else if i.op = 4 then (toF a fs { f with stack := low 1 f.stack, vars := f.vars.set i.a.toNat (top1 f.stack) }, ev0)
  else if i.op = 5 then (if (two i.a (top2 f.stack) (top1 f.stack)).2 = 0 then push a fs f (low 2 f.stack) (two i.a (top2 f.stack) (top1 f.stack)).1 else (toF a fs { f with stack := low 2 f.stack }, dead (two i.a (top2 f.stack) (top1 f.stack)).2))
  else if i.op = 6 then (if a.permit.room = 0 then (toF a fs { f with stack := low 2 f.stack }, dead 13)
    else push { a with heap := a.heap ++ [⟨top2 f.stack, top1 f.stack⟩], permit := { a.permit with room := a.permit.room - 1 } } fs f (low 2 f.stack) ⟨2, a.heap.length, []⟩)
  else if i.op = 7 then (if (top1 f.stack).kind ≠ 2 then (toF a fs { f with stack := low 1 f.stack }, dead 11) else push a fs f (low 1 f.stack) (a.heap.getD (top1 f.stack).n.toNat cl0).left)
  else if i.op = 8 then (if (top1 f.stack).kind ≠ 2 then (toF a fs { f with stack := low 1 f.stack }, dead 11) else push a fs f (low 1 f.stack) (a.heap.getD (top1 f.stack).n.toNat cl0).right)
  else if i.op = 9 then (if (top2 f.stack).kind ≠ 2 then (toF a fs { f with stack := low 2 f.stack }, dead 11) else (toF { a with heap := a.heap.set (top2 f.stack).n.toNat { a.heap.getD (top2 f.stack).n.toNat cl0 with left := top1 f.stack } } fs { f with stack := low 2 f.stack }, ev0))
  else if i.op = 10 then (if (top2 f.stack).kind ≠ 2 then (toF a fs { f with stack := low 2 f.stack }, dead 11) else (toF { a with heap := a.heap.set (top2 f.stack).n.toNat { a.heap.getD (top2 f.stack).n.toNat cl0 with right := top1 f.stack } } fs { f with stack := low 2 f.stack }, ev0))
  else if i.op = 11 then (if (top1 f.stack).kind ≠ 1 then (toF a fs { f with stack := low 1 f.stack }, dead 11) else push a fs f (low 1 f.stack) (ask s.facts (top1 f.stack).text))
  else if i.op = 12 then push a fs f f.stack (cText s.name)
  else if i.op = 13 then (if (top1 f.stack).kind ≠ 1 then (toF a fs { f with stack := low 1 f.stack }, dead 11) else if a.permit.hops = 0 then push a fs f (low 1 f.stack) vzero
    else (toF { a with permit := { a.permit with hops := a.permit.hops - 1 } } fs { f with stack := low 1 f.stack }, ⟨3, (top1 f.stack).text, 0⟩))
  else if i.op = 14 then (toF a fs { f with stack := low 1 f.stack }, ⟨2, vshow a.heap 4 (top1 f.stack), 0⟩)
  else if i.op = 15 then (toF a fs { f with at_ := i.a }, ev0)
  else if i.op = 16 then (toF a fs { f with stack := low 1 f.stack, at_ := if (top1 f.stack).kind = 0 ∧ (top1 f.stack).n = 0 then i.a else f.at_ }, ev0)
  else if i.op = 17 then (if 12 ≤ fs.length + 1 then (toF a fs f, dead 9)
    else (toF a (fs ++ [{ f with stack := low i.b.toNat f.stack }]) ⟨i.a, 0, f.stack.drop (f.stack.length - i.b.toNat) ++ List.replicate ((codeAt a.prog i.a).vars - i.b).toNat vzero, []⟩, ev0))
  else if i.op = 18 then (match fs.getLast? with
    | none => ({ a with frames := [] }, ⟨4, vshow a.heap 4 (top1 f.stack), 0⟩)
    | some g => push a fs.dropLast g g.stack (top1 f.stack))
  else (toF a fs { f with stack := low 1 f.stack }, ev0)
def insAt (p : Prg) (f : Frm) : Ins := (codeAt p f.fn).ins.getD f.at_.toNat ⟨0, 0, 0⟩
def step (a : Agt) (s : Spt) : Agt × Evt :=
  if a.permit.fuel = 0 then (a, dead 12)
  else match a.frames.getLast? with
    | none => (a, ev0)
    | some f => opDo { a with permit := { a.permit with fuel := a.permit.fuel - 1 } } s a.frames.dropLast { f with at_ := f.at_ + 1 } (insAt a.prog f)
def run (s : Spt) : Nat → Agt → Agt × Evt
  | 0, a => (a, ⟨1, [], 0⟩)
  | n + 1, a => if (step a s).2.kind ≠ 0 then step a s else run s n (step a s).1
def roots (a : Agt) : List Val := a.frames.flatMap fun f => f.vars ++ f.stack
def pack (a : Agt) : Agt := { a with frames := a.frames.map (fun f => { f with vars := f.vars.map (put (order a.heap (roots a))), stack := f.stack.map (put (order a.heap (roots a))) }), heap := canonC a.heap (roots a) }
end VM
end Go.Proofs.YtpbnaaoilgohkaaGreatDoor
