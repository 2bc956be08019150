/- What is to be shown of each function, written out. The plain law of wire: numbers as bytes, and back; no program in sight. Agents as bytes, and back: the plain functions. Right agents, that go on or are away: what is asked of them, and how they pass into one another. Agents as bytes, and back: what was written comes back; no part of it does. What is right never gets stuck; who begins is right: in plain words. Agents as bytes, and back: the laws. What a step spends: in plain words. Going as if it were nothing: the plain functions, and what an agent comes to (chapter 9). Agents as bytes, and back: there and back; a part is nothing; seen the same, written the same. How great an agent that is away is. Going as if it were nothing: the program's small functions (chapter 9). Rows of one's own, by value from now on: cell by cell. Going as if it were nothing: what is wrong with places; who is let in: the program's. Going as if it were nothing: who is let in, and what is said: the program's. Going as if it were nothing: what is said: the program's. -/
import Derived.Test.YtdmibdjokofclaaGreatDoorG8
import Derived.Test.YtdmibdjokofclaaGreatDoorG6
import Derived.Test.YtdmibdjokofclaaGreatDoorG7
import Derived.Test.YtdmibdjokofclaaGreatDoorG9
import Derived.Test.YtdmibdjokofclaaGreatDoorG12
set_option linter.unusedSimpArgs false
set_option linter.unusedVariables false
set_option maxRecDepth 8000
namespace Go.Proofs.YtdmibdjokofclaaGreatDoor
open Go Go.RowKit
def zcd (Q : QT) (xs3 : List AV) (K2 : J3) (v9 : AV) (H10 : Heap) (nx11 : Nat) : Prop :=
 CNDC v9
 (Q (nth xs3 3) H10 nx11)
 (BI .add (nth xs3 3) (.int .i64 1) fun v12 =>
 K2 [nth xs3 0, nth xs3 1, nth xs3 2, v12] H10 nx11)
def zcc (Q : QT) (K2 : J3) (xs3 : List AV) (H4 : Heap) (nx5 : Nat) : Prop :=
 BI .lss (nth xs3 3) (nth xs3 2) fun v6 =>
 CNDC v6
 (IA 4 (nth xs3 0) (nth xs3 3) fun v7 =>
 LD true 4 v7 H4 fun v8 =>
 CALL Tryz.prog (nth xs3 1) [v8] H4 nx5 (zcd Q xs3 K2))
 (Q (.int .i64 (-1)) H4 nx5)
def zdt (a0 a1 : AV) (H : Heap) (nx : Nat) (Q : QT) : Prop :=
 LNL a0 fun v1 =>
 LP (zcc Q) [a0, a1, v1, .int .i64 0] H nx
theorem zhv (a0 a1 : AV) (H : Heap) (nx : Nat) (Q : QT) : zdt a0 a1 H nx Q → za Tryz.prog 28 [a0, a1] H nx Q :=
  ze (lv := lvOf [(2, 2, [0, 1, 7, 8])]) (c := zp Tryz.f28) zy zz mixed Tryz.func28 (by kernel_rfl) (by kernel_rfl) (by kernel_rfl) (by kernel_rfl) (by kernel_rfl)
def zpd (Q : QT) (v2 : AV) (H3 : Heap) (nx4 : Nat) : Prop :=
 Q v2 H3 nx4
def zpc (a0 a1 : AV) (H : Heap) (nx : Nat) (Q : QT) : Prop :=
 a1.sure = true ∧
 PUTH H nx (.row a1.cells.length a1.cells) fun H1 =>
 za Tryz.prog 28 [a0, .clo 29 [.ptr nx 0]] H1 (nx + 1) (zpd Q)
theorem ztu (a0 a1 : AV) (H : Heap) (nx : Nat) (Q : QT) : zpc a0 a1 H nx Q → za Tryz.prog 14 [a0, a1] H nx Q :=
  ze (lv := lvOf []) (c := zp Tryz.f14) zy zz mixed Tryz.func14 (by kernel_rfl) (by kernel_rfl) (by kernel_rfl) (by kernel_rfl) (by kernel_rfl)
def zmb (a0 a1 : AV) (H : Heap) (nx : Nat) (Q : QT) : Prop :=
 a0.sure = true ∧
 PUTH H nx (.row a0.cells.length a0.cells) fun H1 =>
 LD false 1 (.ptr nx 0) H1 fun v2 =>
 LD false 1 a1 H1 fun v3 =>
 BS .eql v2 v3 fun v4 =>
 Q v4 H1 (nx + 1)
theorem zrh (a0 a1 : AV) (H : Heap) (nx : Nat) (Q : QT) : zmb a0 a1 H nx Q → za Tryz.prog 29 [a0, a1] H nx Q :=
  ze (lv := lvOf []) (c := zp Tryz.f29) zy zz mixed Tryz.func29 (by kernel_rfl) (by kernel_rfl) (by kernel_rfl) (by kernel_rfl) (by kernel_rfl)
def zrg (nx : Nat) (Q : QT) (v21 : AV) (H22 : Heap) (nx23 : Nat) : Prop :=
 ST 9 (.ptr (nx + 2) 0) v21 H22 fun H24 =>
 LD true 9 (.ptr (nx + 2) 0) H24 fun v25 =>
 Q (.tup [v25, .bool true]) H24 nx23
def zlf (nx : Nat) (Q : QT) (v5 : AV) (H6 : Heap) (nx7 : Nat) : Prop :=
 PUTH H6 nx7 (.row 9 [.int .i64 0, .int .i64 0, .nils, .nils, .nils, .nils, .int .i64 0, .int .i64 0, .int .i64 0]) fun H8 =>
 ST 9 (.ptr nx7 0) v5 H8 fun H9 =>
 LD false 1 (.ptr nx7 5) H9 fun v10 =>
 LNL v10 fun v11 =>
 LD false 1 (.ptr (nx + 1) 3) H9 fun v12 =>
 BI .gtr v11 v12 fun v13 =>
 CNDC v13
 (ST 9 (.ptr (nx + 2) 0) (.agg [.int .i64 0, .int .i64 0, .nils, .nils, .nils, .nils, .int .i64 0, .int .i64 0, .int .i64 0]) H9 fun H14 =>
 LD true 9 (.ptr (nx + 2) 0) H14 fun v15 =>
 Q (.tup [v15, .bool false]) H14 (nx7 + 1))
 (LD false 1 (.ptr nx7 6) H9 fun v16 =>
 LD false 1 (.ptr (nx + 1) 2) H9 fun v17 =>
 MM true v16 v17 fun v18 =>
 ST 1 (.ptr nx7 6) v18 H9 fun H19 =>
 LD true 9 (.ptr nx7 0) H19 fun v20 =>
 za Tryz.prog 20 [v20, .int .i64 1] H19 (nx7 + 1) (zrg nx Q))
def zrf (a0 a1 : AV) (H : Heap) (nx : Nat) (Q : QT) : Prop :=
 a0.sure = true ∧
 PUTH H nx (.row a0.cells.length a0.cells) fun H1 =>
 a1.sure = true ∧
 PUTH H1 (nx + 1) (.row a1.cells.length a1.cells) fun H2 =>
 PUTH H2 (nx + 2) (.row 9 [.int .i64 0, .int .i64 0, .nils, .nils, .nils, .nils, .int .i64 0, .int .i64 0, .int .i64 0]) fun H3 =>
 LD true 9 (.ptr nx 0) H3 fun v4 =>
 za Tryz.prog 23 [v4] H3 (nx + 3) (zlf nx Q)
theorem zuw (a0 a1 : AV) (H : Heap) (nx : Nat) (Q : QT) : zrf a0 a1 H nx Q → za Tryz.prog 10 [a0, a1] H nx Q :=
  ze (lv := lvOf []) (c := zp Tryz.f10) zy zz mixed Tryz.func10 (by kernel_rfl) (by kernel_rfl) (by kernel_rfl) (by kernel_rfl) (by kernel_rfl)
def zma (a0 : AV) (H : Heap) (nx : Nat) (Q : QT) : Prop :=
 a0.sure = true ∧
 PUTH H nx (.row a0.cells.length a0.cells) fun H1 =>
 LD false 1 (.ptr nx 0) H1 fun v2 =>
 BI .lss v2 (.int .i64 0) fun v3 =>
 CND v3
 (Q (.int .i64 3) H1 (nx + 1))
 (LD false 1 (.ptr nx 0) H1 fun v4 =>
 BI .gtr v4 (.int .i64 2000) fun v5 =>
 CND v5
 (Q (.int .i64 3) H1 (nx + 1))
 (LD false 1 (.ptr nx 1) H1 fun v6 =>
 BI .lss v6 (.int .i64 0) fun v7 =>
 CND v7
 (Q (.int .i64 3) H1 (nx + 1))
 (LD false 1 (.ptr nx 1) H1 fun v8 =>
 BI .gtr v8 (.int .i64 60) fun v9 =>
 CND v9
 (Q (.int .i64 3) H1 (nx + 1))
 (LD false 1 (.ptr nx 2) H1 fun v10 =>
 BI .lss v10 (.int .i64 0) fun v11 =>
 CND v11
 (Q (.int .i64 3) H1 (nx + 1))
 (LD false 1 (.ptr nx 2) H1 fun v12 =>
 BI .gtr v12 (.int .i64 12) fun v13 =>
 CNDC v13
 (Q (.int .i64 3) H1 (nx + 1))
 (Q (.int .i64 0) H1 (nx + 1)))))))
theorem zre (a0 : AV) (H : Heap) (nx : Nat) (Q : QT) : zma a0 H nx Q → za Tryz.prog 15 [a0] H nx Q :=
  ze (lv := lvOf []) (c := zp Tryz.f15) zy zz mixed Tryz.func15 (by kernel_rfl) (by kernel_rfl) (by kernel_rfl) (by kernel_rfl) (by kernel_rfl)
def zda (Q : QT) (v1 : AV) (H2 : Heap) (nx3 : Nat) : Prop :=
 BI .geq v1 (.int .i64 0) fun v4 =>
 Q v4 H2 nx3
def zcz (a0 a1 : AV) (H : Heap) (nx : Nat) (Q : QT) : Prop :=
 za Tryz.prog 28 [a0, a1] H nx (zda Q)
theorem zgh (a0 a1 : AV) (H : Heap) (nx : Nat) (Q : QT) : zcz a0 a1 H nx Q → za Tryz.prog 25 [a0, a1] H nx Q :=
  ze (lv := lvOf []) (c := zp Tryz.f25) zy zz mixed Tryz.func25 (by kernel_rfl) (by kernel_rfl) (by kernel_rfl) (by kernel_rfl) (by kernel_rfl)
def zhh (Q : QT) (xs39 : List AV) (K38 : J3) (v53 : AV) (H54 : Heap) (nx55 : Nat) : Prop :=
 BI .neq v53 (.int .i64 0) fun v56 =>
 CNDC v56
 (Q (.tup [.int .i64 11, nth xs39 1]) H54 nx55)
 (BI .add (nth xs39 7) (.int .i64 1) fun v57 =>
 K38 [nth xs39 0, nth xs39 1, nth xs39 2, nth xs39 3, nth xs39 4, nth xs39 5, nth xs39 6, v57] H54 nx55)
def zbz (Q : QT) (K6 : J3) (K38 : J3) (xs39 : List AV) (H40 : Heap) (nx41 : Nat) : Prop :=
 BI .lss (nth xs39 7) (nth xs39 6) fun v42 =>
 CNDC v42
 (IA 4 (nth xs39 5) (nth xs39 7) fun v43 =>
 LD true 4 v43 H40 fun v44 =>
 PUTH H40 nx41 (.row 4 [.str [], .int .i64 0, .int .i64 0, .str []]) fun H45 =>
 ST 4 (.ptr nx41 0) v44 H45 fun H46 =>
 LD false 1 (.ptr nx41 0) H46 fun v47 =>
 LNS v47 fun v48 =>
 BI .gtr v48 (.int .i64 60) fun v49 =>
 CND v49
 (Q (.tup [.int .i64 11, nth xs39 1]) H46 (nx41 + 1))
 (LD false 1 (.ptr nx41 1) H46 fun v50 =>
 BI .eql v50 (.int .i64 2) fun v51 =>
 CND v51
 (Q (.tup [.int .i64 11, nth xs39 1]) H46 (nx41 + 1))
 (LD true 3 (.ptr nx41 1) H46 fun v52 =>
 za Tryz.prog 27 [v52, .int .i64 0] H46 (nx41 + 1) (zhh Q xs39 K38))))
 (BI .add (nth xs39 4) (.int .i64 1) fun v58 =>
 K6 [nth xs39 0, nth xs39 2, nth xs39 3, v58] H40 nx41)
def zaz (Q : QT) (xs7 : List AV) (nx9 : Nat) (K6 : J3) (v22 : AV) (H23 : Heap) (nx24 : Nat) : Prop :=
 CNDC v22
 (Q (.tup [.int .i64 7, nth xs7 3]) H23 nx24)
 (LD false 1 (.ptr nx9 2) H23 fun v25 =>
 BI .lss v25 (.int .i64 0) fun v26 =>
 CND v26
 (Q (.tup [.int .i64 3, nth xs7 3]) H23 nx24)
 (LD false 1 (.ptr nx9 2) H23 fun v27 =>
 BI .gtr v27 (.int .i64 2000) fun v28 =>
 CND v28
 (Q (.tup [.int .i64 3, nth xs7 3]) H23 nx24)
 (LD false 1 (.ptr nx9 3) H23 fun v29 =>
 BI .lss v29 (.int .i64 0) fun v30 =>
 CND v30
 (Q (.tup [.int .i64 3, nth xs7 3]) H23 nx24)
 (LD false 1 (.ptr nx9 3) H23 fun v31 =>
 BI .gtr v31 (.int .i64 60) fun v32 =>
 CNDC v32
 (Q (.tup [.int .i64 3, nth xs7 3]) H23 nx24)
 (LD false 1 (.ptr nx9 1) H23 fun v33 =>
 LNL v33 fun v34 =>
 BI .gtr v34 (.int .i64 4) fun v35 =>
 CNDC v35
 (Q (.tup [.int .i64 5, nth xs7 3]) H23 nx24)
 (LD false 1 (.ptr nx9 1) H23 fun v36 =>
 LNL v36 fun v37 =>
 LP (zbz Q K6) [nth xs7 0, nth xs7 3, nth xs7 1, nth xs7 2, nth xs7 3, v36, v37, .int .i64 0] H23 nx24))))))
def zby (Q : QT) (K6 : J3) (xs7 : List AV) (H8 : Heap) (nx9 : Nat) : Prop :=
 BI .lss (nth xs7 3) (nth xs7 2) fun v10 =>
 CNDC v10
 (IA 4 (nth xs7 1) (nth xs7 3) fun v11 =>
 LD true 4 v11 H8 fun v12 =>
 PUTH H8 nx9 (.row 4 [.str [], .nils, .int .i64 0, .int .i64 0]) fun H13 =>
 ST 4 (.ptr nx9 0) v12 H13 fun H14 =>
 LD false 1 (.ptr nx9 0) H14 fun v15 =>
 LNS v15 fun v16 =>
 BI .lss v16 (.int .i64 1) fun v17 =>
 CND v17
 (Q (.tup [.int .i64 7, nth xs7 3]) H14 (nx9 + 1))
 (LD false 1 (.ptr nx9 0) H14 fun v18 =>
 LNS v18 fun v19 =>
 BI .gtr v19 (.int .i64 12) fun v20 =>
 CND v20
 (Q (.tup [.int .i64 7, nth xs7 3]) H14 (nx9 + 1))
 (SL 4 (nth xs7 0) none (some (nth xs7 3)) H14 fun v21 =>
 za Tryz.prog 25 [v21, .clo 26 [.ptr nx9 0]] H14 (nx9 + 1) (zaz Q xs7 nx9 K6))))
 (Q (.tup [.int .i64 0, .int .i64 (-1)]) H8 nx9)
def zel (a0 : AV) (H : Heap) (nx : Nat) (Q : QT) : Prop :=
 LNL a0 fun v1 =>
 BI .lss v1 (.int .i64 1) fun v2 =>
 CND v2
 (Q (.tup [.int .i64 5, .int .i64 (-1)]) H nx)
 (LNL a0 fun v3 =>
 BI .gtr v3 (.int .i64 4) fun v4 =>
 CNDC v4
 (Q (.tup [.int .i64 5, .int .i64 (-1)]) H nx)
 (LNL a0 fun v5 =>
 LP (zby Q) [a0, a0, v5, .int .i64 0] H nx))
theorem zsi (a0 : AV) (H : Heap) (nx : Nat) (Q : QT) : zel a0 H nx Q → za Tryz.prog 13 [a0] H nx Q :=
  ze (lv := lvOf [(2, 4, [0, 16, 17, 18]), (2, 13, [0, 4, 16, 17, 18, 66, 67, 68])]) (c := zp Tryz.f13) zy zz mixed Tryz.func13 (by kernel_rfl) (by kernel_rfl) (by kernel_rfl) (by kernel_rfl) (by kernel_rfl)
def zef (xs34 : List AV) (K33 : J3) (v96 : AV) (H97 : Heap) (nx98 : Nat) : Prop :=
 ST 9 (nth xs34 3) v96 H97 fun H99 =>
 K33 [nth xs34 0, nth xs34 1, nth xs34 2, nth xs34 3, nth xs34 4] H99 nx98
def zle (nx72 : Nat) (H75 : Heap) (xs34 : List AV) (K33 : J3) (v70 : AV) (v83 : AV) (_ : List Nat) (fr85 : List Nat) (D86 : zj) : Prop :=
 EX v83 0 fun v87 =>
 EX v83 1 fun v88 =>
 zaf 9 (.ptr nx72 0) v87 (H75.apply D86) fun _ _ fr91 D92 =>
 zh (domD D92) [] (
 CNDC v88
 (LD true 9 (.ptr nx72 0) ((H75.apply D86).apply D92) fun v93 =>
 ST 9 (nth xs34 3) v93 ((H75.apply D86).apply D92) fun H94 =>
 K33 [nth xs34 0, v70, nth xs34 2, nth xs34 3, nth xs34 4] H94 (((nx72 + 1) + fr85.length) + fr91.length))
 (LD true 9 (nth xs34 3) ((H75.apply D86).apply D92) fun v95 =>
 za Tryz.prog 20 [v95, .int .i64 0] ((H75.apply D86).apply D92) (((nx72 + 1) + fr85.length) + fr91.length) (zef xs34 K33)))
def zgr (xs34 : List AV) (K33 : J3) (v70 : AV) (H71 : Heap) (nx72 : Nat) : Prop :=
 LD true 9 (nth xs34 3) H71 fun v73 =>
 PUTH H71 nx72 (.row 9 [.int .i64 0, .int .i64 0, .nils, .nils, .nils, .nils, .int .i64 0, .int .i64 0, .int .i64 0]) fun H74 =>
 ST 9 (.ptr nx72 0) v73 H74 fun H75 =>
 BI .geq v70 (.int .i64 0) fun v76 =>
 CND v76
 (BI .neq v70 (nth xs34 1) fun v77 =>
 CNDC v77
 (LDR true 9 (nth xs34 3) H75 fun v78 _ =>
 IA 4 (nth xs34 0) v70 fun v80 =>
 LDR true 4 v80 H75 fun v81 _ =>
 zw Tryz.prog (.clo 10 []) [v78, v81] H75 (nx72 + 1) (zle nx72 H75 xs34 K33 v70))
 (LD true 9 (nth xs34 3) H75 fun v100 =>
 za Tryz.prog 20 [v100, .int .i64 0] H75 (nx72 + 1) (zef xs34 K33)))
 (LD true 9 (nth xs34 3) H75 fun v105 =>
 za Tryz.prog 20 [v105, .int .i64 0] H75 (nx72 + 1) (zef xs34 K33))
def zee (H35 : Heap) (nx36 : Nat) (rd38 : List Nat) (rd41 : List Nat) (xs34 : List AV) (K33 : J3) (Q : QT) (v42 : AV) (rd43 : List Nat) (fr44 : List Nat) (D45 : zj) : Prop :=
 EX v42 0 fun v46 =>
 EX v42 1 fun v47 =>
 PUTH (H35.apply D45) (nx36 + fr44.length) (.row 9 [.int .i64 0, .int .i64 0, .nils, .nils, .nils, .nils, .int .i64 0, .int .i64 0, .int .i64 0]) fun H48 =>
 PUTH H48 ((nx36 + fr44.length) + 1) (.row 3 [.int .i64 0, .str [], .int .i64 0]) fun H49 =>
 zaf 9 (.ptr (nx36 + fr44.length) 0) v46 H49 fun _ _ fr52 D53 =>
 zaf 3 (.ptr ((nx36 + fr44.length) + 1) 0) v47 (H49.apply D53) fun _ _ fr56 D57 =>
 (nx36 + fr44.length) ∉ rd38 ∧
 (nx36 + fr44.length) ∉ [] ∧
 (nx36 + fr44.length) ∉ [] ∧
 (nx36 + fr44.length) ∉ [] ∧
 (nx36 + fr44.length) ∉ rd41 ∧
 zh (domD D45) [] (
 zh (domD D45) [(nx36 + fr44.length)] (
 (nx36 + fr44.length) ∉ rd43 ∧
 (nx36 + fr44.length) ∉ [] ∧
 (nx36 + fr44.length) ∉ [] ∧
 (nx36 + fr44.length) ∉ [] ∧
 ((nx36 + fr44.length) + 1) ∉ rd38 ∧
 ((nx36 + fr44.length) + 1) ∉ [] ∧
 ((nx36 + fr44.length) + 1) ∉ [] ∧
 ((nx36 + fr44.length) + 1) ∉ [] ∧
 ((nx36 + fr44.length) + 1) ∉ rd41 ∧
 zh (domD D45) [] (
 zh (domD D45) [((nx36 + fr44.length) + 1)] (
 ((nx36 + fr44.length) + 1) ∉ rd43 ∧
 ((nx36 + fr44.length) + 1) ∉ [] ∧
 ((nx36 + fr44.length) + 1) ∉ [] ∧
 ((nx36 + fr44.length) + 1) ∉ [] ∧
 (nx36 + fr44.length) ∉ [] ∧
 (nx36 + fr44.length) ∉ [((nx36 + fr44.length) + 1)] ∧
 ((nx36 + fr44.length) + 1) ∉ [] ∧
 zh (domD D53) [] (
 LD true 9 (.ptr (nx36 + fr44.length) 0) ((H49.apply D53).apply D57) fun v58 =>
 ST 9 (nth xs34 3) v58 ((H49.apply D53).apply D57) fun H59 =>
 LD false 1 (.ptr ((nx36 + fr44.length) + 1) 0) H59 fun v60 =>
 BI .eql v60 (.int .i64 2) fun v61 =>
 CNDC v61
 (LD false 1 (.ptr ((nx36 + fr44.length) + 1) 1) H59 fun v62 =>
 BSL 1 1 [.str []] [(0, v62)] fun cells63 =>
 PUTH H59 ((((nx36 + fr44.length) + 2) + fr52.length) + fr56.length) (.row 1 cells63) fun H64 =>
 APP 1 16 (nth xs34 4) (.slc ((((nx36 + fr44.length) + 2) + fr52.length) + fr56.length) 0 1) H64 (((((nx36 + fr44.length) + 2) + fr52.length) + fr56.length) + 1) fun v65 H66 nx67 =>
 K33 [nth xs34 0, nth xs34 1, nth xs34 2, nth xs34 3, v65] H66 nx67)
 (BI .eql v60 (.int .i64 3) fun v68 =>
 CNDC v68
 (LD false 1 (.ptr ((nx36 + fr44.length) + 1) 1) H59 fun v69 =>
 za Tryz.prog 14 [nth xs34 0, v69] H59 ((((nx36 + fr44.length) + 2) + fr52.length) + fr56.length) (zgr xs34 K33))
 (BI .eql v60 (.int .i64 4) fun v110 =>
 CNDC v110
 (LDR false 1 (.ptr ((nx36 + fr44.length) + 1) 1) H59 fun v111 _ =>
 LDR false 1 (.ptr ((nx36 + fr44.length) + 1) 2) H59 fun v113 _ =>
 BD (zab tab [(3, 0), (9, 1), (30, 2)]) [.int .i64 0, .str [], .int .i64 0] [(1, v111), (2, v113)] fun v115 =>
 zaf 3 (nth xs34 2) v115 H59 fun _ _ fr118 D119 =>
 LD true 3 (nth xs34 2) (H59.apply D119) fun v120 =>
 Q (.tup [nth xs34 4, v120, .int .i64 0]) (H59.apply D119) (((((nx36 + fr44.length) + 2) + fr52.length) + fr56.length) + fr118.length))
 (BI .eql v60 (.int .i64 5) fun v121 =>
 CNDC v121
 (LDR false 1 (.ptr ((nx36 + fr44.length) + 1) 1) H59 fun v122 _ =>
 LDR false 1 (.ptr ((nx36 + fr44.length) + 1) 2) H59 fun v124 _ =>
 BD (zab tab [(3, 0), (9, 1), (30, 2)]) [.int .i64 0, .str [], .int .i64 0] [(1, v122), (2, v124)] fun v126 =>
 zaf 3 (nth xs34 2) v126 H59 fun _ _ fr129 D130 =>
 LD true 3 (nth xs34 2) (H59.apply D130) fun v131 =>
 Q (.tup [nth xs34 4, v131, .int .i64 0]) (H59.apply D130) (((((nx36 + fr44.length) + 2) + fr52.length) + fr56.length) + fr129.length))
 (K33 [nth xs34 0, nth xs34 1, nth xs34 2, nth xs34 3, nth xs34 4] H59 ((((nx36 + fr44.length) + 2) + fr52.length) + fr56.length))))))))))
def zgq (Q : QT) (K33 : J3) (xs34 : List AV) (H35 : Heap) (nx36 : Nat) : Prop :=
 LDR true 9 (nth xs34 3) H35 fun v37 rd38 =>
 IA 4 (nth xs34 0) (nth xs34 1) fun v39 =>
 LDR true 4 v39 H35 fun v40 rd41 =>
 zw Tryz.prog (.clo 19 []) [v37, v40, .int .i64 2001] H35 nx36 (zee H35 nx36 rd38 rd41 xs34 K33 Q)
def zrd (Q : QT) (a2 : AV) (a3 : AV) (nx : Nat) (v28 : AV) (H29 : Heap) (nx30 : Nat) : Prop :=
 PUTH H29 nx30 (.row 9 [.int .i64 0, .int .i64 0, .nils, .nils, .nils, .nils, .int .i64 0, .int .i64 0, .int .i64 0]) fun H31 =>
 ST 9 (.ptr nx30 0) v28 H31 fun H32 =>
 LP (zgq Q) [a2, a3, .ptr (nx + 2) 0, .ptr nx30 0, .nils] H32 (nx30 + 1)
def zed (nx : Nat) (Q : QT) (a3 : AV) (a2 : AV) (v13 : AV) (H14 : Heap) (nx15 : Nat) : Prop :=
 BI .neq v13 (.int .i64 0) fun v16 =>
 CNDC v16
 (ST 3 (.ptr (nx + 2) 0) (.agg [.int .i64 0, .str [], .int .i64 0]) H14 fun H17 =>
 LD true 3 (.ptr (nx + 2) 0) H17 fun v18 =>
 Q (.tup [.nils, v18, v13]) H17 nx15)
 (BI .lss a3 (.int .i64 0) fun v19 =>
 CND v19
 (ST 3 (.ptr (nx + 2) 0) (.agg [.int .i64 0, .str [], .int .i64 0]) H14 fun H20 =>
 LD true 3 (.ptr (nx + 2) 0) H20 fun v21 =>
 Q (.tup [.nils, v21, .int .i64 6]) H20 nx15)
 (LNL a2 fun v22 =>
 BI .geq a3 v22 fun v23 =>
 CNDC v23
 (ST 3 (.ptr (nx + 2) 0) (.agg [.int .i64 0, .str [], .int .i64 0]) H14 fun H24 =>
 LD true 3 (.ptr (nx + 2) 0) H24 fun v25 =>
 Q (.tup [.nils, v25, .int .i64 6]) H24 nx15)
 (LD true 2 (.ptr nx 0) H14 fun v26 =>
 LD true 3 (.ptr (nx + 1) 0) H14 fun v27 =>
 za Tryz.prog 18 [.int .i64 0, v26, v27] H14 nx15 (zrd Q a2 a3 nx))))
def zld (nx : Nat) (Q : QT) (a3 : AV) (a2 : AV) (v4 : AV) (H5 : Heap) (nx6 : Nat) : Prop :=
 EX v4 0 fun v7 =>
 EX v4 1 fun _ =>
 BI .neq v7 (.int .i64 0) fun v9 =>
 CNDC v9
 (ST 3 (.ptr (nx + 2) 0) (.agg [.int .i64 0, .str [], .int .i64 0]) H5 fun H10 =>
 LD true 3 (.ptr (nx + 2) 0) H10 fun v11 =>
 Q (.tup [.nils, v11, v7]) H10 nx6)
 (LD true 3 (.ptr (nx + 1) 0) H5 fun v12 =>
 za Tryz.prog 15 [v12] H5 nx6 (zed nx Q a3 a2))
def zrc (a0 a1 a2 a3 : AV) (H : Heap) (nx : Nat) (Q : QT) : Prop :=
 a0.sure = true ∧
 PUTH H nx (.row a0.cells.length a0.cells) fun H1 =>
 a1.sure = true ∧
 PUTH H1 (nx + 1) (.row a1.cells.length a1.cells) fun H2 =>
 PUTH H2 (nx + 2) (.row 3 [.int .i64 0, .str [], .int .i64 0]) fun H3 =>
 za Tryz.prog 13 [a2] H3 (nx + 3) (zld nx Q a3 a2)
theorem zuv (a0 a1 a2 a3 : AV) (H : Heap) (nx : Nat) (Q : QT) : zrc a0 a1 a2 a3 H nx Q → za Tryz.prog 7 [a0, a1, a2, a3] H nx Q :=
  ze (lv := lvOf [(2, 11, [2, 3, 9, 14, 15])]) (c := zp Tryz.f7) zy zz mixed Tryz.func7 (by kernel_rfl) (by kernel_rfl) (by kernel_rfl) (by kernel_rfl) (by kernel_rfl)
def zlc (a0 a1 : AV) (H : Heap) (nx : Nat) (Q : QT) : Prop :=
 a0.sure = true ∧
 PUTH H nx (.row a0.cells.length a0.cells) fun H1 =>
 LD false 1 (.ptr nx 0) H1 fun v2 =>
 FA 0 a1 fun v3 =>
 LD false 1 v3 H1 fun v4 =>
 BS .eql v2 v4 fun v5 =>
 Q v5 H1 (nx + 1)
theorem zpi (a0 a1 : AV) (H : Heap) (nx : Nat) (Q : QT) : zlc a0 a1 H nx Q → za Tryz.prog 26 [a0, a1] H nx Q :=
  ze (lv := lvOf []) (c := zp Tryz.f26) zy zz mixed Tryz.func26 (by kernel_rfl) (by kernel_rfl) (by kernel_rfl) (by kernel_rfl) (by kernel_rfl)
def zdm (Q : QT) (K5 : J3) (xs6 : List AV) (H7 : Heap) (nx8 : Nat) : Prop :=
 BI .lss (nth xs6 3) (nth xs6 2) fun v9 =>
 CNDC v9
 (IA 1 (nth xs6 0) (nth xs6 3) fun v10 =>
 LDR false 1 v10 H7 fun v11 _ =>
 IA 1 (nth xs6 1) (nth xs6 3) fun v13 =>
 LDR false 1 v13 H7 fun v14 _ =>
 BS .neq v11 v14 fun v16 =>
 CNDC v16
 (Q (.bool false) H7 nx8)
 (BI .add (nth xs6 3) (.int .i64 1) fun v17 =>
 K5 [nth xs6 0, nth xs6 1, nth xs6 2, v17] H7 nx8))
 (Q (.bool true) H7 nx8)
def zgv (a0 a1 : AV) (H : Heap) (nx : Nat) (Q : QT) : Prop :=
 LNL a0 fun v1 =>
 LNL a1 fun v2 =>
 BI .neq v1 v2 fun v3 =>
 CNDC v3
 (Q (.bool false) H nx)
 (LNL a0 fun v4 =>
 LP (zdm Q) [a0, a1, v4, .int .i64 0] H nx)
theorem zmf (a0 a1 : AV) (H : Heap) (nx : Nat) (Q : QT) : zgv a0 a1 H nx Q → za Tryz.prog 8 [a0, a1] H nx Q :=
  ze (lv := lvOf [(2, 4, [0, 1, 12, 13])]) (c := zp Tryz.f8) zy zz mixed Tryz.func8 (by kernel_rfl) (by kernel_rfl) (by kernel_rfl) (by kernel_rfl) (by kernel_rfl)
def zch (Q : QT) (K17 : J3) (K28 : J3) (xs29 : List AV) (H30 : Heap) (nx31 : Nat) : Prop :=
 BI .lss (nth xs29 9) (nth xs29 8) fun v32 =>
 CNDC v32
 (IA 3 (nth xs29 7) (nth xs29 9) fun v33 =>
 LD true 3 v33 H30 fun v34 =>
 PUTH H30 nx31 (.row 3 [.int .i64 0, .int .i64 0, .int .i64 0]) fun H35 =>
 ST 3 (.ptr nx31 0) v34 H35 fun H36 =>
 LD false 1 (.ptr nx31 0) H36 fun v37 =>
 BI .eql v37 (.int .i64 13) fun v38 =>
 CNDC v38
 (Q (.bool true) H36 (nx31 + 1))
 (BI .add (nth xs29 9) (.int .i64 1) fun v39 =>
 K28 [nth xs29 0, nth xs29 1, nth xs29 2, nth xs29 3, nth xs29 4, nth xs29 5, nth xs29 6, nth xs29 7, nth xs29 8, v39] H36 (nx31 + 1)))
 (BI .add (nth xs29 6) (.int .i64 1) fun v40 =>
 K17 [nth xs29 0, nth xs29 1, nth xs29 2, nth xs29 3, nth xs29 4, nth xs29 5, v40] H30 nx31)
def zgz (Q : QT) (v77 : AV) (H78 : Heap) (nx79 : Nat) : Prop :=
 Q v77 H78 nx79
def zgy (H50 : Heap) (D60 : zj) (nx45 : Nat) (fr59 : List Nat) (rd53 : List Nat) (rd55 : List Nat) (rd58 : List Nat) (v46 : AV) (Q : QT) (v61 : AV) (rd62 : List Nat) (fr63 : List Nat) (D64 : zj) : Prop :=
 EX v61 0 fun v65 =>
 EX v61 1 fun v66 =>
 EX v61 2 fun v67 =>
 PUTH ((H50.apply D60).apply D64) (((nx45 + 1) + fr59.length) + fr63.length) (.row 3 [.int .i64 0, .str [], .int .i64 0]) fun H68 =>
 zaf 3 (.ptr (((nx45 + 1) + fr59.length) + fr63.length) 0) v66 H68 fun _ _ fr71 D72 =>
 (((nx45 + 1) + fr59.length) + fr63.length) ∉ rd53 ∧
 (((nx45 + 1) + fr59.length) + fr63.length) ∉ rd55 ∧
 (((nx45 + 1) + fr59.length) + fr63.length) ∉ [] ∧
 (((nx45 + 1) + fr59.length) + fr63.length) ∉ [] ∧
 (((nx45 + 1) + fr59.length) + fr63.length) ∉ [] ∧
 (((nx45 + 1) + fr59.length) + fr63.length) ∉ [] ∧
 zh (domD D60) [] (
 zh (domD D60) [(((nx45 + 1) + fr59.length) + fr63.length)] (
 (((nx45 + 1) + fr59.length) + fr63.length) ∉ rd58 ∧
 zh (domD D64) [] (
 zh (domD D64) [(((nx45 + 1) + fr59.length) + fr63.length)] (
 (((nx45 + 1) + fr59.length) + fr63.length) ∉ rd62 ∧
 (((nx45 + 1) + fr59.length) + fr63.length) ∉ [] ∧
 (((nx45 + 1) + fr59.length) + fr63.length) ∉ [] ∧
 (((nx45 + 1) + fr59.length) + fr63.length) ∉ [] ∧
 (((nx45 + 1) + fr59.length) + fr63.length) ∉ [] ∧
 zh (domD D72) [] (
 BI .eql v67 (.int .i64 0) fun v73 =>
 CND v73
 (LD true 3 (.ptr nx45 0) (H68.apply D72) fun v74 =>
 LD true 3 (.ptr (((nx45 + 1) + fr59.length) + fr63.length) 0) (H68.apply D72) fun v75 =>
 gd (eqsT 36) (
 BA [.int .i64 0, .str [], .int .i64 0] .eql v74 v75 fun v76 =>
 CND v76
 (za Tryz.prog 8 [v46, v65] (H68.apply D72) (((((nx45 + 1) + fr59.length) + fr63.length) + 1) + fr71.length) (zgz Q))
 (Q (.bool false) (H68.apply D72) (((((nx45 + 1) + fr59.length) + fr63.length) + 1) + fr71.length))))
 (Q (.bool false) (H68.apply D72) (((((nx45 + 1) + fr59.length) + fr63.length) + 1) + fr71.length)))))))
def zci (Q : QT) (xs18 : List AV) (v43 : AV) (H44 : Heap) (nx45 : Nat) : Prop :=
 EX v43 0 fun v46 =>
 EX v43 1 fun v47 =>
 EX v43 2 fun v48 =>
 PUTH H44 nx45 (.row 3 [.int .i64 0, .str [], .int .i64 0]) fun H49 =>
 ST 3 (.ptr nx45 0) v47 H49 fun H50 =>
 BI .neq v48 (.int .i64 0) fun v51 =>
 CNDC v51
 (Q (.bool true) H50 (nx45 + 1))
 (LDR true 2 (nth xs18 2) H50 fun v52 rd53 =>
 LDR true 3 (nth xs18 3) H50 fun v54 rd55 =>
 BI .add (nth xs18 1) (.int .i64 1) fun v56 =>
 zax 4 (nth xs18 0) (some (nth xs18 1)) (some v56) H50 fun v57 rd58 fr59 D60 =>
 zw Tryz.prog (.clo 7 []) [v52, v54, v57, .int .i64 0] (H50.apply D60) ((nx45 + 1) + fr59.length) (zgy H50 D60 nx45 fr59 rd53 rd55 rd58 v46 Q))
def zcg (Q : QT) (K17 : J3) (xs18 : List AV) (H19 : Heap) (nx20 : Nat) : Prop :=
 BI .lss (nth xs18 6) (nth xs18 5) fun v21 =>
 CNDC v21
 (IA 3 (nth xs18 4) (nth xs18 6) fun v22 =>
 LD true 3 v22 H19 fun v23 =>
 PUTH H19 nx20 (.row 3 [.int .i64 0, .int .i64 0, .nils]) fun H24 =>
 ST 3 (.ptr nx20 0) v23 H24 fun H25 =>
 LD false 1 (.ptr nx20 2) H25 fun v26 =>
 LNL v26 fun v27 =>
 LP (zch Q K17) [nth xs18 0, nth xs18 1, nth xs18 2, nth xs18 3, nth xs18 4, nth xs18 5, nth xs18 6, v26, v27, .int .i64 0] H25 (nx20 + 1))
 (LD true 2 (nth xs18 2) H19 fun v41 =>
 LD true 3 (nth xs18 3) H19 fun v42 =>
 za Tryz.prog 7 [v41, v42, nth xs18 0, nth xs18 1] H19 nx20 (zci Q xs18))
def zbe (Q : QT) (a3 : AV) (a0 : AV) (nx : Nat) (v8 : AV) (H9 : Heap) (nx10 : Nat) : Prop :=
 BI .neq v8 (.int .i64 0) fun v11 =>
 CND v11
 (Q (.bool true) H9 nx10)
 (BI .lss a3 (.int .i64 0) fun v12 =>
 CND v12
 (Q (.bool true) H9 nx10)
 (LNL a0 fun v13 =>
 BI .geq a3 v13 fun v14 =>
 CNDC v14
 (Q (.bool true) H9 nx10)
 (LD false 1 (.ptr nx 0) H9 fun v15 =>
 LNL v15 fun v16 =>
 LP (zcg Q) [a0, a3, .ptr nx 0, .ptr (nx + 1) 0, v15, v16, .int .i64 0] H9 nx10)))
def zgx (Q : QT) (nx : Nat) (a3 : AV) (a0 : AV) (v3 : AV) (H4 : Heap) (nx5 : Nat) : Prop :=
 UO .not v3 fun v6 =>
 CNDC v6
 (Q (.bool false) H4 nx5)
 (LD true 2 (.ptr nx 0) H4 fun v7 =>
 za Tryz.prog 6 [v7] H4 nx5 (zbe Q a3 a0 nx))
def zgw (a0 a1 a2 a3 : AV) (H : Heap) (nx : Nat) (Q : QT) : Prop :=
 a1.sure = true ∧
 PUTH H nx (.row a1.cells.length a1.cells) fun H1 =>
 a2.sure = true ∧
 PUTH H1 (nx + 1) (.row a2.cells.length a2.cells) fun H2 =>
 za Tryz.prog 5 [] H2 (nx + 2) (zgx Q nx a3 a0)
theorem zmg (a0 a1 a2 a3 : AV) (H : Heap) (nx : Nat) (Q : QT) : zgw a0 a1 a2 a3 H nx Q → za Tryz.prog 4 [a0, a1, a2, a3] H nx Q :=
  ze (lv := lvOf [(2, 6, [0, 3, 5, 6, 35, 36, 37]), (2, 9, [0, 3, 5, 6, 35, 36, 37, 42, 43, 44])]) (c := zp Tryz.f4) zy zz mixed Tryz.func4 (by kernel_rfl) (by kernel_rfl) (by kernel_rfl) (by kernel_rfl) (by kernel_rfl)
end Go.Proofs.YtdmibdjokofclaaGreatDoor
set_option maxRecDepth 8000
namespace Go.Proofs.YtdmibdjokofclaaGreatDoor
namespace WM
abbrev Bytes := List UInt8
def zig (n : Int) : Nat := if n < 0 then (-(2 * n) - 1).toNat else (2 * n).toNat
def enc : Nat → Nat → Bytes
  | 0, u => [UInt8.ofNat u]
  | f + 1, u => if 128 ≤ u then UInt8.ofNat (u % 128 + 128) :: enc f (u / 128) else [UInt8.ofNat u]
def num (n : Int) : Bytes := enc 9 (zig n)
end WM
end Go.Proofs.YtdmibdjokofclaaGreatDoor
set_option maxRecDepth 8000
namespace Go.Proofs.YtdmibdjokofclaaGreatDoor
namespace VM
inductive R (α : Type) where
  | ok (a : α) (r : Str)
  | no (e : Int)
def Rd (α : Type) : Type := Str → R α
def Rd.pure {α : Type} (a : α) : Rd α := fun b => .ok a b
def Rd.bind {α β : Type} (m : Rd α) (f : α → Rd β) : Rd β := fun b => match m b with
  | .ok a r => f a r
  | .no e => .no e
def rMany {α : Type} (m : Rd α) : Nat → Rd (List α)
  | 0 => .pure []
  | n + 1 => m.bind fun a => (rMany m n).bind fun l => .pure (a :: l)
def agt0 : Agt := ⟨0, 0, ⟨[], []⟩, [], [], ⟨0, 0, 0⟩⟩
abbrev St := Str × Int
structure Goes {α : Type} (m : Rd α) (st : St) (a : α) (st' : St) : Prop where
  stuck : st.2 ≠ 0 → st'.2 = st.2
  good : st.2 = 0 → ∀ x r, m st.1 = .ok x r → a = x ∧ st' = (r, 0)
  bad : st.2 = 0 → ∀ e, m st.1 = .no e → e ≠ 0 ∧ st'.2 = e
theorem Goes.pure {α : Type} (a : α) (st : St) : Goes (Rd.pure a) st a st :=
  ⟨fun _ => rfl, fun h x r hr => by cases hr; exact ⟨rfl, Prod.ext rfl h⟩, fun _ e h => by cases h⟩
theorem Goes.bind {α β : Type} {m : Rd α} {k : α → Rd β} {st st1 st2 : St} {a : α} {b : β} (h : Goes m st a st1) (h2 : Goes (k a) st1 b st2) : Goes (m.bind k) st b st2 := by
  refine ⟨fun he => ?_, fun he x r hr => ?_, fun he e hr => ?_⟩
  · have h1 := h.stuck he
    rw [← h1]
    exact h2.stuck (by rw [h1]; exact he)
  · unfold Rd.bind at hr
    split at hr
    · rename_i a' r' hm
      obtain ⟨rfl, rfl⟩ := h.good he _ _ hm
      exact h2.good rfl x r hr
    · cases hr
  · unfold Rd.bind at hr
    split at hr
    · rename_i a' r' hm
      obtain ⟨rfl, rfl⟩ := h.good he _ _ hm
      exact h2.bad rfl e hr
    · rename_i e' hm
      cases hr
      obtain ⟨h1, h3⟩ := h.bad he _ hm
      refine ⟨h1, ?_⟩
      rw [← h3]
      exact h2.stuck (by rw [h3]; exact h1)
theorem Goes.more {α : Type} {m : Rd α} {st st1 st2 : St} {a : α} {l : List α} {n : Nat} (h : Goes m st a st1) (h2 : Goes (rMany m n) st1 l st2) : Goes (rMany m (n + 1)) st (a :: l) st2 :=
  h.bind (h2.bind (Goes.pure _ _))
end VM
end Go.Proofs.YtdmibdjokofclaaGreatDoor
set_option maxRecDepth 8000
namespace Go.Proofs.YtdmibdjokofclaaGreatDoor
namespace VM
structure Went (p : Prg) (f : Frm) : Prop where
  pos : 0 < f.at_
  op : ((codeAt p f.fn).ins.getD (f.at_.toNat - 1) ⟨0, 0, 0⟩).op = 13
  seen : 0 ≤ (hts p f).getD (f.at_.toNat - 1) 0
  hei : (hts p f)[f.at_.toNat]? = some ((f.stack.length : Int) + 1)
section
variable {a : Agt} {k : Nat} {f : Frm}
end
theorem chain_get {p : Prg} {fs : List Frm} {fn : Int} (h : WChain p fs fn) : ∀ (f : Frm), f.fn = fn → ∀ (k : Nat) (g : Frm), fs[k]? = some g → Waits p g ((((fs ++ [f])[k + 1]?).map (·.fn)).getD 0) := by
  induction h with
  | nil fn => intro f _ k g hg; simp at hg
  | snoc gs g' fn hc hw ih =>
    intro f hf k g hg
    by_cases hk : k < gs.length
    · rw [List.getElem?_append_left hk] at hg
      have := ih g' rfl k g hg
      rw [List.append_assoc, show k + 1 = k + 1 from rfl]
      have e : (gs ++ ([g'] ++ [f]))[k + 1]? = (gs ++ [g'])[k + 1]? := by
        rw [← List.append_assoc, List.getElem?_append_left (by simp; omega)]
      rw [e]; exact this
    · have hk' : k = gs.length := by have := (List.getElem?_eq_some_iff.1 hg).1; simp at this; omega
      subst hk'
      rw [List.getElem?_append_right (Nat.le_refl _)] at hg
      simp at hg
      subst hg
      have e : ((gs ++ [g']) ++ [f])[gs.length + 1]? = some f := by
        rw [List.getElem?_append_right (by simp)]; simp
      rw [e]
      simp only [Option.map_some, Option.getD_some, hf]
      exact hw
structure Gone (a : Agt) (fs : List Frm) (f : Frm) : Prop where
  fr : a.frames = fs ++ [f]
  prog : program a.prog = 0
  id : 0 ≤ a.id ∧ a.id ≤ 1073741824
  trip : 0 ≤ a.trip ∧ a.trip ≤ 1073741824
  fuel : 0 ≤ a.permit.fuel ∧ a.permit.fuel ≤ 2000
  room : 0 ≤ a.permit.room
  hops : 0 ≤ a.permit.hops ∧ a.permit.hops ≤ 12
  flen : fs.length < 12
  hlen : (a.heap.length : Int) + a.permit.room ≤ 60
  ok : ∀ g ∈ fs ++ [f], FrOk a.prog a.heap.length g
  chain : WChain a.prog fs f.fn
  went : Went a.prog f
  cells : ∀ c ∈ a.heap, WrongOk c.left a.heap.length ∧ WrongOk c.right a.heap.length
theorem answer_live {a : Agt} {fs : List Frm} {f : Frm} (l : Gone a fs f) {n : Int} (hn : -1073741824 ≤ n ∧ n ≤ 1073741824) : Live (answer a n) fs { f with stack := f.stack ++ [⟨0, n, []⟩] } := by
  have e1 : a.frames.getLast? = some f := by rw [l.fr]; simp
  have e2 : a.frames.dropLast = fs := by rw [l.fr]; simp
  have e : answer a n = { a with frames := fs ++ [{ f with stack := f.stack ++ [⟨0, n, []⟩] }] } := by
    unfold answer; rw [e1, e2]; rfl
  have okf := l.ok f (by simp)
  rw [e]
  refine ⟨rfl, l.prog, l.id, l.trip, l.fuel, l.room, l.hops, l.flen, l.hlen, fun g hg => ?_, l.chain, ?_, l.cells⟩
  · rcases List.mem_append.1 hg with hg | hg
    · exact l.ok g (by simp [hg])
    · simp at hg
      subst hg
      refine ⟨okf.fn0, okf.at0, okf.code, okf.ins, okf.vars, okf.vv, fun v hv => ?_⟩
      rcases List.mem_append.1 hv with h | h
      · exact okf.sv v h
      · simp at h; subst h; exact num_ok hn _
  · unfold Still
    have := l.went.hei
    simp only [List.length_append, List.length_singleton]
    exact this
end VM
end Go.Proofs.YtdmibdjokofclaaGreatDoor
set_option maxRecDepth 8000
namespace Go.Proofs.YtdmibdjokofclaaGreatDoor
namespace VM
def Reads {α : Type} (m : Rd α) (B : Str) (a : α) : Prop := ∀ r, m (B ++ r) = .ok a r
theorem Reads.pure {α : Type} (a : α) : Reads (Rd.pure a) [] a := fun _ => rfl
theorem Reads.bind {α β : Type} {m : Rd α} {k : α → Rd β} {B C : Str} {a : α} {b : β} (h : Reads m B a) (h2 : Reads (k a) C b) : Reads (m.bind k) (B ++ C) b := fun r => by
  unfold Rd.bind
  rw [List.append_assoc, h (C ++ r)]
  exact h2 r
structure PrgOk (p : Prg) : Prop where
  words : p.words.length ≤ 16
  word : ∀ w ∈ p.words, w.length ≤ 12
  codes : p.codes.length ≤ 5
  code : ∀ c ∈ p.codes, c.ins.length ≤ 200 ∧ (0 ≤ c.params ∧ c.params ≤ 100) ∧ (0 ≤ c.vars ∧ c.vars ≤ 100) ∧ ∀ i ∈ c.ins, (-9223372036854775808 ≤ i.op ∧ i.op ≤ 9223372036854775807) ∧ (-9223372036854775808 ≤ i.a ∧ i.a ≤ 9223372036854775807) ∧ (-9223372036854775808 ≤ i.b ∧ i.b ≤ 9223372036854775807)
theorem prg_ok {p : Prg} (h : program p = 0) : PrgOk p := by
  obtain ⟨pr, pc, pw⟩ := zag h
  have nums := program_nums h
  have hw : ∀ w ∈ p.words, w.length ≤ 12 := fun w hw => by
    unfold program at h
    by_cases h1 : p.codes.length < 1 ∨ 5 < p.codes.length
    · rw [if_pos h1] at h; omega
    rw [if_neg h1] at h
    by_cases h2 : 16 < p.words.length
    · rw [if_pos h2] at h; omega
    rw [if_neg h2] at h
    by_cases h3 : p.words.all word = false
    · rw [if_pos h3] at h; omega
    have := List.all_eq_true.1 (by simpa using h3 : p.words.all word = true) w hw
    unfold word at this
    rw [Bool.and_eq_true, decide_eq_true_eq] at this
    exact this.1
  refine ⟨pw, hw, pc, fun c hc => ?_⟩
  obtain ⟨cr, calm, _⟩ := pr c hc
  unfold codeRange at cr
  rw [decide_eq_false_iff_not] at cr
  refine ⟨by omega, by omega, by omega, fun i hi => ?_⟩
  obtain ⟨q1, q2, q3, q4⟩ := numbers_ok (nums c hc i hi)
  have ha : -1073741824 ≤ i.a ∧ i.a ≤ 1073741824 := by
    unfold numOk isIn at q3
    split at q3 <;> (try split at q3) <;> (try split at q3) <;> (try split at q3) <;> (try split at q3) <;> (try split at q3) <;> simp at q3 <;> omega
  have hb : 0 ≤ i.b ∧ i.b ≤ 16 := by
    by_cases h17 : i.op = 17
    · exact calm i hi h17
    · have := q4 h17; omega
  omega
end VM
end Go.Proofs.YtdmibdjokofclaaGreatDoor
set_option maxRecDepth 8000
namespace Go.Proofs.YtdmibdjokofclaaGreatDoor
namespace VM
theorem first_code {p : Prg} (hp : program p = 0) : 0 < p.codes.length ∧ 0 < (codeAt p 0).ins.length ∧ 0 ≤ (codeAt p 0).vars ∧ (codeAt p 0).vars ≤ 8 ∧ there (hts p ⟨0, 0, [], []⟩) (0, 0) := by
  have h0 : 0 < p.codes.length := by
    unfold program at hp
    by_cases h1 : p.codes.length < 1 ∨ 5 < p.codes.length
    · rw [if_pos h1] at hp; omega
    · omega
  have hcm := code_mem (p := p) (n := 0) (by simpa using h0)
  obtain ⟨pr, _⟩ := zag hp
  obtain ⟨crange, calm, hz⟩ := pr _ hcm
  have hk := heights_ok calm hz
  unfold codeRange at crange
  rw [decide_eq_false_iff_not] at crange
  exact ⟨h0, by omega, by omega, by omega, hk.start⟩
theorem new_live {id : Int} {p : Prg} {m : Pmt} (hp : program p = 0) (hi : 0 ≤ id ∧ id ≤ 1000) (h1 : 0 ≤ m.fuel ∧ m.fuel ≤ 2000) (h2 : 0 ≤ m.room ∧ m.room ≤ 60) (h3 : 0 ≤ m.hops ∧ m.hops ≤ 12) :
    Live (newAgt id p m) [] ⟨0, 0, List.replicate (codeAt p 0).vars.toNat vzero, []⟩ := by
  obtain ⟨c1, c2, c3, c4, c5⟩ := first_code hp
  refine ⟨rfl, hp, by simp only [newAgt]; omega, by simp only [newAgt]; omega, h1, h2.1, h3, by simp, by simp only [newAgt, List.length_nil]; omega, fun g hg => ?_, .nil _, c5.2, fun c hc => by cases hc⟩
  simp only [List.nil_append, List.mem_singleton] at hg
  subst hg
  exact ⟨by simp, by simp, by simpa [newAgt] using c1, by simpa [newAgt] using c2, by simp only [List.length_replicate, newAgt]; omega, fun v hv => by rw [List.eq_of_mem_replicate hv]; exact zero_ok _, fun v hv => by cases hv⟩
theorem iteK {c : Prop} [Decidable c] {x y : Agt × Evt} {k : Int} {Pp : Prop} (h1 : c → x.2.kind = k → Pp) (h2 : ¬ c → y.2.kind = k → Pp) : (if c then x else y).2.kind = k → Pp := by
  by_cases h : c
  · rw [if_pos h]; exact h1 h
  · rw [if_neg h]; exact h2 h
theorem opDo_says {a : Agt} {s : Spt} {fs : List Frm} {f : Frm} {i : Ins} : (opDo a s fs f i).2.kind = 2 → i.op = 14 := by
  unfold opDo push
  repeat' (refine iteK (fun _ => ?_) (fun _ => ?_))
  all_goals first
    | (simp [ev0, dead]; done)
    | (intro _; assumption)
    | skip
  split <;> simp [ev0]
theorem opDo_goes {a : Agt} {s : Spt} {fs : List Frm} {f : Frm} {i : Ins} : (opDo a s fs f i).2.kind = 3 → i.op = 13 ∧ (top1 f.stack).kind = 1 ∧ a.permit.hops ≠ 0 := by
  unfold opDo push
  repeat' (refine iteK (fun _ => ?_) (fun _ => ?_))
  all_goals first
    | (simp [ev0, dead]; done)
    | (intro _; exact ⟨by assumption, by simp_all, by assumption⟩)
    | skip
  split <;> simp [ev0]
theorem ite_kinds {c : Prop} [Decidable c] {x y : Int} (h1 : c → x = 0 ∨ x = 2 ∨ x = 3 ∨ x = 4 ∨ x = 5) (h2 : ¬ c → y = 0 ∨ y = 2 ∨ y = 3 ∨ y = 4 ∨ y = 5) : (if c then x else y) = 0 ∨ (if c then x else y) = 2 ∨ (if c then x else y) = 3 ∨ (if c then x else y) = 4 ∨ (if c then x else y) = 5 := by
  by_cases h : c
  · rw [if_pos h]; exact h1 h
  · rw [if_neg h]; exact h2 h
theorem opDo_kinds (a : Agt) (s : Spt) (fs : List Frm) (f : Frm) (i : Ins) : (opDo a s fs f i).2.kind = 0 ∨ (opDo a s fs f i).2.kind = 2 ∨ (opDo a s fs f i).2.kind = 3 ∨ (opDo a s fs f i).2.kind = 4 ∨ (opDo a s fs f i).2.kind = 5 := by
  unfold opDo push
  simp only [apply_ite Prod.snd, apply_ite Evt.kind]
  repeat' (refine ite_kinds (fun _ => ?_) (fun _ => ?_))
  all_goals first
    | (simp [ev0, dead]; done)
    | (split <;> simp [ev0]; done)
    | skip
theorem step_kinds (a : Agt) (s : Spt) : (step a s).2.kind = 0 ∨ (step a s).2.kind = 2 ∨ (step a s).2.kind = 3 ∨ (step a s).2.kind = 4 ∨ (step a s).2.kind = 5 := by
  unfold step
  split
  · simp [dead]
  · split
    · simp [ev0]
    · exact opDo_kinds _ _ _ _ _
theorem step_open {a : Agt} {fs : List Frm} {f : Frm} {s : Spt} (l : Live a fs f) (h : (step a s).2.kind ≠ 5 ) (hf : a.permit.fuel ≠ 0) : step a s = opDo { a with permit := { a.permit with fuel := a.permit.fuel - 1 } } s fs { f with at_ := f.at_ + 1 } (insAt a.prog f) := by
  unfold step at h ⊢
  rw [if_neg hf]
  have e1 : a.frames.getLast? = some f := by rw [l.fr]; simp
  have e2 : a.frames.dropLast = fs := by rw [l.fr]; simp
  rw [e1]
  simp only [e2]
theorem step_fuel {a : Agt} {s : Spt} (h : (step a s).2.kind ≠ 5) : a.permit.fuel ≠ 0 := by
  intro e
  unfold step at h
  rw [if_pos e] at h
  exact h rfl
theorem low1_len {st : List Val} (h : 1 ≤ st.length) : ((low 1 st).length : Int) = st.length - 1 := by rw [low_len]; omega
theorem step_says {a : Agt} {fs : List Frm} {f : Frm} {s : Spt} (l : Live a fs f) (h : (step a s).2.kind = 2) : ∃ gs g, Live (step a s).1 gs g := by
  have hf := step_fuel (by rw [h]; omega : (step a s).2.kind ≠ 5)
  have e := step_open l (by rw [h]; omega) hf
  rw [e] at h ⊢
  have ho := opDo_says h
  have n := l.now
  generalize hi : insAt a.prog f = i at n ho ⊢
  obtain ⟨op, ia, ib⟩ := i
  simp only at ho
  subst ho
  rw [opDo_14]
  have pops : 1 ≤ f.stack.length := by have := n.pops; simp [effect] at this; omega
  have ok := l.ok f (by simp)
  have b1 := l.fuel
  have nx := n.go (by simp) (by simp)
  have ea : after (⟨14, ia, ib⟩ : Ins) f.stack.length = (f.stack.length : Int) - 1 := by simp [after, effect]
  rw [ea] at nx
  exact ⟨fs, _, l.on (k := f.at_ + 1) (vs := f.vars) (st := low 1 f.stack) (h := a.heap) (m := { a.permit with fuel := a.permit.fuel - 1 }) (by rw [low1_len pops]; exact nx) rfl ok.vv (fun v hv => ok.sv v (low_mem hv)) (Nat.le_refl _) l.cells (by simp only; omega) l.room l.hops l.hlen⟩
theorem step_goes {a : Agt} {fs : List Frm} {f : Frm} {s : Spt} (l : Live a fs f) (h : (step a s).2.kind = 3) {yes : Int} (hy : 0 ≤ yes ∧ yes ≤ 1) : ∃ g, Gone (step a s).1 fs g ∧ g.stack.length ≤ f.stack.length ∧ ∃ g', Live (answer (step a s).1 yes) fs g' := by
  have hf := step_fuel (by rw [h]; omega : (step a s).2.kind ≠ 5)
  have e := step_open l (by rw [h]; omega) hf
  rw [e] at h ⊢
  obtain ⟨ho, hk, hh⟩ := opDo_goes h
  have n := l.now
  have nat := n.at_
  generalize hi : insAt a.prog f = i at n ho nat ⊢
  obtain ⟨op, ia, ib⟩ := i
  simp only at ho hk hh
  subst ho
  rw [opDo_13, if_neg (by simpa using hk), if_neg hh]
  have pops : 1 ≤ f.stack.length := by have := n.pops; simp [effect] at this; omega
  have ok := l.ok f (by simp)
  have b1 := l.fuel
  have b3 := l.hops
  have nx := n.go (by simp) (by simp)
  have ea : after (⟨13, ia, ib⟩ : Ins) f.stack.length = (f.stack.length : Int) := by simp [after, effect]
  rw [ea] at nx
  obtain ⟨nx0, nx1⟩ := nx
  have klt := (List.getElem?_eq_some_iff.1 nx1).1
  rw [hts_len l.prog ok.code] at klt
  have ok0 := ok.at0
  have still := l.still
  have ll := low1_len pops
  have at1 : (f.at_ + 1).toNat - 1 = f.at_.toNat := by omega
  have okn : ∀ (st : List Val), (∀ v ∈ st, WrongOk v a.heap.length) → FrOk a.prog a.heap.length ⟨f.fn, f.at_ + 1, f.vars, st⟩ := fun st hs => ⟨ok.fn0, by simp only; omega, ok.code, klt, ok.vars, ok.vv, hs⟩
  refine ⟨⟨f.fn, f.at_ + 1, f.vars, low 1 f.stack⟩, ⟨rfl, l.prog, l.id, l.trip, by simp only [toF]; omega, l.room, by simp only [toF]; omega, l.flen, l.hlen, fun g hg => ?_, l.chain, ⟨by simp only; omega, ?_, ?_, ?_⟩, l.cells⟩, by simp only [low_len]; omega, ⟨f.fn, f.at_ + 1, f.vars, low 1 f.stack ++ [⟨0, yes, []⟩]⟩, ?_⟩
  · rcases List.mem_append.1 hg with hg | hg
    · exact l.ok g (by simp [hg])
    · simp only [List.mem_singleton] at hg
      subst hg
      exact okn _ fun v hv => ok.sv v (low_mem hv)
  · show ((codeAt a.prog f.fn).ins.getD ((f.at_ + 1).toNat - 1) ⟨0, 0, 0⟩).op = 13
    rw [at1, List.getD_eq_getElem?_getD, nat]; rfl
  · show 0 ≤ (hts a.prog f).getD ((f.at_ + 1).toNat - 1) 0
    rw [at1, List.getD_eq_getElem?_getD, still]
    simp
  · show (hts a.prog f)[(f.at_ + 1).toNat]? = some (((low 1 f.stack).length : Int) + 1)
    rw [nx1, ll]; congr 1; omega
  · have ean : answer (toF { a with permit := { a.permit with fuel := a.permit.fuel - 1, hops := a.permit.hops - 1 } } fs ⟨f.fn, f.at_ + 1, f.vars, low 1 f.stack⟩) yes = { a with frames := fs ++ [⟨f.fn, f.at_ + 1, f.vars, low 1 f.stack ++ [⟨0, yes, []⟩]⟩], permit := { a.permit with fuel := a.permit.fuel - 1, hops := a.permit.hops - 1 } } := by
      unfold answer toF
      simp
    rw [ean]
    refine l.on (k := f.at_ + 1) (vs := f.vars) (h := a.heap) (m := { a.permit with fuel := a.permit.fuel - 1, hops := a.permit.hops - 1 }) ?_ rfl ok.vv (fun v hv => ?_) (Nat.le_refl _) l.cells (by simp only; omega) l.room (by simp only; omega) l.hlen
    · refine ⟨nx0, ?_⟩
      rw [List.length_append, List.length_singleton]
      have : (((low 1 f.stack).length + 1 : Nat) : Int) = f.stack.length := by omega
      rw [this]; exact nx1
    · rcases List.mem_append.1 hv with hv | hv
      · exact ok.sv v (low_mem hv)
      · simp only [List.mem_singleton] at hv
        subst hv
        exact num_ok (by omega) _
end VM
end Go.Proofs.YtdmibdjokofclaaGreatDoor
set_option maxRecDepth 8000
namespace Go.Proofs.YtdmibdjokofclaaGreatDoor
namespace VM
theorem roots_ok {a : Agt} {fs : List Frm} {f : Frm} (l : Gone a fs f) : right a.heap (roots a) = true := by
  refine ok_right (fun v hv => ?_) l.cells
  unfold roots at hv
  obtain ⟨g, hg, hv⟩ := List.mem_flatMap.1 hv
  rw [l.fr] at hg
  have ok := l.ok g hg
  rcases List.mem_append.1 hv with h | h
  · exact ok.vv v h
  · exact ok.sv v h
theorem pack_gone {a : Agt} {fs : List Frm} {f : Frm} (l : Gone a fs f) : Gone (pack a) (fs.map fun g => { g with vars := g.vars.map (put (order a.heap (roots a))), stack := g.stack.map (put (order a.heap (roots a))) }) { f with vars := f.vars.map (put (order a.heap (roots a))), stack := f.stack.map (put (order a.heap (roots a))) } := by
  have hr := roots_ok l
  obtain ⟨c1, c2, c3, _⟩ := canon_law hr
  have cv := right_okV c3
  have cc := right_okC c3
  have hlen := l.hlen
  have room := l.room
  refine ⟨by simp [pack, l.fr], l.prog, l.id, l.trip, l.fuel, l.room, l.hops, by simpa using l.flen, ?_, fun g hg => ?_, ?_, ⟨l.went.pos, l.went.op, l.went.seen, ?_⟩, cc⟩
  · show ((canonC a.heap (roots a)).length : Int) + a.permit.room ≤ 60
    omega
  · have : ∃ g0 ∈ fs ++ [f], g = { g0 with vars := g0.vars.map (put (order a.heap (roots a))), stack := g0.stack.map (put (order a.heap (roots a))) } := by
      rcases List.mem_append.1 hg with h | h
      · obtain ⟨g0, h0, rfl⟩ := List.mem_map.1 h
        exact ⟨g0, by simp [h0], rfl⟩
      · simp at h; exact ⟨f, by simp, h⟩
    obtain ⟨g0, h0, rfl⟩ := this
    have ok := l.ok g0 h0
    have mem : ∀ v, v ∈ g0.vars ++ g0.stack → put (order a.heap (roots a)) v ∈ canonV a.heap (roots a) := fun v hv => by
      refine List.mem_map_of_mem ?_
      unfold roots
      exact List.mem_flatMap.2 ⟨g0, by rw [l.fr]; exact h0, hv⟩
    refine ⟨ok.fn0, ok.at0, ok.code, ok.ins, by have := ok.vars; simpa [pack] using this, fun v hv => ?_, fun v hv => ?_⟩
    · obtain ⟨u, hu, rfl⟩ := List.mem_map.1 hv
      exact cv _ (mem u (by simp [hu]))
    · obtain ⟨u, hu, rfl⟩ := List.mem_map.1 hv
      exact cv _ (mem u (by simp [hu]))
  · have key : ∀ {gs : List Frm} {fn : Int}, WChain a.prog gs fn → WChain a.prog (gs.map fun g => { g with vars := g.vars.map (put (order a.heap (roots a))), stack := g.stack.map (put (order a.heap (roots a))) }) fn := by
      intro gs fn h
      induction h with
      | nil fn => exact .nil fn
      | snoc gs g fn _ hw ih =>
        rw [List.map_append]
        exact .snoc _ _ _ ih ⟨hw.pos, hw.op, hw.to, hw.seen, by have := hw.hei; unfold hts at this ⊢; simp only [List.length_map]; exact this⟩
    exact key l.chain
  · have := l.went.hei
    unfold hts at this ⊢
    simp only [List.length_map]
    exact this
def Firm {α : Type} (m : Rd α) : Prop := ∀ b a r c, m b = .ok a r → m (b ++ c) = .ok a (r ++ c)
theorem Firm.pure {α : Type} (a : α) : Firm (Rd.pure a) := fun b x r c h => by cases h; rfl
theorem Firm.bind {α β : Type} {m : Rd α} {k : α → Rd β} (h : Firm m) (h2 : ∀ a, Firm (k a)) : Firm (m.bind k) := fun b x r c hx => by
  unfold Rd.bind at hx ⊢
  split at hx
  · rename_i a r' hm
    rw [h _ _ _ c hm]
    exact h2 a _ _ _ c hx
  · cases hx
theorem Firm.many {α : Type} {m : Rd α} (h : Firm m) : ∀ n, Firm (rMany m n)
  | 0 => Firm.pure []
  | n + 1 => h.bind fun a => (Firm.many h n).bind fun l => Firm.pure _
end VM
end Go.Proofs.YtdmibdjokofclaaGreatDoor
set_option maxRecDepth 8000
namespace Go.Proofs.YtdmibdjokofclaaGreatDoor
namespace VM
def Sp (b : Agt) (r : Agt × Evt) : Prop := r.1.permit.fuel = b.permit.fuel ∧ 0 ≤ r.1.permit.room ∧ (r.1.heap.length : Int) - b.heap.length = b.permit.room - r.1.permit.room ∧ r.1.permit.room ≤ b.permit.room ∧ (r.2.kind = 3 → r.1.permit.hops = b.permit.hops - 1 ∧ 0 ≤ r.1.permit.hops) ∧ (r.2.kind ≠ 3 → r.1.permit.hops = b.permit.hops)
theorem sp_ite {b : Agt} {c : Prop} [Decidable c] {x y : Agt × Evt} (h1 : c → Sp b x) (h2 : ¬ c → Sp b y) : Sp b (if c then x else y) := by
  by_cases h : c
  · rw [if_pos h]; exact h1 h
  · rw [if_neg h]; exact h2 h
theorem opDo_sp {b : Agt} {s : Spt} {fs : List Frm} {f : Frm} {i : Ins} (h1 : 0 ≤ b.permit.room) (h2 : 0 ≤ b.permit.hops) : Sp b (opDo b s fs f i) := by
  unfold opDo push
  repeat' (refine sp_ite (fun _ => ?_) (fun _ => ?_))
  all_goals first
    | (unfold Sp; simp [toF, ev0, dead]; omega; done)
    | (unfold Sp; simp [toF, ev0, dead, h1]; done)
    | skip
  split
  · unfold Sp; simp [h1]
  · unfold Sp; simp [toF, ev0, h1]
theorem step_sp {a : Agt} {fs : List Frm} {f : Frm} (l : Live a fs f) (s : Spt) : (a.permit.fuel = 0 → step a s = (a, dead 12)) ∧ (a.permit.fuel ≠ 0 → Sp { a with permit := { a.permit with fuel := a.permit.fuel - 1 } } (step a s)) := by
  have hr := l.room
  have hh := l.hops.1
  refine ⟨fun h => by unfold step; rw [if_pos h], fun h => ?_⟩
  unfold step
  rw [if_neg h, l.fr]
  simp only [List.getLast?_append, List.getLast?_singleton, Option.some_or]
  exact opDo_sp hr hh
end VM
end Go.Proofs.YtdmibdjokofclaaGreatDoor
set_option maxRecDepth 8000
namespace Go.Proofs.YtdmibdjokofclaaGreatDoor
namespace VM
def spt0 : Spt := ⟨[], [], 0, 0⟩
def badName (before : List Spt) (s : Spt) : Prop := s.name.length < 1 ∨ 12 < s.name.length ∨ before.any (fun x => decide (x.name = s.name)) = true
instance (before : List Spt) (s : Spt) : Decidable (badName before s) := by unfold badName; infer_instance
def badFact (f : Fct) : Bool := decide (60 < f.key.length) || decide (wrong f.val 0 ≠ 0)
def spotErr (before : List Spt) (s : Spt) : Int :=
  if badName before s then 7
  else if s.fuel < 0 ∨ 2000 < s.fuel ∨ s.cells < 0 ∨ 60 < s.cells then 3
  else if 4 < s.facts.length then 5
  else if s.facts.any badFact = true then 11
  else 0
def spotsGo : List Spt → List Spt → Int × Int
  | _, [] => (0, -1)
  | before, s :: r => if spotErr before s ≠ 0 then (spotErr before s, before.length) else spotsGo (before ++ [s]) r
def spotsWrong (l : List Spt) : Int × Int := if l.length < 1 ∨ 4 < l.length then (5, -1) else spotsGo [] l
def findGo (name : Str) : List Spt → Nat → Int
  | [], _ => -1
  | s :: r, i => if s.name = name then (i : Int) else findGo name r (i + 1)
def find (l : List Spt) (name : Str) : Int := findGo name l 0
def permitErr (m : Pmt) : Int := if m.fuel < 0 ∨ 2000 < m.fuel ∨ m.room < 0 ∨ 60 < m.room ∨ m.hops < 0 ∨ 12 < m.hops then 3 else 0
def fueled (a : Agt) (n : Int) : Agt := { a with permit := { a.permit with fuel := n } }
def letIn (a : Agt) (s : Spt) : Option Agt := if s.cells < (pack a).heap.length then none else some (answer (fueled (pack a) (min a.permit.fuel s.fuel)) 1)
def landed (l : List Spt) (at_ : Nat) (x : Agt) (to : Str) : Agt × Nat :=
  if 0 ≤ find l to ∧ find l to ≠ at_ then (match letIn x (l.getD (find l to).toNat spt0) with
    | some y => (y, (find l to).toNat)
    | none => (answer x 0, at_))
  else (answer x 0, at_)
def goS (l : List Spt) : Nat → Agt → Nat → List Str → List Str × Str × Int
  | 0, _, _, said => (said, [], 0)
  | n + 1, a, at_, said =>
    let r := step a (l.getD at_ spt0)
    if r.2.kind = 0 then goS l n r.1 at_ said
    else if r.2.kind = 2 then goS l n r.1 at_ (said ++ [r.2.text])
    else if r.2.kind = 3 then goS l n (landed l at_ r.1 r.2.text).1 (landed l at_ r.1 r.2.text).2 said
    else (said, r.2.text, r.2.err)
def go (l : List Spt) (a : Agt) (at_ : Nat) (said : List Str) : List Str × Str × Int := goS l (a.permit.fuel.toNat + 1) a at_ said
def alone (p : Prg) (m : Pmt) (l : List Spt) (at_ : Int) : (List Str × Str × Int) × Int :=
  if (spotsWrong l).1 ≠ 0 then (([], [], 0), (spotsWrong l).1)
  else if permitErr m ≠ 0 then (([], [], 0), permitErr m)
  else if at_ < 0 ∨ (l.length : Int) ≤ at_ then (([], [], 0), 6)
  else (go l (newAgt 0 p m) at_.toNat [], 0)
structure OkSpots (l : List Spt) : Prop where
  len : 1 ≤ l.length ∧ l.length ≤ 4
  name : ∀ s ∈ l, s.name.length ≤ 12
  fuel : ∀ s ∈ l, 0 ≤ s.fuel ∧ s.fuel ≤ 2000
  cells : ∀ s ∈ l, 0 ≤ s.cells ∧ s.cells ≤ 60
  many : ∀ s ∈ l, s.facts.length ≤ 4
  facts : ∀ s ∈ l, ∀ x ∈ s.facts, WrongOk x.val (0 : Int)
theorem spotErr_ok {b : List Spt} {s : Spt} (h : spotErr b s = 0) : s.name.length ≤ 12 ∧ (0 ≤ s.fuel ∧ s.fuel ≤ 2000) ∧ (0 ≤ s.cells ∧ s.cells ≤ 60) ∧ s.facts.length ≤ 4 ∧ ∀ x ∈ s.facts, WrongOk x.val (0 : Int) := by
  unfold spotErr at h
  split at h
  · cases h
  rename_i h1
  split at h
  · cases h
  split at h
  · cases h
  split at h
  · cases h
  rename_i h4
  unfold badName at h1
  refine ⟨by omega, by omega, by omega, by omega, fun x hx => ?_⟩
  have : badFact x = false := by
    have h5 := Bool.eq_false_iff.2 h4
    rw [List.any_eq_false] at h5
    simpa using h5 x hx
  unfold badFact at this
  simp at this
  exact wrong_ok this.2
theorem spotsGo_ok : ∀ {r b : List Spt}, (spotsGo b r).1 = 0 → ∀ s ∈ r, ∃ c, spotErr c s = 0
  | [], b, _, s, hs => by cases hs
  | x :: r, b, h, s, hs => by
    unfold spotsGo at h
    by_cases he : spotErr b x ≠ 0
    · rw [if_pos he] at h; exact absurd h he
    · rw [if_neg he] at h
      rcases List.mem_cons.1 hs with rfl | hs
      · exact ⟨b, Classical.not_not.1 he⟩
      · exact spotsGo_ok h s hs
theorem spots_ok {l : List Spt} (h : (spotsWrong l).1 = 0) : OkSpots l := by
  unfold spotsWrong at h
  split at h
  · cases h
  rename_i hl
  have key := fun s hs => spotsGo_ok h s hs
  refine ⟨by omega, fun s hs => ?_, fun s hs => ?_, fun s hs => ?_, fun s hs => ?_, fun s hs => ?_⟩ <;> (obtain ⟨c, hc⟩ := key s hs; have := spotErr_ok hc)
  · exact this.1
  · exact this.2.1
  · exact this.2.2.1
  · exact this.2.2.2.1
  · exact this.2.2.2.2
theorem findGo_range (name : Str) : ∀ (r : List Spt) (i : Nat), findGo name r i = -1 ∨ ((i : Int) ≤ findGo name r i ∧ findGo name r i < i + r.length)
  | [], i => .inl rfl
  | s :: r, i => by
    unfold findGo
    split
    · right; simp; omega
    · rcases findGo_range name r (i + 1) with h | h
      · exact .inl h
      · right; simp; omega
theorem find_range (l : List Spt) (name : Str) : find l name = -1 ∨ (0 ≤ find l name ∧ find l name < l.length) := by
  have := findGo_range name l 0
  unfold find
  simpa using this
theorem getD_spot {l : List Spt} {i : Nat} (h : i < l.length) : l.getD i spt0 ∈ l := getD_mem h
theorem gone_fueled {a : Agt} {fs : List Frm} {f : Frm} (l : Gone a fs f) {n : Int} (h : 0 ≤ n ∧ n ≤ 2000) : Gone (fueled a n) fs f :=
  ⟨l.fr, l.prog, l.id, l.trip, h, l.room, l.hops, l.flen, l.hlen, l.ok, l.chain, l.went, l.cells⟩
theorem answer_fuel {a : Agt} {fs : List Frm} {f : Frm} (h : a.frames = fs ++ [f]) (n : Int) : (answer a n).permit = a.permit := by
  unfold answer
  rw [h]
  simp [toF]
theorem landed_live {l : List Spt} (ok : OkSpots l) {x : Agt} {fs : List Frm} {f : Frm} (g : Gone x fs f) {i : Nat} (hi : i < l.length) (to : Str) :
    (∃ gs h, Live (landed l i x to).1 gs h) ∧ (landed l i x to).2 < l.length ∧ (landed l i x to).1.permit.fuel ≤ x.permit.fuel := by
  have stay : (∃ gs h, Live (answer x 0) gs h) ∧ (answer x 0).permit.fuel ≤ x.permit.fuel := ⟨⟨_, _, answer_live g (by omega)⟩, by rw [answer_fuel g.fr]; exact Int.le_refl _⟩
  unfold landed
  by_cases hc : 0 ≤ find l to ∧ find l to ≠ i
  · rw [if_pos hc]
    have hr := find_range l to
    have hlt : (find l to).toNat < l.length := by omega
    have hs := ok.fuel _ (getD_spot hlt)
    unfold letIn
    split
    · rename_i y hy
      split at hy
      · cases hy
      · cases hy
        have gp := pack_gone g
        have gf := g.fuel
        have gg := gone_fueled gp (n := min x.permit.fuel (l.getD (find l to).toNat spt0).fuel) (by omega)
        refine ⟨⟨_, _, answer_live gg (by omega)⟩, hlt, ?_⟩
        rw [answer_fuel gg.fr]
        show min x.permit.fuel _ ≤ x.permit.fuel
        omega
    · exact ⟨stay.1, hi, stay.2⟩
  · rw [if_neg hc]
    exact ⟨stay.1, hi, stay.2⟩
theorem stepped {a : Agt} {fs : List Frm} {f : Frm} (l : Live a fs f) {s : Spt} (hs : ∀ x ∈ s.facts, WrongOk x.val (0 : Int)) :
    ((step a s).2.kind = 0 ∧ (∃ gs g, Live (step a s).1 gs g) ∧ (step a s).1.permit.fuel = a.permit.fuel - 1 ∧ a.permit.fuel ≠ 0) ∨
    ((step a s).2.kind = 2 ∧ (∃ gs g, Live (step a s).1 gs g) ∧ (step a s).1.permit.fuel = a.permit.fuel - 1 ∧ a.permit.fuel ≠ 0) ∨
    ((step a s).2.kind = 3 ∧ (∃ gs g, Gone (step a s).1 gs g) ∧ (step a s).1.permit.fuel = a.permit.fuel - 1 ∧ a.permit.fuel ≠ 0) ∨
    ((step a s).2.kind = 4 ∨ (step a s).2.kind = 5) := by
  obtain ⟨q0, q1⟩ := step_sp l s
  have fu : (step a s).2.kind ≠ 5 → (step a s).1.permit.fuel = a.permit.fuel - 1 ∧ a.permit.fuel ≠ 0 := fun h => by
    have hf := step_fuel h
    exact ⟨(q1 hf).1, hf⟩
  rcases step_kinds a s with h | h | h | h | h
  · exact .inl ⟨h, step_live l hs h, fu (by omega)⟩
  · exact .inr (.inl ⟨h, step_says l h, fu (by omega)⟩)
  · obtain ⟨g, h1, _⟩ := step_goes l h (yes := 0) (by omega)
    exact .inr (.inr (.inl ⟨h, ⟨_, _, h1⟩, fu (by omega)⟩))
  · exact .inr (.inr (.inr (.inl h)))
  · exact .inr (.inr (.inr (.inr h)))
theorem goS_succ (l : List Spt) (n : Nat) (a : Agt) (i : Nat) (said : List Str) : goS l (n + 1) a i said =
    if (step a (l.getD i spt0)).2.kind = 0 then goS l n (step a (l.getD i spt0)).1 i said
    else if (step a (l.getD i spt0)).2.kind = 2 then goS l n (step a (l.getD i spt0)).1 i (said ++ [(step a (l.getD i spt0)).2.text])
    else if (step a (l.getD i spt0)).2.kind = 3 then goS l n (landed l i (step a (l.getD i spt0)).1 (step a (l.getD i spt0)).2.text).1 (landed l i (step a (l.getD i spt0)).1 (step a (l.getD i spt0)).2.text).2 said
    else (said, (step a (l.getD i spt0)).2.text, (step a (l.getD i spt0)).2.err) := rfl
theorem goS_more {l : List Spt} (ok : OkSpots l) : ∀ (k m : Nat) {a : Agt} {fs : List Frm} {f : Frm} {i : Nat} {said : List Str}, Live a fs f → i < l.length → a.permit.fuel.toNat < k → a.permit.fuel.toNat < m → goS l k a i said = goS l m a i said
  | 0, _, a, fs, f, i, said, _, _, h, _ => absurd h (Nat.not_lt_zero _)
  | _ + 1, 0, a, fs, f, i, said, _, _, _, h => absurd h (Nat.not_lt_zero _)
  | k + 1, m + 1, a, fs, f, i, said, lv, hi, h1, h2 => by
    rw [goS_succ, goS_succ]
    have fb := lv.fuel
    rcases stepped lv (ok.facts _ (getD_spot hi)) with ⟨hk, ⟨gs, g, l'⟩, hf, h0⟩ | ⟨hk, ⟨gs, g, l'⟩, hf, h0⟩ | ⟨hk, ⟨gs, g, l'⟩, hf, h0⟩ | hk
    · rw [if_pos hk, if_pos hk]
      exact goS_more ok k m l' hi (by omega) (by omega)
    · rw [if_neg (by omega), if_pos hk, if_neg (by omega), if_pos hk]
      exact goS_more ok k m l' hi (by omega) (by omega)
    · rw [if_neg (by omega), if_neg (by omega), if_pos hk, if_neg (by omega), if_neg (by omega), if_pos hk]
      obtain ⟨⟨gs, g, l2⟩, hj, hle⟩ := landed_live ok l' hi (step a (l.getD i spt0)).2.text
      have fb2 := l2.fuel
      exact goS_more ok k m l2 hj (by omega) (by omega)
    · rw [if_neg (by omega), if_neg (by omega), if_neg (by omega), if_neg (by omega), if_neg (by omega), if_neg (by omega)]
theorem go_step {l : List Spt} (ok : OkSpots l) {a : Agt} {fs : List Frm} {f : Frm} {i : Nat} {said : List Str} (lv : Live a fs f) (hi : i < l.length) : go l a i said =
    if (step a (l.getD i spt0)).2.kind = 0 then go l (step a (l.getD i spt0)).1 i said
    else if (step a (l.getD i spt0)).2.kind = 2 then go l (step a (l.getD i spt0)).1 i (said ++ [(step a (l.getD i spt0)).2.text])
    else if (step a (l.getD i spt0)).2.kind = 3 then go l (landed l i (step a (l.getD i spt0)).1 (step a (l.getD i spt0)).2.text).1 (landed l i (step a (l.getD i spt0)).1 (step a (l.getD i spt0)).2.text).2 said
    else (said, (step a (l.getD i spt0)).2.text, (step a (l.getD i spt0)).2.err) := by
  unfold go
  rw [goS_succ]
  have fb := lv.fuel
  rcases stepped lv (ok.facts _ (getD_spot hi)) with ⟨hk, ⟨gs, g, l'⟩, hf, h0⟩ | ⟨hk, ⟨gs, g, l'⟩, hf, h0⟩ | ⟨hk, ⟨gs, g, l'⟩, hf, h0⟩ | hk
  · rw [if_pos hk, if_pos hk]
    exact goS_more ok _ _ l' hi (by omega) (by omega)
  · rw [if_neg (by omega), if_pos hk, if_neg (by omega), if_pos hk]
    exact goS_more ok _ _ l' hi (by omega) (by omega)
  · rw [if_neg (by omega), if_neg (by omega), if_pos hk, if_neg (by omega), if_neg (by omega), if_pos hk]
    obtain ⟨⟨gs, g, l2⟩, hj, hle⟩ := landed_live ok l' hi (step a (l.getD i spt0)).2.text
    have fb2 := l2.fuel
    exact goS_more ok _ _ l2 hj (by omega) (by omega)
  · rw [if_neg (by omega), if_neg (by omega), if_neg (by omega), if_neg (by omega), if_neg (by omega), if_neg (by omega)]
theorem go_run {l : List Spt} (ok : OkSpots l) : ∀ (n : Nat) {a : Agt} {fs : List Frm} {f : Frm} {i : Nat} {said : List Str}, Live a fs f → i < l.length → a.permit.fuel.toNat < n →
    (go l a i said = if (run (l.getD i spt0) n a).2.kind = 2 then go l (run (l.getD i spt0) n a).1 i (said ++ [(run (l.getD i spt0) n a).2.text])
      else if (run (l.getD i spt0) n a).2.kind = 3 then go l (landed l i (run (l.getD i spt0) n a).1 (run (l.getD i spt0) n a).2.text).1 (landed l i (run (l.getD i spt0) n a).1 (run (l.getD i spt0) n a).2.text).2 said
      else (said, (run (l.getD i spt0) n a).2.text, (run (l.getD i spt0) n a).2.err)) ∧
    (((run (l.getD i spt0) n a).2.kind = 2 ∧ (∃ gs g, Live (run (l.getD i spt0) n a).1 gs g) ∧ (run (l.getD i spt0) n a).1.permit.fuel < a.permit.fuel) ∨
     ((run (l.getD i spt0) n a).2.kind = 3 ∧ (∃ gs g, Gone (run (l.getD i spt0) n a).1 gs g) ∧ (run (l.getD i spt0) n a).1.permit.fuel < a.permit.fuel) ∨
     ((run (l.getD i spt0) n a).2.kind = 4 ∨ (run (l.getD i spt0) n a).2.kind = 5))
  | 0, a, fs, f, i, said, _, _, h => absurd h (Nat.not_lt_zero _)
  | n + 1, a, fs, f, i, said, lv, hi, h1 => by
    have fb := lv.fuel
    rw [go_step ok lv hi]
    have e : run (l.getD i spt0) (n + 1) a = if (step a (l.getD i spt0)).2.kind ≠ 0 then step a (l.getD i spt0) else run (l.getD i spt0) n (step a (l.getD i spt0)).1 := rfl
    rcases stepped lv (ok.facts _ (getD_spot hi)) with ⟨hk, ⟨gs, g, l'⟩, hf, h0⟩ | ⟨hk, ⟨gs, g, l'⟩, hf, h0⟩ | ⟨hk, ⟨gs, g, l'⟩, hf, h0⟩ | hk
    · rw [if_neg (by omega)] at e
      rw [if_pos hk, e]
      obtain ⟨q1, q2⟩ := go_run ok n (said := said) l' hi (by omega)
      refine ⟨q1, ?_⟩
      rcases q2 with ⟨a1, a2, a3⟩ | ⟨a1, a2, a3⟩ | a1
      · exact .inl ⟨a1, a2, by omega⟩
      · exact .inr (.inl ⟨a1, a2, by omega⟩)
      · exact .inr (.inr a1)
    · rw [if_pos (by omega)] at e
      rw [if_neg (by omega), e]
      exact ⟨rfl, .inl ⟨hk, ⟨gs, g, l'⟩, by omega⟩⟩
    · rw [if_pos (by omega)] at e
      rw [if_neg (by omega), e]
      exact ⟨rfl, .inr (.inl ⟨hk, ⟨gs, g, l'⟩, by omega⟩)⟩
    · rw [if_pos (by omega)] at e
      rw [if_neg (by omega), e]
      exact ⟨rfl, .inr (.inr hk)⟩
end VM
end Go.Proofs.YtdmibdjokofclaaGreatDoor
set_option maxRecDepth 8000
namespace Go.Proofs.YtdmibdjokofclaaGreatDoor
namespace VM
theorem gone_stk {a : Agt} {fs : List Frm} {f : Frm} (l : Gone a fs f) : ∀ g ∈ a.frames, g.vars.length ≤ 8 ∧ g.stack.length ≤ 16 := by
  have key : ∀ g ∈ fs ++ [f], ∀ x : Int, (hts a.prog g)[g.at_.toNat]? = some x → (g.stack.length : Int) ≤ x → g.vars.length ≤ 8 ∧ g.stack.length ≤ 16 := fun g hg x hx hle => by
    have ok := l.ok g hg
    obtain ⟨cr, calm, hz⟩ := (zag l.prog).1 _ (code_mem ok.code)
    unfold codeRange at cr
    rw [decide_eq_false_iff_not] at cr
    have hm := (zff calm hz).2 _ (List.mem_of_getElem? hx)
    have := ok.vars
    omega
  intro g hg
  rw [l.fr] at hg
  rcases List.mem_append.1 hg with h | h
  · obtain ⟨k, hk, rfl⟩ := List.getElem_of_mem h
    have w := chain_get l.chain f rfl k _ (List.getElem?_eq_getElem hk)
    exact key _ hg _ w.hei (by omega)
  · simp at h; subst h
    exact key _ hg _ l.went.hei (by omega)
def Honest {α : Type} (m : Rd α) : Prop := ∀ b e, m b = .no e → e ≠ 0
theorem Honest.pure {α : Type} (a : α) : Honest (Rd.pure a) := fun b e h => by cases h
theorem Honest.bind {α β : Type} {m : Rd α} {k : α → Rd β} (h : Honest m) (h2 : ∀ a, Honest (k a)) : Honest (m.bind k) := fun b e hx => by
  unfold Rd.bind at hx
  split at hx
  · exact h2 _ _ _ hx
  · rename_i e' hm; cases hx; exact h _ _ hm
theorem Honest.many {α : Type} {m : Rd α} (h : Honest m) : ∀ n, Honest (rMany m n)
  | 0 => Honest.pure []
  | n + 1 => h.bind fun a => (Honest.many h n).bind fun l => Honest.pure _
end VM
end Go.Proofs.YtdmibdjokofclaaGreatDoor
set_option maxRecDepth 8000
namespace Go.Proofs.YtdmibdjokofclaaGreatDoor
open Go Go.RowKit
theorem znz {a : Agt} {fs : List Frm} {f : Frm} (l : VM.Gone a fs f) : zom a := by
  have po := VM.prg_ok l.prog
  have hl := l.hlen
  have hr := l.room
  have st := VM.gone_stk l
  have fl := l.flen
  exact ⟨by have := po.codes; omega, fun c hc => by have := (po.code c hc).1; omega, by have := po.words; omega, by rw [l.fr]; simp; omega, by omega, fun g hg => by have := st g hg; omega⟩
theorem zadp {a : Agt} {fs : List Frm} {f : Frm} (l : VM.Gone a fs f) : (zq a.frames).length ≤ 4096 := by
  have sk := VM.gone_stk l
  have fl : a.frames.length ≤ 12 := by rw [l.fr]; simp; have := l.flen; omega
  have key : ∀ gs : List Frm, (∀ g ∈ gs, g.vars.length ≤ 8 ∧ g.stack.length ≤ 16) → (zq gs).length ≤ gs.length * 24 := by
    intro gs
    induction gs with
    | nil => intro _; simp [zq]
    | cons g r ih =>
      intro h
      have := ih fun x hx => h x (by simp [hx])
      have h0 := h g (by simp)
      simp [zq] at this ⊢
      omega
  have := key a.frames sk
  omega
end Go.Proofs.YtdmibdjokofclaaGreatDoor
set_option maxRecDepth 8000
namespace Go.Proofs.YtdmibdjokofclaaGreatDoor
open Go Go.RowKit
def Ply (l : List Spt) : List (List AV) := l.map Spt.avs
theorem zabm (l : List Spt) : ∀ x ∈ Ply l, x.length = 4 := fun x hx => by obtain ⟨s, _, rfl⟩ := List.mem_map.1 hx; rfl
theorem zabj {f pe : Nat} {t : Str} {l : List Spt} {H : Heap} {n : Nat} (hl : l.length ≤ 4294967296) (hf : ∀ (s : Spt) (Q : QT), Q (.bool (decide (s.name = t))) H n → za Tryz.prog f [.agg s.avs, .ptr pe 0] H n Q) :
    za Tryz.prog 28 [.ro (Ply l), .clo f [.ptr pe 0]] H n fun v H' n' => v = .int .i64 (VM.find l t) ∧ H' = H ∧ n' = n := by
  refine zhv _ _ _ _ _ ?_
  simp [zdt]
  refine LP.mk (fun j xs H' n' => ∃ i : Nat, i + j = l.length ∧ xs = [.ro (Ply l), .clo f [.ptr pe 0], .int .i64 l.length, .int .i64 i] ∧ H' = H ∧ n' = n ∧ VM.find l t = VM.findGo t (l.drop i) i) l.length ⟨0, by omega, by simp [Ply], rfl, rfl, rfl⟩ ?_
  rintro j xs H' n' ⟨i, hi, rfl, rfl, rfl, hno⟩
  cases j with
  | zero =>
    obtain rfl : i = l.length := by omega
    rw [List.drop_length] at hno
    have hq : VM.find l t = -1 := hno
    simp [zcc, hq]
  | succ j =>
    have hlt : i < l.length := by omega
    rw [List.drop_eq_getElem_cons hlt] at hno
    have hg : (Ply l)[i]? = some l[i].avs := by simp [Ply, hlt]
    obtain ⟨_, hg'⟩ := List.getElem?_eq_some_iff.1 hg
    generalize l[i] = s at *
    have ht : s.avs.take 4 = s.avs ∧ s.avs.length = 4 := ⟨rfl, rfl⟩
    have hw : IntKind.i64.wrap ((i : Int) + 1) = (i : Int) + 1 := i64w (by omega)
    have hpl : (Ply l).length = l.length := by simp [Ply]
    unfold VM.findGo at hno
    simp [zcc, hlt, hpl, hg', ht, CALL]
    refine hf s _ ?_
    by_cases e : s.name = t
    · rw [if_pos e] at hno
      simp [zcd, e, hno]
    · rw [if_neg e] at hno
      simp [zcd, e, hw]
      exact ⟨j, by omega, i + 1, by omega, rfl, hno⟩
theorem zaio {pe : Nat} {t : Str} (s : Spt) {H : Heap} {n : Nat} {Q : QT} (hpe : H pe = some (.row 1 [.str t])) (hpn : pe < n) (hq : Q (.bool (decide (s.name = t))) H n) : za Tryz.prog 29 [.agg s.avs, .ptr pe 0] H n Q := by
  refine za.pure_call (r := .bool (decide (s.name = t))) ?_ hq
  refine zrh _ _ _ _ _ ?_
  have ne_0 : pe ≠ n ∧ n ≠ pe := ⟨by omega, by omega⟩
  simp [zmb, Spt.avs, hpe, ne_0]
theorem zaet {pe : Nat} (t s : Spt) {H : Heap} {n : Nat} {Q : QT} (hpe : H pe = some (.row 4 t.avs)) (hpn : pe < n) (hq : Q (.bool (decide (s.name = t.name))) H n) : za Tryz.prog 26 [.agg s.avs, .ptr pe 0] H n Q := by
  refine za.pure_call (r := .bool (decide (s.name = t.name))) ?_ hq
  refine zpi _ _ _ _ _ ?_
  have ne_1 : pe ≠ n ∧ n ≠ pe := ⟨by omega, by omega⟩
  simp [zlc, Spt.avs] at hpe ⊢
  simp [hpe, ne_1]
theorem zaju (l : List Spt) (t : Str) (hl : l.length ≤ 4294967296) : QC Tryz.prog 14 [.ro (Ply l), .str t] (.int .i64 (VM.find l t)) := by
  refine QC.of' fun H nx => ztu _ _ H nx _ ?_
  simp [zpc]
  refine (zabj hl fun s Q hq => zaio s (Heap.put_at _ _ _) (by omega) hq).mono fun v H' n' ⟨h1, h2, h3⟩ => ?_
  subst h1; subst h2; subst h3
  simp [zpd]
theorem zaej (m : Pmt) : QC Tryz.prog 15 [.agg [.int .i64 m.fuel, .int .i64 m.room, .int .i64 m.hops]] (.int .i64 (VM.permitErr m)) := by
  refine QC.of' fun H nx => zre _ H nx _ ?_
  have e : VM.permitErr m = if m.fuel < 0 then 3 else if 2000 < m.fuel then 3 else if m.room < 0 then 3 else if 60 < m.room then 3 else if m.hops < 0 then 3 else if 12 < m.hops then 3 else 0 := by
    unfold VM.permitErr
    repeat' split
    all_goals first | rfl | (exfalso; omega)
  rw [e]
  simp [zma]
  repeat' split
  all_goals simp_all
  all_goals omega
theorem zain (l : List Spt) (t : Str) : (0 ≤ VM.find l t) = (l.any (fun x => decide (x.name = t)) = true) := by
  have key : ∀ (r : List Spt) (i : Nat), (0 ≤ VM.findGo t r i) = (r.any (fun x => decide (x.name = t)) = true) := by
    intro r
    induction r with
    | nil => intro i; simp [VM.findGo]
    | cons s r ih =>
      intro i
      unfold VM.findGo
      by_cases e : s.name = t
      · simp [e]
      · rw [if_neg e, ih]
        simp [e]
  exact key l 0
end Go.Proofs.YtdmibdjokofclaaGreatDoor
set_option maxRecDepth 8000
namespace Go.Proofs.YtdmibdjokofclaaGreatDoor
open Go Go.RowKit
inductive FL (H : Heap) (nx : Nat) : List AV → List AV → Prop
  | nil : FL H nx [] []
  | cons {u v : AV} {us vs : List AV} : Frz H nx u v → FL H nx us vs → FL H nx (u :: us) (v :: vs)
section
variable {H : Heap} {nx : Nat}
theorem FL.append : ∀ {us vs us' vs' : List AV}, FL H nx us vs → FL H nx us' vs' → FL H nx (us ++ us') (vs ++ vs')
  | _, _, _, _, .nil, k => k
  | _, _, _, _, .cons a b, k => .cons a (b.append k)
theorem FL.same : ∀ {l : List AV}, (∀ c ∈ l, Bel (· < nx) c) → FL H nx l l
  | [], _ => .nil
  | c :: r, h => .cons (.same _ (h c (by simp))) (FL.same fun x hx => h x (by simp [hx]))
theorem FL.get : ∀ {us vs : List AV}, FL H nx us vs → ∀ {j : Nat} {v : AV}, vs[j]? = some v → ∃ u, us[j]? = some u ∧ Frz H nx u v
  | _, _, .nil, j, v, h => by simp at h
  | _, _, .cons a b, 0, v, h => by simp at h; subst h; exact ⟨_, rfl, a⟩
  | _, _, .cons a b, j + 1, v, h => by simpa using b.get (j := j) (by simpa using h)
theorem FL.len : ∀ {us vs : List AV}, FL H nx us vs → us.length = vs.length
  | _, _, .nil => rfl
  | _, _, .cons a b => by simp [b.len]
theorem FL.agg {us vs : List AV} (h : FL H nx us vs) : Frz H nx (.agg us) (.agg vs) := by
  refine .agg _ _ h.len.symm fun j v u hv hu => ?_
  obtain ⟨w, q1, q2⟩ := h.get hu
  rw [hv] at q1; cases q1; exact q2
theorem FL.tup {us vs : List AV} (h : FL H nx us vs) : Frz H nx (.tup us) (.tup vs) := by
  refine .tup _ _ h.len.symm fun j v u hv hu => ?_
  obtain ⟨w, q1, q2⟩ := h.get hu
  rw [hv] at q1; cases q1; exact q2
end
end Go.Proofs.YtdmibdjokofclaaGreatDoor
set_option maxRecDepth 8000
namespace Go.Proofs.YtdmibdjokofclaaGreatDoor
open Go Go.RowKit
theorem zalt {ki : IntKind} {sz j : Nat} {xs : List (List AV)} {H : Heap} {kk : AV → Prop} (hs : ∀ x ∈ xs, x.length = sz) (h : j ≤ xs.length) (hk : kk (.ro (xs.take j))) : SL sz (.ro xs) none (some (.int ki (j : Int))) H kk := by
  simp only [SL, zax, lohi, PURE, qk, Int.toNat_natCast]
  refine ⟨by omega, by omega, by omega, hs, ?_⟩
  simpa using hk
theorem zahq {f pe : Nat} {t : Str} {l : List Spt} {H : Heap} {n : Nat} {Q : QT} (hl : l.length ≤ 4294967296) (hf : ∀ (s : Spt) (Q : QT), Q (.bool (decide (s.name = t))) H n → za Tryz.prog f [.agg s.avs, .ptr pe 0] H n Q)
    (hq : Q (.bool (l.any fun x => decide (x.name = t))) H n) : za Tryz.prog 25 [.ro (Ply l), .clo f [.ptr pe 0]] H n Q := by
  refine zgh _ _ _ _ _ ?_
  unfold zcz
  refine (zabj hl hf).mono fun v H' n' ⟨h1, h2, h3⟩ => ?_
  subst h1; subst h2; subst h3
  have e : decide (0 ≤ VM.find l t) = l.any fun x => decide (x.name = t) := by
    rw [Bool.eq_iff_iff, decide_eq_true_iff]
    exact Iff.of_eq (zain l t)
  simp [zda, e]
  exact hq
theorem zacw {v : Val} (h : v.kind = 2) : VM.wrong v 0 ≠ 0 := fun hw => by
  have := (VM.wrong_ok hw).cell h
  omega
theorem zajr {α : Type} {p : α → Bool} {l : List α} {i : Nat} {x : α} (h : l[i]? = some x) : (l.drop i).any p = (p x || (l.drop (i + 1)).any p) := by
  obtain ⟨hi, rfl⟩ := List.getElem?_eq_some_iff.1 h
  rw [List.drop_eq_getElem_cons hi, List.any_cons]
set_option maxRecDepth 20000 in
set_option maxHeartbeats 4000000 in
theorem zahj {l : List Spt} {i L : Nat} {s : Spt} {H0 H : Heap} {nx n : Nat} {Q : QT} {K6 : J3} (hi : i < 4) (hnx : nx ≤ n) (hf : s.facts.length ≤ 4) (hk : Keep nx H H0)
    (hbad : s.facts.any VM.badFact = true → ∀ H' n', Keep nx H' H0 → Q (.tup [.int .i64 11, .int .i64 i]) H' n')
    (hok : s.facts.any VM.badFact = false → ∀ H' n', nx ≤ n' → Keep nx H' H0 → K6 [.ro (Ply l), .ro (Ply l), .int .i64 L, .int .i64 ((i + 1 : Nat) : Int)] H' n') :
    LP (zbz Q K6) [.ro (Ply l), .int .i64 i, .ro (Ply l), .int .i64 L, .int .i64 i, .ro (s.facts.map fun x => .str x.key :: x.val.avs), .int .i64 s.facts.length, .int .i64 0] H n := by
  refine LP.mk (fun k xs H' n' => ∃ j : Nat, k = s.facts.length - j ∧ j ≤ s.facts.length ∧ xs = [.ro (Ply l), .int .i64 i, .ro (Ply l), .int .i64 L, .int .i64 i, .ro (s.facts.map fun x => .str x.key :: x.val.avs), .int .i64 s.facts.length, .int .i64 j] ∧ nx ≤ n' ∧ Keep nx H' H0 ∧ s.facts.any VM.badFact = (s.facts.drop j).any VM.badFact) s.facts.length ⟨0, by omega, by omega, rfl, hnx, hk, rfl⟩ ?_
  rintro k xs H' n' ⟨j, rfl, hj, rfl, hn, hk', ha⟩
  have hai : IntKind.i64.wrap ((i : Int) + 1) = ((i + 1 : Nat) : Int) := by rw [i64w (by omega)]; rfl
  by_cases hlt : j < s.facts.length
  · have hadd : IntKind.i64.wrap ((j : Int) + 1) = ((j + 1 : Nat) : Int) := by rw [i64w (by omega)]; rfl
    have hst := zajr (p := VM.badFact) (List.getElem?_eq_getElem hlt)
    generalize hcc : s.facts[j] = c at *
    have kp : ∀ o, Keep nx (H'.put n' o) H0 := fun o y hy => by rw [Heap.put_ne _ _ (by omega)]; exact hk' y hy
    have bad : VM.badFact c = true → s.facts.any VM.badFact = true := fun h => by rw [ha, hst, h]; rfl
    by_cases h1 : (60 : Int) < c.key.length
    · simp [zbz, hlt, hcc, Val.avs, h1]
      have h1n : 60 < c.key.length := by omega
      exact hbad (bad (by unfold VM.badFact; simp [h1n])) _ _ (kp _)
    by_cases h2 : c.val.kind = 2
    · simp [zbz, hlt, hcc, Val.avs, h1, h2]
      exact hbad (bad (by unfold VM.badFact; simp [zacw h2])) _ _ (kp _)
    simp [zbz, hlt, hcc, Val.avs, h1, h2]
    refine QC.call (zahi c.val 0) ?_
    by_cases hw : VM.wrong c.val 0 = 0
    · simp [zhh, hw, hadd]
      refine ⟨s.facts.length - (j + 1), by omega, j + 1, by omega, by omega, rfl, by omega, kp _, ?_⟩
      rw [ha, hst]
      have : VM.badFact c = false := by unfold VM.badFact; simp [hw]; omega
      rw [this]; rfl
    · simp [zhh, hw]
      exact hbad (bad (by unfold VM.badFact; simp [hw])) _ _ (kp _)
  · obtain rfl : j = s.facts.length := by omega
    rw [List.drop_length] at ha
    simp [zbz, hai]
    exact hok ha _ _ hn hk'
set_option maxRecDepth 20000 in
set_option maxHeartbeats 4000000 in
theorem zagm (l : List Spt) (hfl : ∀ s ∈ l, s.facts.length ≤ 4611686018427387903) : QC Tryz.prog 13 [.ro (Ply l)] (.tup [.int .i64 (VM.spotsWrong l).1, .int .i64 (VM.spotsWrong l).2]) := by
  refine QC.of' fun H nx => ?_
  suffices main : ∀ Q : AV → Heap → Nat → Prop, (∀ r H' n', r = VM.spotsWrong l → Keep nx H' H → Q (.tup [.int .i64 r.1, .int .i64 r.2]) H' n') → za Tryz.prog 13 [.ro (Ply l)] H nx Q from
    main _ fun r H' n' hr h => ⟨by rw [hr]; exact FL.tup (.cons (.same _ (.int _ _)) (.cons (.same _ (.int _ _)) .nil)), h⟩
  intro Q hQ
  refine zsi _ H nx _ ?_
  have hpl : (Ply l).length = l.length := by simp [Ply]
  by_cases h1 : l.length < 1
  · have e : VM.spotsWrong l = (5, -1) := by unfold VM.spotsWrong; rw [if_pos (by omega)]
    have g1 : (l.length : Int) < 1 := by omega
    simp only [zel, zzb, hpl, zaaa, g1, decide_true, zanj]
    exact hQ (5, -1) _ _ (by rw [e]) fun _ _ => rfl
  by_cases h2 : 4 < l.length
  · have e : VM.spotsWrong l = (5, -1) := by unfold VM.spotsWrong; rw [if_pos (by omega)]
    have g1 : ¬ (l.length : Int) < 1 := by omega
    have g2 : (4 : Int) < l.length := by omega
    simp only [zel, zzb, hpl, zaaa, zagk, g1, g2, decide_true, decide_false, zakb, zaga]
    exact hQ (5, -1) _ _ (by rw [e]) fun _ _ => rfl
  have e0 : VM.spotsWrong l = VM.spotsGo [] l := by unfold VM.spotsWrong; rw [if_neg (by omega)]
  have g1 : ¬ (l.length : Int) < 1 := by omega
  have g2 : ¬ (4 : Int) < l.length := by omega
  simp only [zel, zzb, hpl, zaaa, zagk, g1, g2, decide_false, zakb, zzq]
  refine LP.mk (fun k xs H' n' => ∃ i : Nat, k = l.length - i ∧ i ≤ l.length ∧ xs = [.ro (Ply l), .ro (Ply l), .int .i64 l.length, .int .i64 i] ∧ nx ≤ n' ∧ Keep nx H' H ∧ VM.spotsWrong l = VM.spotsGo (l.take i) (l.drop i)) l.length ⟨0, by omega, by omega, rfl, Nat.le_refl _, fun _ _ => rfl, by rw [e0]; rfl⟩ ?_
  rintro k xs H' n' ⟨i, rfl, hi, rfl, hn, hk, hw⟩
  by_cases hlt : i < l.length
  case neg =>
    obtain rfl : i = l.length := by omega
    rw [List.drop_length] at hw
    simp [zby]
    exact hQ (0, -1) _ _ (by rw [hw]; rfl) hk
  suffices key : ∀ K6 : J3, (∀ H' n', nx ≤ n' → Keep nx H' H → VM.spotsWrong l = VM.spotsGo (l.take (i + 1)) (l.drop (i + 1)) → K6 [.ro (Ply l), .ro (Ply l), .int .i64 l.length, .int .i64 ((i + 1 : Nat) : Int)] H' n') → zby Q K6 [.ro (Ply l), .ro (Ply l), .int .i64 l.length, .int .i64 i] H' n' from
    key _ fun H2 n2 q1 q2 q3 => ⟨l.length - (i + 1), by omega, i + 1, by omega, by omega, rfl, q1, q2, q3⟩
  intro K6 hK6
  rw [List.drop_eq_getElem_cons hlt] at hw
  have ht : l.take (i + 1) = l.take i ++ [l[i]] := List.take_succ_eq_append_getElem hlt
  have hfi := hfl l[i] (List.getElem_mem hlt)
  have hg' : (Ply l)[i]'(by rw [hpl]; exact hlt) = l[i].avs := by simp [Ply]
  generalize l[i] = s at *
  have he : VM.spotsWrong l = if VM.spotErr (l.take i) s ≠ 0 then (VM.spotErr (l.take i) s, (i : Int)) else VM.spotsGo (l.take (i + 1)) (l.drop (i + 1)) := by
    rw [hw, ht]
    show (if VM.spotErr (l.take i) s ≠ 0 then (VM.spotErr (l.take i) s, ((l.take i).length : Int)) else _) = _
    rw [List.length_take, Nat.min_eq_left (by omega)]
  have fin : ∀ {e : Int}, VM.spotErr (l.take i) s = e → e ≠ 0 → ∀ H' n', Keep nx H' H → Q (.tup [.int .i64 e, .int .i64 i]) H' n' := fun {e} h1 h2 H' n' h3 => hQ (e, (i : Int)) _ _ (by rw [he, h1, if_pos h2]) h3
  have kp : ∀ o, Keep nx (H'.put n' o) H := fun o y hy => by rw [Heap.put_ne _ _ (by omega)]; exact hk y hy
  by_cases b1 : s.name.length < 1
  · have b1' : s.name = [] := List.eq_nil_of_length_eq_zero (by omega)
    simp [zby, hlt, hpl, hg', Spt.avs, b1']
    exact fin (by unfold VM.spotErr; rw [if_pos (.inl b1)]) (by decide) _ _ (kp _)
  have b1' : ¬ (s.name.length : Int) < 1 := by omega
  have b1n : s.name ≠ [] := fun h => b1 (by rw [h]; simp)
  by_cases b2 : (12 : Int) < s.name.length
  · simp [zby, hlt, hpl, hg', Spt.avs, b1', b1n, b2]
    exact fin (by unfold VM.spotErr; rw [if_pos (.inr (.inl (by omega)))]) (by decide) _ _ (kp _)
  simp [zby, hlt, hpl, hg', Spt.avs, b1', b1n, b2]
  refine zalt (zabm l) (by rw [hpl]; omega) ?_
  have hx : (H'.put n' (some (.row 4 [.str s.name, .ro (s.facts.map fun x => .str x.key :: x.val.avs), .int .i64 s.fuel, .int .i64 s.cells]))) n' = some (.row 4 s.avs) := Heap.put_at _ _ _
  have et : (Ply l).take i = Ply (l.take i) := by simp [Ply, List.map_take]
  rw [et]
  refine zahq (t := s.name) (by rw [List.length_take]; omega) (fun t Q hq => zaet s t hx (by omega) hq) ?_
  cases b3 : ((l.take i).any fun x => decide (x.name = s.name)) with
  | true =>
    simp [zaz]
    exact fin (by unfold VM.spotErr; rw [if_pos (.inr (.inr b3))]) (by decide) _ _ (kp _)
  | false =>
    have nb : ¬ VM.badName (l.take i) s := by
      rintro (h | h | h)
      · exact b1 h
      · exact b2 (by omega)
      · rw [b3] at h; cases h
    have x2 : VM.spotErr (l.take i) s = if s.fuel < 0 ∨ 2000 < s.fuel ∨ s.cells < 0 ∨ 60 < s.cells then 3 else if 4 < s.facts.length then 5 else if s.facts.any VM.badFact = true then 11 else 0 := by unfold VM.spotErr; rw [if_neg nb]
    have y0 : (H'.put n' (some (.row 4 [.str s.name, .ro (s.facts.map fun x => .str x.key :: x.val.avs), .int .i64 s.fuel, .int .i64 s.cells]))) n' = some (.row 4 [.str s.name, .ro (s.facts.map fun x => .str x.key :: x.val.avs), .int .i64 s.fuel, .int .i64 s.cells]) := Heap.put_at _ _ _
    have yk := kp (some (.row 4 [.str s.name, .ro (s.facts.map fun x => .str x.key :: x.val.avs), .int .i64 s.fuel, .int .i64 s.cells]))
    generalize (H'.put n' (some (.row 4 [.str s.name, .ro (s.facts.map fun x => .str x.key :: x.val.avs), .int .i64 s.fuel, .int .i64 s.cells]))) = Y at *
    by_cases c1 : s.fuel < 0
    · simp [zaz, y0, c1]
      exact fin (by rw [x2, if_pos (by omega)]) (by decide) _ _ yk
    by_cases c2 : 2000 < s.fuel
    · simp [zaz, y0, c1, c2]
      exact fin (by rw [x2, if_pos (by omega)]) (by decide) _ _ yk
    by_cases c3 : s.cells < 0
    · simp [zaz, y0, c1, c2, c3]
      exact fin (by rw [x2, if_pos (by omega)]) (by decide) _ _ yk
    by_cases c4 : 60 < s.cells
    · simp [zaz, y0, c1, c2, c3, c4]
      exact fin (by rw [x2, if_pos (by omega)]) (by decide) _ _ yk
    rw [if_neg (by omega)] at x2
    by_cases c5 : (4 : Int) < s.facts.length
    · simp [zaz, y0, c1, c2, c3, c4, c5]
      exact fin (by rw [x2, if_pos (by omega)]) (by decide) _ _ yk
    rw [if_neg (by omega)] at x2
    simp [zaz, y0, c1, c2, c3, c4, c5]
    refine zahj (s := s) (nx := nx) (by omega) (by omega) (by omega) yk (fun hb H2 n2 hk2 => fin (by rw [x2, if_pos hb]) (by decide) _ _ hk2) fun hb H2 n2 hn2 hk2 => hK6 _ _ hn2 hk2 ?_
    rw [he, x2, hb]
    simp
end Go.Proofs.YtdmibdjokofclaaGreatDoor
set_option maxRecDepth 8000
namespace Go.Proofs.YtdmibdjokofclaaGreatDoor
open Go Go.RowKit
def zag9 : List AV := [.int .i64 0, .int .i64 0, .nils, .nils, .nils, .nils, .int .i64 0, .int .i64 0, .int .i64 0]
theorem zalb {H : Heap} {nx : Nat} : Frz H nx (.agg zag9) (.agg VM.agt0.avs) :=
  FL.agg (.cons (.same _ (.int _ _)) (.cons (.same _ (.int _ _)) (.cons .nils (.cons .nils (.cons .nils (.cons .nils (.cons (.same _ (.int _ _)) (.cons (.same _ (.int _ _)) (.cons (.same _ (.int _ _)) .nil)))))))))
def letV (a : Agt) (s : Spt) : AV := .tup [.agg ((VM.letIn a s).getD VM.agt0).avs, .bool (VM.letIn a s).isSome]
set_option maxRecDepth 20000 in
set_option maxHeartbeats 2000000 in
theorem zaln {a : Agt} {fs : List Frm} {f : Frm} (g : VM.Gone a fs f) (s : Spt) (hs : 0 ≤ s.fuel ∧ s.fuel ≤ 2000) : QC Tryz.prog 10 [.agg a.avs, .agg s.avs] (letV a s) := by
  refine QC.of' fun H nx => ?_
  suffices main : ∀ Q : AV → Heap → Nat → Prop, (∀ v H' n', Frz H' nx v (letV a s) → Keep nx H' H → Q v H' n') → za Tryz.prog 10 [.agg a.avs, .agg s.avs] H nx Q from main _ fun v H' n' h1 h2 => ⟨h1, h2⟩
  intro Q hQ
  refine zuw _ _ H nx _ ?_
  have hsu : (AV.agg a.avs).sure = true := by simp [Agt.avs]
  have hss : (AV.agg s.avs).sure = true := by simp [Spt.avs]
  obtain ⟨_, at9, al⟩ := zbx a
  simp only [zrf, puth]
  refine ⟨hsu, hss, ?_⟩
  generalize hX : Heap.put _ (nx + 2) _ = X
  have x0 : X nx = some (.row 9 a.avs) := by rw [← hX, Heap.put_ne _ _ (by omega), Heap.put_ne _ _ (by omega), Heap.put_at]; rfl
  have x1 : X (nx + 1) = some (.row 4 [.str s.name, .ro (s.facts.map fun x => .str x.key :: x.val.avs), .int .i64 s.fuel, .int .i64 s.cells]) := by rw [← hX, Heap.put_ne _ _ (by omega), Heap.put_at]; rfl
  have x2 : X (nx + 2) = some (.row 9 zag9) := by rw [← hX, Heap.put_at]; rfl
  have xk : Keep nx X H := fun y hy => by rw [← hX]; repeat' first | rw [Heap.put_ne _ _ (by omega)] | rfl
  clear hX
  have fl : a.frames.length ≤ 12 := by rw [g.fr]; simp; have := g.flen; omega
  simp [x0, al, at9]
  refine QC.call (zakq (znz g) g.fr (by omega) (zadp g) (VM.roots_ok g)) ?_
  have gp := VM.pack_gone g
  have hp : (VM.pack a).permit = a.permit := rfl
  have hlet : VM.letIn a s = if s.cells < (VM.pack a).heap.length then none else some (VM.answer (VM.fueled (VM.pack a) (min (VM.pack a).permit.fuel s.fuel)) 1) := rfl
  unfold letV at hQ
  rw [hlet] at hQ
  generalize VM.pack a = b at *
  have gb := gp.fuel
  have z9 : zag9.length = 9 := rfl
  have m2 : ¬ nx + 2 = nx + 3 ∧ ¬ nx + 1 = nx + 3 ∧ ¬ nx = nx + 3 := by omega
  by_cases hc : s.cells < b.heap.length
  · rw [if_pos hc] at hQ
    simp [zlf, x0, x1, x2, Agt.avs, hc, z9]
    refine hQ _ _ _ ?_ fun y hy => ?_
    · exact FL.tup (.cons zalb (.cons (.same _ (.bool _)) .nil))
    · repeat' first | rw [Heap.put_ne _ _ (by omega)] | exact xk y hy
  · rw [if_neg hc] at hQ
    simp [zlf, x0, x1, x2, Agt.avs, hc, z9]
    have gg := VM.gone_fueled gp (n := min b.permit.fuel s.fuel) (by omega)
    have st := VM.gone_stk gg _ (by rw [gg.fr]; simp; exact .inr rfl)
    refine QC.call (zxl (k := 1) (znz gg) gg.fr (by simp; have := gp.flen; simp at this; omega) (by omega)) ?_
    generalize hc2 : VM.answer (VM.fueled b (min b.permit.fuel s.fuel)) 1 = c at *
    obtain ⟨_, ct, cl⟩ := zbx c
    have oc := zkd c
    have csu : (AV.agg c.avs).sure = true := by simp [Agt.avs]
    simp [zrg, x2, z9, ct, cl, csu]
    refine ⟨oc, hQ _ _ _ ?_ fun y hy => ?_⟩
    · exact FL.tup (.cons (.same _ (zvv _)) (.cons (.same _ (.bool _)) .nil))
    · repeat' first | rw [Heap.put_ne _ _ (by omega)] | exact xk y hy
end Go.Proofs.YtdmibdjokofclaaGreatDoor
set_option maxRecDepth 8000
namespace Go.Proofs.YtdmibdjokofclaaGreatDoor
open Go Go.RowKit
def rowT (l : List Str) : List AV := l.map AV.str
theorem zaab {A : Nat → Prop} {a b : AV} (h1 : Bel A a) (h2 : Bel A b) : Bel A (.tup [a, b]) := .tup _ fun j v hv => by
  match j, hv with
  | 0, hv => cases hv; exact h1
  | 1, hv => cases hv; exact h2
  | j + 2, hv => simp at hv
def zajx (r : List Str × Str × Int) : AV := .tup [.ro (r.1.map fun w => [.str w]), .agg [.int .i64 0, .str r.2.1, .int .i64 r.2.2], .int .i64 0]
theorem zafb (l : List Str) : (l.map fun w => [AV.str w]).flatten = rowT l := by
  induction l with
  | nil => rfl
  | cons c r ih => simp [rowT] at ih ⊢; exact ih
theorem zaih {H : Heap} {nx : Nat} {said : List Str} {sl : AV} (hs : Slot H 1 said.length (rowT said) sl) (ho : ∀ y ∈ own sl, nx ≤ y) (t : Str) (e : Int) : Frz H nx (.tup [sl, .agg [.int .i64 0, .str t, .int .i64 e], .int .i64 0]) (zajx (said, t, e)) := by
  have h1 : Frz H nx sl (.ro (said.map fun w => [.str w])) := Slot.frzN (sz := 1) (by rw [zafb, List.length_map]; exact hs) ho (fun x hx => by obtain ⟨w, _, rfl⟩ := List.mem_map.1 hx; rfl) (zlq _)
  exact FL.tup (.cons h1 (.cons (FL.agg (.cons (.same _ (.int _ _)) (.cons (.same _ (.str _)) (.cons (.same _ (.int _ _)) .nil)))) (.cons (.same _ (.int _ _)) .nil)))
structure AlSt (l : List Spt) (R : List Str × Str × Int) (H0 H : Heap) (nx n e g : Nat) (a : Agt) (i : Nat) (said : List Str) (sl : AV) : Prop where
  live : ∃ fs f, VM.Live a fs f
  at_ : i < l.length
  ag : H g = some (.row 9 a.avs)
  en : ∃ z, H e = some (.row 3 z) ∧ z.length = 3
  slot : Slot H 1 said.length (rowT said) sl
  own_ : ∀ y ∈ own sl, g < y ∧ y < n
  gn : g < n
  keep : Keep nx H H0
  go : VM.go l a i said = R
  few : (said.length : Int) + a.permit.fuel ≤ 2000
set_option maxRecDepth 20000 in
set_option maxHeartbeats 4000000 in
theorem zagn {l : List Spt} (ok : VM.OkSpots l) {R : List Str × Str × Int} {H0 H : Heap} {nx n e g : Nat} {a : Agt} {i : Nat} {said : List Str} {sl : AV} {Q : QT} (he : nx ≤ e) (heg : e < g) (st : AlSt l R H0 H nx n e g a i said sl)
    (hq : ∀ v H' n', Frz H' nx v (zajx R) → Keep nx H' H0 → Q v H' n') :
    LP (zgq Q) [.ro (Ply l), .int .i64 i, .ptr e 0, .ptr g 0, sl] H n := by
  refine LP.mk (fun k xs H' n' => ∃ (a : Agt) (i : Nat) (said : List Str) (sl : AV), k = a.permit.fuel.toNat ∧ xs = [.ro (Ply l), .int .i64 i, .ptr e 0, .ptr g 0, sl] ∧ AlSt l R H0 H' nx n' e g a i said sl) a.permit.fuel.toNat ⟨a, i, said, sl, rfl, rfl, st⟩ ?_
  clear st
  rintro k xs H' n' ⟨a, i, said, sl, rfl, rfl, st⟩
  suffices key : ∀ K33 : J3, (∀ (a2 : Agt) (i2 : Nat) (said2 : List Str) (sl2 : AV) (H2 : Heap) (n2 : Nat), a2.permit.fuel.toNat < a.permit.fuel.toNat → AlSt l R H0 H2 nx n2 e g a2 i2 said2 sl2 → K33 [.ro (Ply l), .int .i64 i2, .ptr e 0, .ptr g 0, sl2] H2 n2) → zgq Q K33 [.ro (Ply l), .int .i64 i, .ptr e 0, .ptr g 0, sl] H' n' from
    key _ fun a2 i2 said2 sl2 H2 n2 h1 h2 => ⟨a2.permit.fuel.toNat, h1, a2, i2, said2, sl2, rfl, rfl, h2⟩
  intro K33 hK
  obtain ⟨⟨fs, f, lv⟩, hi, hg, hen, hsl, how, hgn, hkp, hgo, hfew⟩ := st
  have fb := lv.fuel
  obtain ⟨ad, at9, al⟩ := zbx a
  have hpl : (Ply l).length = l.length := by simp [Ply]
  have sm : l.getD i VM.spt0 ∈ l := VM.getD_spot hi
  have hg' : (Ply l)[i]'(by rw [hpl]; exact hi) = (l.getD i VM.spt0).avs := by simp [Ply, hi]
  obtain ⟨q1, q2⟩ := VM.go_run ok 2001 (said := said) lv hi (by omega)
  have rq := zalu (most := 2001) lv (s := l.getD i VM.spt0) (by have := ok.name _ sm; simp only [maxLen]; omega) (by have := ok.many _ sm; omega) (ok.facts _ sm) (by decide)
  have e1 : (2001 : Int).toNat = 2001 := rfl
  rw [e1] at rq
  generalize VM.run (l.getD i VM.spt0) 2001 a = r at *
  generalize l.getD i VM.spt0 = s at *
  have ht : s.avs.take 4 = s.avs ∧ s.avs.length = 4 := ⟨rfl, rfl⟩
  simp [zgq, hg, al, at9, hi, hpl, hg', ht]
  refine zw.of_qc rq (zaab (zvv _) (zaac _)) ?_
  obtain ⟨_, bt, bl⟩ := zbx r.1
  have ob := zkd r.1
  have sb : ((AV.agg r.1.avs).sure = true) := by simp [Agt.avs]
  have m1 : ¬ n' = g ∧ ¬ n' + 1 = g ∧ ¬ g = n' ∧ ¬ g = n' + 1 := by omega
  have mono : ∀ {Y : Heap} {m i2 : Nat} {c : Agt} {said2 : List Str} {sl2 : AV}, n' ≤ m → (∃ fs f, VM.Live c fs f) → i2 < l.length → Y g = some (.row 9 c.avs) → (∀ y, y < n' → y ≠ g → y ∉ own sl → Y y = H' y) → Slot Y 1 said2.length (rowT said2) sl2 → (∀ y ∈ own sl2, g < y ∧ y < m) → VM.go l c i2 said2 = R → (said2.length : Int) + c.permit.fuel ≤ 2000 → AlSt l R H0 Y nx m e g c i2 said2 sl2 := fun {Y m i2 c said2 sl2} h1 h2 h3 h4 h5 h6 h7 h8 h9 => by
    have nso : ∀ y, y ≤ g → y ∉ own sl := fun y hy h => by have := how y h; omega
    obtain ⟨z, z1, z2⟩ := hen
    exact ⟨h2, h3, h4, ⟨z, by rw [h5 e (by omega) (by omega) (nso _ (by omega))]; exact z1, z2⟩, h6, h7, by omega, fun y hy => by rw [h5 y (by omega) (by omega) (nso _ (by omega))]; exact hkp y hy, h8, h9⟩
  rcases q2 with ⟨hk, ⟨gs, h, l2⟩, hf⟩ | ⟨hk, ⟨gs, h, l2⟩, hf⟩ | hk
  · rw [if_pos hk] at q1
    have fb2 := l2.fuel
    simp [zee, hg, ad, al, at9, bt, bl, sb, eavs, m1, hk]
    refine ⟨ob, ?_⟩
    generalize hY : Heap.put _ (n' + 2) _ = Y
    have y1 : Y (n' + 2) = some (.row 1 [.str r.2.text]) := by rw [← hY, Heap.put_at]
    have yg : Y g = some (.row 9 r.1.avs) := by rw [← hY, Heap.put_ne _ _ (by omega), Heap.put_at]
    have yk : ∀ y, y < n' → y ≠ g → Y y = H' y := fun y e1 e2 => by rw [← hY]; repeat' first | rw [Heap.put_ne _ _ (by omega)] | rfl
    clear hY
    have s1 : Slot Y 1 said.length (rowT said) sl := hsl.keep fun y hy => by have := how y hy; exact yk y (by omega) (by omega)
    refine s1.app (new := [.str r.2.text]) (by simp [rowT]) y1 rfl (by simp) (by omega) fun H6 p1 p2 => ?_
    refine hK r.1 i (said ++ [r.2.text]) _ H6 _ (by omega) (mono (by omega) ⟨gs, h, l2⟩ hi ?_ (fun y e1 e2 e3 => ?_) ?_ (fun y hy => ?_) (by rw [← q1]; exact hgo) (by simp; omega))
    · rw [p2 g (fun h => by have := how _ h; omega) (by omega)]; exact yg
    · rw [p2 y e3 (by omega)]; exact yk y e1 e2
    · refine .inr ⟨_, _, ?_, p1, ?_, ?_⟩
      · simp
      · rw [List.take_of_length_le (by simp [rowT])]; simp [rowT]
      · simp [rowT]
    · have e : y = n' + 2 + 1 := by simpa [own] using hy
      omega
  · rw [if_neg (by omega), if_pos hk] at q1
    have fb2 := l2.fuel
    have fl2 := l2.flen
    have gs2 := VM.gone_stk l2 h (by rw [l2.fr]; simp)
    have aq := zxl (k := 0) (znz l2) l2.fr (by omega) (by omega)
    have stay : ∀ (Y : Heap) (m : Nat), n' ≤ m → Y g = some (.row 9 r.1.avs) → (∀ y, y < n' → y ≠ g → Y y = H' y) → VM.landed l i r.1 r.2.text = (VM.answer r.1 0, i) → za Tryz.prog 20 [.agg r.1.avs, .int .i64 0] Y m (zef [.ro (Ply l), .int .i64 i, .ptr e 0, .ptr g 0, sl] K33) := fun Y m h1 h2 h3 h4 => by
      refine QC.call aq ?_
      rw [h4] at q1
      have la := VM.answer_live l2 (n := 0) (by omega)
      have fu : (VM.answer r.1 0).permit = r.1.permit := VM.answer_fuel l2.fr 0
      generalize VM.answer r.1 0 = c at *
      obtain ⟨_, ct, cl⟩ := zbx c
      have oc := zkd c
      obtain ⟨rd, _, rl⟩ := zbx r.1
      simp [zef, h2, ct, cl, rl, rd]
      refine ⟨oc, hK c i said sl _ _ (by rw [fu]; omega) (mono (by omega) ⟨_, _, la⟩ hi (Heap.put_at _ _ _) (fun y e1 e2 e3 => by rw [Heap.put_ne _ _ e2]; exact h3 y e1 e2) (hsl.keep fun y hy => by have := how y hy; rw [Heap.put_ne _ _ (by omega)]; exact h3 y (by omega) (by omega)) (fun y hy => by have := how y hy; omega) (by rw [← q1]; exact hgo) (by rw [fu]; omega))⟩
    simp [zee, hg, ad, al, at9, bt, bl, sb, eavs, m1, hk]
    refine ⟨ob, ?_⟩
    refine QC.call (zaju l r.2.text (by have := ok.len; omega)) ?_
    generalize hY : Heap.put _ g _ = Y
    have yg : Y g = some (.row 9 r.1.avs) := by rw [← hY, Heap.put_at]
    have yk : ∀ y, y < n' → y ≠ g → Y y = H' y := fun y e1 e2 => by rw [← hY]; repeat' first | rw [Heap.put_ne _ _ (by omega)] | rfl
    clear hY
    have fr := VM.find_range l r.2.text
    have m2 : ¬ n' + 2 = g ∧ ¬ g = n' + 2 := by omega
    have zk : ∀ o, ∀ y, y < n' → y ≠ g → (Y.put (n' + 2) o) y = H' y := fun o y e1 e2 => by rw [Heap.put_ne _ _ (by omega)]; exact yk y e1 e2
    have zg : ∀ o, (Y.put (n' + 2) o) g = some (.row 9 r.1.avs) := fun o => by rw [Heap.put_ne _ _ (by omega)]; exact yg
    by_cases c1 : 0 ≤ VM.find l r.2.text
    case neg =>
      simp [zgr, yg, bt, bl, sb, m2, c1]
      exact ⟨ob, stay _ _ (by omega) (zg _) (zk _) (by unfold VM.landed; rw [if_neg (fun h => c1 h.1)])⟩
    by_cases c2 : VM.find l r.2.text = i
    · simp [zgr, yg, bt, bl, sb, m2, c1, c2]
      exact ⟨ob, stay _ _ (by omega) (zg _) (zk _) (by unfold VM.landed; rw [if_neg (fun h => h.2 c2)])⟩
    obtain ⟨j, hj⟩ := Int.eq_ofNat_of_zero_le c1
    have hjl : j < l.length := by omega
    have c2' : ¬ (j : Int) = i := fun h => c2 (by rw [hj, h])
    have sj : l.getD j VM.spt0 ∈ l := VM.getD_spot hjl
    have hgj : (Ply l)[j]'(by rw [hpl]; exact hjl) = (l.getD j VM.spt0).avs := by simp [Ply, hjl]
    have hland : VM.landed l i r.1 r.2.text = match VM.letIn r.1 (l.getD j VM.spt0) with | some y => (y, j) | none => (VM.answer r.1 0, i) := by
      unfold VM.landed
      rw [if_pos ⟨c1, c2⟩, hj]
      rfl
    have ll := VM.landed_live ok l2 hi r.2.text
    have lq := zaln l2 (l.getD j VM.spt0) (ok.fuel _ sj)
    unfold letV at lq
    generalize l.getD j VM.spt0 = t at *
    have tt : t.avs.take 4 = t.avs ∧ t.avs.length = 4 := ⟨rfl, rfl⟩
    simp [zgr, yg, bt, bl, sb, m2, hj, c2', hpl, hjl, hgj, tt]
    refine ⟨ob, ?_⟩
    refine zw.of_qc lq (zaab (zvv _) (.bool _)) ?_
    obtain ⟨rd, _, _⟩ := zbx r.1
    cases hl : VM.letIn r.1 t with
    | none =>
      rw [hl] at hland
      obtain ⟨_, zt, zl⟩ := zbx VM.agt0
      have oz := zkd VM.agt0
      have zsu : (AV.agg VM.agt0.avs).sure = true := by simp [Agt.avs]
      simp [zle, yg, bt, bl, sb, m2, zt, zl, zsu]
      refine ⟨oz, stay _ _ (by omega) ?_ (fun y e1 e2 => ?_) hland⟩
      · repeat' first | rw [Heap.put_ne _ _ (by omega)] | exact yg
      · repeat' first | rw [Heap.put_ne _ _ (by omega)] | exact yk y e1 e2
    | some c =>
      rw [hl] at hland
      rw [hland] at ll q1
      obtain ⟨lc, _, fc⟩ := ll
      obtain ⟨_, ct, cl⟩ := zbx c
      have oc := zkd c
      have csu : (AV.agg c.avs).sure = true := by simp [Agt.avs]
      simp [zle, yg, bt, bl, rd, sb, m2, ct, cl, csu]
      have fc2 : 0 ≤ c.permit.fuel := by obtain ⟨_, _, l3⟩ := lc; exact l3.fuel.1
      simp only at fc
      refine ⟨oc, hK c j said sl _ _ (by omega) (mono (by omega) lc hjl (Heap.put_at _ _ _) (fun y e1 e2 e3 => ?_) (hsl.keep fun y hy => ?_) (fun y hy => by have := how y hy; omega) (by rw [← q1]; exact hgo) (by omega))⟩
      · rw [Heap.put_ne _ _ e2]; repeat' first | rw [Heap.put_ne _ _ (by omega)] | exact yk y e1 e2
      · have := how y hy
        rw [Heap.put_ne _ _ (by omega)]; repeat' first | rw [Heap.put_ne _ _ (by omega)] | exact yk y (by omega) (by omega)
  · rw [if_neg (by omega), if_neg (by omega)] at q1
    obtain ⟨z, z1, z2⟩ := hen
    have m3 : ¬ e = g ∧ ¬ e = n' ∧ ¬ e = n' + 1 := by omega
    have fin : ∀ Y : Heap, (∀ y, y < n' → y ≠ g → y ≠ e → Y y = H' y) → Q (.tup [sl, .agg [.int .i64 0, .str r.2.text, .int .i64 r.2.err], .int .i64 0]) Y (n' + 2) := fun Y hy => by
      refine hq _ _ _ ?_ fun y h1 => ?_
      · rw [← hgo, q1]
        exact zaih (hsl.keep fun y h => by have := how y h; exact hy y (by omega) (by omega) (by omega)) (fun y h => by have := how y h; omega) _ _
      · rw [hy y (by omega) (by omega) (by omega)]; exact hkp y h1
    rcases hk with hk | hk
    · simp [zee, hg, ad, al, at9, bt, bl, sb, eavs, m1, hk, m3, z1, z2]
      refine ⟨ob, by rintro x ((rfl | rfl) | rfl) <;> rfl, fin _ fun y e1 e2 e3 => ?_⟩
      repeat' first | rw [Heap.put_ne _ _ (by omega)] | rfl
    · simp [zee, hg, ad, al, at9, bt, bl, sb, eavs, m1, hk, m3, z1, z2]
      refine ⟨ob, by rintro x ((rfl | rfl) | rfl) <;> rfl, fin _ fun y e1 e2 e3 => ?_⟩
      repeat' first | rw [Heap.put_ne _ _ (by omega)] | rfl
end Go.Proofs.YtdmibdjokofclaaGreatDoor
