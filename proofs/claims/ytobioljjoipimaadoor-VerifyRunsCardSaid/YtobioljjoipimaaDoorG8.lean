/- What is to be shown of each function, written out. -/
import Derived.Test.YtobioljjoipimaaDoorG5
set_option linter.unusedSimpArgs false
set_option linter.unusedVariables false
set_option maxRecDepth 8000
namespace Go.Proofs.YtobioljjoipimaaDoor
open Go Go.RowKit
def zil (a0 a1 : AV) (H : Heap) (nx : Nat) (Q : QT) : Prop :=
 LD true 9 a1 ((H.put nx (some (AObj.row 9 [AV.int IntKind.i64 0, AV.int IntKind.i64 0, AV.nils, AV.nils, AV.nils, AV.nils, AV.int IntKind.i64 0, AV.int IntKind.i64 0, AV.int IntKind.i64 0]))).put ((nx + 1)) (some (AObj.row 3 [AV.int IntKind.i64 0, AV.str [], AV.int IntKind.i64 0]))) fun v1 =>
 BD (zaa tab [(3, 0), (9, 1), (23, 2)]) [AV.int IntKind.i64 0, AV.str [], AV.int IntKind.i64 0] [(0, AV.int IntKind.i64 5), (2, a0)] fun v2 =>
 ST 9 (AV.ptr nx 0) v1 ((H.put nx (some (AObj.row 9 [AV.int IntKind.i64 0, AV.int IntKind.i64 0, AV.nils, AV.nils, AV.nils, AV.nils, AV.int IntKind.i64 0, AV.int IntKind.i64 0, AV.int IntKind.i64 0]))).put ((nx + 1)) (some (AObj.row 3 [AV.int IntKind.i64 0, AV.str [], AV.int IntKind.i64 0]))) fun H3 =>
 ST 3 (AV.ptr (nx + 1) 0) v2 H3 fun H4 =>
 LD true 9 (AV.ptr nx 0) H4 fun v5 =>
 LD true 3 (AV.ptr (nx + 1) 0) H4 fun v6 =>
 Q (AV.tup [v5, v6]) H4 (nx + 2)
theorem znq (a0 a1 : AV) (H : Heap) (nx : Nat) (Q : QT) : zil a0 a1 H nx Q → za Tryd.prog 43 [a0, a1] H nx Q :=
  zn (lv := lvOf []) (c := zy Tryd.f43) zak zan mixed Tryd.func43 (by kernel_rfl) (by kernel_rfl) (by kernel_rfl) (by kernel_rfl) (by kernel_rfl)
def zik (nx : Nat) (Q : QT) (v12 : AV) (H13 : Heap) (nx14 : Nat) : Prop :=
 ST 9 (AV.ptr (nx + 1) 0) v12 H13 fun H15 =>
 ST 3 (AV.ptr (nx + 2) 0) (AV.agg [AV.int IntKind.i64 0, AV.str [], AV.int IntKind.i64 0]) H15 fun H16 =>
 LD true 9 (AV.ptr (nx + 1) 0) H16 fun v17 =>
 LD true 3 (AV.ptr (nx + 2) 0) H16 fun v18 =>
 Q (AV.tup [v17, v18]) H16 nx14
def zij (a0 a1 a2 : AV) (H : Heap) (nx : Nat) (Q : QT) : Prop :=
 a0.sure = true ∧
 FA 3 a1 fun v1 =>
 LD false 1 v1 (((H.put nx (some (AObj.row a0.cells.length a0.cells))).put ((nx + 1)) (some (AObj.row 9 [AV.int IntKind.i64 0, AV.int IntKind.i64 0, AV.nils, AV.nils, AV.nils, AV.nils, AV.int IntKind.i64 0, AV.int IntKind.i64 0, AV.int IntKind.i64 0]))).put ((nx + 2)) (some (AObj.row 3 [AV.int IntKind.i64 0, AV.str [], AV.int IntKind.i64 0]))) fun v2 =>
 LD true 3 (AV.ptr nx 0) (((H.put nx (some (AObj.row a0.cells.length a0.cells))).put ((nx + 1)) (some (AObj.row 9 [AV.int IntKind.i64 0, AV.int IntKind.i64 0, AV.nils, AV.nils, AV.nils, AV.nils, AV.int IntKind.i64 0, AV.int IntKind.i64 0, AV.int IntKind.i64 0]))).put ((nx + 2)) (some (AObj.row 3 [AV.int IntKind.i64 0, AV.str [], AV.int IntKind.i64 0]))) fun v3 =>
 BSL 1 3 [AV.int IntKind.i64 0, AV.int IntKind.i64 0, AV.str []] [(0, v3)] fun cells4 =>
 APP 3 32 v2 (AV.slc (nx + 3) 0 1) ((((H.put nx (some (AObj.row a0.cells.length a0.cells))).put ((nx + 1)) (some (AObj.row 9 [AV.int IntKind.i64 0, AV.int IntKind.i64 0, AV.nils, AV.nils, AV.nils, AV.nils, AV.int IntKind.i64 0, AV.int IntKind.i64 0, AV.int IntKind.i64 0]))).put ((nx + 2)) (some (AObj.row 3 [AV.int IntKind.i64 0, AV.str [], AV.int IntKind.i64 0]))).put ((nx + 3)) (some (AObj.row 3 cells4))) (nx + 4) fun v5 H6 nx7 =>
 FA 3 a1 fun v8 =>
 ST 1 v8 v5 H6 fun H9 =>
 LD true 9 a2 H9 fun v10 =>
 LD true 4 a1 H9 fun v11 =>
 za Tryd.prog 45 [v10, v11] H9 nx7 (zik nx Q)
theorem znp (a0 a1 a2 : AV) (H : Heap) (nx : Nat) (Q : QT) : zij a0 a1 a2 H nx Q → za Tryd.prog 46 [a0, a1, a2] H nx Q :=
  zn (lv := lvOf []) (c := zy Tryd.f46) zak zan mixed Tryd.func46 (by kernel_rfl) (by kernel_rfl) (by kernel_rfl) (by kernel_rfl) (by kernel_rfl)
def zio (a0 : AV) (H : Heap) (nx : Nat) (Q : QT) : Prop :=
 NC a0 fun v1 =>
 FA 0 v1 fun v2 =>
 FA 4 v2 fun v3 =>
 LDR false 1 v3 H fun v4 _ =>
 NC a0 fun v6 =>
 FA 0 v6 fun v7 =>
 FA 4 v7 fun v8 =>
 LDR false 1 v8 H fun v9 _ =>
 LNL v9 fun v11 =>
 BI BinOp.sub v11 (AV.int IntKind.i64 1) fun v12 =>
 IA 4 v4 v12 fun v13 =>
 Q v13 H nx
theorem zns (a0 : AV) (H : Heap) (nx : Nat) (Q : QT) : zio a0 H nx Q → za Tryd.prog 84 [a0] H nx Q :=
  zn (lv := lvOf []) (c := zy Tryd.f84) zak zan mixed Tryd.func84 (by kernel_rfl) (by kernel_rfl) (by kernel_rfl) (by kernel_rfl) (by kernel_rfl)
def zhi (nx : Nat) (Q : QT) (v1 : AV) (H2 : Heap) (nx3 : Nat) : Prop :=
 NC v1 fun v4 =>
 FA 3 v4 fun v5 =>
 LDR false 1 v5 H2 fun v6 rd7 =>
 LDR true 3 (AV.ptr nx 0) H2 fun v8 _ =>
 BSL 1 3 [AV.int IntKind.i64 0, AV.int IntKind.i64 0, AV.str []] [(0, v8)] fun cells10 =>
 zai 3 32 v6 (AV.slc nx3 0 1) (H2.put nx3 (some (AObj.row 3 cells10))) (nx3 + 1) fun v11 _ fr13 D14 =>
 NC v1 fun v15 =>
 FA 3 v15 fun v16 =>
 zaf 1 v16 v11 ((H2.put nx3 (some (AObj.row 3 cells10))).apply D14) fun _ _ fr19 D20 =>
 nx3 ∉ [] ∧
 nx3 ∉ [] ∧
 nx3 ∉ [] ∧
 nx3 ∉ [] ∧
 nx3 ∉ rd7 ∧
 zd (domD D14) [] (
 Q (AV.tup []) (((H2.put nx3 (some (AObj.row 3 cells10))).apply D14).apply D20) (((nx3 + 1) + fr13.length) + fr19.length))
def zhh (a0 a1 : AV) (H : Heap) (nx : Nat) (Q : QT) : Prop :=
 a1.sure = true ∧
 za Tryd.prog 84 [a0] (H.put nx (some (AObj.row a1.cells.length a1.cells))) (nx + 1) (zhi nx Q)
theorem zlv (a0 a1 : AV) (H : Heap) (nx : Nat) (Q : QT) : zhh a0 a1 H nx Q → za Tryd.prog 85 [a0, a1] H nx Q :=
  zn (lv := lvOf []) (c := zy Tryd.f85) zak zan mixed Tryd.func85 (by kernel_rfl) (by kernel_rfl) (by kernel_rfl) (by kernel_rfl) (by kernel_rfl)
def zjk (a0 : AV) (H : Heap) (nx : Nat) (Q : QT) : Prop :=
 a0.sure = true ∧
 LD false 1 (AV.ptr nx 0) (H.put nx (some (AObj.row a0.cells.length a0.cells))) fun v1 =>
 BI BinOp.eql v1 (AV.int IntKind.i64 17) fun v2 =>
 CNDC v2
 (LD false 1 (AV.ptr nx 2) (H.put nx (some (AObj.row a0.cells.length a0.cells))) fun v3 =>
 Q (AV.tup [v3, AV.int IntKind.i64 1]) (H.put nx (some (AObj.row a0.cells.length a0.cells))) (nx + 1))
 (zt (AK.int IntKind.i64) (AV.int IntKind.i64 1) = true ∧
 MU (AV.amap (nx + 1)) (AV.int IntKind.i64 1) (AV.agg [AV.int IntKind.i64 0, AV.int IntKind.i64 1]) ((H.put nx (some (AObj.row a0.cells.length a0.cells))).put ((nx + 1)) (some (AObj.mp []))) fun H4 =>
 zt (AK.int IntKind.i64) (AV.int IntKind.i64 2) = true ∧
 MU (AV.amap (nx + 1)) (AV.int IntKind.i64 2) (AV.agg [AV.int IntKind.i64 0, AV.int IntKind.i64 1]) H4 fun H5 =>
 zt (AK.int IntKind.i64) (AV.int IntKind.i64 3) = true ∧
 MU (AV.amap (nx + 1)) (AV.int IntKind.i64 3) (AV.agg [AV.int IntKind.i64 0, AV.int IntKind.i64 1]) H5 fun H6 =>
 zt (AK.int IntKind.i64) (AV.int IntKind.i64 4) = true ∧
 MU (AV.amap (nx + 1)) (AV.int IntKind.i64 4) (AV.agg [AV.int IntKind.i64 1, AV.int IntKind.i64 0]) H6 fun H7 =>
 zt (AK.int IntKind.i64) (AV.int IntKind.i64 5) = true ∧
 MU (AV.amap (nx + 1)) (AV.int IntKind.i64 5) (AV.agg [AV.int IntKind.i64 2, AV.int IntKind.i64 1]) H7 fun H8 =>
 zt (AK.int IntKind.i64) (AV.int IntKind.i64 6) = true ∧
 MU (AV.amap (nx + 1)) (AV.int IntKind.i64 6) (AV.agg [AV.int IntKind.i64 2, AV.int IntKind.i64 1]) H8 fun H9 =>
 zt (AK.int IntKind.i64) (AV.int IntKind.i64 7) = true ∧
 MU (AV.amap (nx + 1)) (AV.int IntKind.i64 7) (AV.agg [AV.int IntKind.i64 1, AV.int IntKind.i64 1]) H9 fun H10 =>
 zt (AK.int IntKind.i64) (AV.int IntKind.i64 8) = true ∧
 MU (AV.amap (nx + 1)) (AV.int IntKind.i64 8) (AV.agg [AV.int IntKind.i64 1, AV.int IntKind.i64 1]) H10 fun H11 =>
 zt (AK.int IntKind.i64) (AV.int IntKind.i64 9) = true ∧
 MU (AV.amap (nx + 1)) (AV.int IntKind.i64 9) (AV.agg [AV.int IntKind.i64 2, AV.int IntKind.i64 0]) H11 fun H12 =>
 zt (AK.int IntKind.i64) (AV.int IntKind.i64 10) = true ∧
 MU (AV.amap (nx + 1)) (AV.int IntKind.i64 10) (AV.agg [AV.int IntKind.i64 2, AV.int IntKind.i64 0]) H12 fun H13 =>
 zt (AK.int IntKind.i64) (AV.int IntKind.i64 11) = true ∧
 MU (AV.amap (nx + 1)) (AV.int IntKind.i64 11) (AV.agg [AV.int IntKind.i64 1, AV.int IntKind.i64 1]) H13 fun H14 =>
 zt (AK.int IntKind.i64) (AV.int IntKind.i64 12) = true ∧
 MU (AV.amap (nx + 1)) (AV.int IntKind.i64 12) (AV.agg [AV.int IntKind.i64 0, AV.int IntKind.i64 1]) H14 fun H15 =>
 zt (AK.int IntKind.i64) (AV.int IntKind.i64 13) = true ∧
 MU (AV.amap (nx + 1)) (AV.int IntKind.i64 13) (AV.agg [AV.int IntKind.i64 1, AV.int IntKind.i64 1]) H15 fun H16 =>
 zt (AK.int IntKind.i64) (AV.int IntKind.i64 14) = true ∧
 MU (AV.amap (nx + 1)) (AV.int IntKind.i64 14) (AV.agg [AV.int IntKind.i64 1, AV.int IntKind.i64 0]) H16 fun H17 =>
 zt (AK.int IntKind.i64) (AV.int IntKind.i64 15) = true ∧
 MU (AV.amap (nx + 1)) (AV.int IntKind.i64 15) (AV.agg [AV.int IntKind.i64 0, AV.int IntKind.i64 0]) H17 fun H18 =>
 zt (AK.int IntKind.i64) (AV.int IntKind.i64 16) = true ∧
 MU (AV.amap (nx + 1)) (AV.int IntKind.i64 16) (AV.agg [AV.int IntKind.i64 1, AV.int IntKind.i64 0]) H18 fun H19 =>
 zt (AK.int IntKind.i64) (AV.int IntKind.i64 18) = true ∧
 MU (AV.amap (nx + 1)) (AV.int IntKind.i64 18) (AV.agg [AV.int IntKind.i64 1, AV.int IntKind.i64 0]) H19 fun H20 =>
 zt (AK.int IntKind.i64) (AV.int IntKind.i64 19) = true ∧
 MU (AV.amap (nx + 1)) (AV.int IntKind.i64 19) (AV.agg [AV.int IntKind.i64 1, AV.int IntKind.i64 0]) H20 fun H21 =>
 LD false 1 (AV.ptr nx 0) H21 fun v22 =>
 zt (AK.int IntKind.i64) v22 = true ∧
 LK [AV.int IntKind.i64 0, AV.int IntKind.i64 0] true (AV.amap (nx + 1)) v22 false H21 fun v23 =>
 ST 2 (AV.ptr (nx + 2) 0) v23 (H21.put ((nx + 2)) (some (AObj.row 1 [AV.int IntKind.i64 0, AV.int IntKind.i64 0]))) fun H24 =>
 AA 1 2 (AV.ptr (nx + 2) 0) (AV.int IntKind.i64 0) fun v25 =>
 LDR false 1 v25 H24 fun v26 _ =>
 AA 1 2 (AV.ptr (nx + 2) 0) (AV.int IntKind.i64 1) fun v28 =>
 LDR false 1 v28 H24 fun v29 _ =>
 Q (AV.tup [v26, v29]) H24 (nx + 3))
theorem znu (a0 : AV) (H : Heap) (nx : Nat) (Q : QT) : zjk a0 H nx Q → za Tryd.prog 44 [a0] H nx Q :=
  zn (lv := lvOf []) (c := zy Tryd.f44) zak zan mixed Tryd.func44 (by kernel_rfl) (by kernel_rfl) (by kernel_rfl) (by kernel_rfl) (by kernel_rfl)
def zks (a0 a1 : AV) (H : Heap) (nx : Nat) (Q : QT) : Prop :=
 a0.sure = true ∧
 a1.sure = true ∧
 LD false 1 (AV.ptr nx 4) ((((H.put nx (some (AObj.row a0.cells.length a0.cells))).put ((nx + 1)) (some (AObj.row a1.cells.length a1.cells))).put ((nx + 2)) (some (AObj.row 9 [AV.int IntKind.i64 0, AV.int IntKind.i64 0, AV.nils, AV.nils, AV.nils, AV.nils, AV.int IntKind.i64 0, AV.int IntKind.i64 0, AV.int IntKind.i64 0]))).put ((nx + 3)) (some (AObj.row 4 []))) fun v1 =>
 APP 4 64 (AV.slc (nx + 3) 0 0) v1 ((((H.put nx (some (AObj.row a0.cells.length a0.cells))).put ((nx + 1)) (some (AObj.row a1.cells.length a1.cells))).put ((nx + 2)) (some (AObj.row 9 [AV.int IntKind.i64 0, AV.int IntKind.i64 0, AV.nils, AV.nils, AV.nils, AV.nils, AV.int IntKind.i64 0, AV.int IntKind.i64 0, AV.int IntKind.i64 0]))).put ((nx + 3)) (some (AObj.row 4 []))) (nx + 4) fun v2 H3 nx4 =>
 LNL v2 fun v5 =>
 BI BinOp.sub v5 (AV.int IntKind.i64 1) fun v6 =>
 LD true 4 (AV.ptr (nx + 1) 0) H3 fun v7 =>
 IA 4 v2 v6 fun v8 =>
 ST 4 v8 v7 H3 fun H9 =>
 ST 1 (AV.ptr nx 4) v2 H9 fun H10 =>
 LD true 9 (AV.ptr nx 0) H10 fun v11 =>
 ST 9 (AV.ptr (nx + 2) 0) v11 H10 fun H12 =>
 LD true 9 (AV.ptr (nx + 2) 0) H12 fun v13 =>
 Q v13 H12 nx4
theorem zpr (a0 a1 : AV) (H : Heap) (nx : Nat) (Q : QT) : zks a0 a1 H nx Q → za Tryd.prog 45 [a0, a1] H nx Q :=
  zn (lv := lvOf []) (c := zy Tryd.f45) zak zan mixed Tryd.func45 (by kernel_rfl) (by kernel_rfl) (by kernel_rfl) (by kernel_rfl) (by kernel_rfl)
def ztb (nx : Nat) (Q : QT) (v3 : AV) (H4 : Heap) (nx5 : Nat) : Prop :=
 EX v3 0 fun v6 =>
 EX v3 1 fun v7 =>
 ST 9 (AV.ptr (nx + 2) 0) v6 H4 fun H8 =>
 ST 3 (AV.ptr (nx + 3) 0) v7 H8 fun H9 =>
 LD true 9 (AV.ptr (nx + 2) 0) H9 fun v10 =>
 LD true 3 (AV.ptr (nx + 3) 0) H9 fun v11 =>
 Q (AV.tup [v10, v11]) H9 nx5
def zta (nx : Nat) (Q : QT) (v77 : AV) (H78 : Heap) (nx79 : Nat) : Prop :=
 EX v77 0 fun v80 =>
 EX v77 1 fun v81 =>
 ST 9 (AV.ptr (nx + 2) 0) v80 H78 fun H82 =>
 ST 3 (AV.ptr (nx + 3) 0) v81 H82 fun H83 =>
 LD true 9 (AV.ptr (nx + 2) 0) H83 fun v84 =>
 LD true 3 (AV.ptr (nx + 3) 0) H83 fun v85 =>
 Q (AV.tup [v84, v85]) H83 nx79
def zsz (nx : Nat) (Q : QT) (v94 : AV) (H95 : Heap) (nx96 : Nat) : Prop :=
 EX v94 0 fun v97 =>
 EX v94 1 fun v98 =>
 ST 9 (AV.ptr (nx + 2) 0) v97 H95 fun H99 =>
 ST 3 (AV.ptr (nx + 3) 0) v98 H99 fun H100 =>
 LD true 9 (AV.ptr (nx + 2) 0) H100 fun v101 =>
 LD true 3 (AV.ptr (nx + 3) 0) H100 fun v102 =>
 Q (AV.tup [v101, v102]) H100 nx96
def zkw (nx : Nat) (Q : QT) (v91 : AV) (H92 : Heap) (nx93 : Nat) : Prop :=
 za Tryd.prog 46 [v91, AV.ptr (nx + 4) 0, AV.ptr nx 0] H92 nx93 (zsz nx Q)
def zsy (nx : Nat) (Q : QT) (v108 : AV) (H109 : Heap) (nx110 : Nat) : Prop :=
 EX v108 0 fun v111 =>
 EX v108 1 fun v112 =>
 ST 9 (AV.ptr (nx + 2) 0) v111 H109 fun H113 =>
 ST 3 (AV.ptr (nx + 3) 0) v112 H113 fun H114 =>
 LD true 9 (AV.ptr (nx + 2) 0) H114 fun v115 =>
 LD true 3 (AV.ptr (nx + 3) 0) H114 fun v116 =>
 Q (AV.tup [v115, v116]) H114 nx110
def zsx (nx : Nat) (Q : QT) (v122 : AV) (H123 : Heap) (nx124 : Nat) : Prop :=
 EX v122 0 fun v125 =>
 EX v122 1 fun v126 =>
 ST 9 (AV.ptr (nx + 2) 0) v125 H123 fun H127 =>
 ST 3 (AV.ptr (nx + 3) 0) v126 H127 fun H128 =>
 LD true 9 (AV.ptr (nx + 2) 0) H128 fun v129 =>
 LD true 3 (AV.ptr (nx + 3) 0) H128 fun v130 =>
 Q (AV.tup [v129, v130]) H128 nx124
def zkv (nx : Nat) (Q : QT) (v119 : AV) (H120 : Heap) (nx121 : Nat) : Prop :=
 za Tryd.prog 46 [v119, AV.ptr (nx + 4) 0, AV.ptr nx 0] H120 nx121 (zsx nx Q)
def zsw (nx : Nat) (Q : QT) (v146 : AV) (H147 : Heap) (nx148 : Nat) : Prop :=
 ST 9 (AV.ptr (nx + 2) 0) v146 H147 fun H149 =>
 ST 3 (AV.ptr (nx + 3) 0) (AV.agg [AV.int IntKind.i64 0, AV.str [], AV.int IntKind.i64 0]) H149 fun H150 =>
 LD true 9 (AV.ptr (nx + 2) 0) H150 fun v151 =>
 LD true 3 (AV.ptr (nx + 3) 0) H150 fun v152 =>
 Q (AV.tup [v151, v152]) H150 nx148
def zsv (nx : Nat) (Q : QT) (v173 : AV) (H174 : Heap) (nx175 : Nat) : Prop :=
 EX v173 0 fun v176 =>
 EX v173 1 fun v177 =>
 ST 9 (AV.ptr (nx + 2) 0) v176 H174 fun H178 =>
 ST 3 (AV.ptr (nx + 3) 0) v177 H178 fun H179 =>
 LD true 9 (AV.ptr (nx + 2) 0) H179 fun v180 =>
 LD true 3 (AV.ptr (nx + 3) 0) H179 fun v181 =>
 Q (AV.tup [v180, v181]) H179 nx175
def zrr (nx : Nat) (Q : QT) (v183 : AV) (H184 : Heap) (nx185 : Nat) : Prop :=
 EX v183 0 fun v186 =>
 EX v183 1 fun v187 =>
 ST 9 (AV.ptr (nx + 2) 0) v186 H184 fun H188 =>
 ST 3 (AV.ptr (nx + 3) 0) v187 H188 fun H189 =>
 LD true 9 (AV.ptr (nx + 2) 0) H189 fun v190 =>
 LD true 3 (AV.ptr (nx + 3) 0) H189 fun v191 =>
 Q (AV.tup [v190, v191]) H189 nx185
def zff (nx71 : Nat) (H72 : Heap) (rd155 : List Nat) (rd158 : List Nat) (rd161 : List Nat) (nx : Nat) (Q : QT) (v162 : AV) (rd163 : List Nat) (fr164 : List Nat) (D165 : zi) : Prop :=
 EX v162 0 fun v166 =>
 EX v162 1 fun v167 =>
 zaf 3 (AV.ptr (nx71 + fr164.length) 0) v166 ((H72.apply D165).put ((nx71 + fr164.length)) (some (AObj.row 3 [AV.int IntKind.i64 0, AV.int IntKind.i64 0, AV.str []]))) fun _ _ fr170 D171 =>
 (nx71 + fr164.length) ∉ [] ∧
 (nx71 + fr164.length) ∉ rd155 ∧
 (nx71 + fr164.length) ∉ [] ∧
 (nx71 + fr164.length) ∉ [] ∧
 (nx71 + fr164.length) ∉ rd158 ∧
 (nx71 + fr164.length) ∉ [] ∧
 (nx71 + fr164.length) ∉ [] ∧
 (nx71 + fr164.length) ∉ rd161 ∧
 zd (domD D165) [] (
 zd (domD D165) [(nx71 + fr164.length)] (
 (nx71 + fr164.length) ∉ rd163 ∧
 (nx71 + fr164.length) ∉ [] ∧
 (nx71 + fr164.length) ∉ [] ∧
 (nx71 + fr164.length) ∉ [] ∧
 zd (domD D171) [] (
 BI BinOp.neq v167 (AV.int IntKind.i64 0) fun v172 =>
 CNDC v172
 (za Tryd.prog 43 [v167, AV.ptr nx 0] (((H72.apply D165).put ((nx71 + fr164.length)) (some (AObj.row 3 [AV.int IntKind.i64 0, AV.int IntKind.i64 0, AV.str []]))).apply D171) (((nx71 + fr164.length) + 1) + fr170.length) (zsv nx Q))
 (LD true 3 (AV.ptr (nx71 + fr164.length) 0) (((H72.apply D165).put ((nx71 + fr164.length)) (some (AObj.row 3 [AV.int IntKind.i64 0, AV.int IntKind.i64 0, AV.str []]))).apply D171) fun v182 =>
 za Tryd.prog 46 [v182, AV.ptr (nx + 4) 0, AV.ptr nx 0] (((H72.apply D165).put ((nx71 + fr164.length)) (some (AObj.row 3 [AV.int IntKind.i64 0, AV.int IntKind.i64 0, AV.str []]))).apply D171) (((nx71 + fr164.length) + 1) + fr170.length) (zrr nx Q)))))
def zrq (nx : Nat) (Q : QT) (v195 : AV) (H196 : Heap) (nx197 : Nat) : Prop :=
 EX v195 0 fun v198 =>
 EX v195 1 fun v199 =>
 ST 9 (AV.ptr (nx + 2) 0) v198 H196 fun H200 =>
 ST 3 (AV.ptr (nx + 3) 0) v199 H200 fun H201 =>
 LD true 9 (AV.ptr (nx + 2) 0) H201 fun v202 =>
 LD true 3 (AV.ptr (nx + 3) 0) H201 fun v203 =>
 Q (AV.tup [v202, v203]) H201 nx197
def zrp (nx : Nat) (Q : QT) (v233 : AV) (H234 : Heap) (nx235 : Nat) : Prop :=
 EX v233 0 fun v236 =>
 EX v233 1 fun v237 =>
 ST 9 (AV.ptr (nx + 2) 0) v236 H234 fun H238 =>
 ST 3 (AV.ptr (nx + 3) 0) v237 H238 fun H239 =>
 LD true 9 (AV.ptr (nx + 2) 0) H239 fun v240 =>
 LD true 3 (AV.ptr (nx + 3) 0) H239 fun v241 =>
 Q (AV.tup [v240, v241]) H239 nx235
def zro (xs242 : List AV) (Q : QT) (v250 : AV) (H251 : Heap) (nx252 : Nat) : Prop :=
 EX v250 0 fun v253 =>
 EX v250 1 fun v254 =>
 ST 9 (nth xs242 2) v253 H251 fun H255 =>
 ST 3 (nth xs242 3) v254 H255 fun H256 =>
 LD true 9 (nth xs242 2) H256 fun v257 =>
 LD true 3 (nth xs242 3) H256 fun v258 =>
 Q (AV.tup [v257, v258]) H256 nx252
def zrn (xs242 : List AV) (Q : QT) (v277 : AV) (H278 : Heap) (nx279 : Nat) : Prop :=
 EX v277 0 fun v280 =>
 EX v277 1 fun v281 =>
 ST 9 (nth xs242 2) v280 H278 fun H282 =>
 ST 3 (nth xs242 3) v281 H282 fun H283 =>
 LD true 9 (nth xs242 2) H283 fun v284 =>
 LD true 3 (nth xs242 3) H283 fun v285 =>
 Q (AV.tup [v284, v285]) H283 nx279
def zrm (xs242 : List AV) (Q : QT) (v290 : AV) (H291 : Heap) (nx292 : Nat) : Prop :=
 EX v290 0 fun v293 =>
 EX v290 1 fun v294 =>
 ST 9 (nth xs242 2) v293 H291 fun H295 =>
 ST 3 (nth xs242 3) v294 H295 fun H296 =>
 LD true 9 (nth xs242 2) H296 fun v297 =>
 LD true 3 (nth xs242 3) H296 fun v298 =>
 Q (AV.tup [v297, v298]) H296 nx292
def zrl (xs242 : List AV) (Q : QT) (v328 : AV) (H329 : Heap) (nx330 : Nat) : Prop :=
 ST 9 (nth xs242 2) v328 H329 fun H331 =>
 ST 3 (nth xs242 3) (AV.agg [AV.int IntKind.i64 0, AV.str [], AV.int IntKind.i64 0]) H331 fun H332 =>
 LD true 9 (nth xs242 2) H332 fun v333 =>
 LD true 3 (nth xs242 3) H332 fun v334 =>
 Q (AV.tup [v333, v334]) H332 nx330
def zrk (xs242 : List AV) (Q : QT) (v354 : AV) (H355 : Heap) (nx356 : Nat) : Prop :=
 ST 9 (nth xs242 2) v354 H355 fun H357 =>
 ST 3 (nth xs242 3) (AV.agg [AV.int IntKind.i64 0, AV.str [], AV.int IntKind.i64 0]) H357 fun H358 =>
 LD true 9 (nth xs242 2) H358 fun v359 =>
 LD true 3 (nth xs242 3) H358 fun v360 =>
 Q (AV.tup [v359, v360]) H358 nx356
def zrj (xs361 : List AV) (Q : QT) (v369 : AV) (H370 : Heap) (nx371 : Nat) : Prop :=
 EX v369 0 fun v372 =>
 EX v369 1 fun v373 =>
 ST 9 (nth xs361 2) v372 H370 fun H374 =>
 ST 3 (nth xs361 3) v373 H374 fun H375 =>
 LD true 9 (nth xs361 2) H375 fun v376 =>
 LD true 3 (nth xs361 3) H375 fun v377 =>
 Q (AV.tup [v376, v377]) H375 nx371
def zjj (xs361 : List AV) (H391 : Heap) (Q : QT) (nx363 : Nat) (v396 : AV) (_ : List Nat) (fr398 : List Nat) (D399 : zi) : Prop :=
 IA 3 (nth xs361 7) (AV.int IntKind.i64 0) fun v400 =>
 FA 2 v400 fun v401 =>
 LDR false 1 v401 (H391.apply D399) fun v402 rd403 =>
 BD (zaa tab [(3, 0), (9, 1), (23, 2)]) [AV.int IntKind.i64 0, AV.str [], AV.int IntKind.i64 0] [(0, AV.int IntKind.i64 3), (1, v402)] fun v404 =>
 zaf 9 (nth xs361 2) v396 (H391.apply D399) fun _ _ fr407 D408 =>
 zaf 3 (nth xs361 3) v404 ((H391.apply D399).apply D408) fun _ _ fr411 D412 =>
 zd (domD D399) [] (
 zd (domD D399) [] (
 zd (domD D399) [] (
 zd (domD D399) [] (
 zd (domD D399) [] (
 zd (domD D399) [] (
 zd (domD D399) rd403 (
 zd (domD D399) [] (
 zd (domD D399) [] (
 zd (domD D399) [] (
 zd (domD D408) [] (
 zd (domD D408) [] (
 zd (domD D408) [] (
 zd (domD D408) rd403 (
 zd (domD D408) [] (
 LD true 9 (nth xs361 2) (((H391.apply D399).apply D408).apply D412) fun v413 =>
 LD true 3 (nth xs361 3) (((H391.apply D399).apply D408).apply D412) fun v414 =>
 Q (AV.tup [v413, v414]) (((H391.apply D399).apply D408).apply D412) (((nx363 + fr398.length) + fr407.length) + fr411.length))))))))))))))))
def zri (xs421 : List AV) (Q : QT) (v449 : AV) (H450 : Heap) (nx451 : Nat) : Prop :=
 EX v449 0 fun v452 =>
 EX v449 1 fun v453 =>
 ST 9 (nth xs421 1) v452 H450 fun H454 =>
 ST 3 (nth xs421 2) v453 H454 fun H455 =>
 LD true 9 (nth xs421 1) H455 fun v456 =>
 LD true 3 (nth xs421 2) H455 fun v457 =>
 Q (AV.tup [v456, v457]) H455 nx451
def zrh (xs421 : List AV) (Q : QT) (v459 : AV) (H460 : Heap) (nx461 : Nat) : Prop :=
 EX v459 0 fun v462 =>
 EX v459 1 fun v463 =>
 ST 9 (nth xs421 1) v462 H460 fun H464 =>
 ST 3 (nth xs421 2) v463 H464 fun H465 =>
 LD true 9 (nth xs421 1) H465 fun v466 =>
 LD true 3 (nth xs421 2) H465 fun v467 =>
 Q (AV.tup [v466, v467]) H465 nx461
def zku (Q : QT) (K420 : J3) (xs421 : List AV) (H422 : Heap) (nx423 : Nat) : Prop :=
 BI BinOp.geq (nth xs421 7) (AV.int IntKind.i64 0) fun v424 =>
 CND v424
 (FA 0 (nth xs421 3) fun v425 =>
 LD false 1 v425 H422 fun v426 =>
 BI BinOp.eql v426 (AV.int IntKind.i64 11) fun v427 =>
 CNDC v427
 (FA 1 (nth xs421 0) fun v428 =>
 LDR false 1 v428 H422 fun v429 _ =>
 IA 4 v429 (nth xs421 7) fun v431 =>
 FA 0 v431 fun v432 =>
 LDR false 1 v432 H422 fun v433 _ =>
 IA 3 (nth xs421 4) (AV.int IntKind.i64 0) fun v435 =>
 FA 2 v435 fun v436 =>
 LDR false 1 v436 H422 fun v437 _ =>
 BS BinOp.eql v433 v437 fun v439 =>
 CNDC v439
 (FA 1 (nth xs421 0) fun v440 =>
 LD false 1 v440 H422 fun v441 =>
 IA 4 v441 (nth xs421 7) fun v442 =>
 FA 1 v442 fun v443 =>
 LD true 3 v443 H422 fun v444 =>
 ST 3 (nth xs421 6) v444 H422 fun H445 =>
 BI BinOp.sub (nth xs421 7) (AV.int IntKind.i64 1) fun v446 =>
 K420 [nth xs421 0, nth xs421 1, nth xs421 2, nth xs421 3, nth xs421 4, nth xs421 5, nth xs421 6, v446] H445 nx423)
 (BI BinOp.sub (nth xs421 7) (AV.int IntKind.i64 1) fun v447 =>
 K420 [nth xs421 0, nth xs421 1, nth xs421 2, nth xs421 3, nth xs421 4, nth xs421 5, nth xs421 6, v447] H422 nx423))
 (LD true 3 (nth xs421 6) H422 fun v448 =>
 CALL Tryd.prog (nth xs421 5) [v448] H422 nx423 (zri xs421 Q)))
 (LD true 3 (nth xs421 6) H422 fun v458 =>
 CALL Tryd.prog (nth xs421 5) [v458] H422 nx423 (zrh xs421 Q))
def zrg (xs474 : List AV) (Q : QT) (v502 : AV) (H503 : Heap) (nx504 : Nat) : Prop :=
 EX v502 0 fun v505 =>
 EX v502 1 fun v506 =>
 ST 9 (nth xs474 1) v505 H503 fun H507 =>
 ST 3 (nth xs474 2) v506 H507 fun H508 =>
 LD true 9 (nth xs474 1) H508 fun v509 =>
 LD true 3 (nth xs474 2) H508 fun v510 =>
 Q (AV.tup [v509, v510]) H508 nx504
def zrf (xs474 : List AV) (Q : QT) (v512 : AV) (H513 : Heap) (nx514 : Nat) : Prop :=
 EX v512 0 fun v515 =>
 EX v512 1 fun v516 =>
 ST 9 (nth xs474 1) v515 H513 fun H517 =>
 ST 3 (nth xs474 2) v516 H517 fun H518 =>
 LD true 9 (nth xs474 1) H518 fun v519 =>
 LD true 3 (nth xs474 2) H518 fun v520 =>
 Q (AV.tup [v519, v520]) H518 nx514
def zcn (Q : QT) (K473 : J3) (xs474 : List AV) (H475 : Heap) (nx476 : Nat) : Prop :=
 BI BinOp.geq (nth xs474 7) (AV.int IntKind.i64 0) fun v477 =>
 CND v477
 (FA 0 (nth xs474 3) fun v478 =>
 LD false 1 v478 H475 fun v479 =>
 BI BinOp.eql v479 (AV.int IntKind.i64 11) fun v480 =>
 CNDC v480
 (FA 1 (nth xs474 0) fun v481 =>
 LDR false 1 v481 H475 fun v482 _ =>
 IA 4 v482 (nth xs474 7) fun v484 =>
 FA 0 v484 fun v485 =>
 LDR false 1 v485 H475 fun v486 _ =>
 IA 3 (nth xs474 4) (AV.int IntKind.i64 0) fun v488 =>
 FA 2 v488 fun v489 =>
 LDR false 1 v489 H475 fun v490 _ =>
 BS BinOp.eql v486 v490 fun v492 =>
 CNDC v492
 (FA 1 (nth xs474 0) fun v493 =>
 LD false 1 v493 H475 fun v494 =>
 IA 4 v494 (nth xs474 7) fun v495 =>
 FA 1 v495 fun v496 =>
 LD true 3 v496 H475 fun v497 =>
 ST 3 (nth xs474 6) v497 H475 fun H498 =>
 BI BinOp.sub (nth xs474 7) (AV.int IntKind.i64 1) fun v499 =>
 K473 [nth xs474 0, nth xs474 1, nth xs474 2, nth xs474 3, nth xs474 4, nth xs474 5, nth xs474 6, v499] H498 nx476)
 (BI BinOp.sub (nth xs474 7) (AV.int IntKind.i64 1) fun v500 =>
 K473 [nth xs474 0, nth xs474 1, nth xs474 2, nth xs474 3, nth xs474 4, nth xs474 5, nth xs474 6, v500] H475 nx476))
 (LD true 3 (nth xs474 6) H475 fun v501 =>
 CALL Tryd.prog (nth xs474 5) [v501] H475 nx476 (zrg xs474 Q)))
 (LD true 3 (nth xs474 6) H475 fun v511 =>
 CALL Tryd.prog (nth xs474 5) [v511] H475 nx476 (zrf xs474 Q))
def zji (xs361 : List AV) (v526 : AV) (H362 : Heap) (D529 : zi) (rd532 : List Nat) (rd535 : List Nat) (Q : QT) (nx363 : Nat) (fr528 : List Nat) (v536 : AV) (_ : List Nat) (fr538 : List Nat) (D539 : zi) : Prop :=
 BD (zaa tab [(3, 0), (9, 1), (23, 2)]) [AV.int IntKind.i64 0, AV.str [], AV.int IntKind.i64 0] [(0, AV.int IntKind.i64 2), (1, v536)] fun v540 =>
 zaf 9 (nth xs361 2) v526 ((H362.apply D529).apply D539) fun _ _ fr543 D544 =>
 zaf 3 (nth xs361 3) v540 (((H362.apply D529).apply D539).apply D544) fun _ _ fr547 D548 =>
 zd (domD D529) [] (
 zd (domD D529) [] (
 zd (domD D529) rd532 (
 zd (domD D529) [] (
 zd (domD D529) [] (
 zd (domD D529) [] (
 zd (domD D529) [] (
 zd (domD D529) [] (
 zd (domD D529) rd535 (
 zd (domD D529) [] (
 zd (domD D544) [] (
 LD true 9 (nth xs361 2) ((((H362.apply D529).apply D539).apply D544).apply D548) fun v549 =>
 LD true 3 (nth xs361 3) ((((H362.apply D529).apply D539).apply D544).apply D548) fun v550 =>
 Q (AV.tup [v549, v550]) ((((H362.apply D529).apply D539).apply D544).apply D548) ((((nx363 + fr528.length) + fr538.length) + fr543.length) + fr547.length))))))))))))
def zjh (xs361 : List AV) (H362 : Heap) (nx363 : Nat) (Q : QT) (v526 : AV) (_ : List Nat) (fr528 : List Nat) (D529 : zi) : Prop :=
 FA 5 (nth xs361 0) fun v530 =>
 LDR false 1 v530 (H362.apply D529) fun v531 rd532 =>
 IA 3 (nth xs361 7) (AV.int IntKind.i64 0) fun v533 =>
 LDR true 3 v533 (H362.apply D529) fun v534 rd535 =>
 zx Tryd.prog (AV.clo 49 []) [v531, v534, AV.int IntKind.i64 4] (H362.apply D529) (nx363 + fr528.length) (zji xs361 v526 H362 D529 rd532 rd535 Q nx363 fr528)
def zre (xs361 : List AV) (Q : QT) (v558 : AV) (H559 : Heap) (nx560 : Nat) : Prop :=
 ST 9 (nth xs361 2) v558 H559 fun H561 =>
 ST 3 (nth xs361 3) (AV.agg [AV.int IntKind.i64 0, AV.str [], AV.int IntKind.i64 0]) H561 fun H562 =>
 LD true 9 (nth xs361 2) H562 fun v563 =>
 LD true 3 (nth xs361 3) H562 fun v564 =>
 Q (AV.tup [v563, v564]) H562 nx560
def zrd (xs361 : List AV) (Q : QT) (v575 : AV) (H576 : Heap) (nx577 : Nat) : Prop :=
 ST 9 (nth xs361 2) v575 H576 fun H578 =>
 ST 3 (nth xs361 3) (AV.agg [AV.int IntKind.i64 0, AV.str [], AV.int IntKind.i64 0]) H578 fun H579 =>
 LD true 9 (nth xs361 2) H579 fun v580 =>
 LD true 3 (nth xs361 3) H579 fun v581 =>
 Q (AV.tup [v580, v581]) H579 nx577
def zrc (xs361 : List AV) (Q : QT) (v584 : AV) (H585 : Heap) (nx586 : Nat) : Prop :=
 ST 9 (nth xs361 2) v584 H585 fun H587 =>
 ST 3 (nth xs361 3) (AV.agg [AV.int IntKind.i64 0, AV.str [], AV.int IntKind.i64 0]) H587 fun H588 =>
 LD true 9 (nth xs361 2) H588 fun v589 =>
 LD true 3 (nth xs361 3) H588 fun v590 =>
 Q (AV.tup [v589, v590]) H588 nx586
def zrb (xs361 : List AV) (Q : QT) (v609 : AV) (H610 : Heap) (nx611 : Nat) : Prop :=
 EX v609 0 fun v612 =>
 EX v609 1 fun v613 =>
 ST 9 (nth xs361 2) v612 H610 fun H614 =>
 ST 3 (nth xs361 3) v613 H614 fun H615 =>
 LD true 9 (nth xs361 2) H615 fun v616 =>
 LD true 3 (nth xs361 3) H615 fun v617 =>
 Q (AV.tup [v616, v617]) H615 nx611
def zjg (xs361 : List AV) (Q : QT) (v605 : AV) (H606 : Heap) (nx607 : Nat) : Prop :=
 ST 9 (nth xs361 0) v605 H606 fun H608 =>
 CALL Tryd.prog (nth xs361 4) [AV.int IntKind.i64 9] H608 nx607 (zrb xs361 Q)
def zjf (xs361 : List AV) (v628 : AV) (Q : QT) (v633 : AV) (H634 : Heap) (nx635 : Nat) : Prop :=
 ST 9 (nth xs361 0) v633 H634 fun H636 =>
 FA 4 (nth xs361 0) fun v637 =>
 LD false 1 v637 H636 fun v638 =>
 FA 1 (nth xs361 6) fun v639 =>
 LD false 1 v639 H636 fun v640 =>
 BD (zaa tab [(3, 0), (3, 1), (102, 2), (102, 3)]) [AV.int IntKind.i64 0, AV.int IntKind.i64 0, AV.nils, AV.nils] [(0, v640), (2, v628)] fun v641 =>
 BSL 1 4 [AV.int IntKind.i64 0, AV.int IntKind.i64 0, AV.nils, AV.nils] [(0, v641)] fun cells642 =>
 APP 4 64 v638 (AV.slc nx635 0 1) (H636.put nx635 (some (AObj.row 4 cells642))) (nx635 + 1) fun v643 H644 nx645 =>
 FA 4 (nth xs361 0) fun v646 =>
 ST 1 v646 v643 H644 fun H647 =>
 LD true 9 (nth xs361 0) H647 fun v648 =>
 ST 9 (nth xs361 2) v648 H647 fun H649 =>
 ST 3 (nth xs361 3) (AV.agg [AV.int IntKind.i64 0, AV.str [], AV.int IntKind.i64 0]) H649 fun H650 =>
 LD true 9 (nth xs361 2) H650 fun v651 =>
 LD true 3 (nth xs361 3) H650 fun v652 =>
 Q (AV.tup [v651, v652]) H650 nx645
def zje (xs361 : List AV) (v668 : AV) (H665 : Heap) (rd669 : List Nat) (Q : QT) (nx663 : Nat) (v676 : AV) (_ : List Nat) (fr678 : List Nat) (D679 : zi) : Prop :=
 BD (zaa tab [(3, 0), (9, 1), (23, 2)]) [AV.int IntKind.i64 0, AV.str [], AV.int IntKind.i64 0] [(0, AV.int IntKind.i64 4), (1, v676)] fun v680 =>
 zaf 9 (nth xs361 2) v668 (H665.apply D679) fun _ _ fr683 D684 =>
 zaf 3 (nth xs361 3) v680 ((H665.apply D679).apply D684) fun _ _ fr687 D688 =>
 zd (domD D679) rd669 (
 zd (domD D684) [] (
 LD true 9 (nth xs361 2) (((H665.apply D679).apply D684).apply D688) fun v689 =>
 LD true 3 (nth xs361 3) (((H665.apply D679).apply D684).apply D688) fun v690 =>
 Q (AV.tup [v689, v690]) (((H665.apply D679).apply D684).apply D688) (((nx663 + fr678.length) + fr683.length) + fr687.length)))
def zra (xs361 : List AV) (Q : QT) (v716 : AV) (H717 : Heap) (nx718 : Nat) : Prop :=
 ST 9 (nth xs361 2) v716 H717 fun H719 =>
 ST 3 (nth xs361 3) (AV.agg [AV.int IntKind.i64 0, AV.str [], AV.int IntKind.i64 0]) H719 fun H720 =>
 LD true 9 (nth xs361 2) H720 fun v721 =>
 LD true 3 (nth xs361 3) H720 fun v722 =>
 Q (AV.tup [v721, v722]) H720 nx718
def zqz (xs361 : List AV) (Q : QT) (v725 : AV) (H726 : Heap) (nx727 : Nat) : Prop :=
 ST 9 (nth xs361 2) v725 H726 fun H728 =>
 ST 3 (nth xs361 3) (AV.agg [AV.int IntKind.i64 0, AV.str [], AV.int IntKind.i64 0]) H728 fun H729 =>
 LD true 9 (nth xs361 2) H729 fun v730 =>
 LD true 3 (nth xs361 3) H729 fun v731 =>
 Q (AV.tup [v730, v731]) H729 nx727
def zu (Q : QT) (xs361 : List AV) (H362 : Heap) (nx363 : Nat) : Prop :=
 CNDC (nth xs361 10)
 (IA 3 (nth xs361 7) (AV.int IntKind.i64 0) fun v365 =>
 FA 0 v365 fun v366 =>
 LD false 1 v366 H362 fun v367 =>
 BI BinOp.neq v367 (AV.int IntKind.i64 1) fun v368 =>
 CNDC v368
 (CALL Tryd.prog (nth xs361 4) [AV.int IntKind.i64 11] H362 nx363 (zrj xs361 Q))
 (FA 0 (nth xs361 6) fun v378 =>
 LD false 1 v378 H362 fun v379 =>
 BI BinOp.eql v379 (AV.int IntKind.i64 13) fun v380 =>
 CND v380
 (FA 6 (nth xs361 0) fun v381 =>
 FA 2 v381 fun v382 =>
 LD false 1 v382 H362 fun v383 =>
 BI BinOp.gtr v383 (AV.int IntKind.i64 0) fun v384 =>
 CNDC v384
 (FA 6 (nth xs361 0) fun v385 =>
 FA 2 v385 fun v386 =>
 LD false 1 v386 H362 fun v387 =>
 BI BinOp.sub v387 (AV.int IntKind.i64 1) fun v388 =>
 FA 6 (nth xs361 0) fun v389 =>
 FA 2 v389 fun v390 =>
 ST 1 v390 v388 H362 fun H391 =>
 LDR true 9 (nth xs361 0) H391 fun v392 _ =>
 LDR true 4 (nth xs361 5) H391 fun v394 _ =>
 zx Tryd.prog (AV.clo 45 []) [v392, v394] H391 nx363 (zjj xs361 H391 Q nx363))
 (ST 3 (AV.ptr nx363 0) (AV.agg [AV.int IntKind.i64 0, AV.int IntKind.i64 0, AV.str []]) (H362.put nx363 (some (AObj.row 3 [AV.int IntKind.i64 0, AV.int IntKind.i64 0, AV.str []]))) fun H415 =>
 FA 1 (nth xs361 1) fun v416 =>
 LD false 1 v416 H415 fun v417 =>
 LNL v417 fun v418 =>
 BI BinOp.sub v418 (AV.int IntKind.i64 1) fun v419 =>
 LP (zku Q) [nth xs361 1, nth xs361 2, nth xs361 3, nth xs361 6, nth xs361 7, nth xs361 8, AV.ptr nx363 0, v419] H415 (nx363 + 1)))
 (ST 3 (AV.ptr nx363 0) (AV.agg [AV.int IntKind.i64 0, AV.int IntKind.i64 0, AV.str []]) (H362.put nx363 (some (AObj.row 3 [AV.int IntKind.i64 0, AV.int IntKind.i64 0, AV.str []]))) fun H468 =>
 FA 1 (nth xs361 1) fun v469 =>
 LD false 1 v469 H468 fun v470 =>
 LNL v470 fun v471 =>
 BI BinOp.sub v471 (AV.int IntKind.i64 1) fun v472 =>
 LP (zcn Q) [nth xs361 1, nth xs361 2, nth xs361 3, nth xs361 6, nth xs361 7, nth xs361 8, AV.ptr nx363 0, v472] H468 (nx363 + 1))))
 (BI BinOp.eql (nth xs361 9) (AV.int IntKind.i64 14) fun v521 =>
 CNDC v521
 (LDR true 9 (nth xs361 0) H362 fun v522 _ =>
 LDR true 4 (nth xs361 5) H362 fun v524 _ =>
 zx Tryd.prog (AV.clo 45 []) [v522, v524] H362 nx363 (zjh xs361 H362 nx363 Q))
 (BI BinOp.eql (nth xs361 9) (AV.int IntKind.i64 15) fun v551 =>
 CNDC v551
 (FA 1 (nth xs361 6) fun v552 =>
 LD false 1 v552 H362 fun v553 =>
 FA 1 (nth xs361 5) fun v554 =>
 ST 1 v554 v553 H362 fun H555 =>
 LD true 9 (nth xs361 0) H555 fun v556 =>
 LD true 4 (nth xs361 5) H555 fun v557 =>
 za Tryd.prog 45 [v556, v557] H555 nx363 (zre xs361 Q))
 (BI BinOp.eql (nth xs361 9) (AV.int IntKind.i64 16) fun v565 =>
 CNDC v565
 (IA 3 (nth xs361 7) (AV.int IntKind.i64 0) fun v566 =>
 LD true 3 v566 H362 fun v567 =>
 gd (eqsT 108) (
 BA [AV.int IntKind.i64 0, AV.int IntKind.i64 0, AV.str []] BinOp.eql v567 (AV.agg [AV.int IntKind.i64 0, AV.int IntKind.i64 0, AV.str []]) fun v568 =>
 CNDC v568
 (FA 1 (nth xs361 6) fun v569 =>
 LD false 1 v569 H362 fun v570 =>
 FA 1 (nth xs361 5) fun v571 =>
 ST 1 v571 v570 H362 fun H572 =>
 LD true 9 (nth xs361 0) H572 fun v573 =>
 LD true 4 (nth xs361 5) H572 fun v574 =>
 za Tryd.prog 45 [v573, v574] H572 nx363 (zrd xs361 Q))
 (LD true 9 (nth xs361 0) H362 fun v582 =>
 LD true 4 (nth xs361 5) H362 fun v583 =>
 za Tryd.prog 45 [v582, v583] H362 nx363 (zrc xs361 Q))))
 (BI BinOp.eql (nth xs361 9) (AV.int IntKind.i64 17) fun v591 =>
 CNDC v591
 (FA 4 (nth xs361 0) fun v592 =>
 LD false 1 v592 H362 fun v593 =>
 LNL v593 fun v594 =>
 BI BinOp.geq v594 (AV.int IntKind.i64 12) fun v595 =>
 CNDC v595
 (FA 3 (nth xs361 5) fun v596 =>
 LD false 1 v596 H362 fun v597 =>
 APP 3 32 v597 (nth xs361 7) H362 nx363 fun v598 H599 nx600 =>
 FA 3 (nth xs361 5) fun v601 =>
 ST 1 v601 v598 H599 fun H602 =>
 LD true 9 (nth xs361 0) H602 fun v603 =>
 LD true 4 (nth xs361 5) H602 fun v604 =>
 za Tryd.prog 45 [v603, v604] H602 nx600 (zjg xs361 Q))
 (FA 2 (nth xs361 0) fun v618 =>
 FA 0 v618 fun v619 =>
 LD false 1 v619 H362 fun v620 =>
 FA 1 (nth xs361 6) fun v621 =>
 LD false 1 v621 H362 fun v622 =>
 IA 3 v620 v622 fun v623 =>
 FA 1 v623 fun v624 =>
 LD false 1 v624 H362 fun v625 =>
 LNL (nth xs361 7) fun v626 =>
 BI BinOp.sub v625 v626 fun v627 =>
 APP 3 32 (nth xs361 7) (zsrc [AV.int IntKind.i64 0, AV.int IntKind.i64 0, AV.str []] v627) H362 nx363 fun v628 H629 nx630 =>
 LD true 9 (nth xs361 0) H629 fun v631 =>
 LD true 4 (nth xs361 5) H629 fun v632 =>
 za Tryd.prog 45 [v631, v632] H629 nx630 (zjf xs361 v628 Q)))
 (BI BinOp.eql (nth xs361 9) (AV.int IntKind.i64 18) fun v653 =>
 CNDC v653
 (FA 4 (nth xs361 0) fun v654 =>
 LD false 1 v654 (H362.put nx363 (some (AObj.row 4 []))) fun v655 =>
 FA 4 (nth xs361 0) fun v656 =>
 LD false 1 v656 (H362.put nx363 (some (AObj.row 4 []))) fun v657 =>
 LNL v657 fun v658 =>
 BI BinOp.sub v658 (AV.int IntKind.i64 1) fun v659 =>
 SL 4 v655 none (some v659) (H362.put nx363 (some (AObj.row 4 []))) fun v660 =>
 APP 4 64 (AV.slc nx363 0 0) v660 (H362.put nx363 (some (AObj.row 4 []))) (nx363 + 1) fun v661 H662 nx663 =>
 FA 4 (nth xs361 0) fun v664 =>
 ST 1 v664 v661 H662 fun H665 =>
 LNL v661 fun v666 =>
 BI BinOp.eql v666 (AV.int IntKind.i64 0) fun v667 =>
 CNDC v667
 (LDR true 9 (nth xs361 0) H665 fun v668 rd669 =>
 FA 5 (nth xs361 0) fun v670 =>
 LDR false 1 v670 H665 fun v671 _ =>
 IA 3 (nth xs361 7) (AV.int IntKind.i64 0) fun v673 =>
 LDR true 3 v673 H665 fun v674 _ =>
 zx Tryd.prog (AV.clo 49 []) [v671, v674, AV.int IntKind.i64 4] H665 nx663 (zje xs361 v668 H665 rd669 Q nx663))
 (LNL v661 fun v691 =>
 BI BinOp.sub v691 (AV.int IntKind.i64 1) fun v692 =>
 IA 4 v661 v692 fun v693 =>
 LD true 4 v693 H665 fun v694 =>
 ST 4 (AV.ptr nx663 0) v694 (H665.put nx663 (some (AObj.row 4 [AV.int IntKind.i64 0, AV.int IntKind.i64 0, AV.nils, AV.nils]))) fun H695 =>
 LDR false 1 (AV.ptr nx663 3) (H695.put ((nx663 + 1)) (some (AObj.row 3 []))) fun v696 rd697 =>
 zai 3 32 (AV.slc (nx663 + 1) 0 0) v696 (H695.put ((nx663 + 1)) (some (AObj.row 3 []))) (nx663 + 2) fun v698 rd699 fr700 D701 =>
 IA 3 (nth xs361 7) (AV.int IntKind.i64 0) fun v702 =>
 LDR true 3 v702 ((H695.put ((nx663 + 1)) (some (AObj.row 3 []))).apply D701) fun v703 rd704 =>
 BSL 1 3 [AV.int IntKind.i64 0, AV.int IntKind.i64 0, AV.str []] [(0, v703)] fun cells705 =>
 zai 3 32 v698 (AV.slc ((nx663 + 2) + fr700.length) 0 1) (((H695.put ((nx663 + 1)) (some (AObj.row 3 []))).apply D701).put (((nx663 + 2) + fr700.length)) (some (AObj.row 3 cells705))) (((nx663 + 2) + fr700.length) + 1) fun v706 _ fr708 D709 =>
 zaf 1 (AV.ptr nx663 3) v706 ((((H695.put ((nx663 + 1)) (some (AObj.row 3 []))).apply D701).put (((nx663 + 2) + fr700.length)) (some (AObj.row 3 cells705))).apply D709) fun _ _ fr712 D713 =>
 (nx663 + 1) ∉ [] ∧
 (nx663 + 1) ∉ [] ∧
 (nx663 + 1) ∉ rd697 ∧
 (nx663 + 1) ∉ [] ∧
 (nx663 + 1) ∉ [] ∧
 (nx663 + 1) ∉ [] ∧
 zd (domD D701) [] (
 zd (domD D701) [] (
 (nx663 + 1) ∉ [] ∧
 (nx663 + 1) ∉ [] ∧
 zd (domD D701) [] (
 zd (domD D701) [] (
 (nx663 + 1) ∉ rd704 ∧
 (nx663 + 1) ∉ [] ∧
 zd (domD D701) rd704 (
 zd (domD D701) [] (
 (nx663 + 1) ∉ [] ∧
 (nx663 + 1) ∉ [((nx663 + 2) + fr700.length)] ∧
 ((nx663 + 2) + fr700.length) ∉ [] ∧
 ((nx663 + 2) + fr700.length) ∉ [] ∧
 ((nx663 + 2) + fr700.length) ∉ rd697 ∧
 zd (domD D701) [] (
 zd (domD D701) [((nx663 + 2) + fr700.length)] (
 ((nx663 + 2) + fr700.length) ∉ rd699 ∧
 LD true 9 (nth xs361 0) (((((H695.put ((nx663 + 1)) (some (AObj.row 3 []))).apply D701).put (((nx663 + 2) + fr700.length)) (some (AObj.row 3 cells705))).apply D709).apply D713) fun v714 =>
 LD true 4 (AV.ptr nx663 0) (((((H695.put ((nx663 + 1)) (some (AObj.row 3 []))).apply D701).put (((nx663 + 2) + fr700.length)) (some (AObj.row 3 cells705))).apply D709).apply D713) fun v715 =>
 za Tryd.prog 45 [v714, v715] (((((H695.put ((nx663 + 1)) (some (AObj.row 3 []))).apply D701).put (((nx663 + 2) + fr700.length)) (some (AObj.row 3 cells705))).apply D709).apply D713) (((((nx663 + 2) + fr700.length) + 1) + fr708.length) + fr712.length) (zra xs361 Q)))))))))))
 (LD true 9 (nth xs361 0) H362 fun v723 =>
 LD true 4 (nth xs361 5) H362 fun v724 =>
 za Tryd.prog 45 [v723, v724] H362 nx363 (zqz xs361 Q)))))))
def zw (xs242 : List AV) (H243 : Heap) (nx244 : Nat) (j364 : J3) : Prop :=
 BI BinOp.eql (nth xs242 9) (AV.int IntKind.i64 11) fun v732 =>
 CNDC v732
 (j364 [nth xs242 0, nth xs242 1, nth xs242 2, nth xs242 3, nth xs242 4, nth xs242 5, nth xs242 6, nth xs242 7, nth xs242 8, nth xs242 9, AV.bool true] H243 nx244)
 (BI BinOp.eql (nth xs242 9) (AV.int IntKind.i64 13) fun v733 =>
 j364 [nth xs242 0, nth xs242 1, nth xs242 2, nth xs242 3, nth xs242 4, nth xs242 5, nth xs242 6, nth xs242 7, nth xs242 8, nth xs242 9, v733] H243 nx244)
def zl (Q : QT) (xs242 : List AV) (H243 : Heap) (nx244 : Nat) : Prop :=
 CNDC (nth xs242 10)
 (IA 3 (nth xs242 7) (AV.int IntKind.i64 0) fun v246 =>
 FA 0 v246 fun v247 =>
 LD false 1 v247 H243 fun v248 =>
 BI BinOp.neq v248 (AV.int IntKind.i64 2) fun v249 =>
 CNDC v249
 (CALL Tryd.prog (nth xs242 4) [AV.int IntKind.i64 11] H243 nx244 (zro xs242 Q))
 (FA 5 (nth xs242 0) fun v259 =>
 LDR false 1 v259 H243 fun v260 rd261 =>
 IA 3 (nth xs242 7) (AV.int IntKind.i64 0) fun v262 =>
 FA 1 v262 fun v263 =>
 LDR false 1 v263 H243 fun v264 rd265 =>
 IA 6 v260 v264 fun v266 =>
 LDR true 6 v266 H243 fun v267 rd268 =>
 zaf 6 (AV.ptr nx244 0) v267 (H243.put nx244 (some (AObj.row 6 [AV.int IntKind.i64 0, AV.int IntKind.i64 0, AV.str [], AV.int IntKind.i64 0, AV.int IntKind.i64 0, AV.str []]))) fun _ _ fr271 D272 =>
 nx244 ∉ [] ∧
 nx244 ∉ rd261 ∧
 nx244 ∉ [] ∧
 nx244 ∉ [] ∧
 nx244 ∉ [] ∧
 nx244 ∉ rd265 ∧
 nx244 ∉ [] ∧
 nx244 ∉ rd268 ∧
 FA 0 (nth xs242 6) fun v273 =>
 LD false 1 v273 ((H243.put nx244 (some (AObj.row 6 [AV.int IntKind.i64 0, AV.int IntKind.i64 0, AV.str [], AV.int IntKind.i64 0, AV.int IntKind.i64 0, AV.str []]))).apply D272) fun v274 =>
 BI BinOp.eql v274 (AV.int IntKind.i64 7) fun v275 =>
 CNDC v275
 (LD true 3 (AV.ptr nx244 0) ((H243.put nx244 (some (AObj.row 6 [AV.int IntKind.i64 0, AV.int IntKind.i64 0, AV.str [], AV.int IntKind.i64 0, AV.int IntKind.i64 0, AV.str []]))).apply D272) fun v276 =>
 CALL Tryd.prog (nth xs242 8) [v276] ((H243.put nx244 (some (AObj.row 6 [AV.int IntKind.i64 0, AV.int IntKind.i64 0, AV.str [], AV.int IntKind.i64 0, AV.int IntKind.i64 0, AV.str []]))).apply D272) ((nx244 + 1) + fr271.length) (zrn xs242 Q))
 (FA 0 (nth xs242 6) fun v286 =>
 LD false 1 v286 ((H243.put nx244 (some (AObj.row 6 [AV.int IntKind.i64 0, AV.int IntKind.i64 0, AV.str [], AV.int IntKind.i64 0, AV.int IntKind.i64 0, AV.str []]))).apply D272) fun v287 =>
 BI BinOp.eql v287 (AV.int IntKind.i64 8) fun v288 =>
 CNDC v288
 (LD true 3 (AV.ptr nx244 3) ((H243.put nx244 (some (AObj.row 6 [AV.int IntKind.i64 0, AV.int IntKind.i64 0, AV.str [], AV.int IntKind.i64 0, AV.int IntKind.i64 0, AV.str []]))).apply D272) fun v289 =>
 CALL Tryd.prog (nth xs242 8) [v289] ((H243.put nx244 (some (AObj.row 6 [AV.int IntKind.i64 0, AV.int IntKind.i64 0, AV.str [], AV.int IntKind.i64 0, AV.int IntKind.i64 0, AV.str []]))).apply D272) ((nx244 + 1) + fr271.length) (zrm xs242 Q))
 (FA 5 (nth xs242 0) fun v299 =>
 LD false 1 v299 (((H243.put nx244 (some (AObj.row 6 [AV.int IntKind.i64 0, AV.int IntKind.i64 0, AV.str [], AV.int IntKind.i64 0, AV.int IntKind.i64 0, AV.str []]))).apply D272).put (((nx244 + 1) + fr271.length)) (some (AObj.row 6 []))) fun v300 =>
 APP 6 64 (AV.slc ((nx244 + 1) + fr271.length) 0 0) v300 (((H243.put nx244 (some (AObj.row 6 [AV.int IntKind.i64 0, AV.int IntKind.i64 0, AV.str [], AV.int IntKind.i64 0, AV.int IntKind.i64 0, AV.str []]))).apply D272).put (((nx244 + 1) + fr271.length)) (some (AObj.row 6 []))) (((nx244 + 1) + fr271.length) + 1) fun v301 H302 nx303 =>
 FA 5 (nth xs242 0) fun v304 =>
 ST 1 v304 v301 H302 fun H305 =>
 FA 0 (nth xs242 6) fun v306 =>
 LD false 1 v306 H305 fun v307 =>
 BI BinOp.eql v307 (AV.int IntKind.i64 9) fun v308 =>
 CNDC v308
 (IA 3 (nth xs242 7) (AV.int IntKind.i64 1) fun v309 =>
 LD true 3 v309 H305 fun v310 =>
 ST 3 (AV.ptr nx244 0) v310 H305 fun H311 =>
 FA 5 (nth xs242 0) fun v312 =>
 LDR false 1 v312 H311 fun v313 _ =>
 IA 3 (nth xs242 7) (AV.int IntKind.i64 0) fun v315 =>
 FA 1 v315 fun v316 =>
 LDR false 1 v316 H311 fun v317 _ =>
 LDR true 6 (AV.ptr nx244 0) H311 fun v319 _ =>
 IA 6 v313 v317 fun v321 =>
 zaf 6 v321 v319 H311 fun _ _ fr324 D325 =>
 LD true 9 (nth xs242 0) (H311.apply D325) fun v326 =>
 LD true 4 (nth xs242 5) (H311.apply D325) fun v327 =>
 za Tryd.prog 45 [v326, v327] (H311.apply D325) (nx303 + fr324.length) (zrl xs242 Q))
 (IA 3 (nth xs242 7) (AV.int IntKind.i64 1) fun v335 =>
 LD true 3 v335 H305 fun v336 =>
 ST 3 (AV.ptr nx244 3) v336 H305 fun H337 =>
 FA 5 (nth xs242 0) fun v338 =>
 LDR false 1 v338 H337 fun v339 _ =>
 IA 3 (nth xs242 7) (AV.int IntKind.i64 0) fun v341 =>
 FA 1 v341 fun v342 =>
 LDR false 1 v342 H337 fun v343 _ =>
 LDR true 6 (AV.ptr nx244 0) H337 fun v345 _ =>
 IA 6 v339 v343 fun v347 =>
 zaf 6 v347 v345 H337 fun _ _ fr350 D351 =>
 LD true 9 (nth xs242 0) (H337.apply D351) fun v352 =>
 LD true 4 (nth xs242 5) (H337.apply D351) fun v353 =>
 za Tryd.prog 45 [v352, v353] (H337.apply D351) (nx303 + fr350.length) (zrk xs242 Q))))))
 (JN (zu Q) (zw xs242 H243 nx244))
def zm (v73 : AV) (nx : Nat) (v53 : AV) (H72 : Heap) (nx71 : Nat) (j245 : J3) : Prop :=
 BI BinOp.eql v73 (AV.int IntKind.i64 7) fun v734 =>
 CNDC v734
 (j245 [AV.ptr nx 0, AV.ptr (nx + 1) 0, AV.ptr (nx + 2) 0, AV.ptr (nx + 3) 0, AV.clo 43 [AV.ptr nx 0], AV.ptr (nx + 4) 0, AV.ptr (nx + 5) 0, v53, AV.clo 46 [AV.ptr (nx + 4) 0, AV.ptr nx 0], v73, AV.bool true] H72 nx71)
 (BI BinOp.eql v73 (AV.int IntKind.i64 8) fun v735 =>
 CNDC v735
 (j245 [AV.ptr nx 0, AV.ptr (nx + 1) 0, AV.ptr (nx + 2) 0, AV.ptr (nx + 3) 0, AV.clo 43 [AV.ptr nx 0], AV.ptr (nx + 4) 0, AV.ptr (nx + 5) 0, v53, AV.clo 46 [AV.ptr (nx + 4) 0, AV.ptr nx 0], v73, AV.bool true] H72 nx71)
 (BI BinOp.eql v73 (AV.int IntKind.i64 9) fun v736 =>
 CNDC v736
 (j245 [AV.ptr nx 0, AV.ptr (nx + 1) 0, AV.ptr (nx + 2) 0, AV.ptr (nx + 3) 0, AV.clo 43 [AV.ptr nx 0], AV.ptr (nx + 4) 0, AV.ptr (nx + 5) 0, v53, AV.clo 46 [AV.ptr (nx + 4) 0, AV.ptr nx 0], v73, AV.bool true] H72 nx71)
 (BI BinOp.eql v73 (AV.int IntKind.i64 10) fun v737 =>
 j245 [AV.ptr nx 0, AV.ptr (nx + 1) 0, AV.ptr (nx + 2) 0, AV.ptr (nx + 3) 0, AV.clo 43 [AV.ptr nx 0], AV.ptr (nx + 4) 0, AV.ptr (nx + 5) 0, v53, AV.clo 46 [AV.ptr (nx + 4) 0, AV.ptr nx 0], v73, v737] H72 nx71)))
def ze (nx : Nat) (Q : QT) (v53 : AV) (v69 : AV) (H70 : Heap) (nx71 : Nat) : Prop :=
 ST 9 (AV.ptr nx 0) v69 H70 fun H72 =>
 LD false 1 (AV.ptr (nx + 5) 0) H72 fun v73 =>
 BI BinOp.eql v73 (AV.int IntKind.i64 1) fun v74 =>
 CNDC v74
 (LD false 1 (AV.ptr (nx + 5) 1) H72 fun v75 =>
 BD (zaa tab [(3, 0), (3, 1), (9, 2)]) [AV.int IntKind.i64 0, AV.int IntKind.i64 0, AV.str []] [(1, v75)] fun v76 =>
 za Tryd.prog 46 [v76, AV.ptr (nx + 4) 0, AV.ptr nx 0] H72 nx71 (zta nx Q))
 (BI BinOp.eql v73 (AV.int IntKind.i64 2) fun v86 =>
 CNDC v86
 (LD false 1 (AV.ptr nx 3) H72 fun v87 =>
 LD false 1 (AV.ptr (nx + 5) 1) H72 fun v88 =>
 IA 1 v87 v88 fun v89 =>
 LD false 1 v89 H72 fun v90 =>
 za Tryd.prog 47 [v90] H72 nx71 (zkw nx Q))
 (BI BinOp.eql v73 (AV.int IntKind.i64 3) fun v103 =>
 CNDC v103
 (LD false 1 (AV.ptr (nx + 4) 2) H72 fun v104 =>
 LD false 1 (AV.ptr (nx + 5) 1) H72 fun v105 =>
 IA 3 v104 v105 fun v106 =>
 LD true 3 v106 H72 fun v107 =>
 za Tryd.prog 46 [v107, AV.ptr (nx + 4) 0, AV.ptr nx 0] H72 nx71 (zsy nx Q))
 (BI BinOp.eql v73 (AV.int IntKind.i64 12) fun v117 =>
 CNDC v117
 (LD false 1 (AV.ptr (nx + 1) 0) H72 fun v118 =>
 za Tryd.prog 47 [v118] H72 nx71 (zkv nx Q))
 (BI BinOp.eql v73 (AV.int IntKind.i64 4) fun v131 =>
 CNDC v131
 (LDR false 1 (AV.ptr (nx + 4) 2) H72 fun v132 _ =>
 LDR false 1 (AV.ptr (nx + 5) 1) H72 fun v134 _ =>
 IA 3 v53 (AV.int IntKind.i64 0) fun v136 =>
 LDR true 3 v136 H72 fun v137 _ =>
 IA 3 v132 v134 fun v139 =>
 zaf 3 v139 v137 H72 fun _ _ fr142 D143 =>
 LD true 9 (AV.ptr nx 0) (H72.apply D143) fun v144 =>
 LD true 4 (AV.ptr (nx + 4) 0) (H72.apply D143) fun v145 =>
 za Tryd.prog 45 [v144, v145] (H72.apply D143) (nx71 + fr142.length) (zsw nx Q))
 (BI BinOp.eql v73 (AV.int IntKind.i64 5) fun v153 =>
 CNDC v153
 (LDR false 1 (AV.ptr (nx + 5) 1) H72 fun v154 rd155 =>
 IA 3 v53 (AV.int IntKind.i64 0) fun v156 =>
 LDR true 3 v156 H72 fun v157 rd158 =>
 IA 3 v53 (AV.int IntKind.i64 1) fun v159 =>
 LDR true 3 v159 H72 fun v160 rd161 =>
 zx Tryd.prog (AV.clo 48 []) [v154, v157, v160] H72 nx71 (zff nx71 H72 rd155 rd158 rd161 nx Q))
 (BI BinOp.eql v73 (AV.int IntKind.i64 6) fun v192 =>
 CNDC v192
 (LD false 1 (AV.ptr nx 7) H72 fun v193 =>
 BI BinOp.lss v193 (AV.int IntKind.i64 1) fun v194 =>
 CNDC v194
 (za Tryd.prog 43 [AV.int IntKind.i64 13, AV.ptr nx 0] H72 nx71 (zrq nx Q))
 (LD false 1 (AV.ptr nx 7) H72 fun v204 =>
 BI BinOp.sub v204 (AV.int IntKind.i64 1) fun v205 =>
 ST 1 (AV.ptr nx 7) v205 H72 fun H206 =>
 LDR false 1 (AV.ptr nx 5) (H206.put nx71 (some (AObj.row 6 []))) fun v207 rd208 =>
 zai 6 64 (AV.slc nx71 0 0) v207 (H206.put nx71 (some (AObj.row 6 []))) (nx71 + 1) fun v209 rd210 fr211 D212 =>
 IA 3 v53 (AV.int IntKind.i64 0) fun v213 =>
 LDR true 3 v213 ((H206.put nx71 (some (AObj.row 6 []))).apply D212) fun v214 rd215 =>
 IA 3 v53 (AV.int IntKind.i64 1) fun v216 =>
 LDR true 3 v216 ((H206.put nx71 (some (AObj.row 6 []))).apply D212) fun v217 rd218 =>
 BD (zaa tab [(108, 0), (108, 3)]) [AV.int IntKind.i64 0, AV.int IntKind.i64 0, AV.str [], AV.int IntKind.i64 0, AV.int IntKind.i64 0, AV.str []] [(0, v214), (1, v217)] fun v219 =>
 BSL 1 6 [AV.int IntKind.i64 0, AV.int IntKind.i64 0, AV.str [], AV.int IntKind.i64 0, AV.int IntKind.i64 0, AV.str []] [(0, v219)] fun cells220 =>
 zai 6 64 v209 (AV.slc ((nx71 + 1) + fr211.length) 0 1) (((H206.put nx71 (some (AObj.row 6 []))).apply D212).put (((nx71 + 1) + fr211.length)) (some (AObj.row 6 cells220))) (((nx71 + 1) + fr211.length) + 1) fun v221 _ fr223 D224 =>
 zaf 1 (AV.ptr nx 5) v221 ((((H206.put nx71 (some (AObj.row 6 []))).apply D212).put (((nx71 + 1) + fr211.length)) (some (AObj.row 6 cells220))).apply D224) fun _ _ fr227 D228 =>
 nx71 ∉ [] ∧
 nx71 ∉ [] ∧
 nx71 ∉ rd208 ∧
 nx71 ∉ [] ∧
 nx71 ∉ [] ∧
 nx71 ∉ [] ∧
 zd (domD D212) [] (
 zd (domD D212) [] (
 nx71 ∉ [] ∧
 nx71 ∉ [] ∧
 zd (domD D212) [] (
 zd (domD D212) [] (
 nx71 ∉ rd215 ∧
 nx71 ∉ [] ∧
 zd (domD D212) rd215 (
 zd (domD D212) [] (
 nx71 ∉ [] ∧
 nx71 ∉ [] ∧
 zd (domD D212) [] (
 zd (domD D212) [] (
 nx71 ∉ [] ∧
 nx71 ∉ [] ∧
 zd (domD D212) [] (
 zd (domD D212) [] (
 nx71 ∉ rd218 ∧
 nx71 ∉ [] ∧
 zd (domD D212) rd218 (
 zd (domD D212) [] (
 nx71 ∉ [] ∧
 nx71 ∉ [] ∧
 zd (domD D212) [] (
 zd (domD D212) [] (
 nx71 ∉ [] ∧
 nx71 ∉ [((nx71 + 1) + fr211.length)] ∧
 ((nx71 + 1) + fr211.length) ∉ [] ∧
 ((nx71 + 1) + fr211.length) ∉ [] ∧
 ((nx71 + 1) + fr211.length) ∉ rd208 ∧
 zd (domD D212) [] (
 zd (domD D212) [((nx71 + 1) + fr211.length)] (
 ((nx71 + 1) + fr211.length) ∉ rd210 ∧
 LD false 1 (AV.ptr nx 5) (((((H206.put nx71 (some (AObj.row 6 []))).apply D212).put (((nx71 + 1) + fr211.length)) (some (AObj.row 6 cells220))).apply D224).apply D228) fun v229 =>
 LNL v229 fun v230 =>
 BI BinOp.sub v230 (AV.int IntKind.i64 1) fun v231 =>
 BD (zaa tab [(3, 0), (3, 1), (9, 2)]) [AV.int IntKind.i64 0, AV.int IntKind.i64 0, AV.str []] [(0, AV.int IntKind.i64 2), (1, v231)] fun v232 =>
 za Tryd.prog 46 [v232, AV.ptr (nx + 4) 0, AV.ptr nx 0] (((((H206.put nx71 (some (AObj.row 6 []))).apply D212).put (((nx71 + 1) + fr211.length)) (some (AObj.row 6 cells220))).apply D224).apply D228) (((((nx71 + 1) + fr211.length) + 1) + fr223.length) + fr227.length) (zrp nx Q)))))))))))))))))))
 (JN (zl Q) (zm v73 nx v53 H72 nx71))))))))
def zjd (nx : Nat) (Q : QT) (v43 : AV) (H44 : Heap) (nx45 : Nat) : Prop :=
 EX v43 0 fun v46 =>
 EX v43 1 fun _ =>
 LD false 1 (AV.ptr (nx + 4) 3) H44 fun v48 =>
 LNL v48 fun v49 =>
 BI BinOp.sub v49 v46 fun v50 =>
 LD false 1 (AV.ptr (nx + 4) 3) (H44.put nx45 (some (AObj.row 3 []))) fun v51 =>
 SL 3 v51 (some v50) none (H44.put nx45 (some (AObj.row 3 []))) fun v52 =>
 APP 3 32 (AV.slc nx45 0 0) v52 (H44.put nx45 (some (AObj.row 3 []))) (nx45 + 1) fun v53 H54 nx55 =>
 LD false 1 (AV.ptr (nx + 4) 3) (H54.put nx55 (some (AObj.row 3 []))) fun v56 =>
 SL 3 v56 none (some v50) (H54.put nx55 (some (AObj.row 3 []))) fun v57 =>
 APP 3 32 (AV.slc nx55 0 0) v57 (H54.put nx55 (some (AObj.row 3 []))) (nx55 + 1) fun v58 H59 nx60 =>
 ST 1 (AV.ptr (nx + 4) 3) v58 H59 fun H61 =>
 LD false 1 (AV.ptr (nx + 4) 2) (H61.put nx60 (some (AObj.row 3 []))) fun v62 =>
 APP 3 32 (AV.slc nx60 0 0) v62 (H61.put nx60 (some (AObj.row 3 []))) (nx60 + 1) fun v63 H64 nx65 =>
 ST 1 (AV.ptr (nx + 4) 2) v63 H64 fun H66 =>
 LD true 9 (AV.ptr nx 0) H66 fun v67 =>
 LD true 4 (AV.ptr (nx + 4) 0) H66 fun v68 =>
 za Tryd.prog 45 [v67, v68] H66 nx65 (ze nx Q v53)
def zkt (a0 a1 : AV) (H : Heap) (nx : Nat) (Q : QT) : Prop :=
 a0.sure = true ∧
 a1.sure = true ∧
 LD false 1 (AV.ptr nx 6) ((((H.put nx (some (AObj.row a0.cells.length a0.cells))).put ((nx + 1)) (some (AObj.row a1.cells.length a1.cells))).put ((nx + 2)) (some (AObj.row 9 [AV.int IntKind.i64 0, AV.int IntKind.i64 0, AV.nils, AV.nils, AV.nils, AV.nils, AV.int IntKind.i64 0, AV.int IntKind.i64 0, AV.int IntKind.i64 0]))).put ((nx + 3)) (some (AObj.row 3 [AV.int IntKind.i64 0, AV.str [], AV.int IntKind.i64 0]))) fun v1 =>
 BI BinOp.eql v1 (AV.int IntKind.i64 0) fun v2 =>
 CNDC v2
 (za Tryd.prog 43 [AV.int IntKind.i64 12, AV.ptr nx 0] ((((H.put nx (some (AObj.row a0.cells.length a0.cells))).put ((nx + 1)) (some (AObj.row a1.cells.length a1.cells))).put ((nx + 2)) (some (AObj.row 9 [AV.int IntKind.i64 0, AV.int IntKind.i64 0, AV.nils, AV.nils, AV.nils, AV.nils, AV.int IntKind.i64 0, AV.int IntKind.i64 0, AV.int IntKind.i64 0]))).put ((nx + 3)) (some (AObj.row 3 [AV.int IntKind.i64 0, AV.str [], AV.int IntKind.i64 0]))) (nx + 4) (ztb nx Q))
 (LD false 1 (AV.ptr nx 6) ((((H.put nx (some (AObj.row a0.cells.length a0.cells))).put ((nx + 1)) (some (AObj.row a1.cells.length a1.cells))).put ((nx + 2)) (some (AObj.row 9 [AV.int IntKind.i64 0, AV.int IntKind.i64 0, AV.nils, AV.nils, AV.nils, AV.nils, AV.int IntKind.i64 0, AV.int IntKind.i64 0, AV.int IntKind.i64 0]))).put ((nx + 3)) (some (AObj.row 3 [AV.int IntKind.i64 0, AV.str [], AV.int IntKind.i64 0]))) fun v12 =>
 BI BinOp.sub v12 (AV.int IntKind.i64 1) fun v13 =>
 ST 1 (AV.ptr nx 6) v13 ((((H.put nx (some (AObj.row a0.cells.length a0.cells))).put ((nx + 1)) (some (AObj.row a1.cells.length a1.cells))).put ((nx + 2)) (some (AObj.row 9 [AV.int IntKind.i64 0, AV.int IntKind.i64 0, AV.nils, AV.nils, AV.nils, AV.nils, AV.int IntKind.i64 0, AV.int IntKind.i64 0, AV.int IntKind.i64 0]))).put ((nx + 3)) (some (AObj.row 3 [AV.int IntKind.i64 0, AV.str [], AV.int IntKind.i64 0]))) fun H14 =>
 LD false 1 (AV.ptr nx 4) H14 fun v15 =>
 LD false 1 (AV.ptr nx 4) H14 fun v16 =>
 LNL v16 fun v17 =>
 BI BinOp.sub v17 (AV.int IntKind.i64 1) fun v18 =>
 IA 4 v15 v18 fun v19 =>
 LD true 4 v19 H14 fun v20 =>
 ST 4 (AV.ptr (nx + 4) 0) v20 (H14.put ((nx + 4)) (some (AObj.row 4 [AV.int IntKind.i64 0, AV.int IntKind.i64 0, AV.nils, AV.nils]))) fun H21 =>
 LDR false 1 (AV.ptr nx 2) H21 fun v22 rd23 =>
 LDR false 1 (AV.ptr (nx + 4) 0) H21 fun v24 rd25 =>
 IA 3 v22 v24 fun v26 =>
 FA 2 v26 fun v27 =>
 LDR false 1 v27 H21 fun v28 rd29 =>
 LDR false 1 (AV.ptr (nx + 4) 1) H21 fun v30 rd31 =>
 IA 3 v28 v30 fun v32 =>
 LDR true 3 v32 H21 fun v33 rd34 =>
 zaf 3 (AV.ptr (nx + 5) 0) v33 (H21.put ((nx + 5)) (some (AObj.row 3 [AV.int IntKind.i64 0, AV.int IntKind.i64 0, AV.int IntKind.i64 0]))) fun _ _ fr37 D38 =>
 (nx + 5) ∉ [] ∧
 (nx + 5) ∉ [] ∧
 (nx + 5) ∉ rd23 ∧
 (nx + 5) ∉ [] ∧
 (nx + 5) ∉ rd25 ∧
 (nx + 5) ∉ [] ∧
 (nx + 5) ∉ [] ∧
 (nx + 5) ∉ rd29 ∧
 (nx + 5) ∉ [] ∧
 (nx + 5) ∉ rd31 ∧
 (nx + 5) ∉ [] ∧
 (nx + 5) ∉ rd34 ∧
 LD false 1 (AV.ptr (nx + 4) 1) ((H21.put ((nx + 5)) (some (AObj.row 3 [AV.int IntKind.i64 0, AV.int IntKind.i64 0, AV.int IntKind.i64 0]))).apply D38) fun v39 =>
 BI BinOp.add v39 (AV.int IntKind.i64 1) fun v40 =>
 ST 1 (AV.ptr (nx + 4) 1) v40 ((H21.put ((nx + 5)) (some (AObj.row 3 [AV.int IntKind.i64 0, AV.int IntKind.i64 0, AV.int IntKind.i64 0]))).apply D38) fun H41 =>
 LD true 3 (AV.ptr (nx + 5) 0) H41 fun v42 =>
 za Tryd.prog 44 [v42] H41 ((nx + 6) + fr37.length) (zjd nx Q))
theorem zps (a0 a1 : AV) (H : Heap) (nx : Nat) (Q : QT) : zkt a0 a1 H nx Q → za Tryd.prog 17 [a0, a1] H nx Q :=
  zn (lv := lvOf [(2, 64, [3, 4, 5, 8, 12, 13, 17, 18]), (3, 42, [2, 3, 4, 5, 6, 7, 8, 12, 13, 94, 218]), (3, 57, [2, 3, 4, 5, 6, 7, 8, 12, 13, 94, 286])]) (c := zy Tryd.f17) zak zan mixed Tryd.func17 (by kernel_rfl) (by kernel_rfl) (by kernel_rfl) (by kernel_rfl) (by kernel_rfl)
def zin (nx : Nat) (Q : QT) (v20 : AV) (H21 : Heap) (nx22 : Nat) : Prop :=
 ST 9 (AV.ptr (nx + 1) 0) v20 H21 fun H23 =>
 LD true 9 (AV.ptr (nx + 1) 0) H23 fun v24 =>
 Q v24 H23 nx22
def zim (a0 a1 : AV) (H : Heap) (nx : Nat) (Q : QT) : Prop :=
 a0.sure = true ∧
 LD false 1 (AV.ptr nx 4) ((H.put nx (some (AObj.row a0.cells.length a0.cells))).put ((nx + 1)) (some (AObj.row 9 [AV.int IntKind.i64 0, AV.int IntKind.i64 0, AV.nils, AV.nils, AV.nils, AV.nils, AV.int IntKind.i64 0, AV.int IntKind.i64 0, AV.int IntKind.i64 0]))) fun v1 =>
 LD false 1 (AV.ptr nx 4) ((H.put nx (some (AObj.row a0.cells.length a0.cells))).put ((nx + 1)) (some (AObj.row 9 [AV.int IntKind.i64 0, AV.int IntKind.i64 0, AV.nils, AV.nils, AV.nils, AV.nils, AV.int IntKind.i64 0, AV.int IntKind.i64 0, AV.int IntKind.i64 0]))) fun v2 =>
 LNL v2 fun v3 =>
 BI BinOp.sub v3 (AV.int IntKind.i64 1) fun v4 =>
 IA 4 v1 v4 fun v5 =>
 LD true 4 v5 ((H.put nx (some (AObj.row a0.cells.length a0.cells))).put ((nx + 1)) (some (AObj.row 9 [AV.int IntKind.i64 0, AV.int IntKind.i64 0, AV.nils, AV.nils, AV.nils, AV.nils, AV.int IntKind.i64 0, AV.int IntKind.i64 0, AV.int IntKind.i64 0]))) fun v6 =>
 ST 4 (AV.ptr (nx + 2) 0) v6 (((H.put nx (some (AObj.row a0.cells.length a0.cells))).put ((nx + 1)) (some (AObj.row 9 [AV.int IntKind.i64 0, AV.int IntKind.i64 0, AV.nils, AV.nils, AV.nils, AV.nils, AV.int IntKind.i64 0, AV.int IntKind.i64 0, AV.int IntKind.i64 0]))).put ((nx + 2)) (some (AObj.row 4 [AV.int IntKind.i64 0, AV.int IntKind.i64 0, AV.nils, AV.nils]))) fun H7 =>
 LD false 1 (AV.ptr (nx + 2) 3) (H7.put ((nx + 3)) (some (AObj.row 3 []))) fun v8 =>
 APP 3 32 (AV.slc (nx + 3) 0 0) v8 (H7.put ((nx + 3)) (some (AObj.row 3 []))) (nx + 4) fun v9 H10 nx11 =>
 BD (zaa tab [(3, 0), (3, 1), (9, 2)]) [AV.int IntKind.i64 0, AV.int IntKind.i64 0, AV.str []] [(1, a1)] fun v12 =>
 BSL 1 3 [AV.int IntKind.i64 0, AV.int IntKind.i64 0, AV.str []] [(0, v12)] fun cells13 =>
 APP 3 32 v9 (AV.slc nx11 0 1) (H10.put nx11 (some (AObj.row 3 cells13))) (nx11 + 1) fun v14 H15 nx16 =>
 ST 1 (AV.ptr (nx + 2) 3) v14 H15 fun H17 =>
 LD true 9 (AV.ptr nx 0) H17 fun v18 =>
 LD true 4 (AV.ptr (nx + 2) 0) H17 fun v19 =>
 za Tryd.prog 45 [v18, v19] H17 nx16 (zin nx Q)
theorem znr (a0 a1 : AV) (H : Heap) (nx : Nat) (Q : QT) : zim a0 a1 H nx Q → za Tryd.prog 18 [a0, a1] H nx Q :=
  zn (lv := lvOf []) (c := zy Tryd.f18) zak zan mixed Tryd.func18 (by kernel_rfl) (by kernel_rfl) (by kernel_rfl) (by kernel_rfl) (by kernel_rfl)
def zip (a0 : AV) (H : Heap) (nx : Nat) (Q : QT) : Prop :=
 a0.sure = true ∧
 LD false 1 (AV.ptr nx 0) (H.put nx (some (AObj.row a0.cells.length a0.cells))) fun v1 =>
 BI BinOp.eql v1 (AV.int IntKind.i64 1) fun v2 =>
 CNDC v2
 (Q (AV.tup [AV.int IntKind.i64 0, AV.int IntKind.i64 1]) (H.put nx (some (AObj.row a0.cells.length a0.cells))) (nx + 1))
 (BI BinOp.eql v1 (AV.int IntKind.i64 2) fun v3 =>
 CNDC v3
 (Q (AV.tup [AV.int IntKind.i64 0, AV.int IntKind.i64 1]) (H.put nx (some (AObj.row a0.cells.length a0.cells))) (nx + 1))
 (BI BinOp.eql v1 (AV.int IntKind.i64 3) fun v4 =>
 CNDC v4
 (Q (AV.tup [AV.int IntKind.i64 0, AV.int IntKind.i64 1]) (H.put nx (some (AObj.row a0.cells.length a0.cells))) (nx + 1))
 (BI BinOp.eql v1 (AV.int IntKind.i64 12) fun v5 =>
 CNDC v5
 (Q (AV.tup [AV.int IntKind.i64 0, AV.int IntKind.i64 1]) (H.put nx (some (AObj.row a0.cells.length a0.cells))) (nx + 1))
 (BI BinOp.eql v1 (AV.int IntKind.i64 4) fun v6 =>
 CNDC v6
 (Q (AV.tup [AV.int IntKind.i64 1, AV.int IntKind.i64 0]) (H.put nx (some (AObj.row a0.cells.length a0.cells))) (nx + 1))
 (BI BinOp.eql v1 (AV.int IntKind.i64 14) fun v7 =>
 CNDC v7
 (Q (AV.tup [AV.int IntKind.i64 1, AV.int IntKind.i64 0]) (H.put nx (some (AObj.row a0.cells.length a0.cells))) (nx + 1))
 (BI BinOp.eql v1 (AV.int IntKind.i64 16) fun v8 =>
 CNDC v8
 (Q (AV.tup [AV.int IntKind.i64 1, AV.int IntKind.i64 0]) (H.put nx (some (AObj.row a0.cells.length a0.cells))) (nx + 1))
 (BI BinOp.eql v1 (AV.int IntKind.i64 19) fun v9 =>
 CNDC v9
 (Q (AV.tup [AV.int IntKind.i64 1, AV.int IntKind.i64 0]) (H.put nx (some (AObj.row a0.cells.length a0.cells))) (nx + 1))
 (BI BinOp.eql v1 (AV.int IntKind.i64 18) fun v10 =>
 CNDC v10
 (Q (AV.tup [AV.int IntKind.i64 1, AV.int IntKind.i64 0]) (H.put nx (some (AObj.row a0.cells.length a0.cells))) (nx + 1))
 (BI BinOp.eql v1 (AV.int IntKind.i64 5) fun v11 =>
 CNDC v11
 (Q (AV.tup [AV.int IntKind.i64 2, AV.int IntKind.i64 1]) (H.put nx (some (AObj.row a0.cells.length a0.cells))) (nx + 1))
 (BI BinOp.eql v1 (AV.int IntKind.i64 6) fun v12 =>
 CNDC v12
 (Q (AV.tup [AV.int IntKind.i64 2, AV.int IntKind.i64 1]) (H.put nx (some (AObj.row a0.cells.length a0.cells))) (nx + 1))
 (BI BinOp.eql v1 (AV.int IntKind.i64 7) fun v13 =>
 CNDC v13
 (Q (AV.tup [AV.int IntKind.i64 1, AV.int IntKind.i64 1]) (H.put nx (some (AObj.row a0.cells.length a0.cells))) (nx + 1))
 (BI BinOp.eql v1 (AV.int IntKind.i64 8) fun v14 =>
 CNDC v14
 (Q (AV.tup [AV.int IntKind.i64 1, AV.int IntKind.i64 1]) (H.put nx (some (AObj.row a0.cells.length a0.cells))) (nx + 1))
 (BI BinOp.eql v1 (AV.int IntKind.i64 11) fun v15 =>
 CNDC v15
 (Q (AV.tup [AV.int IntKind.i64 1, AV.int IntKind.i64 1]) (H.put nx (some (AObj.row a0.cells.length a0.cells))) (nx + 1))
 (BI BinOp.eql v1 (AV.int IntKind.i64 13) fun v16 =>
 CNDC v16
 (Q (AV.tup [AV.int IntKind.i64 1, AV.int IntKind.i64 1]) (H.put nx (some (AObj.row a0.cells.length a0.cells))) (nx + 1))
 (BI BinOp.eql v1 (AV.int IntKind.i64 9) fun v17 =>
 CNDC v17
 (Q (AV.tup [AV.int IntKind.i64 2, AV.int IntKind.i64 0]) (H.put nx (some (AObj.row a0.cells.length a0.cells))) (nx + 1))
 (BI BinOp.eql v1 (AV.int IntKind.i64 10) fun v18 =>
 CNDC v18
 (Q (AV.tup [AV.int IntKind.i64 2, AV.int IntKind.i64 0]) (H.put nx (some (AObj.row a0.cells.length a0.cells))) (nx + 1))
 (BI BinOp.eql v1 (AV.int IntKind.i64 17) fun v19 =>
 CNDC v19
 (LD false 1 (AV.ptr nx 2) (H.put nx (some (AObj.row a0.cells.length a0.cells))) fun v20 =>
 Q (AV.tup [v20, AV.int IntKind.i64 1]) (H.put nx (some (AObj.row a0.cells.length a0.cells))) (nx + 1))
 (Q (AV.tup [AV.int IntKind.i64 0, AV.int IntKind.i64 0]) (H.put nx (some (AObj.row a0.cells.length a0.cells))) (nx + 1)))))))))))))))))))
theorem znt (a0 : AV) (H : Heap) (nx : Nat) (Q : QT) : zip a0 H nx Q → za Tryd.prog 73 [a0] H nx Q :=
  zn (lv := lvOf []) (c := zy Tryd.f73) zak zan mixed Tryd.func73 (by kernel_rfl) (by kernel_rfl) (by kernel_rfl) (by kernel_rfl) (by kernel_rfl)
def zad (v25 : AV) (Q : QT) (nx16 : Nat) (v21 : AV) (v27 : AV) (K13 : J3) (xs14 : List AV) (v45 : AV) (H46 : Heap) (nx47 : Nat) : Prop :=
 EX v45 0 fun v48 =>
 EX v45 1 fun v49 =>
 BI BinOp.lss v25 v48 fun v50 =>
 CND v50
 (Q (AV.tup [AV.nils, AV.int IntKind.i64 10]) H46 nx47)
 (LD false 1 (AV.ptr nx16 0) H46 fun v51 =>
 BI BinOp.eql v51 (AV.int IntKind.i64 18) fun v52 =>
 CND v52
 (BI BinOp.neq v25 (AV.int IntKind.i64 1) fun v53 =>
 CNDC v53
 (Q (AV.tup [AV.nils, AV.int IntKind.i64 10]) H46 nx47)
 (BI BinOp.sub v49 v48 fun v54 =>
 BI BinOp.add v25 v54 fun v55 =>
 BI BinOp.gtr v55 (AV.int IntKind.i64 16) fun v56 =>
 CNDC v56
 (Q (AV.tup [AV.nils, AV.int IntKind.i64 4]) H46 nx47)
 (LD false 1 (AV.ptr nx16 0) H46 fun v57 =>
 BI BinOp.neq v57 (AV.int IntKind.i64 15) fun v58 =>
 CND v58
 (LD false 1 (AV.ptr nx16 0) H46 fun v59 =>
 BI BinOp.neq v59 (AV.int IntKind.i64 18) fun v60 =>
 CNDC v60
 (BI BinOp.add v21 (AV.int IntKind.i64 1) fun v61 =>
 BD (fun i => some (i * 1, 1)) [AV.int IntKind.i64 0, AV.int IntKind.i64 0] [(0, v61), (1, v55)] fun v62 =>
 BSL 1 2 [AV.int IntKind.i64 0, AV.int IntKind.i64 0] [(0, v62)] fun cells63 =>
 APP 2 16 v27 (AV.slc nx47 0 1) (H46.put nx47 (some (AObj.row 2 cells63))) (nx47 + 1) fun v64 H65 nx66 =>
 LD false 1 (AV.ptr nx16 0) H65 fun v67 =>
 BI BinOp.eql v67 (AV.int IntKind.i64 15) fun v68 =>
 CND v68
 (LD false 1 (AV.ptr nx16 1) H65 fun v69 =>
 BD (fun i => some (i * 1, 1)) [AV.int IntKind.i64 0, AV.int IntKind.i64 0] [(0, v69), (1, v55)] fun v70 =>
 BSL 1 2 [AV.int IntKind.i64 0, AV.int IntKind.i64 0] [(0, v70)] fun cells71 =>
 APP 2 16 v64 (AV.slc nx66 0 1) (H65.put nx66 (some (AObj.row 2 cells71))) (nx66 + 1) fun v72 H73 nx74 =>
 K13 [nth xs14 0, nth xs14 1, v72] H73 nx74)
 (LD false 1 (AV.ptr nx16 0) H65 fun v75 =>
 BI BinOp.eql v75 (AV.int IntKind.i64 16) fun v76 =>
 CNDC v76
 (LD false 1 (AV.ptr nx16 1) H65 fun v77 =>
 BD (fun i => some (i * 1, 1)) [AV.int IntKind.i64 0, AV.int IntKind.i64 0] [(0, v77), (1, v55)] fun v78 =>
 BSL 1 2 [AV.int IntKind.i64 0, AV.int IntKind.i64 0] [(0, v78)] fun cells79 =>
 APP 2 16 v64 (AV.slc nx66 0 1) (H65.put nx66 (some (AObj.row 2 cells79))) (nx66 + 1) fun v80 H81 nx82 =>
 K13 [nth xs14 0, nth xs14 1, v80] H81 nx82)
 (K13 [nth xs14 0, nth xs14 1, v64] H65 nx66)))
 (LD false 1 (AV.ptr nx16 0) H46 fun v83 =>
 BI BinOp.eql v83 (AV.int IntKind.i64 15) fun v84 =>
 CND v84
 (LD false 1 (AV.ptr nx16 1) H46 fun v85 =>
 BD (fun i => some (i * 1, 1)) [AV.int IntKind.i64 0, AV.int IntKind.i64 0] [(0, v85), (1, v55)] fun v86 =>
 BSL 1 2 [AV.int IntKind.i64 0, AV.int IntKind.i64 0] [(0, v86)] fun cells87 =>
 APP 2 16 v27 (AV.slc nx47 0 1) (H46.put nx47 (some (AObj.row 2 cells87))) (nx47 + 1) fun v88 H89 nx90 =>
 K13 [nth xs14 0, nth xs14 1, v88] H89 nx90)
 (LD false 1 (AV.ptr nx16 0) H46 fun v91 =>
 BI BinOp.eql v91 (AV.int IntKind.i64 16) fun v92 =>
 CNDC v92
 (LD false 1 (AV.ptr nx16 1) H46 fun v93 =>
 BD (fun i => some (i * 1, 1)) [AV.int IntKind.i64 0, AV.int IntKind.i64 0] [(0, v93), (1, v55)] fun v94 =>
 BSL 1 2 [AV.int IntKind.i64 0, AV.int IntKind.i64 0] [(0, v94)] fun cells95 =>
 APP 2 16 v27 (AV.slc nx47 0 1) (H46.put nx47 (some (AObj.row 2 cells95))) (nx47 + 1) fun v96 H97 nx98 =>
 K13 [nth xs14 0, nth xs14 1, v96] H97 nx98)
 (K13 [nth xs14 0, nth xs14 1, v27] H46 nx47))))
 (LD false 1 (AV.ptr nx16 0) H46 fun v99 =>
 BI BinOp.eql v99 (AV.int IntKind.i64 15) fun v100 =>
 CND v100
 (LD false 1 (AV.ptr nx16 1) H46 fun v101 =>
 BD (fun i => some (i * 1, 1)) [AV.int IntKind.i64 0, AV.int IntKind.i64 0] [(0, v101), (1, v55)] fun v102 =>
 BSL 1 2 [AV.int IntKind.i64 0, AV.int IntKind.i64 0] [(0, v102)] fun cells103 =>
 APP 2 16 v27 (AV.slc nx47 0 1) (H46.put nx47 (some (AObj.row 2 cells103))) (nx47 + 1) fun v104 H105 nx106 =>
 K13 [nth xs14 0, nth xs14 1, v104] H105 nx106)
 (LD false 1 (AV.ptr nx16 0) H46 fun v107 =>
 BI BinOp.eql v107 (AV.int IntKind.i64 16) fun v108 =>
 CNDC v108
 (LD false 1 (AV.ptr nx16 1) H46 fun v109 =>
 BD (fun i => some (i * 1, 1)) [AV.int IntKind.i64 0, AV.int IntKind.i64 0] [(0, v109), (1, v55)] fun v110 =>
 BSL 1 2 [AV.int IntKind.i64 0, AV.int IntKind.i64 0] [(0, v110)] fun cells111 =>
 APP 2 16 v27 (AV.slc nx47 0 1) (H46.put nx47 (some (AObj.row 2 cells111))) (nx47 + 1) fun v112 H113 nx114 =>
 K13 [nth xs14 0, nth xs14 1, v112] H113 nx114)
 (K13 [nth xs14 0, nth xs14 1, v27] H46 nx47))))))
 (BI BinOp.sub v49 v48 fun v115 =>
 BI BinOp.add v25 v115 fun v116 =>
 BI BinOp.gtr v116 (AV.int IntKind.i64 16) fun v117 =>
 CNDC v117
 (Q (AV.tup [AV.nils, AV.int IntKind.i64 4]) H46 nx47)
 (LD false 1 (AV.ptr nx16 0) H46 fun v118 =>
 BI BinOp.neq v118 (AV.int IntKind.i64 15) fun v119 =>
 CND v119
 (LD false 1 (AV.ptr nx16 0) H46 fun v120 =>
 BI BinOp.neq v120 (AV.int IntKind.i64 18) fun v121 =>
 CNDC v121
 (BI BinOp.add v21 (AV.int IntKind.i64 1) fun v122 =>
 BD (fun i => some (i * 1, 1)) [AV.int IntKind.i64 0, AV.int IntKind.i64 0] [(0, v122), (1, v116)] fun v123 =>
 BSL 1 2 [AV.int IntKind.i64 0, AV.int IntKind.i64 0] [(0, v123)] fun cells124 =>
 APP 2 16 v27 (AV.slc nx47 0 1) (H46.put nx47 (some (AObj.row 2 cells124))) (nx47 + 1) fun v125 H126 nx127 =>
 LD false 1 (AV.ptr nx16 0) H126 fun v128 =>
 BI BinOp.eql v128 (AV.int IntKind.i64 15) fun v129 =>
 CND v129
 (LD false 1 (AV.ptr nx16 1) H126 fun v130 =>
 BD (fun i => some (i * 1, 1)) [AV.int IntKind.i64 0, AV.int IntKind.i64 0] [(0, v130), (1, v116)] fun v131 =>
 BSL 1 2 [AV.int IntKind.i64 0, AV.int IntKind.i64 0] [(0, v131)] fun cells132 =>
 APP 2 16 v125 (AV.slc nx127 0 1) (H126.put nx127 (some (AObj.row 2 cells132))) (nx127 + 1) fun v133 H134 nx135 =>
 K13 [nth xs14 0, nth xs14 1, v133] H134 nx135)
 (LD false 1 (AV.ptr nx16 0) H126 fun v136 =>
 BI BinOp.eql v136 (AV.int IntKind.i64 16) fun v137 =>
 CNDC v137
 (LD false 1 (AV.ptr nx16 1) H126 fun v138 =>
 BD (fun i => some (i * 1, 1)) [AV.int IntKind.i64 0, AV.int IntKind.i64 0] [(0, v138), (1, v116)] fun v139 =>
 BSL 1 2 [AV.int IntKind.i64 0, AV.int IntKind.i64 0] [(0, v139)] fun cells140 =>
 APP 2 16 v125 (AV.slc nx127 0 1) (H126.put nx127 (some (AObj.row 2 cells140))) (nx127 + 1) fun v141 H142 nx143 =>
 K13 [nth xs14 0, nth xs14 1, v141] H142 nx143)
 (K13 [nth xs14 0, nth xs14 1, v125] H126 nx127)))
 (LD false 1 (AV.ptr nx16 0) H46 fun v144 =>
 BI BinOp.eql v144 (AV.int IntKind.i64 15) fun v145 =>
 CND v145
 (LD false 1 (AV.ptr nx16 1) H46 fun v146 =>
 BD (fun i => some (i * 1, 1)) [AV.int IntKind.i64 0, AV.int IntKind.i64 0] [(0, v146), (1, v116)] fun v147 =>
 BSL 1 2 [AV.int IntKind.i64 0, AV.int IntKind.i64 0] [(0, v147)] fun cells148 =>
 APP 2 16 v27 (AV.slc nx47 0 1) (H46.put nx47 (some (AObj.row 2 cells148))) (nx47 + 1) fun v149 H150 nx151 =>
 K13 [nth xs14 0, nth xs14 1, v149] H150 nx151)
 (LD false 1 (AV.ptr nx16 0) H46 fun v152 =>
 BI BinOp.eql v152 (AV.int IntKind.i64 16) fun v153 =>
 CNDC v153
 (LD false 1 (AV.ptr nx16 1) H46 fun v154 =>
 BD (fun i => some (i * 1, 1)) [AV.int IntKind.i64 0, AV.int IntKind.i64 0] [(0, v154), (1, v116)] fun v155 =>
 BSL 1 2 [AV.int IntKind.i64 0, AV.int IntKind.i64 0] [(0, v155)] fun cells156 =>
 APP 2 16 v27 (AV.slc nx47 0 1) (H46.put nx47 (some (AObj.row 2 cells156))) (nx47 + 1) fun v157 H158 nx159 =>
 K13 [nth xs14 0, nth xs14 1, v157] H158 nx159)
 (K13 [nth xs14 0, nth xs14 1, v27] H46 nx47))))
 (LD false 1 (AV.ptr nx16 0) H46 fun v160 =>
 BI BinOp.eql v160 (AV.int IntKind.i64 15) fun v161 =>
 CND v161
 (LD false 1 (AV.ptr nx16 1) H46 fun v162 =>
 BD (fun i => some (i * 1, 1)) [AV.int IntKind.i64 0, AV.int IntKind.i64 0] [(0, v162), (1, v116)] fun v163 =>
 BSL 1 2 [AV.int IntKind.i64 0, AV.int IntKind.i64 0] [(0, v163)] fun cells164 =>
 APP 2 16 v27 (AV.slc nx47 0 1) (H46.put nx47 (some (AObj.row 2 cells164))) (nx47 + 1) fun v165 H166 nx167 =>
 K13 [nth xs14 0, nth xs14 1, v165] H166 nx167)
 (LD false 1 (AV.ptr nx16 0) H46 fun v168 =>
 BI BinOp.eql v168 (AV.int IntKind.i64 16) fun v169 =>
 CNDC v169
 (LD false 1 (AV.ptr nx16 1) H46 fun v170 =>
 BD (fun i => some (i * 1, 1)) [AV.int IntKind.i64 0, AV.int IntKind.i64 0] [(0, v170), (1, v116)] fun v171 =>
 BSL 1 2 [AV.int IntKind.i64 0, AV.int IntKind.i64 0] [(0, v171)] fun cells172 =>
 APP 2 16 v27 (AV.slc nx47 0 1) (H46.put nx47 (some (AObj.row 2 cells172))) (nx47 + 1) fun v173 H174 nx175 =>
 K13 [nth xs14 0, nth xs14 1, v173] H174 nx175)
 (K13 [nth xs14 0, nth xs14 1, v27] H46 nx47))))))
def zaq (Q : QT) (K13 : J3) (xs14 : List AV) (H15 : Heap) (nx16 : Nat) : Prop :=
 LNL (nth xs14 2) fun v17 =>
 BI BinOp.gtr v17 (AV.int IntKind.i64 0) fun v18 =>
 CNDC v18
 (IA 2 (nth xs14 2) (AV.int IntKind.i64 0) fun v19 =>
 AA 1 2 v19 (AV.int IntKind.i64 0) fun v20 =>
 LDR false 1 v20 H15 fun v21 _ =>
 IA 2 (nth xs14 2) (AV.int IntKind.i64 0) fun v23 =>
 AA 1 2 v23 (AV.int IntKind.i64 1) fun v24 =>
 LDR false 1 v24 H15 fun v25 _ =>
 SL 2 (nth xs14 2) (some (AV.int IntKind.i64 1)) none H15 fun v27 =>
 BI BinOp.lss v21 (AV.int IntKind.i64 0) fun v28 =>
 CND v28
 (Q (AV.tup [AV.nils, AV.int IntKind.i64 8]) H15 nx16)
 (LNL (nth xs14 1) fun v29 =>
 BI BinOp.geq v21 v29 fun v30 =>
 CNDC v30
 (Q (AV.tup [AV.nils, AV.int IntKind.i64 8]) H15 nx16)
 (IA 1 (nth xs14 1) v21 fun v31 =>
 LD false 1 v31 H15 fun v32 =>
 BI BinOp.geq v32 (AV.int IntKind.i64 0) fun v33 =>
 CNDC v33
 (IA 1 (nth xs14 1) v21 fun v34 =>
 LD false 1 v34 H15 fun v35 =>
 BI BinOp.neq v35 v25 fun v36 =>
 CNDC v36
 (Q (AV.tup [AV.nils, AV.int IntKind.i64 10]) H15 nx16)
 (K13 [nth xs14 0, nth xs14 1, v27] H15 nx16))
 (IA 1 (nth xs14 1) v21 fun v37 =>
 ST 1 v37 v25 H15 fun H38 =>
 FA 2 (nth xs14 0) fun v39 =>
 LD false 1 v39 H38 fun v40 =>
 IA 3 v40 v21 fun v41 =>
 LD true 3 v41 H38 fun v42 =>
 ST 3 (AV.ptr nx16 0) v42 (H38.put nx16 (some (AObj.row 3 [AV.int IntKind.i64 0, AV.int IntKind.i64 0, AV.int IntKind.i64 0]))) fun H43 =>
 LD true 3 (AV.ptr nx16 0) H43 fun v44 =>
 za Tryd.prog 73 [v44] H43 (nx16 + 1) (zad v25 Q nx16 v21 v27 K13 xs14)))))
 (Q (AV.tup [nth xs14 1, AV.int IntKind.i64 0]) H15 nx16)
def zhp (Q : QT) (K5 : J3) (xs6 : List AV) (H7 : Heap) (nx8 : Nat) : Prop :=
 BI BinOp.lss (nth xs6 3) (nth xs6 2) fun v9 =>
 CNDC v9
 (IA 1 (nth xs6 1) (nth xs6 3) fun v10 =>
 ST 1 v10 (AV.int IntKind.i64 (-1)) H7 fun H11 =>
 BI BinOp.add (nth xs6 3) (AV.int IntKind.i64 1) fun v12 =>
 K5 [nth xs6 0, nth xs6 1, nth xs6 2, v12] H11 nx8)
 (LP (zaq Q) [nth xs6 0, nth xs6 1, AV.slc nx8 0 1] (H7.put nx8 (some (AObj.row 2 [AV.int IntKind.i64 0, AV.int IntKind.i64 0]))) (nx8 + 1))
def zho (a0 : AV) (H : Heap) (nx : Nat) (Q : QT) : Prop :=
 a0.sure = true ∧
 LD false 1 (AV.ptr nx 2) (H.put nx (some (AObj.row a0.cells.length a0.cells))) fun v1 =>
 LNL v1 fun v2 =>
 MK 8 v2 v2 fun n3 =>
 LNL (AV.slc (nx + 1) 0 n3) fun v4 =>
 LP (zhp Q) [AV.ptr nx 0, AV.slc (nx + 1) 0 n3, v4, AV.int IntKind.i64 0] ((H.put nx (some (AObj.row a0.cells.length a0.cells))).put ((nx + 1)) (some (AObj.row 1 (List.replicate n3 [AV.int IntKind.i64 0]).flatten))) (nx + 2)
theorem zly (a0 : AV) (H : Heap) (nx : Nat) (Q : QT) : zho a0 H nx Q → za Tryd.prog 39 [a0] H nx Q :=
  zn (lv := lvOf [(2, 3, [1, 4, 17, 18]), (2, 8, [1, 4, 6])]) (c := zy Tryd.f39) zak zan mixed Tryd.func39 (by kernel_rfl) (by kernel_rfl) (by kernel_rfl) (by kernel_rfl) (by kernel_rfl)
def zoi (Q : QT) (K4 : J3) (xs5 : List AV) (H6 : Heap) (nx7 : Nat) : Prop :=
 BI BinOp.lss (nth xs5 2) (nth xs5 1) fun v8 =>
 CNDC v8
 (IX (nth xs5 0) (nth xs5 2) fun v9 =>
 BI BinOp.lss v9 (AV.int IntKind.u8 32) fun v10 =>
 CND v10
 (Q (AV.bool false) H6 nx7)
 (IX (nth xs5 0) (nth xs5 2) fun v11 =>
 BI BinOp.gtr v11 (AV.int IntKind.u8 126) fun v12 =>
 CND v12
 (Q (AV.bool false) H6 nx7)
 (IX (nth xs5 0) (nth xs5 2) fun v13 =>
 BI BinOp.eql v13 (AV.int IntKind.u8 39) fun v14 =>
 CNDC v14
 (Q (AV.bool false) H6 nx7)
 (BI BinOp.add (nth xs5 2) (AV.int IntKind.i64 1) fun v15 =>
 K4 [nth xs5 0, nth xs5 1, v15] H6 nx7))))
 (Q (AV.bool true) H6 nx7)
def zoh (a0 : AV) (H : Heap) (nx : Nat) (Q : QT) : Prop :=
 LNS a0 fun v1 =>
 BI BinOp.gtr v1 (AV.int IntKind.i64 12) fun v2 =>
 CNDC v2
 (Q (AV.bool false) H nx)
 (LNS a0 fun v3 =>
 LP (zoi Q) [a0, v3, AV.int IntKind.i64 0] H nx)
theorem zry (a0 : AV) (H : Heap) (nx : Nat) (Q : QT) : zoh a0 H nx Q → za Tryd.prog 50 [a0] H nx Q :=
  zn (lv := lvOf [(2, 4, [0, 8, 9])]) (c := zy Tryd.f50) zak zan mixed Tryd.func50 (by kernel_rfl) (by kernel_rfl) (by kernel_rfl) (by kernel_rfl) (by kernel_rfl)
def zgd (a0 a1 : AV) (H : Heap) (nx : Nat) (Q : QT) : Prop :=
 BI BinOp.geq a0 (AV.int IntKind.i64 0) fun v1 =>
 CND v1
 (BI BinOp.lss a0 a1 fun v2 =>
 Q v2 H nx)
 (Q (AV.bool false) H nx)
theorem zkm (a0 a1 : AV) (H : Heap) (nx : Nat) (Q : QT) : zgd a0 a1 H nx Q → za Tryd.prog 77 [a0, a1] H nx Q :=
  zn (lv := lvOf []) (c := zy Tryd.f77) zak zan mixed Tryd.func77 (by kernel_rfl) (by kernel_rfl) (by kernel_rfl) (by kernel_rfl) (by kernel_rfl)
def zbf (j7 : J3) (nx : Nat) (H : Heap) (a2 : AV) (v34 : AV) (rd35 : List Nat) (fr36 : List Nat) (D37 : zi) : Prop :=
 j7 [AV.ptr nx 0, v34] ((H.put nx (some (AObj.row a2.cells.length a2.cells))).apply D37) ((nx + 1) + fr36.length)
def zbe (j7 : J3) (xs38 : List AV) (H39 : Heap) (nx40 : Nat) (v49 : AV) (rd50 : List Nat) (fr51 : List Nat) (D52 : zi) : Prop :=
 j7 [nth xs38 2, v49] (H39.apply D52) (nx40 + fr51.length)
def zbd (j7 : J3) (xs38 : List AV) (H39 : Heap) (nx40 : Nat) (v69 : AV) (rd70 : List Nat) (fr71 : List Nat) (D72 : zi) : Prop :=
 j7 [nth xs38 2, v69] (H39.apply D72) (nx40 + fr71.length)
def zbc (j7 : J3) (xs38 : List AV) (H39 : Heap) (nx40 : Nat) (v82 : AV) (rd83 : List Nat) (fr84 : List Nat) (D85 : zi) : Prop :=
 j7 [nth xs38 2, v82] (H39.apply D85) (nx40 + fr84.length)
def zbb (xs38 : List AV) (H39 : Heap) (j7 : J3) (nx40 : Nat) (v95 : AV) (_ : List Nat) (fr97 : List Nat) (D98 : zi) : Prop :=
 CND v95
 (FA 2 (nth xs38 2) fun v99 =>
 LDR false 1 v99 (H39.apply D98) fun v100 _ =>
 NC (nth xs38 0) fun v102 =>
 FA 0 v102 fun v103 =>
 LDR false 1 v103 (H39.apply D98) fun v104 _ =>
 FA 1 (nth xs38 2) fun v106 =>
 LDR false 1 v106 (H39.apply D98) fun v107 _ =>
 IA 3 v104 v107 fun v109 =>
 FA 0 v109 fun v110 =>
 LDR false 1 v110 (H39.apply D98) fun v111 _ =>
 BI BinOp.eql v100 v111 fun v113 =>
 j7 [nth xs38 2, v113] (H39.apply D98) (nx40 + fr97.length))
 (j7 [nth xs38 2, AV.bool false] (H39.apply D98) (nx40 + fr97.length))
def zbh (j7 : J3) (xs38 : List AV) (H39 : Heap) (nx40 : Nat) : Prop :=
 CNDC (nth xs38 6)
 (FA 1 (nth xs38 2) fun v42 =>
 LDR false 1 v42 H39 fun v43 _ =>
 NC (nth xs38 1) fun v45 =>
 FA 1 v45 fun v46 =>
 LDR false 1 v46 H39 fun v47 _ =>
 zx Tryd.prog (nth xs38 3) [v43, v47] H39 nx40 (zbe j7 xs38 H39 nx40))
 (BI BinOp.eql (nth xs38 5) (AV.int IntKind.i64 5) fun v53 =>
 CNDC v53
 (FA 1 (nth xs38 2) fun v54 =>
 LD false 1 v54 H39 fun v55 =>
 BI BinOp.geq v55 (AV.int IntKind.i64 1) fun v56 =>
 CND v56
 (FA 1 (nth xs38 2) fun v57 =>
 LD false 1 v57 H39 fun v58 =>
 BI BinOp.leq v58 (AV.int IntKind.i64 5) fun v59 =>
 j7 [nth xs38 2, v59] H39 nx40)
 (j7 [nth xs38 2, AV.bool false] H39 nx40))
 (BI BinOp.eql (nth xs38 5) (AV.int IntKind.i64 15) fun v60 =>
 CNDC v60
 (FA 1 (nth xs38 2) fun v61 =>
 LDR false 1 v61 H39 fun v62 _ =>
 NC (nth xs38 1) fun v64 =>
 FA 2 v64 fun v65 =>
 LDR false 1 v65 H39 fun v66 _ =>
 LNL v66 fun v68 =>
 zx Tryd.prog (nth xs38 3) [v62, v68] H39 nx40 (zbd j7 xs38 H39 nx40))
 (BI BinOp.eql (nth xs38 5) (AV.int IntKind.i64 16) fun v73 =>
 CNDC v73
 (FA 1 (nth xs38 2) fun v74 =>
 LDR false 1 v74 H39 fun v75 _ =>
 NC (nth xs38 1) fun v77 =>
 FA 2 v77 fun v78 =>
 LDR false 1 v78 H39 fun v79 _ =>
 LNL v79 fun v81 =>
 zx Tryd.prog (nth xs38 3) [v75, v81] H39 nx40 (zbc j7 xs38 H39 nx40))
 (BI BinOp.eql (nth xs38 5) (AV.int IntKind.i64 17) fun v86 =>
 CNDC v86
 (FA 1 (nth xs38 2) fun v87 =>
 LDR false 1 v87 H39 fun v88 _ =>
 NC (nth xs38 0) fun v90 =>
 FA 0 v90 fun v91 =>
 LDR false 1 v91 H39 fun v92 _ =>
 LNL v92 fun v94 =>
 zx Tryd.prog (nth xs38 3) [v88, v94] H39 nx40 (zbb xs38 H39 j7 nx40))
 (j7 [nth xs38 2, nth xs38 4] H39 nx40)))))
def zbj (v3 : AV) (a0 : AV) (a1 : AV) (nx : Nat) (v2 : AV) (H : Heap) (a2 : AV) (j41 : J3) : Prop :=
 BI BinOp.eql v3 (AV.int IntKind.i64 3) fun v114 =>
 CNDC v114
 (j41 [a0, a1, AV.ptr nx 0, AV.clo 77 [], v2, v3, AV.bool true] (H.put nx (some (AObj.row a2.cells.length a2.cells))) (nx + 1))
 (BI BinOp.eql v3 (AV.int IntKind.i64 4) fun v115 =>
 j41 [a0, a1, AV.ptr nx 0, AV.clo 77 [], v2, v3, v115] (H.put nx (some (AObj.row a2.cells.length a2.cells))) (nx + 1))
def zbg (Q : QT) (xs4 : List AV) (H5 : Heap) (nx6 : Nat) : Prop :=
 FA 0 (nth xs4 0) fun v8 =>
 LD false 1 v8 H5 fun v9 =>
 BI BinOp.lss v9 (AV.int IntKind.i64 1) fun v10 =>
 CND v10
 (Q (AV.int IntKind.i64 1) H5 nx6)
 (FA 0 (nth xs4 0) fun v11 =>
 LD false 1 v11 H5 fun v12 =>
 BI BinOp.gtr v12 (AV.int IntKind.i64 19) fun v13 =>
 CNDC v13
 (Q (AV.int IntKind.i64 1) H5 nx6)
 (UO UnOp.not (nth xs4 1) fun v14 =>
 CND v14
 (Q (AV.int IntKind.i64 3) H5 nx6)
 (FA 0 (nth xs4 0) fun v15 =>
 LD false 1 v15 H5 fun v16 =>
 BI BinOp.neq v16 (AV.int IntKind.i64 17) fun v17 =>
 CND v17
 (FA 2 (nth xs4 0) fun v18 =>
 LD false 1 v18 H5 fun v19 =>
 BI BinOp.neq v19 (AV.int IntKind.i64 0) fun v20 =>
 CNDC v20
 (Q (AV.int IntKind.i64 3) H5 nx6)
 (Q (AV.int IntKind.i64 0) H5 nx6))
 (Q (AV.int IntKind.i64 0) H5 nx6))))
def zbi (v3 : AV) (nx : Nat) (H : Heap) (a2 : AV) (a0 : AV) (a1 : AV) (v2 : AV) (j7 : J3) : Prop :=
 BI BinOp.eql v3 (AV.int IntKind.i64 1) fun v21 =>
 CNDC v21
 (LD false 1 (AV.ptr nx 1) (H.put nx (some (AObj.row a2.cells.length a2.cells))) fun v22 =>
 BI BinOp.geq v22 (AV.int IntKind.i64 (-1073741824)) fun v23 =>
 CND v23
 (LD false 1 (AV.ptr nx 1) (H.put nx (some (AObj.row a2.cells.length a2.cells))) fun v24 =>
 BI BinOp.leq v24 (AV.int IntKind.i64 1073741824) fun v25 =>
 j7 [AV.ptr nx 0, v25] (H.put nx (some (AObj.row a2.cells.length a2.cells))) (nx + 1))
 (j7 [AV.ptr nx 0, AV.bool false] (H.put nx (some (AObj.row a2.cells.length a2.cells))) (nx + 1)))
 (BI BinOp.eql v3 (AV.int IntKind.i64 2) fun v26 =>
 CNDC v26
 (LDR false 1 (AV.ptr nx 1) (H.put nx (some (AObj.row a2.cells.length a2.cells))) fun v27 _ =>
 NC a0 fun v29 =>
 FA 1 v29 fun v30 =>
 LDR false 1 v30 (H.put nx (some (AObj.row a2.cells.length a2.cells))) fun v31 _ =>
 LNL v31 fun v33 =>
 zx Tryd.prog (AV.clo 77 []) [v27, v33] (H.put nx (some (AObj.row a2.cells.length a2.cells))) (nx + 1) (zbf j7 nx H a2))
 (JN (zbh j7) (zbj v3 a0 a1 nx v2 H a2)))
def zhj (a0 a1 a2 : AV) (H : Heap) (nx : Nat) (Q : QT) : Prop :=
 a2.sure = true ∧
 LD false 1 (AV.ptr nx 1) (H.put nx (some (AObj.row a2.cells.length a2.cells))) fun v1 =>
 BI BinOp.eql v1 (AV.int IntKind.i64 0) fun v2 =>
 LD false 1 (AV.ptr nx 0) (H.put nx (some (AObj.row a2.cells.length a2.cells))) fun v3 =>
 JN (zbg Q) (zbi v3 nx H a2 a0 a1 v2)
theorem zlw (a0 a1 a2 : AV) (H : Heap) (nx : Nat) (Q : QT) : zhj a0 a1 a2 H nx Q → za Tryd.prog 51 [a0, a1, a2] H nx Q :=
  zn (lv := lvOf [(1, 0, [5, 8]), (3, 10, [0, 1, 5, 7, 8, 13, 35])]) (c := zy Tryd.f51) zak zan mixed Tryd.func51 (by kernel_rfl) (by kernel_rfl) (by kernel_rfl) (by kernel_rfl) (by kernel_rfl)
def zhn (Q : QT) (xs13 : List AV) (K12 : J3) (v19 : AV) (H20 : Heap) (nx21 : Nat) : Prop :=
 UO UnOp.not v19 fun v22 =>
 CNDC v22
 (Q (AV.int IntKind.i64 7) H20 nx21)
 (BI BinOp.add (nth xs13 3) (AV.int IntKind.i64 1) fun v23 =>
 K12 [nth xs13 0, nth xs13 1, nth xs13 2, v23] H20 nx21)
def zhm (Q : QT) (H99 : Heap) (nx95 : Nat) (xs93 : List AV) (K92 : J3) (v106 : AV) (_ : List Nat) (fr108 : List Nat) (D109 : zi) : Prop :=
 BI BinOp.neq v106 (AV.int IntKind.i64 0) fun v110 =>
 CNDC v110
 (Q v106 (H99.apply D109) ((nx95 + 1) + fr108.length))
 (BI BinOp.add (nth xs93 6) (AV.int IntKind.i64 1) fun v111 =>
 K92 [nth xs93 0, nth xs93 1, nth xs93 2, nth xs93 3, nth xs93 4, nth xs93 5, v111] (H99.apply D109) ((nx95 + 1) + fr108.length))
def zhl (Q : QT) (xs93 : List AV) (K81 : J3) (v116 : AV) (H117 : Heap) (nx118 : Nat) : Prop :=
 EX v116 0 fun _ =>
 EX v116 1 fun v120 =>
 BI BinOp.neq v120 (AV.int IntKind.i64 0) fun v121 =>
 CNDC v121
 (Q v120 H117 nx118)
 (BI BinOp.add (nth xs93 3) (AV.int IntKind.i64 1) fun v122 =>
 K81 [nth xs93 0, nth xs93 2, v122] H117 nx118)
def zee (Q : QT) (K81 : J3) (K92 : J3) (xs93 : List AV) (H94 : Heap) (nx95 : Nat) : Prop :=
 BI BinOp.lss (nth xs93 6) (nth xs93 5) fun v96 =>
 CNDC v96
 (IA 3 (nth xs93 4) (nth xs93 6) fun v97 =>
 LD true 3 v97 H94 fun v98 =>
 ST 3 (AV.ptr nx95 0) v98 (H94.put nx95 (some (AObj.row 3 [AV.int IntKind.i64 0, AV.int IntKind.i64 0, AV.int IntKind.i64 0]))) fun H99 =>
 FA 0 (nth xs93 0) fun v100 =>
 LDR false 1 v100 H99 fun v101 _ =>
 IA 3 v101 (nth xs93 1) fun v103 =>
 LDR true 3 (AV.ptr nx95 0) H99 fun v104 _ =>
 zx Tryd.prog (AV.clo 51 []) [nth xs93 0, v103, v104] H99 (nx95 + 1) (zhm Q H99 nx95 xs93 K92))
 (FA 0 (nth xs93 0) fun v112 =>
 LD false 1 v112 H94 fun v113 =>
 IA 3 v113 (nth xs93 1) fun v114 =>
 LD true 3 v114 H94 fun v115 =>
 za Tryd.prog 39 [v115] H94 nx95 (zhl Q xs93 K81))
def zed (Q : QT) (K81 : J3) (xs82 : List AV) (H83 : Heap) (nx84 : Nat) : Prop :=
 BI BinOp.lss (nth xs82 2) (nth xs82 1) fun v85 =>
 CNDC v85
 (FA 0 (nth xs82 0) fun v86 =>
 LD false 1 v86 H83 fun v87 =>
 IA 3 v87 (nth xs82 2) fun v88 =>
 FA 2 v88 fun v89 =>
 LD false 1 v89 H83 fun v90 =>
 LNL v90 fun v91 =>
 LP (zee Q K81) [nth xs82 0, nth xs82 2, nth xs82 1, nth xs82 2, v90, v91, AV.int IntKind.i64 0] H83 nx84)
 (Q (AV.int IntKind.i64 0) H83 nx84)
def zec (Q : QT) (K33 : J3) (xs34 : List AV) (H35 : Heap) (nx36 : Nat) : Prop :=
 BI BinOp.lss (nth xs34 2) (nth xs34 1) fun v37 =>
 CNDC v37
 (FA 0 (nth xs34 0) fun v38 =>
 LD false 1 v38 H35 fun v39 =>
 IA 3 v39 (nth xs34 2) fun v40 =>
 NC v40 fun v41 =>
 FA 0 v41 fun v42 =>
 LDR false 1 v42 H35 fun v43 _ =>
 BI BinOp.lss v43 (AV.int IntKind.i64 0) fun v45 =>
 CND v45
 (Q (AV.int IntKind.i64 3) H35 nx36)
 (NC v40 fun v46 =>
 FA 0 v46 fun v47 =>
 LDR false 1 v47 H35 fun v48 _ =>
 BI BinOp.gtr v48 (AV.int IntKind.i64 4) fun v50 =>
 CND v50
 (Q (AV.int IntKind.i64 3) H35 nx36)
 (NC v40 fun v51 =>
 FA 1 v51 fun v52 =>
 LDR false 1 v52 H35 fun v53 _ =>
 NC v40 fun v55 =>
 FA 0 v55 fun v56 =>
 LDR false 1 v56 H35 fun v57 _ =>
 BI BinOp.lss v53 v57 fun v59 =>
 CND v59
 (Q (AV.int IntKind.i64 3) H35 nx36)
 (NC v40 fun v60 =>
 FA 1 v60 fun v61 =>
 LDR false 1 v61 H35 fun v62 _ =>
 BI BinOp.gtr v62 (AV.int IntKind.i64 8) fun v64 =>
 CND v64
 (Q (AV.int IntKind.i64 3) H35 nx36)
 (NC v40 fun v65 =>
 FA 2 v65 fun v66 =>
 LDR false 1 v66 H35 fun v67 _ =>
 LNL v67 fun v69 =>
 BI BinOp.lss v69 (AV.int IntKind.i64 1) fun v70 =>
 CND v70
 (Q (AV.int IntKind.i64 3) H35 nx36)
 (NC v40 fun v71 =>
 FA 2 v71 fun v72 =>
 LDR false 1 v72 H35 fun v73 _ =>
 LNL v73 fun v75 =>
 BI BinOp.gtr v75 (AV.int IntKind.i64 200) fun v76 =>
 CNDC v76
 (Q (AV.int IntKind.i64 3) H35 nx36)
 (BI BinOp.add (nth xs34 2) (AV.int IntKind.i64 1) fun v77 =>
 K33 [nth xs34 0, nth xs34 1, v77] H35 nx36)))))))
 (FA 0 (nth xs34 0) fun v78 =>
 LD false 1 v78 H35 fun v79 =>
 LNL v79 fun v80 =>
 LP (zed Q) [nth xs34 0, v80, AV.int IntKind.i64 0] H35 nx36)
def zeb (Q : QT) (K12 : J3) (xs13 : List AV) (H14 : Heap) (nx15 : Nat) : Prop :=
 BI BinOp.lss (nth xs13 3) (nth xs13 2) fun v16 =>
 CNDC v16
 (IA 1 (nth xs13 1) (nth xs13 3) fun v17 =>
 LD false 1 v17 H14 fun v18 =>
 za Tryd.prog 50 [v18] H14 nx15 (zhn Q xs13 K12))
 (FA 0 (nth xs13 0) fun v24 =>
 LD false 1 v24 H14 fun v25 =>
 IA 3 v25 (AV.int IntKind.i64 0) fun v26 =>
 FA 0 v26 fun v27 =>
 LD false 1 v27 H14 fun v28 =>
 BI BinOp.neq v28 (AV.int IntKind.i64 0) fun v29 =>
 CNDC v29
 (Q (AV.int IntKind.i64 10) H14 nx15)
 (FA 0 (nth xs13 0) fun v30 =>
 LD false 1 v30 H14 fun v31 =>
 LNL v31 fun v32 =>
 LP (zec Q) [nth xs13 0, v32, AV.int IntKind.i64 0] H14 nx15))
def zhk (a0 : AV) (H : Heap) (nx : Nat) (Q : QT) : Prop :=
 a0.sure = true ∧
 LD false 1 (AV.ptr nx 0) (H.put nx (some (AObj.row a0.cells.length a0.cells))) fun v1 =>
 LNL v1 fun v2 =>
 BI BinOp.lss v2 (AV.int IntKind.i64 1) fun v3 =>
 CND v3
 (Q (AV.int IntKind.i64 5) (H.put nx (some (AObj.row a0.cells.length a0.cells))) (nx + 1))
 (LD false 1 (AV.ptr nx 0) (H.put nx (some (AObj.row a0.cells.length a0.cells))) fun v4 =>
 LNL v4 fun v5 =>
 BI BinOp.gtr v5 (AV.int IntKind.i64 5) fun v6 =>
 CNDC v6
 (Q (AV.int IntKind.i64 5) (H.put nx (some (AObj.row a0.cells.length a0.cells))) (nx + 1))
 (LD false 1 (AV.ptr nx 1) (H.put nx (some (AObj.row a0.cells.length a0.cells))) fun v7 =>
 LNL v7 fun v8 =>
 BI BinOp.gtr v8 (AV.int IntKind.i64 16) fun v9 =>
 CNDC v9
 (Q (AV.int IntKind.i64 4) (H.put nx (some (AObj.row a0.cells.length a0.cells))) (nx + 1))
 (LD false 1 (AV.ptr nx 1) (H.put nx (some (AObj.row a0.cells.length a0.cells))) fun v10 =>
 LNL v10 fun v11 =>
 LP (zeb Q) [AV.ptr nx 0, v10, v11, AV.int IntKind.i64 0] (H.put nx (some (AObj.row a0.cells.length a0.cells))) (nx + 1))))
theorem zlx (a0 : AV) (H : Heap) (nx : Nat) (Q : QT) : zhk a0 H nx Q → za Tryd.prog 19 [a0] H nx Q :=
  zn (lv := lvOf [(2, 6, [1, 28, 29, 30]), (2, 14, [1, 46, 47]), (2, 21, [1, 103, 104]), (2, 24, [1, 7, 103, 104, 112, 113, 114])]) (c := zy Tryd.f19) zak zan mixed Tryd.func19 (by kernel_rfl) (by kernel_rfl) (by kernel_rfl) (by kernel_rfl) (by kernel_rfl)
def zjr (Q : QT) (H107 : Heap) (nx103 : Nat) (xs101 : List AV) (K100 : J3) (v115 : AV) (_ : List Nat) (fr117 : List Nat) (D118 : zi) : Prop :=
 BI BinOp.neq v115 (AV.int IntKind.i64 0) fun v119 =>
 CNDC v119
 (Q v115 (H107.apply D118) ((nx103 + 1) + fr117.length))
 (BI BinOp.add (nth xs101 6) (AV.int IntKind.i64 1) fun v120 =>
 K100 [nth xs101 0, nth xs101 1, nth xs101 2, nth xs101 3, nth xs101 4, nth xs101 5, v120] (H107.apply D118) ((nx103 + 1) + fr117.length))
def zfo (Q : QT) (K92 : J3) (K100 : J3) (xs101 : List AV) (H102 : Heap) (nx103 : Nat) : Prop :=
 BI BinOp.lss (nth xs101 6) (nth xs101 5) fun v104 =>
 CNDC v104
 (IA 3 (nth xs101 4) (nth xs101 6) fun v105 =>
 LD true 3 v105 H102 fun v106 =>
 ST 3 (AV.ptr nx103 0) v106 (H102.put nx103 (some (AObj.row 3 [AV.int IntKind.i64 0, AV.int IntKind.i64 0, AV.str []]))) fun H107 =>
 LDR true 3 (AV.ptr nx103 0) H107 fun v108 _ =>
 NC (nth xs101 0) fun v110 =>
 FA 5 v110 fun v111 =>
 LDR false 1 v111 H107 fun v112 _ =>
 LNL v112 fun v114 =>
 zx Tryd.prog (AV.clo 41 []) [v108, v114] H107 (nx103 + 1) (zjr Q H107 nx103 xs101 K100))
 (BI BinOp.add (nth xs101 3) (AV.int IntKind.i64 1) fun v121 =>
 K92 [nth xs101 0, nth xs101 1, nth xs101 2, v121] H102 nx103)
def zfn (Q : QT) (K92 : J3) (xs93 : List AV) (H94 : Heap) (nx95 : Nat) : Prop :=
 BI BinOp.lss (nth xs93 3) (nth xs93 2) fun v96 =>
 CNDC v96
 (IA 1 (nth xs93 1) (nth xs93 3) fun v97 =>
 LD false 1 v97 H94 fun v98 =>
 LNL v98 fun v99 =>
 LP (zfo Q K92) [nth xs93 0, nth xs93 1, nth xs93 2, nth xs93 3, v98, v99, AV.int IntKind.i64 0] H94 nx95)
 (Q (AV.int IntKind.i64 0) H94 nx95)
def zfp (Q : QT) (j75 : J3) (xs127 : List AV) (H128 : Heap) (nx129 : Nat) : Prop :=
 NC (nth xs127 0) fun v131 =>
 FA 4 v131 fun v132 =>
 LDR false 1 v132 H128 fun v133 _ =>
 LNL v133 fun v135 =>
 BI BinOp.sub v135 (AV.int IntKind.i64 1) fun v136 =>
 BI BinOp.lss (nth xs127 1) v136 fun v137 =>
 CND v137
 (FA 0 (nth xs127 5) fun v138 =>
 LDR false 1 v138 H128 fun v139 _ =>
 BI BinOp.neq v139 (AV.int IntKind.i64 17) fun v141 =>
 CND v141
 (Q (AV.int IntKind.i64 10) H128 nx129)
 (FA 1 (nth xs127 5) fun v142 =>
 LDR false 1 v142 H128 fun v143 _ =>
 NC (nth xs127 0) fun v145 =>
 FA 4 v145 fun v146 =>
 LDR false 1 v146 H128 fun v147 _ =>
 BI BinOp.add (nth xs127 1) (AV.int IntKind.i64 1) fun v149 =>
 IA 4 v147 v149 fun v150 =>
 FA 0 v150 fun v151 =>
 LDR false 1 v151 H128 fun v152 _ =>
 BI BinOp.neq v143 v152 fun v154 =>
 CND v154
 (Q (AV.int IntKind.i64 10) H128 nx129)
 (NC (nth xs127 0) fun v155 =>
 FA 4 v155 fun v156 =>
 LDR false 1 v156 H128 fun v157 _ =>
 LNL v157 fun v159 =>
 BI BinOp.sub v159 (AV.int IntKind.i64 1) fun v160 =>
 BI BinOp.eql (nth xs127 1) v160 fun v161 =>
 CND v161
 (FA 0 (nth xs127 5) fun v162 =>
 LDR false 1 v162 H128 fun v163 _ =>
 BI BinOp.neq v163 (AV.int IntKind.i64 13) fun v165 =>
 CND v165
 (Q (AV.int IntKind.i64 10) H128 nx129)
 (NC (nth xs127 2) fun v166 =>
 FA 1 v166 fun v167 =>
 LDR false 1 v167 H128 fun v168 _ =>
 BI BinOp.sub v168 (AV.int IntKind.i64 1) fun v170 =>
 IA 1 (nth xs127 3) v170 fun v171 =>
 LDR false 1 v171 H128 fun v172 _ =>
 BI BinOp.lss v172 (AV.int IntKind.i64 0) fun v174 =>
 CNDC v174
 (Q (AV.int IntKind.i64 10) H128 nx129)
 (j75 [nth xs127 0, nth xs127 2, nth xs127 4] H128 nx129)))
 (NC (nth xs127 2) fun v175 =>
 FA 1 v175 fun v176 =>
 LDR false 1 v176 H128 fun v177 _ =>
 BI BinOp.sub v177 (AV.int IntKind.i64 1) fun v179 =>
 IA 1 (nth xs127 3) v179 fun v180 =>
 LDR false 1 v180 H128 fun v181 _ =>
 BI BinOp.lss v181 (AV.int IntKind.i64 0) fun v183 =>
 CNDC v183
 (Q (AV.int IntKind.i64 10) H128 nx129)
 (j75 [nth xs127 0, nth xs127 2, nth xs127 4] H128 nx129)))))
 (NC (nth xs127 0) fun v184 =>
 FA 4 v184 fun v185 =>
 LDR false 1 v185 H128 fun v186 _ =>
 LNL v186 fun v188 =>
 BI BinOp.sub v188 (AV.int IntKind.i64 1) fun v189 =>
 BI BinOp.eql (nth xs127 1) v189 fun v190 =>
 CND v190
 (FA 0 (nth xs127 5) fun v191 =>
 LDR false 1 v191 H128 fun v192 _ =>
 BI BinOp.neq v192 (AV.int IntKind.i64 13) fun v194 =>
 CND v194
 (Q (AV.int IntKind.i64 10) H128 nx129)
 (NC (nth xs127 2) fun v195 =>
 FA 1 v195 fun v196 =>
 LDR false 1 v196 H128 fun v197 _ =>
 BI BinOp.sub v197 (AV.int IntKind.i64 1) fun v199 =>
 IA 1 (nth xs127 3) v199 fun v200 =>
 LDR false 1 v200 H128 fun v201 _ =>
 BI BinOp.lss v201 (AV.int IntKind.i64 0) fun v203 =>
 CNDC v203
 (Q (AV.int IntKind.i64 10) H128 nx129)
 (j75 [nth xs127 0, nth xs127 2, nth xs127 4] H128 nx129)))
 (NC (nth xs127 2) fun v204 =>
 FA 1 v204 fun v205 =>
 LDR false 1 v205 H128 fun v206 _ =>
 BI BinOp.sub v206 (AV.int IntKind.i64 1) fun v208 =>
 IA 1 (nth xs127 3) v208 fun v209 =>
 LDR false 1 v209 H128 fun v210 _ =>
 BI BinOp.lss v210 (AV.int IntKind.i64 0) fun v212 =>
 CNDC v212
 (Q (AV.int IntKind.i64 10) H128 nx129)
 (j75 [nth xs127 0, nth xs127 2, nth xs127 4] H128 nx129)))
def zju (xs68 : List AV) (H69 : Heap) (nx70 : Nat) (v122 : AV) (j130 : J3) : Prop :=
 NC (nth xs68 3) fun v213 =>
 FA 2 v213 fun v214 =>
 LDR false 1 v214 H69 fun v215 rd216 =>
 NC (nth xs68 2) fun v217 =>
 FA 1 v217 fun v218 =>
 LDR false 1 v218 H69 fun v219 rd220 =>
 BI BinOp.sub v219 (AV.int IntKind.i64 1) fun v221 =>
 IA 3 v215 v221 fun v222 =>
 LDR true 3 v222 H69 fun v223 rd224 =>
 zaf 3 (AV.ptr nx70 0) v223 (H69.put nx70 (some (AObj.row 3 [AV.int IntKind.i64 0, AV.int IntKind.i64 0, AV.int IntKind.i64 0]))) fun _ _ fr227 D228 =>
 nx70 ∉ [] ∧
 nx70 ∉ [] ∧
 nx70 ∉ [] ∧
 nx70 ∉ rd216 ∧
 nx70 ∉ [] ∧
 nx70 ∉ [] ∧
 nx70 ∉ [] ∧
 nx70 ∉ rd220 ∧
 nx70 ∉ [] ∧
 nx70 ∉ [] ∧
 nx70 ∉ rd224 ∧
 j130 [nth xs68 0, nth xs68 1, nth xs68 2, nth xs68 4, v122, AV.ptr nx70 0] ((H69.put nx70 (some (AObj.row 3 [AV.int IntKind.i64 0, AV.int IntKind.i64 0, AV.int IntKind.i64 0]))).apply D228) ((nx70 + 1) + fr227.length)
def zbu (Q : QT) (xs72 : List AV) (H73 : Heap) (nx74 : Nat) : Prop :=
 BI BinOp.lss (nth xs72 2) (AV.int IntKind.i64 0) fun v76 =>
 CND v76
 (Q (AV.int IntKind.i64 10) H73 nx74)
 (NC (nth xs72 1) fun v77 =>
 FA 3 v77 fun v78 =>
 LD false 1 v78 H73 fun v79 =>
 LNL v79 fun v80 =>
 BI BinOp.neq v80 (nth xs72 2) fun v81 =>
 CNDC v81
 (Q (AV.int IntKind.i64 10) H73 nx74)
 (NC (nth xs72 1) fun v82 =>
 FA 2 v82 fun v83 =>
 LDR false 1 v83 H73 fun v84 _ =>
 NC (nth xs72 1) fun v86 =>
 FA 3 v86 fun v87 =>
 LDR false 1 v87 H73 fun v88 _ =>
 BSL 2 1 [AV.nils] [(0, v84), (1, v88)] fun cells90 =>
 LNL (AV.slc nx74 0 2) fun v91 =>
 nx74 ∉ [] ∧
 nx74 ∉ [] ∧
 LP (zfn Q) [nth xs72 0, AV.slc nx74 0 2, v91, AV.int IntKind.i64 0] (H73.put nx74 (some (AObj.row 1 cells90))) (nx74 + 1)))
def zdg (xs68 : List AV) (H69 : Heap) (Q : QT) (nx70 : Nat) (j75 : J3) : Prop :=
 CNDC (nth xs68 6)
 (BI BinOp.sub (nth xs68 5) (AV.int IntKind.i64 1) fun v122 =>
 NC (nth xs68 2) fun v123 =>
 FA 1 v123 fun v124 =>
 LD false 1 v124 H69 fun v125 =>
 BI BinOp.eql v125 (AV.int IntKind.i64 0) fun v126 =>
 CNDC v126
 (Q (AV.int IntKind.i64 10) H69 nx70)
 (JN (zfp Q j75) (zju xs68 H69 nx70 v122)))
 (j75 [nth xs68 0, nth xs68 2, nth xs68 5] H69 nx70)
def zjs (Q : QT) (xs68 : List AV) (H69 : Heap) (nx70 : Nat) : Prop :=
 JN (zbu Q) (zdg xs68 H69 Q nx70)
def zjt (a0 : AV) (H59 : Heap) (a1 : AV) (v4 : AV) (v30 : AV) (v61 : AV) (v67 : AV) (nx60 : Nat) (a2 : AV) (j71 : J3) : Prop :=
 NC a0 fun v229 =>
 FA 4 v229 fun v230 =>
 LD false 1 v230 H59 fun v231 =>
 LNL v231 fun v232 =>
 BI BinOp.sub v232 (AV.int IntKind.i64 1) fun v233 =>
 BI BinOp.lss a1 v233 fun v234 =>
 CND v234
 (j71 [a0, a1, v4, v30, v61, v67, AV.bool true] H59 nx60)
 (j71 [a0, a1, v4, v30, v61, v67, a2] H59 nx60)
def zjq (v4 : AV) (Q : QT) (a0 : AV) (a1 : AV) (v30 : AV) (a2 : AV) (v58 : AV) (H59 : Heap) (nx60 : Nat) : Prop :=
 EX v58 0 fun v61 =>
 EX v58 1 fun _ =>
 NC v4 fun v63 =>
 FA 1 v63 fun v64 =>
 LD false 1 v64 H59 fun v65 =>
 IA 1 v61 v65 fun v66 =>
 LD false 1 v66 H59 fun v67 =>
 JN (zjs Q) (zjt a0 H59 a1 v4 v30 v61 v67 nx60 a2)
def zaz (a0 a1 a2 : AV) (H : Heap) (nx : Nat) (Q : QT) : Prop :=
 NC a0 fun v1 =>
 FA 4 v1 fun v2 =>
 LD false 1 v2 H fun v3 =>
 IA 4 v3 a1 fun v4 =>
 NC v4 fun v5 =>
 FA 0 v5 fun v6 =>
 LDR false 1 v6 H fun v7 _ =>
 BI BinOp.lss v7 (AV.int IntKind.i64 0) fun v9 =>
 CND v9
 (Q (AV.int IntKind.i64 3) H nx)
 (NC v4 fun v10 =>
 FA 0 v10 fun v11 =>
 LDR false 1 v11 H fun v12 _ =>
 NC a0 fun v14 =>
 FA 2 v14 fun v15 =>
 FA 0 v15 fun v16 =>
 LDR false 1 v16 H fun v17 _ =>
 LNL v17 fun v19 =>
 BI BinOp.geq v12 v19 fun v20 =>
 CNDC v20
 (Q (AV.int IntKind.i64 3) H nx)
 (NC a0 fun v21 =>
 FA 2 v21 fun v22 =>
 FA 0 v22 fun v23 =>
 LDR false 1 v23 H fun v24 _ =>
 NC v4 fun v26 =>
 FA 0 v26 fun v27 =>
 LDR false 1 v27 H fun v28 _ =>
 IA 3 v24 v28 fun v30 =>
 NC v4 fun v31 =>
 FA 1 v31 fun v32 =>
 LDR false 1 v32 H fun v33 _ =>
 BI BinOp.lss v33 (AV.int IntKind.i64 0) fun v35 =>
 CND v35
 (Q (AV.int IntKind.i64 3) H nx)
 (NC v4 fun v36 =>
 FA 1 v36 fun v37 =>
 LDR false 1 v37 H fun v38 _ =>
 NC v30 fun v40 =>
 FA 2 v40 fun v41 =>
 LDR false 1 v41 H fun v42 _ =>
 LNL v42 fun v44 =>
 BI BinOp.geq v38 v44 fun v45 =>
 CND v45
 (Q (AV.int IntKind.i64 3) H nx)
 (NC v4 fun v46 =>
 FA 2 v46 fun v47 =>
 LDR false 1 v47 H fun v48 _ =>
 LNL v48 fun v50 =>
 NC v30 fun v51 =>
 FA 1 v51 fun v52 =>
 LDR false 1 v52 H fun v53 _ =>
 BI BinOp.neq v50 v53 fun v55 =>
 CNDC v55
 (Q (AV.int IntKind.i64 3) H nx)
 (NC v30 fun v56 =>
 LD true 3 v56 H fun v57 =>
 za Tryd.prog 39 [v57] H nx (zjq v4 Q a0 a1 v30 a2))))))
theorem zoe (a0 a1 a2 : AV) (H : Heap) (nx : Nat) (Q : QT) : zaz a0 a1 a2 H nx Q → za Tryd.prog 40 [a0, a1, a2] H nx Q :=
  zn (lv := lvOf [(0, 9, [0, 1, 7, 8, 9, 11, 12]), (0, 14, [0, 1, 7, 9, 11, 13]), (2, 20, [0, 198, 199, 200]), (2, 23, [0, 198, 199, 200, 204, 205, 206]), (3, 17, [0, 7, 11])]) (c := zy Tryd.f40) zak zan mixed Tryd.func40 (by kernel_rfl) (by kernel_rfl) (by kernel_rfl) (by kernel_rfl) (by kernel_rfl)
def zjw (Q : QT) (xs42 : List AV) (K41 : J3) (v46 : AV) (H47 : Heap) (nx48 : Nat) : Prop :=
 BI BinOp.neq v46 (AV.int IntKind.i64 0) fun v49 =>
 CNDC v49
 (Q v46 H47 nx48)
 (BI BinOp.add (nth xs42 3) (AV.int IntKind.i64 1) fun v50 =>
 K41 [nth xs42 0, nth xs42 1, nth xs42 2, v50] H47 nx48)
def zfs (Q : QT) (xs67 : List AV) (K66 : J3) (v78 : AV) (H79 : Heap) (nx80 : Nat) : Prop :=
 BI BinOp.neq v78 (AV.int IntKind.i64 0) fun v81 =>
 CNDC v81
 (Q v78 H79 nx80)
 (BI BinOp.add (nth xs67 6) (AV.int IntKind.i64 1) fun v82 =>
 K66 [nth xs67 0, nth xs67 1, nth xs67 2, nth xs67 3, nth xs67 4, nth xs67 5, v82] H79 nx80)
def zdh (Q : QT) (K54 : J3) (K66 : J3) (xs67 : List AV) (H68 : Heap) (nx69 : Nat) : Prop :=
 BI BinOp.lss (nth xs67 6) (nth xs67 5) fun v70 =>
 CNDC v70
 (IA 3 (nth xs67 4) (nth xs67 6) fun v71 =>
 LD true 3 v71 H68 fun v72 =>
 ST 3 (AV.ptr nx69 0) v72 (H68.put nx69 (some (AObj.row 3 [AV.int IntKind.i64 0, AV.int IntKind.i64 0, AV.str []]))) fun H73 =>
 LD true 3 (AV.ptr nx69 0) H73 fun v74 =>
 FA 5 (nth xs67 0) fun v75 =>
 LD false 1 v75 H73 fun v76 =>
 LNL v76 fun v77 =>
 za Tryd.prog 41 [v74, v77] H73 (nx69 + 1) (zfs Q xs67 K66))
 (BI BinOp.add (nth xs67 3) (AV.int IntKind.i64 1) fun v83 =>
 K54 [nth xs67 0, nth xs67 1, nth xs67 2, v83] H68 nx69)
def zfr (Q : QT) (K54 : J3) (xs55 : List AV) (H56 : Heap) (nx57 : Nat) : Prop :=
 BI BinOp.lss (nth xs55 3) (nth xs55 2) fun v58 =>
 CNDC v58
 (IA 6 (nth xs55 1) (nth xs55 3) fun v59 =>
 LD true 6 v59 H56 fun v60 =>
 ST 6 (AV.ptr nx57 0) v60 (H56.put nx57 (some (AObj.row 6 [AV.int IntKind.i64 0, AV.int IntKind.i64 0, AV.str [], AV.int IntKind.i64 0, AV.int IntKind.i64 0, AV.str []]))) fun H61 =>
 LD true 3 (AV.ptr nx57 0) H61 fun v62 =>
 LD true 3 (AV.ptr nx57 3) H61 fun v63 =>
 BSL 2 3 [AV.int IntKind.i64 0, AV.int IntKind.i64 0, AV.str []] [(0, v62), (1, v63)] fun cells64 =>
 LNL (AV.slc (nx57 + 1) 0 2) fun v65 =>
 LP (zdh Q K54) [nth xs55 0, nth xs55 1, nth xs55 2, nth xs55 3, AV.slc (nx57 + 1) 0 2, v65, AV.int IntKind.i64 0] (H61.put ((nx57 + 1)) (some (AObj.row 3 cells64))) (nx57 + 2))
 (Q (AV.int IntKind.i64 0) H56 nx57)
def zfq (Q : QT) (K41 : J3) (xs42 : List AV) (H43 : Heap) (nx44 : Nat) : Prop :=
 BI BinOp.lss (nth xs42 3) (nth xs42 2) fun v45 =>
 CNDC v45
 (za Tryd.prog 40 [nth xs42 1, nth xs42 3, nth xs42 0] H43 nx44 (zjw Q xs42 K41))
 (FA 5 (nth xs42 1) fun v51 =>
 LD false 1 v51 H43 fun v52 =>
 LNL v52 fun v53 =>
 LP (zfr Q) [nth xs42 1, v52, v53, AV.int IntKind.i64 0] H43 nx44)
def zdi (Q : QT) (nx : Nat) (a1 : AV) (v2 : AV) (H3 : Heap) (nx4 : Nat) : Prop :=
 BI BinOp.neq v2 (AV.int IntKind.i64 0) fun v5 =>
 CNDC v5
 (Q v2 H3 nx4)
 (LD true 3 (AV.ptr nx 6) H3 fun v6 =>
 ST 3 (AV.ptr nx4 0) v6 (H3.put nx4 (some (AObj.row 3 [AV.int IntKind.i64 0, AV.int IntKind.i64 0, AV.int IntKind.i64 0]))) fun H7 =>
 LD false 1 (AV.ptr nx 0) H7 fun v8 =>
 BI BinOp.lss v8 (AV.int IntKind.i64 0) fun v9 =>
 CND v9
 (Q (AV.int IntKind.i64 3) H7 (nx4 + 1))
 (LD false 1 (AV.ptr nx 0) H7 fun v10 =>
 BI BinOp.gtr v10 (AV.int IntKind.i64 1073741824) fun v11 =>
 CND v11
 (Q (AV.int IntKind.i64 3) H7 (nx4 + 1))
 (LD false 1 (AV.ptr nx 1) H7 fun v12 =>
 BI BinOp.lss v12 (AV.int IntKind.i64 0) fun v13 =>
 CND v13
 (Q (AV.int IntKind.i64 3) H7 (nx4 + 1))
 (LD false 1 (AV.ptr nx 1) H7 fun v14 =>
 BI BinOp.gtr v14 (AV.int IntKind.i64 1073741824) fun v15 =>
 CND v15
 (Q (AV.int IntKind.i64 3) H7 (nx4 + 1))
 (LD false 1 (AV.ptr nx4 0) H7 fun v16 =>
 BI BinOp.lss v16 (AV.int IntKind.i64 0) fun v17 =>
 CND v17
 (Q (AV.int IntKind.i64 3) H7 (nx4 + 1))
 (LD false 1 (AV.ptr nx4 0) H7 fun v18 =>
 BI BinOp.gtr v18 (AV.int IntKind.i64 2000) fun v19 =>
 CND v19
 (Q (AV.int IntKind.i64 3) H7 (nx4 + 1))
 (LD false 1 (AV.ptr nx4 1) H7 fun v20 =>
 BI BinOp.lss v20 (AV.int IntKind.i64 0) fun v21 =>
 CND v21
 (Q (AV.int IntKind.i64 3) H7 (nx4 + 1))
 (LD false 1 (AV.ptr nx4 1) H7 fun v22 =>
 BI BinOp.gtr v22 (AV.int IntKind.i64 60) fun v23 =>
 CND v23
 (Q (AV.int IntKind.i64 3) H7 (nx4 + 1))
 (LD false 1 (AV.ptr nx4 2) H7 fun v24 =>
 BI BinOp.lss v24 (AV.int IntKind.i64 0) fun v25 =>
 CND v25
 (Q (AV.int IntKind.i64 3) H7 (nx4 + 1))
 (LD false 1 (AV.ptr nx4 2) H7 fun v26 =>
 BI BinOp.gtr v26 (AV.int IntKind.i64 12) fun v27 =>
 CNDC v27
 (Q (AV.int IntKind.i64 3) H7 (nx4 + 1))
 (LD false 1 (AV.ptr nx 4) H7 fun v28 =>
 LNL v28 fun v29 =>
 BI BinOp.lss v29 (AV.int IntKind.i64 1) fun v30 =>
 CND v30
 (Q (AV.int IntKind.i64 5) H7 (nx4 + 1))
 (LD false 1 (AV.ptr nx 4) H7 fun v31 =>
 LNL v31 fun v32 =>
 BI BinOp.gtr v32 (AV.int IntKind.i64 12) fun v33 =>
 CNDC v33
 (Q (AV.int IntKind.i64 5) H7 (nx4 + 1))
 (LD false 1 (AV.ptr nx 5) H7 fun v34 =>
 LNL v34 fun v35 =>
 LD false 1 (AV.ptr nx4 1) H7 fun v36 =>
 BI BinOp.sub (AV.int IntKind.i64 60) v36 fun v37 =>
 BI BinOp.gtr v35 v37 fun v38 =>
 CNDC v38
 (Q (AV.int IntKind.i64 4) H7 (nx4 + 1))
 (LD false 1 (AV.ptr nx 4) H7 fun v39 =>
 LNL v39 fun v40 =>
 LP (zfq Q) [a1, AV.ptr nx 0, v40, AV.int IntKind.i64 0] H7 (nx4 + 1)))))))))))))))
def zjv (a0 a1 : AV) (H : Heap) (nx : Nat) (Q : QT) : Prop :=
 a0.sure = true ∧
 LD true 2 (AV.ptr nx 2) (H.put nx (some (AObj.row a0.cells.length a0.cells))) fun v1 =>
 za Tryd.prog 19 [v1] (H.put nx (some (AObj.row a0.cells.length a0.cells))) (nx + 1) (zdi Q nx a1)
theorem zof (a0 a1 : AV) (H : Heap) (nx : Nat) (Q : QT) : zjv a0 a1 H nx Q → za Tryd.prog 15 [a0, a1] H nx Q :=
  zn (lv := lvOf [(2, 12, [1, 2, 89, 90]), (2, 19, [2, 101, 102, 103]), (2, 22, [2, 101, 102, 103, 111, 112, 113])]) (c := zy Tryd.f15) zak zan mixed Tryd.func15 (by kernel_rfl) (by kernel_rfl) (by kernel_rfl) (by kernel_rfl) (by kernel_rfl)
end Go.Proofs.YtobioljjoipimaaDoor
