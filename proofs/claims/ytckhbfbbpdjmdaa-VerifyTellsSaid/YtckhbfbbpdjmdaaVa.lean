/- What is to be shown of each function, written out. -/
import Derived.Test.YtckhbfbbpdjmdaaTab
namespace Go.Proofs.Ytckhbfbbpdjmdaa
open Go Go.RowKit

@[simp] theorem sizeT_2 : sizeT tab 2 = 1 := by kernel_rfl
@[simp] theorem sizeT_3 : sizeT tab 3 = 1 := by kernel_rfl
@[simp] theorem sizeT_4 : sizeT tab 4 = 1 := by kernel_rfl
@[simp] theorem sizeT_5 : sizeT tab 5 = 1 := by kernel_rfl
@[simp] theorem sizeT_6 : sizeT tab 6 = 1 := by kernel_rfl
@[simp] theorem sizeT_9 : sizeT tab 9 = 1 := by kernel_rfl
@[simp] theorem sizeT_12 : sizeT tab 12 = 1 := by kernel_rfl
@[simp] theorem sizeT_17 : sizeT tab 17 = 1 := by kernel_rfl
@[simp] theorem sizeT_22 : sizeT tab 22 = 1 := by kernel_rfl
@[simp] theorem sizeT_25 : sizeT tab 25 = 1 := by kernel_rfl
@[simp] theorem sizeT_29 : sizeT tab 29 = 1 := by kernel_rfl
@[simp] theorem sizeT_30 : sizeT tab 30 = 1 := by kernel_rfl
@[simp] theorem sizeT_32 : sizeT tab 32 = 2 := by kernel_rfl
@[simp] theorem sizeT_33 : sizeT tab 33 = 1 := by kernel_rfl
@[simp] theorem sizeT_34 : sizeT tab 34 = 1 := by kernel_rfl
@[simp] theorem sizeT_36 : sizeT tab 36 = 3 := by kernel_rfl
@[simp] theorem sizeT_41 : sizeT tab 41 = 1 := by kernel_rfl
@[simp] theorem sizeT_69 : sizeT tab 69 = 3 := by kernel_rfl
@[simp] theorem sizeT_72 : sizeT tab 72 = 1 := by kernel_rfl
@[simp] theorem sizeT_107 : sizeT tab 107 = 1 := by kernel_rfl
@[simp] theorem sizeT_125 : sizeT tab 125 = 0 := by kernel_rfl
@[simp] theorem sizeT_128 : sizeT tab 128 = 1 := by kernel_rfl
@[simp] theorem sizeT_129 : sizeT tab 129 = 1 := by kernel_rfl
@[simp] theorem sizeT_130 : sizeT tab 130 = 1 := by kernel_rfl
@[simp] theorem sizeT_131 : sizeT tab 131 = 1 := by kernel_rfl
@[simp] theorem sizeT_132 : sizeT tab 132 = 1 := by kernel_rfl
@[simp] theorem sizeT_133 : sizeT tab 133 = 1 := by kernel_rfl
/-- wanderstaff/zwref6.Shape -/
def zwref6_Shape_lv : List (Nat × Nat × List Nat) := []
def zwref6_Shape_vc (a0 : AV) (H : Heap) (nx : Nat) (Q : AV → Heap → Nat → Prop) : Prop :=
  a0.sure = true ∧
  LD false 1 (AV.ptr nx 0) (H.put nx (some (AObj.row a0.cells.length a0.cells))) fun v1 =>
  BI BinOp.eql v1 (AV.int IntKind.i64 17) fun v2 =>
  CND v2
  (LD false 1 (AV.ptr nx 2) (H.put nx (some (AObj.row a0.cells.length a0.cells))) fun v3 =>
  Q (AV.tup [v3, AV.int IntKind.i64 1]) (H.put nx (some (AObj.row a0.cells.length a0.cells))) (nx + 1))
  (keyFit (AK.int IntKind.i64) (AV.int IntKind.i64 1) = true ∧
  MU (AV.amap (nx + 1)) (AV.int IntKind.i64 1) (AV.agg [AV.int IntKind.i64 0, AV.int IntKind.i64 1]) ((H.put nx (some (AObj.row a0.cells.length a0.cells))).put ((nx + 1)) (some (AObj.mp []))) fun H4 =>
  keyFit (AK.int IntKind.i64) (AV.int IntKind.i64 2) = true ∧
  MU (AV.amap (nx + 1)) (AV.int IntKind.i64 2) (AV.agg [AV.int IntKind.i64 0, AV.int IntKind.i64 1]) H4 fun H5 =>
  keyFit (AK.int IntKind.i64) (AV.int IntKind.i64 3) = true ∧
  MU (AV.amap (nx + 1)) (AV.int IntKind.i64 3) (AV.agg [AV.int IntKind.i64 0, AV.int IntKind.i64 1]) H5 fun H6 =>
  keyFit (AK.int IntKind.i64) (AV.int IntKind.i64 4) = true ∧
  MU (AV.amap (nx + 1)) (AV.int IntKind.i64 4) (AV.agg [AV.int IntKind.i64 1, AV.int IntKind.i64 0]) H6 fun H7 =>
  keyFit (AK.int IntKind.i64) (AV.int IntKind.i64 5) = true ∧
  MU (AV.amap (nx + 1)) (AV.int IntKind.i64 5) (AV.agg [AV.int IntKind.i64 2, AV.int IntKind.i64 1]) H7 fun H8 =>
  keyFit (AK.int IntKind.i64) (AV.int IntKind.i64 6) = true ∧
  MU (AV.amap (nx + 1)) (AV.int IntKind.i64 6) (AV.agg [AV.int IntKind.i64 2, AV.int IntKind.i64 1]) H8 fun H9 =>
  keyFit (AK.int IntKind.i64) (AV.int IntKind.i64 7) = true ∧
  MU (AV.amap (nx + 1)) (AV.int IntKind.i64 7) (AV.agg [AV.int IntKind.i64 1, AV.int IntKind.i64 1]) H9 fun H10 =>
  keyFit (AK.int IntKind.i64) (AV.int IntKind.i64 8) = true ∧
  MU (AV.amap (nx + 1)) (AV.int IntKind.i64 8) (AV.agg [AV.int IntKind.i64 1, AV.int IntKind.i64 1]) H10 fun H11 =>
  keyFit (AK.int IntKind.i64) (AV.int IntKind.i64 9) = true ∧
  MU (AV.amap (nx + 1)) (AV.int IntKind.i64 9) (AV.agg [AV.int IntKind.i64 2, AV.int IntKind.i64 0]) H11 fun H12 =>
  keyFit (AK.int IntKind.i64) (AV.int IntKind.i64 10) = true ∧
  MU (AV.amap (nx + 1)) (AV.int IntKind.i64 10) (AV.agg [AV.int IntKind.i64 2, AV.int IntKind.i64 0]) H12 fun H13 =>
  keyFit (AK.int IntKind.i64) (AV.int IntKind.i64 11) = true ∧
  MU (AV.amap (nx + 1)) (AV.int IntKind.i64 11) (AV.agg [AV.int IntKind.i64 1, AV.int IntKind.i64 1]) H13 fun H14 =>
  keyFit (AK.int IntKind.i64) (AV.int IntKind.i64 12) = true ∧
  MU (AV.amap (nx + 1)) (AV.int IntKind.i64 12) (AV.agg [AV.int IntKind.i64 0, AV.int IntKind.i64 1]) H14 fun H15 =>
  keyFit (AK.int IntKind.i64) (AV.int IntKind.i64 13) = true ∧
  MU (AV.amap (nx + 1)) (AV.int IntKind.i64 13) (AV.agg [AV.int IntKind.i64 1, AV.int IntKind.i64 1]) H15 fun H16 =>
  keyFit (AK.int IntKind.i64) (AV.int IntKind.i64 14) = true ∧
  MU (AV.amap (nx + 1)) (AV.int IntKind.i64 14) (AV.agg [AV.int IntKind.i64 1, AV.int IntKind.i64 0]) H16 fun H17 =>
  keyFit (AK.int IntKind.i64) (AV.int IntKind.i64 15) = true ∧
  MU (AV.amap (nx + 1)) (AV.int IntKind.i64 15) (AV.agg [AV.int IntKind.i64 0, AV.int IntKind.i64 0]) H17 fun H18 =>
  keyFit (AK.int IntKind.i64) (AV.int IntKind.i64 16) = true ∧
  MU (AV.amap (nx + 1)) (AV.int IntKind.i64 16) (AV.agg [AV.int IntKind.i64 1, AV.int IntKind.i64 0]) H18 fun H19 =>
  keyFit (AK.int IntKind.i64) (AV.int IntKind.i64 18) = true ∧
  MU (AV.amap (nx + 1)) (AV.int IntKind.i64 18) (AV.agg [AV.int IntKind.i64 1, AV.int IntKind.i64 0]) H19 fun H20 =>
  keyFit (AK.int IntKind.i64) (AV.int IntKind.i64 19) = true ∧
  MU (AV.amap (nx + 1)) (AV.int IntKind.i64 19) (AV.agg [AV.int IntKind.i64 1, AV.int IntKind.i64 0]) H20 fun H21 =>
  LD false 1 (AV.ptr nx 0) H21 fun v22 =>
  keyFit (AK.int IntKind.i64) v22 = true ∧
  LK [AV.int IntKind.i64 0, AV.int IntKind.i64 0] true (AV.amap (nx + 1)) v22 false H21 fun v23 =>
  ST 2 (AV.ptr (nx + 2) 0) v23 (H21.put ((nx + 2)) (some (AObj.row 2 [AV.int IntKind.i64 0, AV.int IntKind.i64 0]))) fun H24 =>
  AA 1 2 (AV.ptr (nx + 2) 0) (AV.int IntKind.i64 0) fun v25 =>
  LDR false 1 v25 H24 fun v26 rd27 =>
  AA 1 2 (AV.ptr (nx + 2) 0) (AV.int IntKind.i64 1) fun v28 =>
  LDR false 1 v28 H24 fun v29 rd30 =>
  Q (AV.tup [v26, v29]) H24 (nx + 3))
theorem zwref6_Shape_eq (a0 : AV) (H : Heap) (nx : Nat) (Q : AV → Heap → Nat → Prop) : body Try.prog tab eqsT (lvOf zwref6_Shape_lv) Try.f31 (codeOf Try.f31) [a0] H nx Q = zwref6_Shape_vc a0 H nx Q := by kernel_rfl
theorem zwref6_Shape_calls (a0 : AV) (H : Heap) (nx : Nat) (Q : AV → Heap → Nat → Prop) (h : zwref6_Shape_vc a0 H nx Q) : ACalls Try.prog 31 [a0] H nx Q :=
  acalls_body tabOk eqsOk mixed Try.func31 (by kernel_rfl) (by kernel_rfl) (by kernel_rfl) (by kernel_rfl) ((zwref6_Shape_eq a0 H nx Q).symm ▸ h)

/-- wanderstaff/zwref6.Heights -/
def zwref6_Heights_lv : List (Nat × Nat × List Nat) := [(2, 3, [1, 4, 19, 20]), (2, 9, [1, 4, 6, 7, 8])]
def zwref6_Heights_k1 (v23 : AV) (Q : AV → Heap → Nat → Prop) (nx16 : Nat) (v20 : AV) (xs14 : List AV) (K13 : J3) (v46 : AV) (H47 : Heap) (nx48 : Nat) : Prop :=
  EX v46 0 fun v49 =>
  EX v46 1 fun v50 =>
  BI BinOp.lss v23 v49 fun v51 =>
  CND v51
  (Q (AV.tup [AV.nils, AV.int IntKind.i64 10]) H47 nx48)
  (LD false 1 (AV.ptr nx16 0) H47 fun v52 =>
  BI BinOp.eql v52 (AV.int IntKind.i64 18) fun v53 =>
  CND v53
  (BI BinOp.gtr v23 (AV.int IntKind.i64 1) fun v54 =>
  CND v54
  (Q (AV.tup [AV.nils, AV.int IntKind.i64 10]) H47 nx48)
  (BI BinOp.sub v23 v49 fun v55 =>
  BI BinOp.add v55 v50 fun v56 =>
  BI BinOp.gtr v56 (AV.int IntKind.i64 16) fun v57 =>
  CND v57
  (Q (AV.tup [AV.nils, AV.int IntKind.i64 4]) H47 nx48)
  (LD false 1 (AV.ptr nx16 0) H47 fun v58 =>
  BI BinOp.neq v58 (AV.int IntKind.i64 15) fun v59 =>
  CND v59
  (LD false 1 (AV.ptr nx16 0) H47 fun v60 =>
  BI BinOp.neq v60 (AV.int IntKind.i64 18) fun v61 =>
  CND v61
  (BI BinOp.add v20 (AV.int IntKind.i64 1) fun v62 =>
  BSL 1 1 [AV.int IntKind.i64 0] [(0, v62)] fun cells63 =>
  APP 1 8 (nth xs14 2) (AV.slc nx48 0 1) (H47.put nx48 (some (AObj.row 1 cells63))) (nx48 + 1) fun v64 H65 nx66 =>
  BSL 1 1 [AV.int IntKind.i64 0] [(0, v56)] fun cells67 =>
  APP 1 8 (nth xs14 3) (AV.slc nx66 0 1) (H65.put nx66 (some (AObj.row 1 cells67))) (nx66 + 1) fun v68 H69 nx70 =>
  LD false 1 (AV.ptr nx16 0) H69 fun v71 =>
  BI BinOp.eql v71 (AV.int IntKind.i64 15) fun v72 =>
  CND v72
  (LD false 1 (AV.ptr nx16 1) H69 fun v73 =>
  BSL 1 1 [AV.int IntKind.i64 0] [(0, v73)] fun cells74 =>
  APP 1 8 v64 (AV.slc nx70 0 1) (H69.put nx70 (some (AObj.row 1 cells74))) (nx70 + 1) fun v75 H76 nx77 =>
  BSL 1 1 [AV.int IntKind.i64 0] [(0, v56)] fun cells78 =>
  APP 1 8 v68 (AV.slc nx77 0 1) (H76.put nx77 (some (AObj.row 1 cells78))) (nx77 + 1) fun v79 H80 nx81 =>
  BI BinOp.add (nth xs14 4) (AV.int IntKind.i64 1) fun v82 =>
  K13 [nth xs14 0, nth xs14 1, v75, v79, v82] H80 nx81)
  (LD false 1 (AV.ptr nx16 0) H69 fun v83 =>
  BI BinOp.eql v83 (AV.int IntKind.i64 16) fun v84 =>
  CND v84
  (LD false 1 (AV.ptr nx16 1) H69 fun v85 =>
  BSL 1 1 [AV.int IntKind.i64 0] [(0, v85)] fun cells86 =>
  APP 1 8 v64 (AV.slc nx70 0 1) (H69.put nx70 (some (AObj.row 1 cells86))) (nx70 + 1) fun v87 H88 nx89 =>
  BSL 1 1 [AV.int IntKind.i64 0] [(0, v56)] fun cells90 =>
  APP 1 8 v68 (AV.slc nx89 0 1) (H88.put nx89 (some (AObj.row 1 cells90))) (nx89 + 1) fun v91 H92 nx93 =>
  BI BinOp.add (nth xs14 4) (AV.int IntKind.i64 1) fun v94 =>
  K13 [nth xs14 0, nth xs14 1, v87, v91, v94] H92 nx93)
  (BI BinOp.add (nth xs14 4) (AV.int IntKind.i64 1) fun v95 =>
  K13 [nth xs14 0, nth xs14 1, v64, v68, v95] H69 nx70)))
  (LD false 1 (AV.ptr nx16 0) H47 fun v96 =>
  BI BinOp.eql v96 (AV.int IntKind.i64 15) fun v97 =>
  CND v97
  (LD false 1 (AV.ptr nx16 1) H47 fun v98 =>
  BSL 1 1 [AV.int IntKind.i64 0] [(0, v98)] fun cells99 =>
  APP 1 8 (nth xs14 2) (AV.slc nx48 0 1) (H47.put nx48 (some (AObj.row 1 cells99))) (nx48 + 1) fun v100 H101 nx102 =>
  BSL 1 1 [AV.int IntKind.i64 0] [(0, v56)] fun cells103 =>
  APP 1 8 (nth xs14 3) (AV.slc nx102 0 1) (H101.put nx102 (some (AObj.row 1 cells103))) (nx102 + 1) fun v104 H105 nx106 =>
  BI BinOp.add (nth xs14 4) (AV.int IntKind.i64 1) fun v107 =>
  K13 [nth xs14 0, nth xs14 1, v100, v104, v107] H105 nx106)
  (LD false 1 (AV.ptr nx16 0) H47 fun v108 =>
  BI BinOp.eql v108 (AV.int IntKind.i64 16) fun v109 =>
  CND v109
  (LD false 1 (AV.ptr nx16 1) H47 fun v110 =>
  BSL 1 1 [AV.int IntKind.i64 0] [(0, v110)] fun cells111 =>
  APP 1 8 (nth xs14 2) (AV.slc nx48 0 1) (H47.put nx48 (some (AObj.row 1 cells111))) (nx48 + 1) fun v112 H113 nx114 =>
  BSL 1 1 [AV.int IntKind.i64 0] [(0, v56)] fun cells115 =>
  APP 1 8 (nth xs14 3) (AV.slc nx114 0 1) (H113.put nx114 (some (AObj.row 1 cells115))) (nx114 + 1) fun v116 H117 nx118 =>
  BI BinOp.add (nth xs14 4) (AV.int IntKind.i64 1) fun v119 =>
  K13 [nth xs14 0, nth xs14 1, v112, v116, v119] H117 nx118)
  (BI BinOp.add (nth xs14 4) (AV.int IntKind.i64 1) fun v120 =>
  K13 [nth xs14 0, nth xs14 1, nth xs14 2, nth xs14 3, v120] H47 nx48))))
  (LD false 1 (AV.ptr nx16 0) H47 fun v121 =>
  BI BinOp.eql v121 (AV.int IntKind.i64 15) fun v122 =>
  CND v122
  (LD false 1 (AV.ptr nx16 1) H47 fun v123 =>
  BSL 1 1 [AV.int IntKind.i64 0] [(0, v123)] fun cells124 =>
  APP 1 8 (nth xs14 2) (AV.slc nx48 0 1) (H47.put nx48 (some (AObj.row 1 cells124))) (nx48 + 1) fun v125 H126 nx127 =>
  BSL 1 1 [AV.int IntKind.i64 0] [(0, v56)] fun cells128 =>
  APP 1 8 (nth xs14 3) (AV.slc nx127 0 1) (H126.put nx127 (some (AObj.row 1 cells128))) (nx127 + 1) fun v129 H130 nx131 =>
  BI BinOp.add (nth xs14 4) (AV.int IntKind.i64 1) fun v132 =>
  K13 [nth xs14 0, nth xs14 1, v125, v129, v132] H130 nx131)
  (LD false 1 (AV.ptr nx16 0) H47 fun v133 =>
  BI BinOp.eql v133 (AV.int IntKind.i64 16) fun v134 =>
  CND v134
  (LD false 1 (AV.ptr nx16 1) H47 fun v135 =>
  BSL 1 1 [AV.int IntKind.i64 0] [(0, v135)] fun cells136 =>
  APP 1 8 (nth xs14 2) (AV.slc nx48 0 1) (H47.put nx48 (some (AObj.row 1 cells136))) (nx48 + 1) fun v137 H138 nx139 =>
  BSL 1 1 [AV.int IntKind.i64 0] [(0, v56)] fun cells140 =>
  APP 1 8 (nth xs14 3) (AV.slc nx139 0 1) (H138.put nx139 (some (AObj.row 1 cells140))) (nx139 + 1) fun v141 H142 nx143 =>
  BI BinOp.add (nth xs14 4) (AV.int IntKind.i64 1) fun v144 =>
  K13 [nth xs14 0, nth xs14 1, v137, v141, v144] H142 nx143)
  (BI BinOp.add (nth xs14 4) (AV.int IntKind.i64 1) fun v145 =>
  K13 [nth xs14 0, nth xs14 1, nth xs14 2, nth xs14 3, v145] H47 nx48))))))
  (BI BinOp.sub v23 v49 fun v146 =>
  BI BinOp.add v146 v50 fun v147 =>
  BI BinOp.gtr v147 (AV.int IntKind.i64 16) fun v148 =>
  CND v148
  (Q (AV.tup [AV.nils, AV.int IntKind.i64 4]) H47 nx48)
  (LD false 1 (AV.ptr nx16 0) H47 fun v149 =>
  BI BinOp.neq v149 (AV.int IntKind.i64 15) fun v150 =>
  CND v150
  (LD false 1 (AV.ptr nx16 0) H47 fun v151 =>
  BI BinOp.neq v151 (AV.int IntKind.i64 18) fun v152 =>
  CND v152
  (BI BinOp.add v20 (AV.int IntKind.i64 1) fun v153 =>
  BSL 1 1 [AV.int IntKind.i64 0] [(0, v153)] fun cells154 =>
  APP 1 8 (nth xs14 2) (AV.slc nx48 0 1) (H47.put nx48 (some (AObj.row 1 cells154))) (nx48 + 1) fun v155 H156 nx157 =>
  BSL 1 1 [AV.int IntKind.i64 0] [(0, v147)] fun cells158 =>
  APP 1 8 (nth xs14 3) (AV.slc nx157 0 1) (H156.put nx157 (some (AObj.row 1 cells158))) (nx157 + 1) fun v159 H160 nx161 =>
  LD false 1 (AV.ptr nx16 0) H160 fun v162 =>
  BI BinOp.eql v162 (AV.int IntKind.i64 15) fun v163 =>
  CND v163
  (LD false 1 (AV.ptr nx16 1) H160 fun v164 =>
  BSL 1 1 [AV.int IntKind.i64 0] [(0, v164)] fun cells165 =>
  APP 1 8 v155 (AV.slc nx161 0 1) (H160.put nx161 (some (AObj.row 1 cells165))) (nx161 + 1) fun v166 H167 nx168 =>
  BSL 1 1 [AV.int IntKind.i64 0] [(0, v147)] fun cells169 =>
  APP 1 8 v159 (AV.slc nx168 0 1) (H167.put nx168 (some (AObj.row 1 cells169))) (nx168 + 1) fun v170 H171 nx172 =>
  BI BinOp.add (nth xs14 4) (AV.int IntKind.i64 1) fun v173 =>
  K13 [nth xs14 0, nth xs14 1, v166, v170, v173] H171 nx172)
  (LD false 1 (AV.ptr nx16 0) H160 fun v174 =>
  BI BinOp.eql v174 (AV.int IntKind.i64 16) fun v175 =>
  CND v175
  (LD false 1 (AV.ptr nx16 1) H160 fun v176 =>
  BSL 1 1 [AV.int IntKind.i64 0] [(0, v176)] fun cells177 =>
  APP 1 8 v155 (AV.slc nx161 0 1) (H160.put nx161 (some (AObj.row 1 cells177))) (nx161 + 1) fun v178 H179 nx180 =>
  BSL 1 1 [AV.int IntKind.i64 0] [(0, v147)] fun cells181 =>
  APP 1 8 v159 (AV.slc nx180 0 1) (H179.put nx180 (some (AObj.row 1 cells181))) (nx180 + 1) fun v182 H183 nx184 =>
  BI BinOp.add (nth xs14 4) (AV.int IntKind.i64 1) fun v185 =>
  K13 [nth xs14 0, nth xs14 1, v178, v182, v185] H183 nx184)
  (BI BinOp.add (nth xs14 4) (AV.int IntKind.i64 1) fun v186 =>
  K13 [nth xs14 0, nth xs14 1, v155, v159, v186] H160 nx161)))
  (LD false 1 (AV.ptr nx16 0) H47 fun v187 =>
  BI BinOp.eql v187 (AV.int IntKind.i64 15) fun v188 =>
  CND v188
  (LD false 1 (AV.ptr nx16 1) H47 fun v189 =>
  BSL 1 1 [AV.int IntKind.i64 0] [(0, v189)] fun cells190 =>
  APP 1 8 (nth xs14 2) (AV.slc nx48 0 1) (H47.put nx48 (some (AObj.row 1 cells190))) (nx48 + 1) fun v191 H192 nx193 =>
  BSL 1 1 [AV.int IntKind.i64 0] [(0, v147)] fun cells194 =>
  APP 1 8 (nth xs14 3) (AV.slc nx193 0 1) (H192.put nx193 (some (AObj.row 1 cells194))) (nx193 + 1) fun v195 H196 nx197 =>
  BI BinOp.add (nth xs14 4) (AV.int IntKind.i64 1) fun v198 =>
  K13 [nth xs14 0, nth xs14 1, v191, v195, v198] H196 nx197)
  (LD false 1 (AV.ptr nx16 0) H47 fun v199 =>
  BI BinOp.eql v199 (AV.int IntKind.i64 16) fun v200 =>
  CND v200
  (LD false 1 (AV.ptr nx16 1) H47 fun v201 =>
  BSL 1 1 [AV.int IntKind.i64 0] [(0, v201)] fun cells202 =>
  APP 1 8 (nth xs14 2) (AV.slc nx48 0 1) (H47.put nx48 (some (AObj.row 1 cells202))) (nx48 + 1) fun v203 H204 nx205 =>
  BSL 1 1 [AV.int IntKind.i64 0] [(0, v147)] fun cells206 =>
  APP 1 8 (nth xs14 3) (AV.slc nx205 0 1) (H204.put nx205 (some (AObj.row 1 cells206))) (nx205 + 1) fun v207 H208 nx209 =>
  BI BinOp.add (nth xs14 4) (AV.int IntKind.i64 1) fun v210 =>
  K13 [nth xs14 0, nth xs14 1, v203, v207, v210] H208 nx209)
  (BI BinOp.add (nth xs14 4) (AV.int IntKind.i64 1) fun v211 =>
  K13 [nth xs14 0, nth xs14 1, nth xs14 2, nth xs14 3, v211] H47 nx48))))
  (LD false 1 (AV.ptr nx16 0) H47 fun v212 =>
  BI BinOp.eql v212 (AV.int IntKind.i64 15) fun v213 =>
  CND v213
  (LD false 1 (AV.ptr nx16 1) H47 fun v214 =>
  BSL 1 1 [AV.int IntKind.i64 0] [(0, v214)] fun cells215 =>
  APP 1 8 (nth xs14 2) (AV.slc nx48 0 1) (H47.put nx48 (some (AObj.row 1 cells215))) (nx48 + 1) fun v216 H217 nx218 =>
  BSL 1 1 [AV.int IntKind.i64 0] [(0, v147)] fun cells219 =>
  APP 1 8 (nth xs14 3) (AV.slc nx218 0 1) (H217.put nx218 (some (AObj.row 1 cells219))) (nx218 + 1) fun v220 H221 nx222 =>
  BI BinOp.add (nth xs14 4) (AV.int IntKind.i64 1) fun v223 =>
  K13 [nth xs14 0, nth xs14 1, v216, v220, v223] H221 nx222)
  (LD false 1 (AV.ptr nx16 0) H47 fun v224 =>
  BI BinOp.eql v224 (AV.int IntKind.i64 16) fun v225 =>
  CND v225
  (LD false 1 (AV.ptr nx16 1) H47 fun v226 =>
  BSL 1 1 [AV.int IntKind.i64 0] [(0, v226)] fun cells227 =>
  APP 1 8 (nth xs14 2) (AV.slc nx48 0 1) (H47.put nx48 (some (AObj.row 1 cells227))) (nx48 + 1) fun v228 H229 nx230 =>
  BSL 1 1 [AV.int IntKind.i64 0] [(0, v147)] fun cells231 =>
  APP 1 8 (nth xs14 3) (AV.slc nx230 0 1) (H229.put nx230 (some (AObj.row 1 cells231))) (nx230 + 1) fun v232 H233 nx234 =>
  BI BinOp.add (nth xs14 4) (AV.int IntKind.i64 1) fun v235 =>
  K13 [nth xs14 0, nth xs14 1, v228, v232, v235] H233 nx234)
  (BI BinOp.add (nth xs14 4) (AV.int IntKind.i64 1) fun v236 =>
  K13 [nth xs14 0, nth xs14 1, nth xs14 2, nth xs14 3, v236] H47 nx48))))))
def zwref6_Heights_k2 (v23 : AV) (Q : AV → Heap → Nat → Prop) (nx16 : Nat) (v20 : AV) (xs14 : List AV) (K13 : J3) (v249 : AV) (H250 : Heap) (nx251 : Nat) : Prop :=
  EX v249 0 fun v252 =>
  EX v249 1 fun v253 =>
  BI BinOp.lss v23 v252 fun v254 =>
  CND v254
  (Q (AV.tup [AV.nils, AV.int IntKind.i64 10]) H250 nx251)
  (LD false 1 (AV.ptr nx16 0) H250 fun v255 =>
  BI BinOp.eql v255 (AV.int IntKind.i64 18) fun v256 =>
  CND v256
  (BI BinOp.gtr v23 (AV.int IntKind.i64 1) fun v257 =>
  CND v257
  (Q (AV.tup [AV.nils, AV.int IntKind.i64 10]) H250 nx251)
  (BI BinOp.sub v23 v252 fun v258 =>
  BI BinOp.add v258 v253 fun v259 =>
  BI BinOp.gtr v259 (AV.int IntKind.i64 16) fun v260 =>
  CND v260
  (Q (AV.tup [AV.nils, AV.int IntKind.i64 4]) H250 nx251)
  (LD false 1 (AV.ptr nx16 0) H250 fun v261 =>
  BI BinOp.neq v261 (AV.int IntKind.i64 15) fun v262 =>
  CND v262
  (LD false 1 (AV.ptr nx16 0) H250 fun v263 =>
  BI BinOp.neq v263 (AV.int IntKind.i64 18) fun v264 =>
  CND v264
  (BI BinOp.add v20 (AV.int IntKind.i64 1) fun v265 =>
  BSL 1 1 [AV.int IntKind.i64 0] [(0, v265)] fun cells266 =>
  APP 1 8 (nth xs14 2) (AV.slc nx251 0 1) (H250.put nx251 (some (AObj.row 1 cells266))) (nx251 + 1) fun v267 H268 nx269 =>
  BSL 1 1 [AV.int IntKind.i64 0] [(0, v259)] fun cells270 =>
  APP 1 8 (nth xs14 3) (AV.slc nx269 0 1) (H268.put nx269 (some (AObj.row 1 cells270))) (nx269 + 1) fun v271 H272 nx273 =>
  LD false 1 (AV.ptr nx16 0) H272 fun v274 =>
  BI BinOp.eql v274 (AV.int IntKind.i64 15) fun v275 =>
  CND v275
  (LD false 1 (AV.ptr nx16 1) H272 fun v276 =>
  BSL 1 1 [AV.int IntKind.i64 0] [(0, v276)] fun cells277 =>
  APP 1 8 v267 (AV.slc nx273 0 1) (H272.put nx273 (some (AObj.row 1 cells277))) (nx273 + 1) fun v278 H279 nx280 =>
  BSL 1 1 [AV.int IntKind.i64 0] [(0, v259)] fun cells281 =>
  APP 1 8 v271 (AV.slc nx280 0 1) (H279.put nx280 (some (AObj.row 1 cells281))) (nx280 + 1) fun v282 H283 nx284 =>
  BI BinOp.add (nth xs14 4) (AV.int IntKind.i64 1) fun v285 =>
  K13 [nth xs14 0, nth xs14 1, v278, v282, v285] H283 nx284)
  (LD false 1 (AV.ptr nx16 0) H272 fun v286 =>
  BI BinOp.eql v286 (AV.int IntKind.i64 16) fun v287 =>
  CND v287
  (LD false 1 (AV.ptr nx16 1) H272 fun v288 =>
  BSL 1 1 [AV.int IntKind.i64 0] [(0, v288)] fun cells289 =>
  APP 1 8 v267 (AV.slc nx273 0 1) (H272.put nx273 (some (AObj.row 1 cells289))) (nx273 + 1) fun v290 H291 nx292 =>
  BSL 1 1 [AV.int IntKind.i64 0] [(0, v259)] fun cells293 =>
  APP 1 8 v271 (AV.slc nx292 0 1) (H291.put nx292 (some (AObj.row 1 cells293))) (nx292 + 1) fun v294 H295 nx296 =>
  BI BinOp.add (nth xs14 4) (AV.int IntKind.i64 1) fun v297 =>
  K13 [nth xs14 0, nth xs14 1, v290, v294, v297] H295 nx296)
  (BI BinOp.add (nth xs14 4) (AV.int IntKind.i64 1) fun v298 =>
  K13 [nth xs14 0, nth xs14 1, v267, v271, v298] H272 nx273)))
  (LD false 1 (AV.ptr nx16 0) H250 fun v299 =>
  BI BinOp.eql v299 (AV.int IntKind.i64 15) fun v300 =>
  CND v300
  (LD false 1 (AV.ptr nx16 1) H250 fun v301 =>
  BSL 1 1 [AV.int IntKind.i64 0] [(0, v301)] fun cells302 =>
  APP 1 8 (nth xs14 2) (AV.slc nx251 0 1) (H250.put nx251 (some (AObj.row 1 cells302))) (nx251 + 1) fun v303 H304 nx305 =>
  BSL 1 1 [AV.int IntKind.i64 0] [(0, v259)] fun cells306 =>
  APP 1 8 (nth xs14 3) (AV.slc nx305 0 1) (H304.put nx305 (some (AObj.row 1 cells306))) (nx305 + 1) fun v307 H308 nx309 =>
  BI BinOp.add (nth xs14 4) (AV.int IntKind.i64 1) fun v310 =>
  K13 [nth xs14 0, nth xs14 1, v303, v307, v310] H308 nx309)
  (LD false 1 (AV.ptr nx16 0) H250 fun v311 =>
  BI BinOp.eql v311 (AV.int IntKind.i64 16) fun v312 =>
  CND v312
  (LD false 1 (AV.ptr nx16 1) H250 fun v313 =>
  BSL 1 1 [AV.int IntKind.i64 0] [(0, v313)] fun cells314 =>
  APP 1 8 (nth xs14 2) (AV.slc nx251 0 1) (H250.put nx251 (some (AObj.row 1 cells314))) (nx251 + 1) fun v315 H316 nx317 =>
  BSL 1 1 [AV.int IntKind.i64 0] [(0, v259)] fun cells318 =>
  APP 1 8 (nth xs14 3) (AV.slc nx317 0 1) (H316.put nx317 (some (AObj.row 1 cells318))) (nx317 + 1) fun v319 H320 nx321 =>
  BI BinOp.add (nth xs14 4) (AV.int IntKind.i64 1) fun v322 =>
  K13 [nth xs14 0, nth xs14 1, v315, v319, v322] H320 nx321)
  (BI BinOp.add (nth xs14 4) (AV.int IntKind.i64 1) fun v323 =>
  K13 [nth xs14 0, nth xs14 1, nth xs14 2, nth xs14 3, v323] H250 nx251))))
  (LD false 1 (AV.ptr nx16 0) H250 fun v324 =>
  BI BinOp.eql v324 (AV.int IntKind.i64 15) fun v325 =>
  CND v325
  (LD false 1 (AV.ptr nx16 1) H250 fun v326 =>
  BSL 1 1 [AV.int IntKind.i64 0] [(0, v326)] fun cells327 =>
  APP 1 8 (nth xs14 2) (AV.slc nx251 0 1) (H250.put nx251 (some (AObj.row 1 cells327))) (nx251 + 1) fun v328 H329 nx330 =>
  BSL 1 1 [AV.int IntKind.i64 0] [(0, v259)] fun cells331 =>
  APP 1 8 (nth xs14 3) (AV.slc nx330 0 1) (H329.put nx330 (some (AObj.row 1 cells331))) (nx330 + 1) fun v332 H333 nx334 =>
  BI BinOp.add (nth xs14 4) (AV.int IntKind.i64 1) fun v335 =>
  K13 [nth xs14 0, nth xs14 1, v328, v332, v335] H333 nx334)
  (LD false 1 (AV.ptr nx16 0) H250 fun v336 =>
  BI BinOp.eql v336 (AV.int IntKind.i64 16) fun v337 =>
  CND v337
  (LD false 1 (AV.ptr nx16 1) H250 fun v338 =>
  BSL 1 1 [AV.int IntKind.i64 0] [(0, v338)] fun cells339 =>
  APP 1 8 (nth xs14 2) (AV.slc nx251 0 1) (H250.put nx251 (some (AObj.row 1 cells339))) (nx251 + 1) fun v340 H341 nx342 =>
  BSL 1 1 [AV.int IntKind.i64 0] [(0, v259)] fun cells343 =>
  APP 1 8 (nth xs14 3) (AV.slc nx342 0 1) (H341.put nx342 (some (AObj.row 1 cells343))) (nx342 + 1) fun v344 H345 nx346 =>
  BI BinOp.add (nth xs14 4) (AV.int IntKind.i64 1) fun v347 =>
  K13 [nth xs14 0, nth xs14 1, v340, v344, v347] H345 nx346)
  (BI BinOp.add (nth xs14 4) (AV.int IntKind.i64 1) fun v348 =>
  K13 [nth xs14 0, nth xs14 1, nth xs14 2, nth xs14 3, v348] H250 nx251))))))
  (BI BinOp.sub v23 v252 fun v349 =>
  BI BinOp.add v349 v253 fun v350 =>
  BI BinOp.gtr v350 (AV.int IntKind.i64 16) fun v351 =>
  CND v351
  (Q (AV.tup [AV.nils, AV.int IntKind.i64 4]) H250 nx251)
  (LD false 1 (AV.ptr nx16 0) H250 fun v352 =>
  BI BinOp.neq v352 (AV.int IntKind.i64 15) fun v353 =>
  CND v353
  (LD false 1 (AV.ptr nx16 0) H250 fun v354 =>
  BI BinOp.neq v354 (AV.int IntKind.i64 18) fun v355 =>
  CND v355
  (BI BinOp.add v20 (AV.int IntKind.i64 1) fun v356 =>
  BSL 1 1 [AV.int IntKind.i64 0] [(0, v356)] fun cells357 =>
  APP 1 8 (nth xs14 2) (AV.slc nx251 0 1) (H250.put nx251 (some (AObj.row 1 cells357))) (nx251 + 1) fun v358 H359 nx360 =>
  BSL 1 1 [AV.int IntKind.i64 0] [(0, v350)] fun cells361 =>
  APP 1 8 (nth xs14 3) (AV.slc nx360 0 1) (H359.put nx360 (some (AObj.row 1 cells361))) (nx360 + 1) fun v362 H363 nx364 =>
  LD false 1 (AV.ptr nx16 0) H363 fun v365 =>
  BI BinOp.eql v365 (AV.int IntKind.i64 15) fun v366 =>
  CND v366
  (LD false 1 (AV.ptr nx16 1) H363 fun v367 =>
  BSL 1 1 [AV.int IntKind.i64 0] [(0, v367)] fun cells368 =>
  APP 1 8 v358 (AV.slc nx364 0 1) (H363.put nx364 (some (AObj.row 1 cells368))) (nx364 + 1) fun v369 H370 nx371 =>
  BSL 1 1 [AV.int IntKind.i64 0] [(0, v350)] fun cells372 =>
  APP 1 8 v362 (AV.slc nx371 0 1) (H370.put nx371 (some (AObj.row 1 cells372))) (nx371 + 1) fun v373 H374 nx375 =>
  BI BinOp.add (nth xs14 4) (AV.int IntKind.i64 1) fun v376 =>
  K13 [nth xs14 0, nth xs14 1, v369, v373, v376] H374 nx375)
  (LD false 1 (AV.ptr nx16 0) H363 fun v377 =>
  BI BinOp.eql v377 (AV.int IntKind.i64 16) fun v378 =>
  CND v378
  (LD false 1 (AV.ptr nx16 1) H363 fun v379 =>
  BSL 1 1 [AV.int IntKind.i64 0] [(0, v379)] fun cells380 =>
  APP 1 8 v358 (AV.slc nx364 0 1) (H363.put nx364 (some (AObj.row 1 cells380))) (nx364 + 1) fun v381 H382 nx383 =>
  BSL 1 1 [AV.int IntKind.i64 0] [(0, v350)] fun cells384 =>
  APP 1 8 v362 (AV.slc nx383 0 1) (H382.put nx383 (some (AObj.row 1 cells384))) (nx383 + 1) fun v385 H386 nx387 =>
  BI BinOp.add (nth xs14 4) (AV.int IntKind.i64 1) fun v388 =>
  K13 [nth xs14 0, nth xs14 1, v381, v385, v388] H386 nx387)
  (BI BinOp.add (nth xs14 4) (AV.int IntKind.i64 1) fun v389 =>
  K13 [nth xs14 0, nth xs14 1, v358, v362, v389] H363 nx364)))
  (LD false 1 (AV.ptr nx16 0) H250 fun v390 =>
  BI BinOp.eql v390 (AV.int IntKind.i64 15) fun v391 =>
  CND v391
  (LD false 1 (AV.ptr nx16 1) H250 fun v392 =>
  BSL 1 1 [AV.int IntKind.i64 0] [(0, v392)] fun cells393 =>
  APP 1 8 (nth xs14 2) (AV.slc nx251 0 1) (H250.put nx251 (some (AObj.row 1 cells393))) (nx251 + 1) fun v394 H395 nx396 =>
  BSL 1 1 [AV.int IntKind.i64 0] [(0, v350)] fun cells397 =>
  APP 1 8 (nth xs14 3) (AV.slc nx396 0 1) (H395.put nx396 (some (AObj.row 1 cells397))) (nx396 + 1) fun v398 H399 nx400 =>
  BI BinOp.add (nth xs14 4) (AV.int IntKind.i64 1) fun v401 =>
  K13 [nth xs14 0, nth xs14 1, v394, v398, v401] H399 nx400)
  (LD false 1 (AV.ptr nx16 0) H250 fun v402 =>
  BI BinOp.eql v402 (AV.int IntKind.i64 16) fun v403 =>
  CND v403
  (LD false 1 (AV.ptr nx16 1) H250 fun v404 =>
  BSL 1 1 [AV.int IntKind.i64 0] [(0, v404)] fun cells405 =>
  APP 1 8 (nth xs14 2) (AV.slc nx251 0 1) (H250.put nx251 (some (AObj.row 1 cells405))) (nx251 + 1) fun v406 H407 nx408 =>
  BSL 1 1 [AV.int IntKind.i64 0] [(0, v350)] fun cells409 =>
  APP 1 8 (nth xs14 3) (AV.slc nx408 0 1) (H407.put nx408 (some (AObj.row 1 cells409))) (nx408 + 1) fun v410 H411 nx412 =>
  BI BinOp.add (nth xs14 4) (AV.int IntKind.i64 1) fun v413 =>
  K13 [nth xs14 0, nth xs14 1, v406, v410, v413] H411 nx412)
  (BI BinOp.add (nth xs14 4) (AV.int IntKind.i64 1) fun v414 =>
  K13 [nth xs14 0, nth xs14 1, nth xs14 2, nth xs14 3, v414] H250 nx251))))
  (LD false 1 (AV.ptr nx16 0) H250 fun v415 =>
  BI BinOp.eql v415 (AV.int IntKind.i64 15) fun v416 =>
  CND v416
  (LD false 1 (AV.ptr nx16 1) H250 fun v417 =>
  BSL 1 1 [AV.int IntKind.i64 0] [(0, v417)] fun cells418 =>
  APP 1 8 (nth xs14 2) (AV.slc nx251 0 1) (H250.put nx251 (some (AObj.row 1 cells418))) (nx251 + 1) fun v419 H420 nx421 =>
  BSL 1 1 [AV.int IntKind.i64 0] [(0, v350)] fun cells422 =>
  APP 1 8 (nth xs14 3) (AV.slc nx421 0 1) (H420.put nx421 (some (AObj.row 1 cells422))) (nx421 + 1) fun v423 H424 nx425 =>
  BI BinOp.add (nth xs14 4) (AV.int IntKind.i64 1) fun v426 =>
  K13 [nth xs14 0, nth xs14 1, v419, v423, v426] H424 nx425)
  (LD false 1 (AV.ptr nx16 0) H250 fun v427 =>
  BI BinOp.eql v427 (AV.int IntKind.i64 16) fun v428 =>
  CND v428
  (LD false 1 (AV.ptr nx16 1) H250 fun v429 =>
  BSL 1 1 [AV.int IntKind.i64 0] [(0, v429)] fun cells430 =>
  APP 1 8 (nth xs14 2) (AV.slc nx251 0 1) (H250.put nx251 (some (AObj.row 1 cells430))) (nx251 + 1) fun v431 H432 nx433 =>
  BSL 1 1 [AV.int IntKind.i64 0] [(0, v350)] fun cells434 =>
  APP 1 8 (nth xs14 3) (AV.slc nx433 0 1) (H432.put nx433 (some (AObj.row 1 cells434))) (nx433 + 1) fun v435 H436 nx437 =>
  BI BinOp.add (nth xs14 4) (AV.int IntKind.i64 1) fun v438 =>
  K13 [nth xs14 0, nth xs14 1, v431, v435, v438] H436 nx437)
  (BI BinOp.add (nth xs14 4) (AV.int IntKind.i64 1) fun v439 =>
  K13 [nth xs14 0, nth xs14 1, nth xs14 2, nth xs14 3, v439] H250 nx251))))))
def zwref6_Heights_l1 (Q : AV → Heap → Nat → Prop) (K13 : J3) (xs14 : List AV) (H15 : Heap) (nx16 : Nat) : Prop :=
  LNL (nth xs14 2) fun v17 =>
  BI BinOp.lss (nth xs14 4) v17 fun v18 =>
  CND v18
  (IA 1 (nth xs14 2) (nth xs14 4) fun v19 =>
  LDR false 1 v19 H15 fun v20 rd21 =>
  IA 1 (nth xs14 3) (nth xs14 4) fun v22 =>
  LDR false 1 v22 H15 fun v23 rd24 =>
  BI BinOp.lss v20 (AV.int IntKind.i64 0) fun v25 =>
  CND v25
  (Q (AV.tup [AV.nils, AV.int IntKind.i64 8]) H15 nx16)
  (LNL (nth xs14 1) fun v26 =>
  BI BinOp.geq v20 v26 fun v27 =>
  CND v27
  (Q (AV.tup [AV.nils, AV.int IntKind.i64 8]) H15 nx16)
  (IA 1 (nth xs14 1) v20 fun v28 =>
  LD false 1 v28 H15 fun v29 =>
  BI BinOp.geq v29 (AV.int IntKind.i64 0) fun v30 =>
  CND v30
  (IA 1 (nth xs14 1) v20 fun v31 =>
  LD false 1 v31 H15 fun v32 =>
  BI BinOp.neq v32 v23 fun v33 =>
  CND v33
  (Q (AV.tup [AV.nils, AV.int IntKind.i64 10]) H15 nx16)
  (IA 1 (nth xs14 1) v20 fun v34 =>
  LD false 1 v34 H15 fun v35 =>
  BI BinOp.geq v35 (AV.int IntKind.i64 0) fun v36 =>
  CND v36
  (BI BinOp.add (nth xs14 4) (AV.int IntKind.i64 1) fun v37 =>
  K13 [nth xs14 0, nth xs14 1, nth xs14 2, nth xs14 3, v37] H15 nx16)
  (IA 1 (nth xs14 1) v20 fun v38 =>
  ST 1 v38 v23 H15 fun H39 =>
  FA 2 (nth xs14 0) fun v40 =>
  LD false 1 v40 H39 fun v41 =>
  IA 3 v41 v20 fun v42 =>
  LD true 3 v42 H39 fun v43 =>
  ST 3 (AV.ptr nx16 0) v43 (H39.put nx16 (some (AObj.row 3 [AV.int IntKind.i64 0, AV.int IntKind.i64 0, AV.int IntKind.i64 0]))) fun H44 =>
  LD true 3 (AV.ptr nx16 0) H44 fun v45 =>
  ACalls Try.prog 31 [v45] H44 (nx16 + 1) (zwref6_Heights_k1 v23 Q nx16 v20 xs14 K13))))
  (IA 1 (nth xs14 1) v20 fun v237 =>
  LD false 1 v237 H15 fun v238 =>
  BI BinOp.geq v238 (AV.int IntKind.i64 0) fun v239 =>
  CND v239
  (BI BinOp.add (nth xs14 4) (AV.int IntKind.i64 1) fun v240 =>
  K13 [nth xs14 0, nth xs14 1, nth xs14 2, nth xs14 3, v240] H15 nx16)
  (IA 1 (nth xs14 1) v20 fun v241 =>
  ST 1 v241 v23 H15 fun H242 =>
  FA 2 (nth xs14 0) fun v243 =>
  LD false 1 v243 H242 fun v244 =>
  IA 3 v244 v20 fun v245 =>
  LD true 3 v245 H242 fun v246 =>
  ST 3 (AV.ptr nx16 0) v246 (H242.put nx16 (some (AObj.row 3 [AV.int IntKind.i64 0, AV.int IntKind.i64 0, AV.int IntKind.i64 0]))) fun H247 =>
  LD true 3 (AV.ptr nx16 0) H247 fun v248 =>
  ACalls Try.prog 31 [v248] H247 (nx16 + 1) (zwref6_Heights_k2 v23 Q nx16 v20 xs14 K13))))))
  (Q (AV.tup [nth xs14 1, AV.int IntKind.i64 0]) H15 nx16)
def zwref6_Heights_l2 (Q : AV → Heap → Nat → Prop) (K5 : J3) (xs6 : List AV) (H7 : Heap) (nx8 : Nat) : Prop :=
  BI BinOp.lss (nth xs6 3) (nth xs6 2) fun v9 =>
  CND v9
  (IA 1 (nth xs6 1) (nth xs6 3) fun v10 =>
  ST 1 v10 (AV.int IntKind.i64 (-1)) H7 fun H11 =>
  BI BinOp.add (nth xs6 3) (AV.int IntKind.i64 1) fun v12 =>
  K5 [nth xs6 0, nth xs6 1, nth xs6 2, v12] H11 nx8)
  (LP (zwref6_Heights_l1 Q) [nth xs6 0, nth xs6 1, AV.slc nx8 0 1, AV.slc (nx8 + 1) 0 1, AV.int IntKind.i64 0] ((H7.put nx8 (some (AObj.row 1 [AV.int IntKind.i64 0]))).put ((nx8 + 1)) (some (AObj.row 1 [AV.int IntKind.i64 0]))) (nx8 + 2))
def zwref6_Heights_vc (a0 : AV) (H : Heap) (nx : Nat) (Q : AV → Heap → Nat → Prop) : Prop :=
  a0.sure = true ∧
  LD false 1 (AV.ptr nx 2) (H.put nx (some (AObj.row a0.cells.length a0.cells))) fun v1 =>
  LNL v1 fun v2 =>
  MK 8 v2 v2 fun n3 =>
  LNL (AV.slc (nx + 1) 0 n3) fun v4 =>
  LP (zwref6_Heights_l2 Q) [AV.ptr nx 0, AV.slc (nx + 1) 0 n3, v4, AV.int IntKind.i64 0] ((H.put nx (some (AObj.row a0.cells.length a0.cells))).put ((nx + 1)) (some (AObj.row 1 (List.replicate n3 [AV.int IntKind.i64 0]).flatten))) (nx + 2)
theorem zwref6_Heights_eq (a0 : AV) (H : Heap) (nx : Nat) (Q : AV → Heap → Nat → Prop) : body Try.prog tab eqsT (lvOf zwref6_Heights_lv) Try.f15 (codeOf Try.f15) [a0] H nx Q = zwref6_Heights_vc a0 H nx Q := by kernel_rfl
theorem zwref6_Heights_calls (a0 : AV) (H : Heap) (nx : Nat) (Q : AV → Heap → Nat → Prop) (h : zwref6_Heights_vc a0 H nx Q) : ACalls Try.prog 15 [a0] H nx Q :=
  acalls_body tabOk eqsOk mixed Try.func15 (by kernel_rfl) (by kernel_rfl) (by kernel_rfl) (by kernel_rfl) ((zwref6_Heights_eq a0 H nx Q).symm ▸ h)

/-- wanderstaff/zwref1.Word -/
def zwref1_Word_lv : List (Nat × Nat × List Nat) := [(2, 2, [0, 5, 6])]
def zwref1_Word_l1 (Q : AV → Heap → Nat → Prop) (K2 : J3) (xs3 : List AV) (H4 : Heap) (nx5 : Nat) : Prop :=
  BI BinOp.lss (nth xs3 2) (nth xs3 1) fun v6 =>
  CND v6
  (IX (nth xs3 0) (nth xs3 2) fun v7 =>
  BI BinOp.lss v7 (AV.int IntKind.u8 32) fun v8 =>
  CND v8
  (Q (AV.bool false) H4 nx5)
  (IX (nth xs3 0) (nth xs3 2) fun v9 =>
  BI BinOp.gtr v9 (AV.int IntKind.u8 126) fun v10 =>
  CND v10
  (Q (AV.bool false) H4 nx5)
  (IX (nth xs3 0) (nth xs3 2) fun v11 =>
  BI BinOp.eql v11 (AV.int IntKind.u8 39) fun v12 =>
  CND v12
  (Q (AV.bool false) H4 nx5)
  (BI BinOp.add (nth xs3 2) (AV.int IntKind.i64 1) fun v13 =>
  K2 [nth xs3 0, nth xs3 1, v13] H4 nx5))))
  (LNS (nth xs3 0) fun v14 =>
  BI BinOp.lss v14 (AV.int IntKind.i64 13) fun v15 =>
  Q v15 H4 nx5)
def zwref1_Word_vc (a0 : AV) (H : Heap) (nx : Nat) (Q : AV → Heap → Nat → Prop) : Prop :=
  LNS a0 fun v1 =>
  LP (zwref1_Word_l1 Q) [a0, v1, AV.int IntKind.i64 0] H nx
theorem zwref1_Word_eq (a0 : AV) (H : Heap) (nx : Nat) (Q : AV → Heap → Nat → Prop) : body Try.prog tab eqsT (lvOf zwref1_Word_lv) Try.f24 (codeOf Try.f24) [a0] H nx Q = zwref1_Word_vc a0 H nx Q := by kernel_rfl
theorem zwref1_Word_calls (a0 : AV) (H : Heap) (nx : Nat) (Q : AV → Heap → Nat → Prop) (h : zwref1_Word_vc a0 H nx Q) : ACalls Try.prog 24 [a0] H nx Q :=
  acalls_body tabOk eqsOk mixed Try.func24 (by kernel_rfl) (by kernel_rfl) (by kernel_rfl) (by kernel_rfl) ((zwref1_Word_eq a0 H nx Q).symm ▸ h)

/-- wanderstaff/zwref6.Program -/
def zwref6_Program_lv : List (Nat × Nat × List Nat) := [(1, 8, [1, 8, 10, 11, 12, 87, 88, 89, 94, 95, 96]), (2, 6, [1, 30, 31, 32]), (2, 14, [1, 47, 48, 49]), (2, 20, [1, 87, 88, 89]), (2, 23, [1, 8, 87, 88, 89, 94, 95, 96])]
def zwref6_Program_k1 (Q : AV → Heap → Nat → Prop) (xs13 : List AV) (K12 : J3) (v19 : AV) (H20 : Heap) (nx21 : Nat) : Prop :=
  UO UnOp.not v19 fun v22 =>
  CND v22
  (Q (AV.int IntKind.i64 7) H20 nx21)
  (BI BinOp.add (nth xs13 3) (AV.int IntKind.i64 1) fun v23 =>
  K12 [nth xs13 0, nth xs13 1, nth xs13 2, v23] H20 nx21)
def zwref6_Program_j1 (Q : AV → Heap → Nat → Prop) (K70 : J3) (xs83 : List AV) (H84 : Heap) (nx85 : Nat) : Prop :=
  FA 1 (nth xs83 2) fun v87 =>
  LDR false 1 v87 H84 fun v88 rd89 =>
  BI BinOp.lss v88 (nth xs83 3) fun v90 =>
  CND v90
  (Q (AV.int IntKind.i64 3) H84 nx85)
  (FA 1 (nth xs83 2) fun v91 =>
  LDR false 1 v91 H84 fun v92 rd93 =>
  BI BinOp.gtr v92 (nth xs83 4) fun v94 =>
  CND v94
  (Q (AV.int IntKind.i64 3) H84 nx85)
  (FA 0 (nth xs83 2) fun v95 =>
  LDR false 1 v95 H84 fun v96 rd97 =>
  BI BinOp.eql v96 (AV.int IntKind.i64 17) fun v98 =>
  CND v98
  (FA 2 (nth xs83 2) fun v99 =>
  LDR false 1 v99 H84 fun v100 rd101 =>
  FA 0 (nth xs83 0) fun v102 =>
  LDR false 1 v102 H84 fun v103 rd104 =>
  FA 1 (nth xs83 2) fun v105 =>
  LDR false 1 v105 H84 fun v106 rd107 =>
  IA 3 v103 v106 fun v108 =>
  FA 0 v108 fun v109 =>
  LDR false 1 v109 H84 fun v110 rd111 =>
  BI BinOp.neq v100 v110 fun v112 =>
  CND v112
  (Q (AV.int IntKind.i64 3) H84 nx85)
  (FA 0 (nth xs83 2) fun v113 =>
  LDR false 1 v113 H84 fun v114 rd115 =>
  BI BinOp.neq v114 (AV.int IntKind.i64 17) fun v116 =>
  CND v116
  (FA 2 (nth xs83 2) fun v117 =>
  LDR false 1 v117 H84 fun v118 rd119 =>
  BI BinOp.neq v118 (AV.int IntKind.i64 0) fun v120 =>
  CND v120
  (Q (AV.int IntKind.i64 3) H84 nx85)
  (BI BinOp.add (nth xs83 10) (AV.int IntKind.i64 1) fun v121 =>
  K70 [nth xs83 0, nth xs83 1, nth xs83 5, nth xs83 6, nth xs83 7, nth xs83 8, nth xs83 9, v121] H84 nx85))
  (BI BinOp.add (nth xs83 10) (AV.int IntKind.i64 1) fun v122 =>
  K70 [nth xs83 0, nth xs83 1, nth xs83 5, nth xs83 6, nth xs83 7, nth xs83 8, nth xs83 9, v122] H84 nx85)))
  (FA 0 (nth xs83 2) fun v123 =>
  LDR false 1 v123 H84 fun v124 rd125 =>
  BI BinOp.neq v124 (AV.int IntKind.i64 17) fun v126 =>
  CND v126
  (FA 2 (nth xs83 2) fun v127 =>
  LDR false 1 v127 H84 fun v128 rd129 =>
  BI BinOp.neq v128 (AV.int IntKind.i64 0) fun v130 =>
  CND v130
  (Q (AV.int IntKind.i64 3) H84 nx85)
  (BI BinOp.add (nth xs83 10) (AV.int IntKind.i64 1) fun v131 =>
  K70 [nth xs83 0, nth xs83 1, nth xs83 5, nth xs83 6, nth xs83 7, nth xs83 8, nth xs83 9, v131] H84 nx85))
  (BI BinOp.add (nth xs83 10) (AV.int IntKind.i64 1) fun v132 =>
  K70 [nth xs83 0, nth xs83 1, nth xs83 5, nth xs83 6, nth xs83 7, nth xs83 8, nth xs83 9, v132] H84 nx85))))
def zwref6_Program_b1 (v82 : AV) (xs71 : List AV) (nx73 : Nat) (H77 : Heap) (j86 : J3) : Prop :=
  BI BinOp.eql v82 (AV.int IntKind.i64 1) fun v133 =>
  CND v133
  (j86 [nth xs71 0, nth xs71 1, AV.ptr nx73 0, AV.int IntKind.i64 (-1073741824), AV.int IntKind.i64 1073741824, nth xs71 2, nth xs71 3, nth xs71 4, nth xs71 5, nth xs71 6, nth xs71 7] H77 (nx73 + 1))
  (BI BinOp.eql v82 (AV.int IntKind.i64 2) fun v134 =>
  CND v134
  (FA 1 (nth xs71 0) fun v135 =>
  LD false 1 v135 H77 fun v136 =>
  LNL v136 fun v137 =>
  BI BinOp.sub v137 (AV.int IntKind.i64 1) fun v138 =>
  j86 [nth xs71 0, nth xs71 1, AV.ptr nx73 0, AV.int IntKind.i64 0, v138, nth xs71 2, nth xs71 3, nth xs71 4, nth xs71 5, nth xs71 6, nth xs71 7] H77 (nx73 + 1))
  (BI BinOp.eql v82 (AV.int IntKind.i64 3) fun v139 =>
  CND v139
  (FA 1 (nth xs71 1) fun v140 =>
  LD false 1 v140 H77 fun v141 =>
  BI BinOp.sub v141 (AV.int IntKind.i64 1) fun v142 =>
  j86 [nth xs71 0, nth xs71 1, AV.ptr nx73 0, AV.int IntKind.i64 0, v142, nth xs71 2, nth xs71 3, nth xs71 4, nth xs71 5, nth xs71 6, nth xs71 7] H77 (nx73 + 1))
  (BI BinOp.eql v82 (AV.int IntKind.i64 4) fun v143 =>
  CND v143
  (FA 1 (nth xs71 1) fun v144 =>
  LD false 1 v144 H77 fun v145 =>
  BI BinOp.sub v145 (AV.int IntKind.i64 1) fun v146 =>
  j86 [nth xs71 0, nth xs71 1, AV.ptr nx73 0, AV.int IntKind.i64 0, v146, nth xs71 2, nth xs71 3, nth xs71 4, nth xs71 5, nth xs71 6, nth xs71 7] H77 (nx73 + 1))
  (BI BinOp.eql v82 (AV.int IntKind.i64 5) fun v147 =>
  CND v147
  (j86 [nth xs71 0, nth xs71 1, AV.ptr nx73 0, AV.int IntKind.i64 1, AV.int IntKind.i64 5, nth xs71 2, nth xs71 3, nth xs71 4, nth xs71 5, nth xs71 6, nth xs71 7] H77 (nx73 + 1))
  (BI BinOp.eql v82 (AV.int IntKind.i64 15) fun v148 =>
  CND v148
  (FA 2 (nth xs71 1) fun v149 =>
  LD false 1 v149 H77 fun v150 =>
  LNL v150 fun v151 =>
  BI BinOp.sub v151 (AV.int IntKind.i64 1) fun v152 =>
  j86 [nth xs71 0, nth xs71 1, AV.ptr nx73 0, AV.int IntKind.i64 0, v152, nth xs71 2, nth xs71 3, nth xs71 4, nth xs71 5, nth xs71 6, nth xs71 7] H77 (nx73 + 1))
  (BI BinOp.eql v82 (AV.int IntKind.i64 16) fun v153 =>
  CND v153
  (FA 2 (nth xs71 1) fun v154 =>
  LD false 1 v154 H77 fun v155 =>
  LNL v155 fun v156 =>
  BI BinOp.sub v156 (AV.int IntKind.i64 1) fun v157 =>
  j86 [nth xs71 0, nth xs71 1, AV.ptr nx73 0, AV.int IntKind.i64 0, v157, nth xs71 2, nth xs71 3, nth xs71 4, nth xs71 5, nth xs71 6, nth xs71 7] H77 (nx73 + 1))
  (BI BinOp.eql v82 (AV.int IntKind.i64 17) fun v158 =>
  CND v158
  (FA 0 (nth xs71 0) fun v159 =>
  LD false 1 v159 H77 fun v160 =>
  LNL v160 fun v161 =>
  BI BinOp.sub v161 (AV.int IntKind.i64 1) fun v162 =>
  j86 [nth xs71 0, nth xs71 1, AV.ptr nx73 0, AV.int IntKind.i64 0, v162, nth xs71 2, nth xs71 3, nth xs71 4, nth xs71 5, nth xs71 6, nth xs71 7] H77 (nx73 + 1))
  (j86 [nth xs71 0, nth xs71 1, AV.ptr nx73 0, AV.int IntKind.i64 0, AV.int IntKind.i64 0, nth xs71 2, nth xs71 3, nth xs71 4, nth xs71 5, nth xs71 6, nth xs71 7] H77 (nx73 + 1)))))))))
def zwref6_Program_k2 (Q : AV → Heap → Nat → Prop) (xs71 : List AV) (K60 : J3) (v164 : AV) (H165 : Heap) (nx166 : Nat) : Prop :=
  EX v164 0 fun v167 =>
  EX v164 1 fun v168 =>
  BI BinOp.neq v168 (AV.int IntKind.i64 0) fun v169 =>
  CND v169
  (Q v168 H165 nx166)
  (BI BinOp.add (nth xs71 4) (AV.int IntKind.i64 1) fun v170 =>
  K60 [nth xs71 0, nth xs71 2, nth xs71 3, v170] H165 nx166)
def zwref6_Program_l1 (Q : AV → Heap → Nat → Prop) (K60 : J3) (K70 : J3) (xs71 : List AV) (H72 : Heap) (nx73 : Nat) : Prop :=
  BI BinOp.lss (nth xs71 7) (nth xs71 6) fun v74 =>
  CND v74
  (IA 3 (nth xs71 5) (nth xs71 7) fun v75 =>
  LD true 3 v75 H72 fun v76 =>
  ST 3 (AV.ptr nx73 0) v76 (H72.put nx73 (some (AObj.row 3 [AV.int IntKind.i64 0, AV.int IntKind.i64 0, AV.int IntKind.i64 0]))) fun H77 =>
  LD false 1 (AV.ptr nx73 0) H77 fun v78 =>
  BI BinOp.lss v78 (AV.int IntKind.i64 1) fun v79 =>
  CND v79
  (Q (AV.int IntKind.i64 1) H77 (nx73 + 1))
  (LD false 1 (AV.ptr nx73 0) H77 fun v80 =>
  BI BinOp.gtr v80 (AV.int IntKind.i64 19) fun v81 =>
  CND v81
  (Q (AV.int IntKind.i64 1) H77 (nx73 + 1))
  (LD false 1 (AV.ptr nx73 0) H77 fun v82 =>
  JN (zwref6_Program_j1 Q K70) (zwref6_Program_b1 v82 xs71 nx73 H77))))
  (LD true 3 (nth xs71 1) H72 fun v163 =>
  ACalls Try.prog 15 [v163] H72 nx73 (zwref6_Program_k2 Q xs71 K60))
def zwref6_Program_l2 (Q : AV → Heap → Nat → Prop) (K60 : J3) (xs61 : List AV) (H62 : Heap) (nx63 : Nat) : Prop :=
  BI BinOp.lss (nth xs61 3) (nth xs61 2) fun v64 =>
  CND v64
  (IA 3 (nth xs61 1) (nth xs61 3) fun v65 =>
  LD true 3 v65 H62 fun v66 =>
  ST 3 (AV.ptr nx63 0) v66 (H62.put nx63 (some (AObj.row 3 [AV.int IntKind.i64 0, AV.int IntKind.i64 0, AV.nils]))) fun H67 =>
  LD false 1 (AV.ptr nx63 2) H67 fun v68 =>
  LNL v68 fun v69 =>
  LP (zwref6_Program_l1 Q K60) [nth xs61 0, AV.ptr nx63 0, nth xs61 1, nth xs61 2, nth xs61 3, v68, v69, AV.int IntKind.i64 0] H67 (nx63 + 1))
  (Q (AV.int IntKind.i64 0) H62 nx63)
def zwref6_Program_l3 (Q : AV → Heap → Nat → Prop) (K33 : J3) (xs34 : List AV) (H35 : Heap) (nx36 : Nat) : Prop :=
  BI BinOp.lss (nth xs34 3) (nth xs34 2) fun v37 =>
  CND v37
  (IA 3 (nth xs34 1) (nth xs34 3) fun v38 =>
  LD true 3 v38 H35 fun v39 =>
  ST 3 (AV.ptr nx36 0) v39 (H35.put nx36 (some (AObj.row 3 [AV.int IntKind.i64 0, AV.int IntKind.i64 0, AV.nils]))) fun H40 =>
  LD false 1 (AV.ptr nx36 0) H40 fun v41 =>
  BI BinOp.lss v41 (AV.int IntKind.i64 0) fun v42 =>
  CND v42
  (Q (AV.int IntKind.i64 3) H40 (nx36 + 1))
  (LD false 1 (AV.ptr nx36 0) H40 fun v43 =>
  BI BinOp.gtr v43 (AV.int IntKind.i64 4) fun v44 =>
  CND v44
  (Q (AV.int IntKind.i64 3) H40 (nx36 + 1))
  (LD false 1 (AV.ptr nx36 1) H40 fun v45 =>
  LD false 1 (AV.ptr nx36 0) H40 fun v46 =>
  BI BinOp.lss v45 v46 fun v47 =>
  CND v47
  (Q (AV.int IntKind.i64 3) H40 (nx36 + 1))
  (LD false 1 (AV.ptr nx36 1) H40 fun v48 =>
  BI BinOp.gtr v48 (AV.int IntKind.i64 8) fun v49 =>
  CND v49
  (Q (AV.int IntKind.i64 3) H40 (nx36 + 1))
  (LD false 1 (AV.ptr nx36 2) H40 fun v50 =>
  LNL v50 fun v51 =>
  BI BinOp.eql v51 (AV.int IntKind.i64 0) fun v52 =>
  CND v52
  (Q (AV.int IntKind.i64 3) H40 (nx36 + 1))
  (LD false 1 (AV.ptr nx36 2) H40 fun v53 =>
  LNL v53 fun v54 =>
  BI BinOp.gtr v54 (AV.int IntKind.i64 200) fun v55 =>
  CND v55
  (Q (AV.int IntKind.i64 3) H40 (nx36 + 1))
  (BI BinOp.add (nth xs34 3) (AV.int IntKind.i64 1) fun v56 =>
  K33 [nth xs34 0, nth xs34 1, nth xs34 2, v56] H40 (nx36 + 1))))))))
  (FA 0 (nth xs34 0) fun v57 =>
  LD false 1 v57 H35 fun v58 =>
  LNL v58 fun v59 =>
  LP (zwref6_Program_l2 Q) [nth xs34 0, v58, v59, AV.int IntKind.i64 0] H35 nx36)
def zwref6_Program_l4 (Q : AV → Heap → Nat → Prop) (K12 : J3) (xs13 : List AV) (H14 : Heap) (nx15 : Nat) : Prop :=
  BI BinOp.lss (nth xs13 3) (nth xs13 2) fun v16 =>
  CND v16
  (IA 1 (nth xs13 1) (nth xs13 3) fun v17 =>
  LD false 1 v17 H14 fun v18 =>
  ACalls Try.prog 24 [v18] H14 nx15 (zwref6_Program_k1 Q xs13 K12))
  (FA 0 (nth xs13 0) fun v24 =>
  LD false 1 v24 H14 fun v25 =>
  IA 3 v25 (AV.int IntKind.i64 0) fun v26 =>
  FA 0 v26 fun v27 =>
  LD false 1 v27 H14 fun v28 =>
  BI BinOp.neq v28 (AV.int IntKind.i64 0) fun v29 =>
  CND v29
  (Q (AV.int IntKind.i64 10) H14 nx15)
  (FA 0 (nth xs13 0) fun v30 =>
  LD false 1 v30 H14 fun v31 =>
  LNL v31 fun v32 =>
  LP (zwref6_Program_l3 Q) [nth xs13 0, v31, v32, AV.int IntKind.i64 0] H14 nx15))
def zwref6_Program_vc (a0 : AV) (H : Heap) (nx : Nat) (Q : AV → Heap → Nat → Prop) : Prop :=
  a0.sure = true ∧
  LD false 1 (AV.ptr nx 0) (H.put nx (some (AObj.row a0.cells.length a0.cells))) fun v1 =>
  LNL v1 fun v2 =>
  BI BinOp.eql v2 (AV.int IntKind.i64 0) fun v3 =>
  CND v3
  (Q (AV.int IntKind.i64 5) (H.put nx (some (AObj.row a0.cells.length a0.cells))) (nx + 1))
  (LD false 1 (AV.ptr nx 0) (H.put nx (some (AObj.row a0.cells.length a0.cells))) fun v4 =>
  LNL v4 fun v5 =>
  BI BinOp.gtr v5 (AV.int IntKind.i64 5) fun v6 =>
  CND v6
  (Q (AV.int IntKind.i64 5) (H.put nx (some (AObj.row a0.cells.length a0.cells))) (nx + 1))
  (LD false 1 (AV.ptr nx 1) (H.put nx (some (AObj.row a0.cells.length a0.cells))) fun v7 =>
  LNL v7 fun v8 =>
  BI BinOp.gtr v8 (AV.int IntKind.i64 16) fun v9 =>
  CND v9
  (Q (AV.int IntKind.i64 4) (H.put nx (some (AObj.row a0.cells.length a0.cells))) (nx + 1))
  (LD false 1 (AV.ptr nx 1) (H.put nx (some (AObj.row a0.cells.length a0.cells))) fun v10 =>
  LNL v10 fun v11 =>
  LP (zwref6_Program_l4 Q) [AV.ptr nx 0, v10, v11, AV.int IntKind.i64 0] (H.put nx (some (AObj.row a0.cells.length a0.cells))) (nx + 1))))
theorem zwref6_Program_eq (a0 : AV) (H : Heap) (nx : Nat) (Q : AV → Heap → Nat → Prop) : body Try.prog tab eqsT (lvOf zwref6_Program_lv) Try.f10 (codeOf Try.f10) [a0] H nx Q = zwref6_Program_vc a0 H nx Q := by kernel_rfl
theorem zwref6_Program_calls (a0 : AV) (H : Heap) (nx : Nat) (Q : AV → Heap → Nat → Prop) (h : zwref6_Program_vc a0 H nx Q) : ACalls Try.prog 10 [a0] H nx Q :=
  acalls_body tabOk eqsOk mixed Try.func10 (by kernel_rfl) (by kernel_rfl) (by kernel_rfl) (by kernel_rfl) ((zwref6_Program_eq a0 H nx Q).symm ▸ h)

/-- wanderstaff/verify.effect -/
def verify_effect_lv : List (Nat × Nat × List Nat) := []
def verify_effect_vc (a0 : AV) (H : Heap) (nx : Nat) (Q : AV → Heap → Nat → Prop) : Prop :=
  a0.sure = true ∧
  LD false 1 (AV.ptr nx 0) (H.put nx (some (AObj.row a0.cells.length a0.cells))) fun v1 =>
  BI BinOp.eql v1 (AV.int IntKind.i64 1) fun v2 =>
  CND v2
  (Q (AV.tup [AV.int IntKind.i64 0, AV.int IntKind.i64 1]) (H.put nx (some (AObj.row a0.cells.length a0.cells))) (nx + 1))
  (BI BinOp.eql v1 (AV.int IntKind.i64 2) fun v3 =>
  CND v3
  (Q (AV.tup [AV.int IntKind.i64 0, AV.int IntKind.i64 1]) (H.put nx (some (AObj.row a0.cells.length a0.cells))) (nx + 1))
  (BI BinOp.eql v1 (AV.int IntKind.i64 3) fun v4 =>
  CND v4
  (Q (AV.tup [AV.int IntKind.i64 0, AV.int IntKind.i64 1]) (H.put nx (some (AObj.row a0.cells.length a0.cells))) (nx + 1))
  (BI BinOp.eql v1 (AV.int IntKind.i64 12) fun v5 =>
  CND v5
  (Q (AV.tup [AV.int IntKind.i64 0, AV.int IntKind.i64 1]) (H.put nx (some (AObj.row a0.cells.length a0.cells))) (nx + 1))
  (BI BinOp.eql v1 (AV.int IntKind.i64 4) fun v6 =>
  CND v6
  (Q (AV.tup [AV.int IntKind.i64 1, AV.int IntKind.i64 0]) (H.put nx (some (AObj.row a0.cells.length a0.cells))) (nx + 1))
  (BI BinOp.eql v1 (AV.int IntKind.i64 14) fun v7 =>
  CND v7
  (Q (AV.tup [AV.int IntKind.i64 1, AV.int IntKind.i64 0]) (H.put nx (some (AObj.row a0.cells.length a0.cells))) (nx + 1))
  (BI BinOp.eql v1 (AV.int IntKind.i64 16) fun v8 =>
  CND v8
  (Q (AV.tup [AV.int IntKind.i64 1, AV.int IntKind.i64 0]) (H.put nx (some (AObj.row a0.cells.length a0.cells))) (nx + 1))
  (BI BinOp.eql v1 (AV.int IntKind.i64 19) fun v9 =>
  CND v9
  (Q (AV.tup [AV.int IntKind.i64 1, AV.int IntKind.i64 0]) (H.put nx (some (AObj.row a0.cells.length a0.cells))) (nx + 1))
  (BI BinOp.eql v1 (AV.int IntKind.i64 18) fun v10 =>
  CND v10
  (Q (AV.tup [AV.int IntKind.i64 1, AV.int IntKind.i64 0]) (H.put nx (some (AObj.row a0.cells.length a0.cells))) (nx + 1))
  (BI BinOp.eql v1 (AV.int IntKind.i64 5) fun v11 =>
  CND v11
  (Q (AV.tup [AV.int IntKind.i64 2, AV.int IntKind.i64 1]) (H.put nx (some (AObj.row a0.cells.length a0.cells))) (nx + 1))
  (BI BinOp.eql v1 (AV.int IntKind.i64 6) fun v12 =>
  CND v12
  (Q (AV.tup [AV.int IntKind.i64 2, AV.int IntKind.i64 1]) (H.put nx (some (AObj.row a0.cells.length a0.cells))) (nx + 1))
  (BI BinOp.eql v1 (AV.int IntKind.i64 7) fun v13 =>
  CND v13
  (Q (AV.tup [AV.int IntKind.i64 1, AV.int IntKind.i64 1]) (H.put nx (some (AObj.row a0.cells.length a0.cells))) (nx + 1))
  (BI BinOp.eql v1 (AV.int IntKind.i64 8) fun v14 =>
  CND v14
  (Q (AV.tup [AV.int IntKind.i64 1, AV.int IntKind.i64 1]) (H.put nx (some (AObj.row a0.cells.length a0.cells))) (nx + 1))
  (BI BinOp.eql v1 (AV.int IntKind.i64 11) fun v15 =>
  CND v15
  (Q (AV.tup [AV.int IntKind.i64 1, AV.int IntKind.i64 1]) (H.put nx (some (AObj.row a0.cells.length a0.cells))) (nx + 1))
  (BI BinOp.eql v1 (AV.int IntKind.i64 13) fun v16 =>
  CND v16
  (Q (AV.tup [AV.int IntKind.i64 1, AV.int IntKind.i64 1]) (H.put nx (some (AObj.row a0.cells.length a0.cells))) (nx + 1))
  (BI BinOp.eql v1 (AV.int IntKind.i64 9) fun v17 =>
  CND v17
  (Q (AV.tup [AV.int IntKind.i64 2, AV.int IntKind.i64 0]) (H.put nx (some (AObj.row a0.cells.length a0.cells))) (nx + 1))
  (BI BinOp.eql v1 (AV.int IntKind.i64 10) fun v18 =>
  CND v18
  (Q (AV.tup [AV.int IntKind.i64 2, AV.int IntKind.i64 0]) (H.put nx (some (AObj.row a0.cells.length a0.cells))) (nx + 1))
  (BI BinOp.eql v1 (AV.int IntKind.i64 17) fun v19 =>
  CND v19
  (LD false 1 (AV.ptr nx 2) (H.put nx (some (AObj.row a0.cells.length a0.cells))) fun v20 =>
  Q (AV.tup [v20, AV.int IntKind.i64 1]) (H.put nx (some (AObj.row a0.cells.length a0.cells))) (nx + 1))
  (Q (AV.tup [AV.int IntKind.i64 0, AV.int IntKind.i64 0]) (H.put nx (some (AObj.row a0.cells.length a0.cells))) (nx + 1)))))))))))))))))))
theorem verify_effect_eq (a0 : AV) (H : Heap) (nx : Nat) (Q : AV → Heap → Nat → Prop) : body Try.prog tab eqsT (lvOf verify_effect_lv) Try.f30 (codeOf Try.f30) [a0] H nx Q = verify_effect_vc a0 H nx Q := by kernel_rfl
theorem verify_effect_calls (a0 : AV) (H : Heap) (nx : Nat) (Q : AV → Heap → Nat → Prop) (h : verify_effect_vc a0 H nx Q) : ACalls Try.prog 30 [a0] H nx Q :=
  acalls_body tabOk eqsOk mixed Try.func30 (by kernel_rfl) (by kernel_rfl) (by kernel_rfl) (by kernel_rfl) ((verify_effect_eq a0 H nx Q).symm ▸ h)

/-- wanderstaff/verify.Heights -/
def verify_Heights_lv : List (Nat × Nat × List Nat) := [(2, 3, [1, 4, 17, 18]), (2, 8, [1, 4, 6])]
def verify_Heights_k1 (v25 : AV) (Q : AV → Heap → Nat → Prop) (nx16 : Nat) (v21 : AV) (v27 : AV) (K13 : J3) (xs14 : List AV) (v45 : AV) (H46 : Heap) (nx47 : Nat) : Prop :=
  EX v45 0 fun v48 =>
  EX v45 1 fun v49 =>
  BI BinOp.lss v25 v48 fun v50 =>
  CND v50
  (Q (AV.tup [AV.nils, AV.int IntKind.i64 10]) H46 nx47)
  (LD false 1 (AV.ptr nx16 0) H46 fun v51 =>
  BI BinOp.eql v51 (AV.int IntKind.i64 18) fun v52 =>
  CND v52
  (BI BinOp.neq v25 (AV.int IntKind.i64 1) fun v53 =>
  CND v53
  (Q (AV.tup [AV.nils, AV.int IntKind.i64 10]) H46 nx47)
  (BI BinOp.sub v49 v48 fun v54 =>
  BI BinOp.add v25 v54 fun v55 =>
  BI BinOp.gtr v55 (AV.int IntKind.i64 16) fun v56 =>
  CND v56
  (Q (AV.tup [AV.nils, AV.int IntKind.i64 4]) H46 nx47)
  (LD false 1 (AV.ptr nx16 0) H46 fun v57 =>
  BI BinOp.neq v57 (AV.int IntKind.i64 15) fun v58 =>
  CND v58
  (LD false 1 (AV.ptr nx16 0) H46 fun v59 =>
  BI BinOp.neq v59 (AV.int IntKind.i64 18) fun v60 =>
  CND v60
  (BI BinOp.add v21 (AV.int IntKind.i64 1) fun v61 =>
  BD (fun i => some (i * 1, 1)) [AV.int IntKind.i64 0, AV.int IntKind.i64 0] [(0, v61), (1, v55)] fun v62 =>
  BSL 1 2 [AV.int IntKind.i64 0, AV.int IntKind.i64 0] [(0, v62)] fun cells63 =>
  APP 2 16 v27 (AV.slc nx47 0 1) (H46.put nx47 (some (AObj.row 2 cells63))) (nx47 + 1) fun v64 H65 nx66 =>
  LD false 1 (AV.ptr nx16 0) H65 fun v67 =>
  BI BinOp.eql v67 (AV.int IntKind.i64 15) fun v68 =>
  CND v68
  (LD false 1 (AV.ptr nx16 1) H65 fun v69 =>
  BD (fun i => some (i * 1, 1)) [AV.int IntKind.i64 0, AV.int IntKind.i64 0] [(0, v69), (1, v55)] fun v70 =>
  BSL 1 2 [AV.int IntKind.i64 0, AV.int IntKind.i64 0] [(0, v70)] fun cells71 =>
  APP 2 16 v64 (AV.slc nx66 0 1) (H65.put nx66 (some (AObj.row 2 cells71))) (nx66 + 1) fun v72 H73 nx74 =>
  K13 [nth xs14 0, nth xs14 1, v72] H73 nx74)
  (LD false 1 (AV.ptr nx16 0) H65 fun v75 =>
  BI BinOp.eql v75 (AV.int IntKind.i64 16) fun v76 =>
  CND v76
  (LD false 1 (AV.ptr nx16 1) H65 fun v77 =>
  BD (fun i => some (i * 1, 1)) [AV.int IntKind.i64 0, AV.int IntKind.i64 0] [(0, v77), (1, v55)] fun v78 =>
  BSL 1 2 [AV.int IntKind.i64 0, AV.int IntKind.i64 0] [(0, v78)] fun cells79 =>
  APP 2 16 v64 (AV.slc nx66 0 1) (H65.put nx66 (some (AObj.row 2 cells79))) (nx66 + 1) fun v80 H81 nx82 =>
  K13 [nth xs14 0, nth xs14 1, v80] H81 nx82)
  (K13 [nth xs14 0, nth xs14 1, v64] H65 nx66)))
  (LD false 1 (AV.ptr nx16 0) H46 fun v83 =>
  BI BinOp.eql v83 (AV.int IntKind.i64 15) fun v84 =>
  CND v84
  (LD false 1 (AV.ptr nx16 1) H46 fun v85 =>
  BD (fun i => some (i * 1, 1)) [AV.int IntKind.i64 0, AV.int IntKind.i64 0] [(0, v85), (1, v55)] fun v86 =>
  BSL 1 2 [AV.int IntKind.i64 0, AV.int IntKind.i64 0] [(0, v86)] fun cells87 =>
  APP 2 16 v27 (AV.slc nx47 0 1) (H46.put nx47 (some (AObj.row 2 cells87))) (nx47 + 1) fun v88 H89 nx90 =>
  K13 [nth xs14 0, nth xs14 1, v88] H89 nx90)
  (LD false 1 (AV.ptr nx16 0) H46 fun v91 =>
  BI BinOp.eql v91 (AV.int IntKind.i64 16) fun v92 =>
  CND v92
  (LD false 1 (AV.ptr nx16 1) H46 fun v93 =>
  BD (fun i => some (i * 1, 1)) [AV.int IntKind.i64 0, AV.int IntKind.i64 0] [(0, v93), (1, v55)] fun v94 =>
  BSL 1 2 [AV.int IntKind.i64 0, AV.int IntKind.i64 0] [(0, v94)] fun cells95 =>
  APP 2 16 v27 (AV.slc nx47 0 1) (H46.put nx47 (some (AObj.row 2 cells95))) (nx47 + 1) fun v96 H97 nx98 =>
  K13 [nth xs14 0, nth xs14 1, v96] H97 nx98)
  (K13 [nth xs14 0, nth xs14 1, v27] H46 nx47))))
  (LD false 1 (AV.ptr nx16 0) H46 fun v99 =>
  BI BinOp.eql v99 (AV.int IntKind.i64 15) fun v100 =>
  CND v100
  (LD false 1 (AV.ptr nx16 1) H46 fun v101 =>
  BD (fun i => some (i * 1, 1)) [AV.int IntKind.i64 0, AV.int IntKind.i64 0] [(0, v101), (1, v55)] fun v102 =>
  BSL 1 2 [AV.int IntKind.i64 0, AV.int IntKind.i64 0] [(0, v102)] fun cells103 =>
  APP 2 16 v27 (AV.slc nx47 0 1) (H46.put nx47 (some (AObj.row 2 cells103))) (nx47 + 1) fun v104 H105 nx106 =>
  K13 [nth xs14 0, nth xs14 1, v104] H105 nx106)
  (LD false 1 (AV.ptr nx16 0) H46 fun v107 =>
  BI BinOp.eql v107 (AV.int IntKind.i64 16) fun v108 =>
  CND v108
  (LD false 1 (AV.ptr nx16 1) H46 fun v109 =>
  BD (fun i => some (i * 1, 1)) [AV.int IntKind.i64 0, AV.int IntKind.i64 0] [(0, v109), (1, v55)] fun v110 =>
  BSL 1 2 [AV.int IntKind.i64 0, AV.int IntKind.i64 0] [(0, v110)] fun cells111 =>
  APP 2 16 v27 (AV.slc nx47 0 1) (H46.put nx47 (some (AObj.row 2 cells111))) (nx47 + 1) fun v112 H113 nx114 =>
  K13 [nth xs14 0, nth xs14 1, v112] H113 nx114)
  (K13 [nth xs14 0, nth xs14 1, v27] H46 nx47))))))
  (BI BinOp.sub v49 v48 fun v115 =>
  BI BinOp.add v25 v115 fun v116 =>
  BI BinOp.gtr v116 (AV.int IntKind.i64 16) fun v117 =>
  CND v117
  (Q (AV.tup [AV.nils, AV.int IntKind.i64 4]) H46 nx47)
  (LD false 1 (AV.ptr nx16 0) H46 fun v118 =>
  BI BinOp.neq v118 (AV.int IntKind.i64 15) fun v119 =>
  CND v119
  (LD false 1 (AV.ptr nx16 0) H46 fun v120 =>
  BI BinOp.neq v120 (AV.int IntKind.i64 18) fun v121 =>
  CND v121
  (BI BinOp.add v21 (AV.int IntKind.i64 1) fun v122 =>
  BD (fun i => some (i * 1, 1)) [AV.int IntKind.i64 0, AV.int IntKind.i64 0] [(0, v122), (1, v116)] fun v123 =>
  BSL 1 2 [AV.int IntKind.i64 0, AV.int IntKind.i64 0] [(0, v123)] fun cells124 =>
  APP 2 16 v27 (AV.slc nx47 0 1) (H46.put nx47 (some (AObj.row 2 cells124))) (nx47 + 1) fun v125 H126 nx127 =>
  LD false 1 (AV.ptr nx16 0) H126 fun v128 =>
  BI BinOp.eql v128 (AV.int IntKind.i64 15) fun v129 =>
  CND v129
  (LD false 1 (AV.ptr nx16 1) H126 fun v130 =>
  BD (fun i => some (i * 1, 1)) [AV.int IntKind.i64 0, AV.int IntKind.i64 0] [(0, v130), (1, v116)] fun v131 =>
  BSL 1 2 [AV.int IntKind.i64 0, AV.int IntKind.i64 0] [(0, v131)] fun cells132 =>
  APP 2 16 v125 (AV.slc nx127 0 1) (H126.put nx127 (some (AObj.row 2 cells132))) (nx127 + 1) fun v133 H134 nx135 =>
  K13 [nth xs14 0, nth xs14 1, v133] H134 nx135)
  (LD false 1 (AV.ptr nx16 0) H126 fun v136 =>
  BI BinOp.eql v136 (AV.int IntKind.i64 16) fun v137 =>
  CND v137
  (LD false 1 (AV.ptr nx16 1) H126 fun v138 =>
  BD (fun i => some (i * 1, 1)) [AV.int IntKind.i64 0, AV.int IntKind.i64 0] [(0, v138), (1, v116)] fun v139 =>
  BSL 1 2 [AV.int IntKind.i64 0, AV.int IntKind.i64 0] [(0, v139)] fun cells140 =>
  APP 2 16 v125 (AV.slc nx127 0 1) (H126.put nx127 (some (AObj.row 2 cells140))) (nx127 + 1) fun v141 H142 nx143 =>
  K13 [nth xs14 0, nth xs14 1, v141] H142 nx143)
  (K13 [nth xs14 0, nth xs14 1, v125] H126 nx127)))
  (LD false 1 (AV.ptr nx16 0) H46 fun v144 =>
  BI BinOp.eql v144 (AV.int IntKind.i64 15) fun v145 =>
  CND v145
  (LD false 1 (AV.ptr nx16 1) H46 fun v146 =>
  BD (fun i => some (i * 1, 1)) [AV.int IntKind.i64 0, AV.int IntKind.i64 0] [(0, v146), (1, v116)] fun v147 =>
  BSL 1 2 [AV.int IntKind.i64 0, AV.int IntKind.i64 0] [(0, v147)] fun cells148 =>
  APP 2 16 v27 (AV.slc nx47 0 1) (H46.put nx47 (some (AObj.row 2 cells148))) (nx47 + 1) fun v149 H150 nx151 =>
  K13 [nth xs14 0, nth xs14 1, v149] H150 nx151)
  (LD false 1 (AV.ptr nx16 0) H46 fun v152 =>
  BI BinOp.eql v152 (AV.int IntKind.i64 16) fun v153 =>
  CND v153
  (LD false 1 (AV.ptr nx16 1) H46 fun v154 =>
  BD (fun i => some (i * 1, 1)) [AV.int IntKind.i64 0, AV.int IntKind.i64 0] [(0, v154), (1, v116)] fun v155 =>
  BSL 1 2 [AV.int IntKind.i64 0, AV.int IntKind.i64 0] [(0, v155)] fun cells156 =>
  APP 2 16 v27 (AV.slc nx47 0 1) (H46.put nx47 (some (AObj.row 2 cells156))) (nx47 + 1) fun v157 H158 nx159 =>
  K13 [nth xs14 0, nth xs14 1, v157] H158 nx159)
  (K13 [nth xs14 0, nth xs14 1, v27] H46 nx47))))
  (LD false 1 (AV.ptr nx16 0) H46 fun v160 =>
  BI BinOp.eql v160 (AV.int IntKind.i64 15) fun v161 =>
  CND v161
  (LD false 1 (AV.ptr nx16 1) H46 fun v162 =>
  BD (fun i => some (i * 1, 1)) [AV.int IntKind.i64 0, AV.int IntKind.i64 0] [(0, v162), (1, v116)] fun v163 =>
  BSL 1 2 [AV.int IntKind.i64 0, AV.int IntKind.i64 0] [(0, v163)] fun cells164 =>
  APP 2 16 v27 (AV.slc nx47 0 1) (H46.put nx47 (some (AObj.row 2 cells164))) (nx47 + 1) fun v165 H166 nx167 =>
  K13 [nth xs14 0, nth xs14 1, v165] H166 nx167)
  (LD false 1 (AV.ptr nx16 0) H46 fun v168 =>
  BI BinOp.eql v168 (AV.int IntKind.i64 16) fun v169 =>
  CND v169
  (LD false 1 (AV.ptr nx16 1) H46 fun v170 =>
  BD (fun i => some (i * 1, 1)) [AV.int IntKind.i64 0, AV.int IntKind.i64 0] [(0, v170), (1, v116)] fun v171 =>
  BSL 1 2 [AV.int IntKind.i64 0, AV.int IntKind.i64 0] [(0, v171)] fun cells172 =>
  APP 2 16 v27 (AV.slc nx47 0 1) (H46.put nx47 (some (AObj.row 2 cells172))) (nx47 + 1) fun v173 H174 nx175 =>
  K13 [nth xs14 0, nth xs14 1, v173] H174 nx175)
  (K13 [nth xs14 0, nth xs14 1, v27] H46 nx47))))))
def verify_Heights_l1 (Q : AV → Heap → Nat → Prop) (K13 : J3) (xs14 : List AV) (H15 : Heap) (nx16 : Nat) : Prop :=
  LNL (nth xs14 2) fun v17 =>
  BI BinOp.gtr v17 (AV.int IntKind.i64 0) fun v18 =>
  CND v18
  (IA 2 (nth xs14 2) (AV.int IntKind.i64 0) fun v19 =>
  AA 1 2 v19 (AV.int IntKind.i64 0) fun v20 =>
  LDR false 1 v20 H15 fun v21 rd22 =>
  IA 2 (nth xs14 2) (AV.int IntKind.i64 0) fun v23 =>
  AA 1 2 v23 (AV.int IntKind.i64 1) fun v24 =>
  LDR false 1 v24 H15 fun v25 rd26 =>
  SL 2 (nth xs14 2) (some (AV.int IntKind.i64 1)) none H15 fun v27 =>
  BI BinOp.lss v21 (AV.int IntKind.i64 0) fun v28 =>
  CND v28
  (Q (AV.tup [AV.nils, AV.int IntKind.i64 8]) H15 nx16)
  (LNL (nth xs14 1) fun v29 =>
  BI BinOp.geq v21 v29 fun v30 =>
  CND v30
  (Q (AV.tup [AV.nils, AV.int IntKind.i64 8]) H15 nx16)
  (IA 1 (nth xs14 1) v21 fun v31 =>
  LD false 1 v31 H15 fun v32 =>
  BI BinOp.geq v32 (AV.int IntKind.i64 0) fun v33 =>
  CND v33
  (IA 1 (nth xs14 1) v21 fun v34 =>
  LD false 1 v34 H15 fun v35 =>
  BI BinOp.neq v35 v25 fun v36 =>
  CND v36
  (Q (AV.tup [AV.nils, AV.int IntKind.i64 10]) H15 nx16)
  (K13 [nth xs14 0, nth xs14 1, v27] H15 nx16))
  (IA 1 (nth xs14 1) v21 fun v37 =>
  ST 1 v37 v25 H15 fun H38 =>
  FA 2 (nth xs14 0) fun v39 =>
  LD false 1 v39 H38 fun v40 =>
  IA 3 v40 v21 fun v41 =>
  LD true 3 v41 H38 fun v42 =>
  ST 3 (AV.ptr nx16 0) v42 (H38.put nx16 (some (AObj.row 3 [AV.int IntKind.i64 0, AV.int IntKind.i64 0, AV.int IntKind.i64 0]))) fun H43 =>
  LD true 3 (AV.ptr nx16 0) H43 fun v44 =>
  ACalls Try.prog 30 [v44] H43 (nx16 + 1) (verify_Heights_k1 v25 Q nx16 v21 v27 K13 xs14)))))
  (Q (AV.tup [nth xs14 1, AV.int IntKind.i64 0]) H15 nx16)
def verify_Heights_l2 (Q : AV → Heap → Nat → Prop) (K5 : J3) (xs6 : List AV) (H7 : Heap) (nx8 : Nat) : Prop :=
  BI BinOp.lss (nth xs6 3) (nth xs6 2) fun v9 =>
  CND v9
  (IA 1 (nth xs6 1) (nth xs6 3) fun v10 =>
  ST 1 v10 (AV.int IntKind.i64 (-1)) H7 fun H11 =>
  BI BinOp.add (nth xs6 3) (AV.int IntKind.i64 1) fun v12 =>
  K5 [nth xs6 0, nth xs6 1, nth xs6 2, v12] H11 nx8)
  (LP (verify_Heights_l1 Q) [nth xs6 0, nth xs6 1, AV.slc nx8 0 1] (H7.put nx8 (some (AObj.row 2 [AV.int IntKind.i64 0, AV.int IntKind.i64 0]))) (nx8 + 1))
def verify_Heights_vc (a0 : AV) (H : Heap) (nx : Nat) (Q : AV → Heap → Nat → Prop) : Prop :=
  a0.sure = true ∧
  LD false 1 (AV.ptr nx 2) (H.put nx (some (AObj.row a0.cells.length a0.cells))) fun v1 =>
  LNL v1 fun v2 =>
  MK 8 v2 v2 fun n3 =>
  LNL (AV.slc (nx + 1) 0 n3) fun v4 =>
  LP (verify_Heights_l2 Q) [AV.ptr nx 0, AV.slc (nx + 1) 0 n3, v4, AV.int IntKind.i64 0] ((H.put nx (some (AObj.row a0.cells.length a0.cells))).put ((nx + 1)) (some (AObj.row 1 (List.replicate n3 [AV.int IntKind.i64 0]).flatten))) (nx + 2)
theorem verify_Heights_eq (a0 : AV) (H : Heap) (nx : Nat) (Q : AV → Heap → Nat → Prop) : body Try.prog tab eqsT (lvOf verify_Heights_lv) Try.f14 (codeOf Try.f14) [a0] H nx Q = verify_Heights_vc a0 H nx Q := by kernel_rfl
theorem verify_Heights_calls (a0 : AV) (H : Heap) (nx : Nat) (Q : AV → Heap → Nat → Prop) (h : verify_Heights_vc a0 H nx Q) : ACalls Try.prog 14 [a0] H nx Q :=
  acalls_body tabOk eqsOk mixed Try.func14 (by kernel_rfl) (by kernel_rfl) (by kernel_rfl) (by kernel_rfl) ((verify_Heights_eq a0 H nx Q).symm ▸ h)

/-- wanderstaff/text.Word -/
def text_Word_lv : List (Nat × Nat × List Nat) := [(2, 4, [0, 8, 9])]
def text_Word_l1 (Q : AV → Heap → Nat → Prop) (K4 : J3) (xs5 : List AV) (H6 : Heap) (nx7 : Nat) : Prop :=
  BI BinOp.lss (nth xs5 2) (nth xs5 1) fun v8 =>
  CND v8
  (IX (nth xs5 0) (nth xs5 2) fun v9 =>
  BI BinOp.lss v9 (AV.int IntKind.u8 32) fun v10 =>
  CND v10
  (Q (AV.bool false) H6 nx7)
  (IX (nth xs5 0) (nth xs5 2) fun v11 =>
  BI BinOp.gtr v11 (AV.int IntKind.u8 126) fun v12 =>
  CND v12
  (Q (AV.bool false) H6 nx7)
  (IX (nth xs5 0) (nth xs5 2) fun v13 =>
  BI BinOp.eql v13 (AV.int IntKind.u8 39) fun v14 =>
  CND v14
  (Q (AV.bool false) H6 nx7)
  (BI BinOp.add (nth xs5 2) (AV.int IntKind.i64 1) fun v15 =>
  K4 [nth xs5 0, nth xs5 1, v15] H6 nx7))))
  (Q (AV.bool true) H6 nx7)
def text_Word_vc (a0 : AV) (H : Heap) (nx : Nat) (Q : AV → Heap → Nat → Prop) : Prop :=
  LNS a0 fun v1 =>
  BI BinOp.gtr v1 (AV.int IntKind.i64 12) fun v2 =>
  CND v2
  (Q (AV.bool false) H nx)
  (LNS a0 fun v3 =>
  LP (text_Word_l1 Q) [a0, v3, AV.int IntKind.i64 0] H nx)
theorem text_Word_eq (a0 : AV) (H : Heap) (nx : Nat) (Q : AV → Heap → Nat → Prop) : body Try.prog tab eqsT (lvOf text_Word_lv) Try.f25 (codeOf Try.f25) [a0] H nx Q = text_Word_vc a0 H nx Q := by kernel_rfl
theorem text_Word_calls (a0 : AV) (H : Heap) (nx : Nat) (Q : AV → Heap → Nat → Prop) (h : text_Word_vc a0 H nx Q) : ACalls Try.prog 25 [a0] H nx Q :=
  acalls_body tabOk eqsOk mixed Try.func25 (by kernel_rfl) (by kernel_rfl) (by kernel_rfl) (by kernel_rfl) ((text_Word_eq a0 H nx Q).symm ▸ h)

/-- wanderstaff/verify.numbers$1 -/
def verify_numbers_1_lv : List (Nat × Nat × List Nat) := []
def verify_numbers_1_vc (a0 a1 : AV) (H : Heap) (nx : Nat) (Q : AV → Heap → Nat → Prop) : Prop :=
  BI BinOp.geq a0 (AV.int IntKind.i64 0) fun v1 =>
  CND v1
  (BI BinOp.lss a0 a1 fun v2 =>
  Q v2 H nx)
  (Q (AV.bool false) H nx)
theorem verify_numbers_1_eq (a0 a1 : AV) (H : Heap) (nx : Nat) (Q : AV → Heap → Nat → Prop) : body Try.prog tab eqsT (lvOf verify_numbers_1_lv) Try.f57 (codeOf Try.f57) [a0, a1] H nx Q = verify_numbers_1_vc a0 a1 H nx Q := by kernel_rfl
theorem verify_numbers_1_calls (a0 a1 : AV) (H : Heap) (nx : Nat) (Q : AV → Heap → Nat → Prop) (h : verify_numbers_1_vc a0 a1 H nx Q) : ACalls Try.prog 57 [a0, a1] H nx Q :=
  acalls_body tabOk eqsOk mixed Try.func57 (by kernel_rfl) (by kernel_rfl) (by kernel_rfl) (by kernel_rfl) ((verify_numbers_1_eq a0 a1 H nx Q).symm ▸ h)

/-- wanderstaff/verify.numbers -/
def verify_numbers_lv : List (Nat × Nat × List Nat) := [(1, 0, [5, 8]), (3, 10, [0, 1, 5, 7, 8, 13, 35])]
def verify_numbers_k1 (j7 : J3) (nx : Nat) (H : Heap) (a2 : AV) (v34 : AV) (rd35 : List Nat) (fr36 : List Nat) (D37 : Delta) : Prop :=
  j7 [AV.ptr nx 0, v34] ((H.put nx (some (AObj.row a2.cells.length a2.cells))).apply D37) ((nx + 1) + fr36.length)
def verify_numbers_k2 (j7 : J3) (xs38 : List AV) (H39 : Heap) (nx40 : Nat) (v49 : AV) (rd50 : List Nat) (fr51 : List Nat) (D52 : Delta) : Prop :=
  j7 [nth xs38 2, v49] (H39.apply D52) (nx40 + fr51.length)
def verify_numbers_k3 (j7 : J3) (xs38 : List AV) (H39 : Heap) (nx40 : Nat) (v69 : AV) (rd70 : List Nat) (fr71 : List Nat) (D72 : Delta) : Prop :=
  j7 [nth xs38 2, v69] (H39.apply D72) (nx40 + fr71.length)
def verify_numbers_k4 (j7 : J3) (xs38 : List AV) (H39 : Heap) (nx40 : Nat) (v82 : AV) (rd83 : List Nat) (fr84 : List Nat) (D85 : Delta) : Prop :=
  j7 [nth xs38 2, v82] (H39.apply D85) (nx40 + fr84.length)
def verify_numbers_k5 (xs38 : List AV) (H39 : Heap) (j7 : J3) (nx40 : Nat) (v95 : AV) (rd96 : List Nat) (fr97 : List Nat) (D98 : Delta) : Prop :=
  CND v95
  (FA 2 (nth xs38 2) fun v99 =>
  LDR false 1 v99 (H39.apply D98) fun v100 rd101 =>
  NC (nth xs38 0) fun v102 =>
  FA 0 v102 fun v103 =>
  LDR false 1 v103 (H39.apply D98) fun v104 rd105 =>
  FA 1 (nth xs38 2) fun v106 =>
  LDR false 1 v106 (H39.apply D98) fun v107 rd108 =>
  IA 3 v104 v107 fun v109 =>
  FA 0 v109 fun v110 =>
  LDR false 1 v110 (H39.apply D98) fun v111 rd112 =>
  BI BinOp.eql v100 v111 fun v113 =>
  j7 [nth xs38 2, v113] (H39.apply D98) (nx40 + fr97.length))
  (j7 [nth xs38 2, AV.bool false] (H39.apply D98) (nx40 + fr97.length))
def verify_numbers_j1 (j7 : J3) (xs38 : List AV) (H39 : Heap) (nx40 : Nat) : Prop :=
  CND (nth xs38 6)
  (FA 1 (nth xs38 2) fun v42 =>
  LDR false 1 v42 H39 fun v43 rd44 =>
  NC (nth xs38 1) fun v45 =>
  FA 1 v45 fun v46 =>
  LDR false 1 v46 H39 fun v47 rd48 =>
  CALLD Try.prog (nth xs38 3) [v43, v47] H39 nx40 (verify_numbers_k2 j7 xs38 H39 nx40))
  (BI BinOp.eql (nth xs38 5) (AV.int IntKind.i64 5) fun v53 =>
  CND v53
  (FA 1 (nth xs38 2) fun v54 =>
  LD false 1 v54 H39 fun v55 =>
  BI BinOp.geq v55 (AV.int IntKind.i64 1) fun v56 =>
  CND v56
  (FA 1 (nth xs38 2) fun v57 =>
  LD false 1 v57 H39 fun v58 =>
  BI BinOp.leq v58 (AV.int IntKind.i64 5) fun v59 =>
  j7 [nth xs38 2, v59] H39 nx40)
  (j7 [nth xs38 2, AV.bool false] H39 nx40))
  (BI BinOp.eql (nth xs38 5) (AV.int IntKind.i64 15) fun v60 =>
  CND v60
  (FA 1 (nth xs38 2) fun v61 =>
  LDR false 1 v61 H39 fun v62 rd63 =>
  NC (nth xs38 1) fun v64 =>
  FA 2 v64 fun v65 =>
  LDR false 1 v65 H39 fun v66 rd67 =>
  LNL v66 fun v68 =>
  CALLD Try.prog (nth xs38 3) [v62, v68] H39 nx40 (verify_numbers_k3 j7 xs38 H39 nx40))
  (BI BinOp.eql (nth xs38 5) (AV.int IntKind.i64 16) fun v73 =>
  CND v73
  (FA 1 (nth xs38 2) fun v74 =>
  LDR false 1 v74 H39 fun v75 rd76 =>
  NC (nth xs38 1) fun v77 =>
  FA 2 v77 fun v78 =>
  LDR false 1 v78 H39 fun v79 rd80 =>
  LNL v79 fun v81 =>
  CALLD Try.prog (nth xs38 3) [v75, v81] H39 nx40 (verify_numbers_k4 j7 xs38 H39 nx40))
  (BI BinOp.eql (nth xs38 5) (AV.int IntKind.i64 17) fun v86 =>
  CND v86
  (FA 1 (nth xs38 2) fun v87 =>
  LDR false 1 v87 H39 fun v88 rd89 =>
  NC (nth xs38 0) fun v90 =>
  FA 0 v90 fun v91 =>
  LDR false 1 v91 H39 fun v92 rd93 =>
  LNL v92 fun v94 =>
  CALLD Try.prog (nth xs38 3) [v88, v94] H39 nx40 (verify_numbers_k5 xs38 H39 j7 nx40))
  (j7 [nth xs38 2, nth xs38 4] H39 nx40)))))
def verify_numbers_b1 (v3 : AV) (a0 : AV) (a1 : AV) (nx : Nat) (v2 : AV) (H : Heap) (a2 : AV) (j41 : J3) : Prop :=
  BI BinOp.eql v3 (AV.int IntKind.i64 3) fun v114 =>
  CND v114
  (j41 [a0, a1, AV.ptr nx 0, AV.clo 57 [], v2, v3, AV.bool true] (H.put nx (some (AObj.row a2.cells.length a2.cells))) (nx + 1))
  (BI BinOp.eql v3 (AV.int IntKind.i64 4) fun v115 =>
  j41 [a0, a1, AV.ptr nx 0, AV.clo 57 [], v2, v3, v115] (H.put nx (some (AObj.row a2.cells.length a2.cells))) (nx + 1))
def verify_numbers_j2 (Q : AV → Heap → Nat → Prop) (xs4 : List AV) (H5 : Heap) (nx6 : Nat) : Prop :=
  FA 0 (nth xs4 0) fun v8 =>
  LD false 1 v8 H5 fun v9 =>
  BI BinOp.lss v9 (AV.int IntKind.i64 1) fun v10 =>
  CND v10
  (Q (AV.int IntKind.i64 1) H5 nx6)
  (FA 0 (nth xs4 0) fun v11 =>
  LD false 1 v11 H5 fun v12 =>
  BI BinOp.gtr v12 (AV.int IntKind.i64 19) fun v13 =>
  CND v13
  (Q (AV.int IntKind.i64 1) H5 nx6)
  (UO UnOp.not (nth xs4 1) fun v14 =>
  CND v14
  (Q (AV.int IntKind.i64 3) H5 nx6)
  (FA 0 (nth xs4 0) fun v15 =>
  LD false 1 v15 H5 fun v16 =>
  BI BinOp.neq v16 (AV.int IntKind.i64 17) fun v17 =>
  CND v17
  (FA 2 (nth xs4 0) fun v18 =>
  LD false 1 v18 H5 fun v19 =>
  BI BinOp.neq v19 (AV.int IntKind.i64 0) fun v20 =>
  CND v20
  (Q (AV.int IntKind.i64 3) H5 nx6)
  (Q (AV.int IntKind.i64 0) H5 nx6))
  (Q (AV.int IntKind.i64 0) H5 nx6))))
def verify_numbers_b2 (v3 : AV) (nx : Nat) (H : Heap) (a2 : AV) (a0 : AV) (a1 : AV) (v2 : AV) (j7 : J3) : Prop :=
  BI BinOp.eql v3 (AV.int IntKind.i64 1) fun v21 =>
  CND v21
  (LD false 1 (AV.ptr nx 1) (H.put nx (some (AObj.row a2.cells.length a2.cells))) fun v22 =>
  BI BinOp.geq v22 (AV.int IntKind.i64 (-1073741824)) fun v23 =>
  CND v23
  (LD false 1 (AV.ptr nx 1) (H.put nx (some (AObj.row a2.cells.length a2.cells))) fun v24 =>
  BI BinOp.leq v24 (AV.int IntKind.i64 1073741824) fun v25 =>
  j7 [AV.ptr nx 0, v25] (H.put nx (some (AObj.row a2.cells.length a2.cells))) (nx + 1))
  (j7 [AV.ptr nx 0, AV.bool false] (H.put nx (some (AObj.row a2.cells.length a2.cells))) (nx + 1)))
  (BI BinOp.eql v3 (AV.int IntKind.i64 2) fun v26 =>
  CND v26
  (LDR false 1 (AV.ptr nx 1) (H.put nx (some (AObj.row a2.cells.length a2.cells))) fun v27 rd28 =>
  NC a0 fun v29 =>
  FA 1 v29 fun v30 =>
  LDR false 1 v30 (H.put nx (some (AObj.row a2.cells.length a2.cells))) fun v31 rd32 =>
  LNL v31 fun v33 =>
  CALLD Try.prog (AV.clo 57 []) [v27, v33] (H.put nx (some (AObj.row a2.cells.length a2.cells))) (nx + 1) (verify_numbers_k1 j7 nx H a2))
  (JN (verify_numbers_j1 j7) (verify_numbers_b1 v3 a0 a1 nx v2 H a2)))
def verify_numbers_vc (a0 a1 a2 : AV) (H : Heap) (nx : Nat) (Q : AV → Heap → Nat → Prop) : Prop :=
  a2.sure = true ∧
  LD false 1 (AV.ptr nx 1) (H.put nx (some (AObj.row a2.cells.length a2.cells))) fun v1 =>
  BI BinOp.eql v1 (AV.int IntKind.i64 0) fun v2 =>
  LD false 1 (AV.ptr nx 0) (H.put nx (some (AObj.row a2.cells.length a2.cells))) fun v3 =>
  JN (verify_numbers_j2 Q) (verify_numbers_b2 v3 nx H a2 a0 a1 v2)
theorem verify_numbers_eq (a0 a1 a2 : AV) (H : Heap) (nx : Nat) (Q : AV → Heap → Nat → Prop) : body Try.prog tab eqsT (lvOf verify_numbers_lv) Try.f26 (codeOf Try.f26) [a0, a1, a2] H nx Q = verify_numbers_vc a0 a1 a2 H nx Q := by kernel_rfl
theorem verify_numbers_calls (a0 a1 a2 : AV) (H : Heap) (nx : Nat) (Q : AV → Heap → Nat → Prop) (h : verify_numbers_vc a0 a1 a2 H nx Q) : ACalls Try.prog 26 [a0, a1, a2] H nx Q :=
  acalls_body tabOk eqsOk mixed Try.func26 (by kernel_rfl) (by kernel_rfl) (by kernel_rfl) (by kernel_rfl) ((verify_numbers_eq a0 a1 a2 H nx Q).symm ▸ h)

/-- wanderstaff/verify.Program -/
def verify_Program_lv : List (Nat × Nat × List Nat) := [(2, 6, [1, 28, 29, 30]), (2, 14, [1, 46, 47]), (2, 21, [1, 103, 104]), (2, 24, [1, 7, 103, 104, 112, 113, 114])]
def verify_Program_k1 (Q : AV → Heap → Nat → Prop) (xs13 : List AV) (K12 : J3) (v19 : AV) (H20 : Heap) (nx21 : Nat) : Prop :=
  UO UnOp.not v19 fun v22 =>
  CND v22
  (Q (AV.int IntKind.i64 7) H20 nx21)
  (BI BinOp.add (nth xs13 3) (AV.int IntKind.i64 1) fun v23 =>
  K12 [nth xs13 0, nth xs13 1, nth xs13 2, v23] H20 nx21)
def verify_Program_k2 (Q : AV → Heap → Nat → Prop) (H99 : Heap) (nx95 : Nat) (xs93 : List AV) (K92 : J3) (v106 : AV) (rd107 : List Nat) (fr108 : List Nat) (D109 : Delta) : Prop :=
  BI BinOp.neq v106 (AV.int IntKind.i64 0) fun v110 =>
  CND v110
  (Q v106 (H99.apply D109) ((nx95 + 1) + fr108.length))
  (BI BinOp.add (nth xs93 6) (AV.int IntKind.i64 1) fun v111 =>
  K92 [nth xs93 0, nth xs93 1, nth xs93 2, nth xs93 3, nth xs93 4, nth xs93 5, v111] (H99.apply D109) ((nx95 + 1) + fr108.length))
def verify_Program_k3 (Q : AV → Heap → Nat → Prop) (xs93 : List AV) (K81 : J3) (v116 : AV) (H117 : Heap) (nx118 : Nat) : Prop :=
  EX v116 0 fun v119 =>
  EX v116 1 fun v120 =>
  BI BinOp.neq v120 (AV.int IntKind.i64 0) fun v121 =>
  CND v121
  (Q v120 H117 nx118)
  (BI BinOp.add (nth xs93 3) (AV.int IntKind.i64 1) fun v122 =>
  K81 [nth xs93 0, nth xs93 2, v122] H117 nx118)
def verify_Program_l1 (Q : AV → Heap → Nat → Prop) (K81 : J3) (K92 : J3) (xs93 : List AV) (H94 : Heap) (nx95 : Nat) : Prop :=
  BI BinOp.lss (nth xs93 6) (nth xs93 5) fun v96 =>
  CND v96
  (IA 3 (nth xs93 4) (nth xs93 6) fun v97 =>
  LD true 3 v97 H94 fun v98 =>
  ST 3 (AV.ptr nx95 0) v98 (H94.put nx95 (some (AObj.row 3 [AV.int IntKind.i64 0, AV.int IntKind.i64 0, AV.int IntKind.i64 0]))) fun H99 =>
  FA 0 (nth xs93 0) fun v100 =>
  LDR false 1 v100 H99 fun v101 rd102 =>
  IA 3 v101 (nth xs93 1) fun v103 =>
  LDR true 3 (AV.ptr nx95 0) H99 fun v104 rd105 =>
  CALLD Try.prog (AV.clo 26 []) [nth xs93 0, v103, v104] H99 (nx95 + 1) (verify_Program_k2 Q H99 nx95 xs93 K92))
  (FA 0 (nth xs93 0) fun v112 =>
  LD false 1 v112 H94 fun v113 =>
  IA 3 v113 (nth xs93 1) fun v114 =>
  LD true 3 v114 H94 fun v115 =>
  ACalls Try.prog 14 [v115] H94 nx95 (verify_Program_k3 Q xs93 K81))
def verify_Program_l2 (Q : AV → Heap → Nat → Prop) (K81 : J3) (xs82 : List AV) (H83 : Heap) (nx84 : Nat) : Prop :=
  BI BinOp.lss (nth xs82 2) (nth xs82 1) fun v85 =>
  CND v85
  (FA 0 (nth xs82 0) fun v86 =>
  LD false 1 v86 H83 fun v87 =>
  IA 3 v87 (nth xs82 2) fun v88 =>
  FA 2 v88 fun v89 =>
  LD false 1 v89 H83 fun v90 =>
  LNL v90 fun v91 =>
  LP (verify_Program_l1 Q K81) [nth xs82 0, nth xs82 2, nth xs82 1, nth xs82 2, v90, v91, AV.int IntKind.i64 0] H83 nx84)
  (Q (AV.int IntKind.i64 0) H83 nx84)
def verify_Program_l3 (Q : AV → Heap → Nat → Prop) (K33 : J3) (xs34 : List AV) (H35 : Heap) (nx36 : Nat) : Prop :=
  BI BinOp.lss (nth xs34 2) (nth xs34 1) fun v37 =>
  CND v37
  (FA 0 (nth xs34 0) fun v38 =>
  LD false 1 v38 H35 fun v39 =>
  IA 3 v39 (nth xs34 2) fun v40 =>
  NC v40 fun v41 =>
  FA 0 v41 fun v42 =>
  LDR false 1 v42 H35 fun v43 rd44 =>
  BI BinOp.lss v43 (AV.int IntKind.i64 0) fun v45 =>
  CND v45
  (Q (AV.int IntKind.i64 3) H35 nx36)
  (NC v40 fun v46 =>
  FA 0 v46 fun v47 =>
  LDR false 1 v47 H35 fun v48 rd49 =>
  BI BinOp.gtr v48 (AV.int IntKind.i64 4) fun v50 =>
  CND v50
  (Q (AV.int IntKind.i64 3) H35 nx36)
  (NC v40 fun v51 =>
  FA 1 v51 fun v52 =>
  LDR false 1 v52 H35 fun v53 rd54 =>
  NC v40 fun v55 =>
  FA 0 v55 fun v56 =>
  LDR false 1 v56 H35 fun v57 rd58 =>
  BI BinOp.lss v53 v57 fun v59 =>
  CND v59
  (Q (AV.int IntKind.i64 3) H35 nx36)
  (NC v40 fun v60 =>
  FA 1 v60 fun v61 =>
  LDR false 1 v61 H35 fun v62 rd63 =>
  BI BinOp.gtr v62 (AV.int IntKind.i64 8) fun v64 =>
  CND v64
  (Q (AV.int IntKind.i64 3) H35 nx36)
  (NC v40 fun v65 =>
  FA 2 v65 fun v66 =>
  LDR false 1 v66 H35 fun v67 rd68 =>
  LNL v67 fun v69 =>
  BI BinOp.lss v69 (AV.int IntKind.i64 1) fun v70 =>
  CND v70
  (Q (AV.int IntKind.i64 3) H35 nx36)
  (NC v40 fun v71 =>
  FA 2 v71 fun v72 =>
  LDR false 1 v72 H35 fun v73 rd74 =>
  LNL v73 fun v75 =>
  BI BinOp.gtr v75 (AV.int IntKind.i64 200) fun v76 =>
  CND v76
  (Q (AV.int IntKind.i64 3) H35 nx36)
  (BI BinOp.add (nth xs34 2) (AV.int IntKind.i64 1) fun v77 =>
  K33 [nth xs34 0, nth xs34 1, v77] H35 nx36)))))))
  (FA 0 (nth xs34 0) fun v78 =>
  LD false 1 v78 H35 fun v79 =>
  LNL v79 fun v80 =>
  LP (verify_Program_l2 Q) [nth xs34 0, v80, AV.int IntKind.i64 0] H35 nx36)
def verify_Program_l4 (Q : AV → Heap → Nat → Prop) (K12 : J3) (xs13 : List AV) (H14 : Heap) (nx15 : Nat) : Prop :=
  BI BinOp.lss (nth xs13 3) (nth xs13 2) fun v16 =>
  CND v16
  (IA 1 (nth xs13 1) (nth xs13 3) fun v17 =>
  LD false 1 v17 H14 fun v18 =>
  ACalls Try.prog 25 [v18] H14 nx15 (verify_Program_k1 Q xs13 K12))
  (FA 0 (nth xs13 0) fun v24 =>
  LD false 1 v24 H14 fun v25 =>
  IA 3 v25 (AV.int IntKind.i64 0) fun v26 =>
  FA 0 v26 fun v27 =>
  LD false 1 v27 H14 fun v28 =>
  BI BinOp.neq v28 (AV.int IntKind.i64 0) fun v29 =>
  CND v29
  (Q (AV.int IntKind.i64 10) H14 nx15)
  (FA 0 (nth xs13 0) fun v30 =>
  LD false 1 v30 H14 fun v31 =>
  LNL v31 fun v32 =>
  LP (verify_Program_l3 Q) [nth xs13 0, v32, AV.int IntKind.i64 0] H14 nx15))
def verify_Program_vc (a0 : AV) (H : Heap) (nx : Nat) (Q : AV → Heap → Nat → Prop) : Prop :=
  a0.sure = true ∧
  LD false 1 (AV.ptr nx 0) (H.put nx (some (AObj.row a0.cells.length a0.cells))) fun v1 =>
  LNL v1 fun v2 =>
  BI BinOp.lss v2 (AV.int IntKind.i64 1) fun v3 =>
  CND v3
  (Q (AV.int IntKind.i64 5) (H.put nx (some (AObj.row a0.cells.length a0.cells))) (nx + 1))
  (LD false 1 (AV.ptr nx 0) (H.put nx (some (AObj.row a0.cells.length a0.cells))) fun v4 =>
  LNL v4 fun v5 =>
  BI BinOp.gtr v5 (AV.int IntKind.i64 5) fun v6 =>
  CND v6
  (Q (AV.int IntKind.i64 5) (H.put nx (some (AObj.row a0.cells.length a0.cells))) (nx + 1))
  (LD false 1 (AV.ptr nx 1) (H.put nx (some (AObj.row a0.cells.length a0.cells))) fun v7 =>
  LNL v7 fun v8 =>
  BI BinOp.gtr v8 (AV.int IntKind.i64 16) fun v9 =>
  CND v9
  (Q (AV.int IntKind.i64 4) (H.put nx (some (AObj.row a0.cells.length a0.cells))) (nx + 1))
  (LD false 1 (AV.ptr nx 1) (H.put nx (some (AObj.row a0.cells.length a0.cells))) fun v10 =>
  LNL v10 fun v11 =>
  LP (verify_Program_l4 Q) [AV.ptr nx 0, v10, v11, AV.int IntKind.i64 0] (H.put nx (some (AObj.row a0.cells.length a0.cells))) (nx + 1))))
theorem verify_Program_eq (a0 : AV) (H : Heap) (nx : Nat) (Q : AV → Heap → Nat → Prop) : body Try.prog tab eqsT (lvOf verify_Program_lv) Try.f11 (codeOf Try.f11) [a0] H nx Q = verify_Program_vc a0 H nx Q := by kernel_rfl
theorem verify_Program_calls (a0 : AV) (H : Heap) (nx : Nat) (Q : AV → Heap → Nat → Prop) (h : verify_Program_vc a0 H nx Q) : ACalls Try.prog 11 [a0] H nx Q :=
  acalls_body tabOk eqsOk mixed Try.func11 (by kernel_rfl) (by kernel_rfl) (by kernel_rfl) (by kernel_rfl) ((verify_Program_eq a0 H nx Q).symm ▸ h)

/-- wanderstaff/cell.Wrong -/
def cell_Wrong_lv : List (Nat × Nat × List Nat) := [(0, 3, [1, 2, 14]), (0, 5, [1, 2, 28]), (0, 7, [2, 38])]
def cell_Wrong_j1 (Q : AV → Heap → Nat → Prop) (xs13 : List AV) (H14 : Heap) (nx15 : Nat) : Prop :=
  CND (nth xs13 1)
  (Q (AV.int IntKind.i64 6) H14 nx15)
  (FA 0 (nth xs13 0) fun v17 =>
  LD false 1 v17 H14 fun v18 =>
  BI BinOp.eql v18 (AV.int IntKind.i64 1) fun v19 =>
  CND v19
  (FA 1 (nth xs13 0) fun v20 =>
  LD false 1 v20 H14 fun v21 =>
  BI BinOp.neq v21 (AV.int IntKind.i64 0) fun v22 =>
  CND v22
  (Q (AV.int IntKind.i64 2) H14 nx15)
  (FA 0 (nth xs13 0) fun v23 =>
  LD false 1 v23 H14 fun v24 =>
  BI BinOp.neq v24 (AV.int IntKind.i64 1) fun v25 =>
  CND v25
  (FA 2 (nth xs13 0) fun v26 =>
  LD false 1 v26 H14 fun v27 =>
  BS BinOp.neq v27 (AV.str []) fun v28 =>
  CND v28
  (Q (AV.int IntKind.i64 2) H14 nx15)
  (Q (AV.int IntKind.i64 0) H14 nx15))
  (Q (AV.int IntKind.i64 0) H14 nx15)))
  (FA 0 (nth xs13 0) fun v29 =>
  LD false 1 v29 H14 fun v30 =>
  BI BinOp.neq v30 (AV.int IntKind.i64 1) fun v31 =>
  CND v31
  (FA 2 (nth xs13 0) fun v32 =>
  LD false 1 v32 H14 fun v33 =>
  BS BinOp.neq v33 (AV.str []) fun v34 =>
  CND v34
  (Q (AV.int IntKind.i64 2) H14 nx15)
  (Q (AV.int IntKind.i64 0) H14 nx15))
  (Q (AV.int IntKind.i64 0) H14 nx15)))
def cell_Wrong_b1 (xs9 : List AV) (H10 : Heap) (nx11 : Nat) (j16 : J3) : Prop :=
  FA 0 (nth xs9 1) fun v35 =>
  LD false 1 v35 H10 fun v36 =>
  BI BinOp.eql v36 (AV.int IntKind.i64 2) fun v37 =>
  CND v37
  (FA 1 (nth xs9 1) fun v38 =>
  LD false 1 v38 H10 fun v39 =>
  BI BinOp.lss v39 (AV.int IntKind.i64 0) fun v40 =>
  CND v40
  (j16 [nth xs9 1, AV.bool true] H10 nx11)
  (FA 1 (nth xs9 1) fun v41 =>
  LD false 1 v41 H10 fun v42 =>
  BI BinOp.geq v42 (nth xs9 0) fun v43 =>
  j16 [nth xs9 1, v43] H10 nx11))
  (j16 [nth xs9 1, AV.bool false] H10 nx11)
def cell_Wrong_j2 (Q : AV → Heap → Nat → Prop) (xs9 : List AV) (H10 : Heap) (nx11 : Nat) : Prop :=
  CND (nth xs9 2)
  (Q (AV.int IntKind.i64 4) H10 nx11)
  (JN (cell_Wrong_j1 Q) (cell_Wrong_b1 xs9 H10 nx11))
def cell_Wrong_b2 (xs5 : List AV) (H6 : Heap) (nx7 : Nat) (j12 : J3) : Prop :=
  FA 0 (nth xs5 1) fun v44 =>
  LD false 1 v44 H6 fun v45 =>
  BI BinOp.eql v45 (AV.int IntKind.i64 1) fun v46 =>
  CND v46
  (FA 2 (nth xs5 1) fun v47 =>
  LD false 1 v47 H6 fun v48 =>
  LNS v48 fun v49 =>
  BI BinOp.gtr v49 (AV.int IntKind.i64 60) fun v50 =>
  j12 [nth xs5 0, nth xs5 1, v50] H6 nx7)
  (j12 [nth xs5 0, nth xs5 1, AV.bool false] H6 nx7)
def cell_Wrong_j3 (Q : AV → Heap → Nat → Prop) (xs5 : List AV) (H6 : Heap) (nx7 : Nat) : Prop :=
  CND (nth xs5 2)
  (Q (AV.int IntKind.i64 3) H6 nx7)
  (JN (cell_Wrong_j2 Q) (cell_Wrong_b2 xs5 H6 nx7))
def cell_Wrong_b3 (nx : Nat) (H : Heap) (a0 : AV) (a1 : AV) (j8 : J3) : Prop :=
  LD false 1 (AV.ptr nx 0) (H.put nx (some (AObj.row a0.cells.length a0.cells))) fun v51 =>
  BI BinOp.eql v51 (AV.int IntKind.i64 0) fun v52 =>
  CND v52
  (LD false 1 (AV.ptr nx 1) (H.put nx (some (AObj.row a0.cells.length a0.cells))) fun v53 =>
  BI BinOp.lss v53 (AV.int IntKind.i64 (-1073741824)) fun v54 =>
  CND v54
  (j8 [a1, AV.ptr nx 0, AV.bool true] (H.put nx (some (AObj.row a0.cells.length a0.cells))) (nx + 1))
  (LD false 1 (AV.ptr nx 1) (H.put nx (some (AObj.row a0.cells.length a0.cells))) fun v55 =>
  BI BinOp.gtr v55 (AV.int IntKind.i64 1073741824) fun v56 =>
  j8 [a1, AV.ptr nx 0, v56] (H.put nx (some (AObj.row a0.cells.length a0.cells))) (nx + 1)))
  (j8 [a1, AV.ptr nx 0, AV.bool false] (H.put nx (some (AObj.row a0.cells.length a0.cells))) (nx + 1))
def cell_Wrong_vc (a0 a1 : AV) (H : Heap) (nx : Nat) (Q : AV → Heap → Nat → Prop) : Prop :=
  a0.sure = true ∧
  LD false 1 (AV.ptr nx 0) (H.put nx (some (AObj.row a0.cells.length a0.cells))) fun v1 =>
  BI BinOp.lss v1 (AV.int IntKind.i64 0) fun v2 =>
  CND v2
  (Q (AV.int IntKind.i64 1) (H.put nx (some (AObj.row a0.cells.length a0.cells))) (nx + 1))
  (LD false 1 (AV.ptr nx 0) (H.put nx (some (AObj.row a0.cells.length a0.cells))) fun v3 =>
  BI BinOp.gtr v3 (AV.int IntKind.i64 2) fun v4 =>
  CND v4
  (Q (AV.int IntKind.i64 1) (H.put nx (some (AObj.row a0.cells.length a0.cells))) (nx + 1))
  (JN (cell_Wrong_j3 Q) (cell_Wrong_b3 nx H a0 a1)))
theorem cell_Wrong_eq (a0 a1 : AV) (H : Heap) (nx : Nat) (Q : AV → Heap → Nat → Prop) : body Try.prog tab eqsT (lvOf cell_Wrong_lv) Try.f28 (codeOf Try.f28) [a0, a1] H nx Q = cell_Wrong_vc a0 a1 H nx Q := by kernel_rfl
theorem cell_Wrong_calls (a0 a1 : AV) (H : Heap) (nx : Nat) (Q : AV → Heap → Nat → Prop) (h : cell_Wrong_vc a0 a1 H nx Q) : ACalls Try.prog 28 [a0, a1] H nx Q :=
  acalls_body tabOk eqsOk mixed Try.func28 (by kernel_rfl) (by kernel_rfl) (by kernel_rfl) (by kernel_rfl) ((cell_Wrong_eq a0 a1 H nx Q).symm ▸ h)

/-- wanderstaff/verify.frame -/
def verify_frame_lv : List (Nat × Nat × List Nat) := [(0, 9, [0, 1, 7, 8, 9, 11, 12]), (0, 14, [0, 1, 7, 9, 11, 13]), (2, 20, [0, 198, 199, 200]), (2, 23, [0, 198, 199, 200, 204, 205, 206]), (3, 17, [0, 7, 11])]
def verify_frame_k1 (Q : AV → Heap → Nat → Prop) (H107 : Heap) (nx103 : Nat) (xs101 : List AV) (K100 : J3) (v115 : AV) (rd116 : List Nat) (fr117 : List Nat) (D118 : Delta) : Prop :=
  BI BinOp.neq v115 (AV.int IntKind.i64 0) fun v119 =>
  CND v119
  (Q v115 (H107.apply D118) ((nx103 + 1) + fr117.length))
  (BI BinOp.add (nth xs101 6) (AV.int IntKind.i64 1) fun v120 =>
  K100 [nth xs101 0, nth xs101 1, nth xs101 2, nth xs101 3, nth xs101 4, nth xs101 5, v120] (H107.apply D118) ((nx103 + 1) + fr117.length))
def verify_frame_l1 (Q : AV → Heap → Nat → Prop) (K92 : J3) (K100 : J3) (xs101 : List AV) (H102 : Heap) (nx103 : Nat) : Prop :=
  BI BinOp.lss (nth xs101 6) (nth xs101 5) fun v104 =>
  CND v104
  (IA 3 (nth xs101 4) (nth xs101 6) fun v105 =>
  LD true 3 v105 H102 fun v106 =>
  ST 3 (AV.ptr nx103 0) v106 (H102.put nx103 (some (AObj.row 3 [AV.int IntKind.i64 0, AV.int IntKind.i64 0, AV.str []]))) fun H107 =>
  LDR true 3 (AV.ptr nx103 0) H107 fun v108 rd109 =>
  NC (nth xs101 0) fun v110 =>
  FA 5 v110 fun v111 =>
  LDR false 1 v111 H107 fun v112 rd113 =>
  LNL v112 fun v114 =>
  CALLD Try.prog (AV.clo 28 []) [v108, v114] H107 (nx103 + 1) (verify_frame_k1 Q H107 nx103 xs101 K100))
  (BI BinOp.add (nth xs101 3) (AV.int IntKind.i64 1) fun v121 =>
  K92 [nth xs101 0, nth xs101 1, nth xs101 2, v121] H102 nx103)
def verify_frame_l2 (Q : AV → Heap → Nat → Prop) (K92 : J3) (xs93 : List AV) (H94 : Heap) (nx95 : Nat) : Prop :=
  BI BinOp.lss (nth xs93 3) (nth xs93 2) fun v96 =>
  CND v96
  (IA 1 (nth xs93 1) (nth xs93 3) fun v97 =>
  LD false 1 v97 H94 fun v98 =>
  LNL v98 fun v99 =>
  LP (verify_frame_l1 Q K92) [nth xs93 0, nth xs93 1, nth xs93 2, nth xs93 3, v98, v99, AV.int IntKind.i64 0] H94 nx95)
  (Q (AV.int IntKind.i64 0) H94 nx95)
def verify_frame_j1 (Q : AV → Heap → Nat → Prop) (j75 : J3) (xs127 : List AV) (H128 : Heap) (nx129 : Nat) : Prop :=
  NC (nth xs127 0) fun v131 =>
  FA 4 v131 fun v132 =>
  LDR false 1 v132 H128 fun v133 rd134 =>
  LNL v133 fun v135 =>
  BI BinOp.sub v135 (AV.int IntKind.i64 1) fun v136 =>
  BI BinOp.lss (nth xs127 1) v136 fun v137 =>
  CND v137
  (FA 0 (nth xs127 5) fun v138 =>
  LDR false 1 v138 H128 fun v139 rd140 =>
  BI BinOp.neq v139 (AV.int IntKind.i64 17) fun v141 =>
  CND v141
  (Q (AV.int IntKind.i64 10) H128 nx129)
  (FA 1 (nth xs127 5) fun v142 =>
  LDR false 1 v142 H128 fun v143 rd144 =>
  NC (nth xs127 0) fun v145 =>
  FA 4 v145 fun v146 =>
  LDR false 1 v146 H128 fun v147 rd148 =>
  BI BinOp.add (nth xs127 1) (AV.int IntKind.i64 1) fun v149 =>
  IA 4 v147 v149 fun v150 =>
  FA 0 v150 fun v151 =>
  LDR false 1 v151 H128 fun v152 rd153 =>
  BI BinOp.neq v143 v152 fun v154 =>
  CND v154
  (Q (AV.int IntKind.i64 10) H128 nx129)
  (NC (nth xs127 0) fun v155 =>
  FA 4 v155 fun v156 =>
  LDR false 1 v156 H128 fun v157 rd158 =>
  LNL v157 fun v159 =>
  BI BinOp.sub v159 (AV.int IntKind.i64 1) fun v160 =>
  BI BinOp.eql (nth xs127 1) v160 fun v161 =>
  CND v161
  (FA 0 (nth xs127 5) fun v162 =>
  LDR false 1 v162 H128 fun v163 rd164 =>
  BI BinOp.neq v163 (AV.int IntKind.i64 13) fun v165 =>
  CND v165
  (Q (AV.int IntKind.i64 10) H128 nx129)
  (NC (nth xs127 2) fun v166 =>
  FA 1 v166 fun v167 =>
  LDR false 1 v167 H128 fun v168 rd169 =>
  BI BinOp.sub v168 (AV.int IntKind.i64 1) fun v170 =>
  IA 1 (nth xs127 3) v170 fun v171 =>
  LDR false 1 v171 H128 fun v172 rd173 =>
  BI BinOp.lss v172 (AV.int IntKind.i64 0) fun v174 =>
  CND v174
  (Q (AV.int IntKind.i64 10) H128 nx129)
  (j75 [nth xs127 0, nth xs127 2, nth xs127 4] H128 nx129)))
  (NC (nth xs127 2) fun v175 =>
  FA 1 v175 fun v176 =>
  LDR false 1 v176 H128 fun v177 rd178 =>
  BI BinOp.sub v177 (AV.int IntKind.i64 1) fun v179 =>
  IA 1 (nth xs127 3) v179 fun v180 =>
  LDR false 1 v180 H128 fun v181 rd182 =>
  BI BinOp.lss v181 (AV.int IntKind.i64 0) fun v183 =>
  CND v183
  (Q (AV.int IntKind.i64 10) H128 nx129)
  (j75 [nth xs127 0, nth xs127 2, nth xs127 4] H128 nx129)))))
  (NC (nth xs127 0) fun v184 =>
  FA 4 v184 fun v185 =>
  LDR false 1 v185 H128 fun v186 rd187 =>
  LNL v186 fun v188 =>
  BI BinOp.sub v188 (AV.int IntKind.i64 1) fun v189 =>
  BI BinOp.eql (nth xs127 1) v189 fun v190 =>
  CND v190
  (FA 0 (nth xs127 5) fun v191 =>
  LDR false 1 v191 H128 fun v192 rd193 =>
  BI BinOp.neq v192 (AV.int IntKind.i64 13) fun v194 =>
  CND v194
  (Q (AV.int IntKind.i64 10) H128 nx129)
  (NC (nth xs127 2) fun v195 =>
  FA 1 v195 fun v196 =>
  LDR false 1 v196 H128 fun v197 rd198 =>
  BI BinOp.sub v197 (AV.int IntKind.i64 1) fun v199 =>
  IA 1 (nth xs127 3) v199 fun v200 =>
  LDR false 1 v200 H128 fun v201 rd202 =>
  BI BinOp.lss v201 (AV.int IntKind.i64 0) fun v203 =>
  CND v203
  (Q (AV.int IntKind.i64 10) H128 nx129)
  (j75 [nth xs127 0, nth xs127 2, nth xs127 4] H128 nx129)))
  (NC (nth xs127 2) fun v204 =>
  FA 1 v204 fun v205 =>
  LDR false 1 v205 H128 fun v206 rd207 =>
  BI BinOp.sub v206 (AV.int IntKind.i64 1) fun v208 =>
  IA 1 (nth xs127 3) v208 fun v209 =>
  LDR false 1 v209 H128 fun v210 rd211 =>
  BI BinOp.lss v210 (AV.int IntKind.i64 0) fun v212 =>
  CND v212
  (Q (AV.int IntKind.i64 10) H128 nx129)
  (j75 [nth xs127 0, nth xs127 2, nth xs127 4] H128 nx129)))
def verify_frame_b1 (xs68 : List AV) (H69 : Heap) (nx70 : Nat) (v122 : AV) (j130 : J3) : Prop :=
  NC (nth xs68 3) fun v213 =>
  FA 2 v213 fun v214 =>
  LDR false 1 v214 H69 fun v215 rd216 =>
  NC (nth xs68 2) fun v217 =>
  FA 1 v217 fun v218 =>
  LDR false 1 v218 H69 fun v219 rd220 =>
  BI BinOp.sub v219 (AV.int IntKind.i64 1) fun v221 =>
  IA 3 v215 v221 fun v222 =>
  LDR true 3 v222 H69 fun v223 rd224 =>
  STORE 3 (AV.ptr nx70 0) v223 (H69.put nx70 (some (AObj.row 3 [AV.int IntKind.i64 0, AV.int IntKind.i64 0, AV.int IntKind.i64 0]))) fun v225 rd226 fr227 D228 =>
  nx70 ∉ [] ∧
  nx70 ∉ [] ∧
  nx70 ∉ [] ∧
  nx70 ∉ rd216 ∧
  nx70 ∉ [] ∧
  nx70 ∉ [] ∧
  nx70 ∉ [] ∧
  nx70 ∉ rd220 ∧
  nx70 ∉ [] ∧
  nx70 ∉ [] ∧
  nx70 ∉ rd224 ∧
  j130 [nth xs68 0, nth xs68 1, nth xs68 2, nth xs68 4, v122, AV.ptr nx70 0] ((H69.put nx70 (some (AObj.row 3 [AV.int IntKind.i64 0, AV.int IntKind.i64 0, AV.int IntKind.i64 0]))).apply D228) ((nx70 + 1) + fr227.length)
def verify_frame_j2 (Q : AV → Heap → Nat → Prop) (xs72 : List AV) (H73 : Heap) (nx74 : Nat) : Prop :=
  BI BinOp.lss (nth xs72 2) (AV.int IntKind.i64 0) fun v76 =>
  CND v76
  (Q (AV.int IntKind.i64 10) H73 nx74)
  (NC (nth xs72 1) fun v77 =>
  FA 3 v77 fun v78 =>
  LD false 1 v78 H73 fun v79 =>
  LNL v79 fun v80 =>
  BI BinOp.neq v80 (nth xs72 2) fun v81 =>
  CND v81
  (Q (AV.int IntKind.i64 10) H73 nx74)
  (NC (nth xs72 1) fun v82 =>
  FA 2 v82 fun v83 =>
  LDR false 1 v83 H73 fun v84 rd85 =>
  NC (nth xs72 1) fun v86 =>
  FA 3 v86 fun v87 =>
  LDR false 1 v87 H73 fun v88 rd89 =>
  BSL 2 1 [AV.nils] [(0, v84), (1, v88)] fun cells90 =>
  LNL (AV.slc nx74 0 2) fun v91 =>
  nx74 ∉ [] ∧
  nx74 ∉ [] ∧
  LP (verify_frame_l2 Q) [nth xs72 0, AV.slc nx74 0 2, v91, AV.int IntKind.i64 0] (H73.put nx74 (some (AObj.row 1 cells90))) (nx74 + 1)))
def verify_frame_b2 (xs68 : List AV) (H69 : Heap) (Q : AV → Heap → Nat → Prop) (nx70 : Nat) (j75 : J3) : Prop :=
  CND (nth xs68 6)
  (BI BinOp.sub (nth xs68 5) (AV.int IntKind.i64 1) fun v122 =>
  NC (nth xs68 2) fun v123 =>
  FA 1 v123 fun v124 =>
  LD false 1 v124 H69 fun v125 =>
  BI BinOp.eql v125 (AV.int IntKind.i64 0) fun v126 =>
  CND v126
  (Q (AV.int IntKind.i64 10) H69 nx70)
  (JN (verify_frame_j1 Q j75) (verify_frame_b1 xs68 H69 nx70 v122)))
  (j75 [nth xs68 0, nth xs68 2, nth xs68 5] H69 nx70)
def verify_frame_j3 (Q : AV → Heap → Nat → Prop) (xs68 : List AV) (H69 : Heap) (nx70 : Nat) : Prop :=
  JN (verify_frame_j2 Q) (verify_frame_b2 xs68 H69 Q nx70)
def verify_frame_b3 (a0 : AV) (H59 : Heap) (a1 : AV) (v4 : AV) (v30 : AV) (v61 : AV) (v67 : AV) (nx60 : Nat) (a2 : AV) (j71 : J3) : Prop :=
  NC a0 fun v229 =>
  FA 4 v229 fun v230 =>
  LD false 1 v230 H59 fun v231 =>
  LNL v231 fun v232 =>
  BI BinOp.sub v232 (AV.int IntKind.i64 1) fun v233 =>
  BI BinOp.lss a1 v233 fun v234 =>
  CND v234
  (j71 [a0, a1, v4, v30, v61, v67, AV.bool true] H59 nx60)
  (j71 [a0, a1, v4, v30, v61, v67, a2] H59 nx60)
def verify_frame_k2 (v4 : AV) (Q : AV → Heap → Nat → Prop) (a0 : AV) (a1 : AV) (v30 : AV) (a2 : AV) (v58 : AV) (H59 : Heap) (nx60 : Nat) : Prop :=
  EX v58 0 fun v61 =>
  EX v58 1 fun v62 =>
  NC v4 fun v63 =>
  FA 1 v63 fun v64 =>
  LD false 1 v64 H59 fun v65 =>
  IA 1 v61 v65 fun v66 =>
  LD false 1 v66 H59 fun v67 =>
  JN (verify_frame_j3 Q) (verify_frame_b3 a0 H59 a1 v4 v30 v61 v67 nx60 a2)
def verify_frame_vc (a0 a1 a2 : AV) (H : Heap) (nx : Nat) (Q : AV → Heap → Nat → Prop) : Prop :=
  NC a0 fun v1 =>
  FA 4 v1 fun v2 =>
  LD false 1 v2 H fun v3 =>
  IA 4 v3 a1 fun v4 =>
  NC v4 fun v5 =>
  FA 0 v5 fun v6 =>
  LDR false 1 v6 H fun v7 rd8 =>
  BI BinOp.lss v7 (AV.int IntKind.i64 0) fun v9 =>
  CND v9
  (Q (AV.int IntKind.i64 3) H nx)
  (NC v4 fun v10 =>
  FA 0 v10 fun v11 =>
  LDR false 1 v11 H fun v12 rd13 =>
  NC a0 fun v14 =>
  FA 2 v14 fun v15 =>
  FA 0 v15 fun v16 =>
  LDR false 1 v16 H fun v17 rd18 =>
  LNL v17 fun v19 =>
  BI BinOp.geq v12 v19 fun v20 =>
  CND v20
  (Q (AV.int IntKind.i64 3) H nx)
  (NC a0 fun v21 =>
  FA 2 v21 fun v22 =>
  FA 0 v22 fun v23 =>
  LDR false 1 v23 H fun v24 rd25 =>
  NC v4 fun v26 =>
  FA 0 v26 fun v27 =>
  LDR false 1 v27 H fun v28 rd29 =>
  IA 3 v24 v28 fun v30 =>
  NC v4 fun v31 =>
  FA 1 v31 fun v32 =>
  LDR false 1 v32 H fun v33 rd34 =>
  BI BinOp.lss v33 (AV.int IntKind.i64 0) fun v35 =>
  CND v35
  (Q (AV.int IntKind.i64 3) H nx)
  (NC v4 fun v36 =>
  FA 1 v36 fun v37 =>
  LDR false 1 v37 H fun v38 rd39 =>
  NC v30 fun v40 =>
  FA 2 v40 fun v41 =>
  LDR false 1 v41 H fun v42 rd43 =>
  LNL v42 fun v44 =>
  BI BinOp.geq v38 v44 fun v45 =>
  CND v45
  (Q (AV.int IntKind.i64 3) H nx)
  (NC v4 fun v46 =>
  FA 2 v46 fun v47 =>
  LDR false 1 v47 H fun v48 rd49 =>
  LNL v48 fun v50 =>
  NC v30 fun v51 =>
  FA 1 v51 fun v52 =>
  LDR false 1 v52 H fun v53 rd54 =>
  BI BinOp.neq v50 v53 fun v55 =>
  CND v55
  (Q (AV.int IntKind.i64 3) H nx)
  (NC v30 fun v56 =>
  LD true 3 v56 H fun v57 =>
  ACalls Try.prog 14 [v57] H nx (verify_frame_k2 v4 Q a0 a1 v30 a2))))))
theorem verify_frame_eq (a0 a1 a2 : AV) (H : Heap) (nx : Nat) (Q : AV → Heap → Nat → Prop) : body Try.prog tab eqsT (lvOf verify_frame_lv) Try.f27 (codeOf Try.f27) [a0, a1, a2] H nx Q = verify_frame_vc a0 a1 a2 H nx Q := by kernel_rfl
theorem verify_frame_calls (a0 a1 a2 : AV) (H : Heap) (nx : Nat) (Q : AV → Heap → Nat → Prop) (h : verify_frame_vc a0 a1 a2 H nx Q) : ACalls Try.prog 27 [a0, a1, a2] H nx Q :=
  acalls_body tabOk eqsOk mixed Try.func27 (by kernel_rfl) (by kernel_rfl) (by kernel_rfl) (by kernel_rfl) ((verify_frame_eq a0 a1 a2 H nx Q).symm ▸ h)

/-- wanderstaff/verify.Agent -/
def verify_Agent_lv : List (Nat × Nat × List Nat) := [(2, 12, [1, 2, 89, 90]), (2, 19, [2, 101, 102, 103]), (2, 22, [2, 101, 102, 103, 111, 112, 113])]
def verify_Agent_k1 (Q : AV → Heap → Nat → Prop) (xs42 : List AV) (K41 : J3) (v46 : AV) (H47 : Heap) (nx48 : Nat) : Prop :=
  BI BinOp.neq v46 (AV.int IntKind.i64 0) fun v49 =>
  CND v49
  (Q v46 H47 nx48)
  (BI BinOp.add (nth xs42 3) (AV.int IntKind.i64 1) fun v50 =>
  K41 [nth xs42 0, nth xs42 1, nth xs42 2, v50] H47 nx48)
def verify_Agent_k2 (Q : AV → Heap → Nat → Prop) (xs67 : List AV) (K66 : J3) (v78 : AV) (H79 : Heap) (nx80 : Nat) : Prop :=
  BI BinOp.neq v78 (AV.int IntKind.i64 0) fun v81 =>
  CND v81
  (Q v78 H79 nx80)
  (BI BinOp.add (nth xs67 6) (AV.int IntKind.i64 1) fun v82 =>
  K66 [nth xs67 0, nth xs67 1, nth xs67 2, nth xs67 3, nth xs67 4, nth xs67 5, v82] H79 nx80)
def verify_Agent_l1 (Q : AV → Heap → Nat → Prop) (K54 : J3) (K66 : J3) (xs67 : List AV) (H68 : Heap) (nx69 : Nat) : Prop :=
  BI BinOp.lss (nth xs67 6) (nth xs67 5) fun v70 =>
  CND v70
  (IA 3 (nth xs67 4) (nth xs67 6) fun v71 =>
  LD true 3 v71 H68 fun v72 =>
  ST 3 (AV.ptr nx69 0) v72 (H68.put nx69 (some (AObj.row 3 [AV.int IntKind.i64 0, AV.int IntKind.i64 0, AV.str []]))) fun H73 =>
  LD true 3 (AV.ptr nx69 0) H73 fun v74 =>
  FA 5 (nth xs67 0) fun v75 =>
  LD false 1 v75 H73 fun v76 =>
  LNL v76 fun v77 =>
  ACalls Try.prog 28 [v74, v77] H73 (nx69 + 1) (verify_Agent_k2 Q xs67 K66))
  (BI BinOp.add (nth xs67 3) (AV.int IntKind.i64 1) fun v83 =>
  K54 [nth xs67 0, nth xs67 1, nth xs67 2, v83] H68 nx69)
def verify_Agent_l2 (Q : AV → Heap → Nat → Prop) (K54 : J3) (xs55 : List AV) (H56 : Heap) (nx57 : Nat) : Prop :=
  BI BinOp.lss (nth xs55 3) (nth xs55 2) fun v58 =>
  CND v58
  (IA 6 (nth xs55 1) (nth xs55 3) fun v59 =>
  LD true 6 v59 H56 fun v60 =>
  ST 6 (AV.ptr nx57 0) v60 (H56.put nx57 (some (AObj.row 6 [AV.int IntKind.i64 0, AV.int IntKind.i64 0, AV.str [], AV.int IntKind.i64 0, AV.int IntKind.i64 0, AV.str []]))) fun H61 =>
  LD true 3 (AV.ptr nx57 0) H61 fun v62 =>
  LD true 3 (AV.ptr nx57 3) H61 fun v63 =>
  BSL 2 3 [AV.int IntKind.i64 0, AV.int IntKind.i64 0, AV.str []] [(0, v62), (1, v63)] fun cells64 =>
  LNL (AV.slc (nx57 + 1) 0 2) fun v65 =>
  LP (verify_Agent_l1 Q K54) [nth xs55 0, nth xs55 1, nth xs55 2, nth xs55 3, AV.slc (nx57 + 1) 0 2, v65, AV.int IntKind.i64 0] (H61.put ((nx57 + 1)) (some (AObj.row 3 cells64))) (nx57 + 2))
  (Q (AV.int IntKind.i64 0) H56 nx57)
def verify_Agent_l3 (Q : AV → Heap → Nat → Prop) (K41 : J3) (xs42 : List AV) (H43 : Heap) (nx44 : Nat) : Prop :=
  BI BinOp.lss (nth xs42 3) (nth xs42 2) fun v45 =>
  CND v45
  (ACalls Try.prog 27 [nth xs42 1, nth xs42 3, nth xs42 0] H43 nx44 (verify_Agent_k1 Q xs42 K41))
  (FA 5 (nth xs42 1) fun v51 =>
  LD false 1 v51 H43 fun v52 =>
  LNL v52 fun v53 =>
  LP (verify_Agent_l2 Q) [nth xs42 1, v52, v53, AV.int IntKind.i64 0] H43 nx44)
def verify_Agent_k3 (Q : AV → Heap → Nat → Prop) (nx : Nat) (a1 : AV) (v2 : AV) (H3 : Heap) (nx4 : Nat) : Prop :=
  BI BinOp.neq v2 (AV.int IntKind.i64 0) fun v5 =>
  CND v5
  (Q v2 H3 nx4)
  (LD true 3 (AV.ptr nx 6) H3 fun v6 =>
  ST 3 (AV.ptr nx4 0) v6 (H3.put nx4 (some (AObj.row 3 [AV.int IntKind.i64 0, AV.int IntKind.i64 0, AV.int IntKind.i64 0]))) fun H7 =>
  LD false 1 (AV.ptr nx 0) H7 fun v8 =>
  BI BinOp.lss v8 (AV.int IntKind.i64 0) fun v9 =>
  CND v9
  (Q (AV.int IntKind.i64 3) H7 (nx4 + 1))
  (LD false 1 (AV.ptr nx 0) H7 fun v10 =>
  BI BinOp.gtr v10 (AV.int IntKind.i64 1073741824) fun v11 =>
  CND v11
  (Q (AV.int IntKind.i64 3) H7 (nx4 + 1))
  (LD false 1 (AV.ptr nx 1) H7 fun v12 =>
  BI BinOp.lss v12 (AV.int IntKind.i64 0) fun v13 =>
  CND v13
  (Q (AV.int IntKind.i64 3) H7 (nx4 + 1))
  (LD false 1 (AV.ptr nx 1) H7 fun v14 =>
  BI BinOp.gtr v14 (AV.int IntKind.i64 1073741824) fun v15 =>
  CND v15
  (Q (AV.int IntKind.i64 3) H7 (nx4 + 1))
  (LD false 1 (AV.ptr nx4 0) H7 fun v16 =>
  BI BinOp.lss v16 (AV.int IntKind.i64 0) fun v17 =>
  CND v17
  (Q (AV.int IntKind.i64 3) H7 (nx4 + 1))
  (LD false 1 (AV.ptr nx4 0) H7 fun v18 =>
  BI BinOp.gtr v18 (AV.int IntKind.i64 2000) fun v19 =>
  CND v19
  (Q (AV.int IntKind.i64 3) H7 (nx4 + 1))
  (LD false 1 (AV.ptr nx4 1) H7 fun v20 =>
  BI BinOp.lss v20 (AV.int IntKind.i64 0) fun v21 =>
  CND v21
  (Q (AV.int IntKind.i64 3) H7 (nx4 + 1))
  (LD false 1 (AV.ptr nx4 1) H7 fun v22 =>
  BI BinOp.gtr v22 (AV.int IntKind.i64 60) fun v23 =>
  CND v23
  (Q (AV.int IntKind.i64 3) H7 (nx4 + 1))
  (LD false 1 (AV.ptr nx4 2) H7 fun v24 =>
  BI BinOp.lss v24 (AV.int IntKind.i64 0) fun v25 =>
  CND v25
  (Q (AV.int IntKind.i64 3) H7 (nx4 + 1))
  (LD false 1 (AV.ptr nx4 2) H7 fun v26 =>
  BI BinOp.gtr v26 (AV.int IntKind.i64 12) fun v27 =>
  CND v27
  (Q (AV.int IntKind.i64 3) H7 (nx4 + 1))
  (LD false 1 (AV.ptr nx 4) H7 fun v28 =>
  LNL v28 fun v29 =>
  BI BinOp.lss v29 (AV.int IntKind.i64 1) fun v30 =>
  CND v30
  (Q (AV.int IntKind.i64 5) H7 (nx4 + 1))
  (LD false 1 (AV.ptr nx 4) H7 fun v31 =>
  LNL v31 fun v32 =>
  BI BinOp.gtr v32 (AV.int IntKind.i64 12) fun v33 =>
  CND v33
  (Q (AV.int IntKind.i64 5) H7 (nx4 + 1))
  (LD false 1 (AV.ptr nx 5) H7 fun v34 =>
  LNL v34 fun v35 =>
  LD false 1 (AV.ptr nx4 1) H7 fun v36 =>
  BI BinOp.sub (AV.int IntKind.i64 60) v36 fun v37 =>
  BI BinOp.gtr v35 v37 fun v38 =>
  CND v38
  (Q (AV.int IntKind.i64 4) H7 (nx4 + 1))
  (LD false 1 (AV.ptr nx 4) H7 fun v39 =>
  LNL v39 fun v40 =>
  LP (verify_Agent_l3 Q) [a1, AV.ptr nx 0, v40, AV.int IntKind.i64 0] H7 (nx4 + 1)))))))))))))))
def verify_Agent_vc (a0 a1 : AV) (H : Heap) (nx : Nat) (Q : AV → Heap → Nat → Prop) : Prop :=
  a0.sure = true ∧
  LD true 2 (AV.ptr nx 2) (H.put nx (some (AObj.row a0.cells.length a0.cells))) fun v1 =>
  ACalls Try.prog 11 [v1] (H.put nx (some (AObj.row a0.cells.length a0.cells))) (nx + 1) (verify_Agent_k3 Q nx a1)
theorem verify_Agent_eq (a0 a1 : AV) (H : Heap) (nx : Nat) (Q : AV → Heap → Nat → Prop) : body Try.prog tab eqsT (lvOf verify_Agent_lv) Try.f12 (codeOf Try.f12) [a0, a1] H nx Q = verify_Agent_vc a0 a1 H nx Q := by kernel_rfl
theorem verify_Agent_calls (a0 a1 : AV) (H : Heap) (nx : Nat) (Q : AV → Heap → Nat → Prop) (h : verify_Agent_vc a0 a1 H nx Q) : ACalls Try.prog 12 [a0, a1] H nx Q :=
  acalls_body tabOk eqsOk mixed Try.func12 (by kernel_rfl) (by kernel_rfl) (by kernel_rfl) (by kernel_rfl) ((verify_Agent_eq a0 a1 H nx Q).symm ▸ h)

/-- wanderstaff/zwref1.WrongValue -/
def zwref1_WrongValue_lv : List (Nat × Nat × List Nat) := []
def zwref1_WrongValue_vc (a0 a1 : AV) (H : Heap) (nx : Nat) (Q : AV → Heap → Nat → Prop) : Prop :=
  a0.sure = true ∧
  LD false 1 (AV.ptr nx 0) (H.put nx (some (AObj.row a0.cells.length a0.cells))) fun v1 =>
  BI BinOp.eql v1 (AV.int IntKind.i64 0) fun v2 =>
  CND v2
  (LD false 1 (AV.ptr nx 1) (H.put nx (some (AObj.row a0.cells.length a0.cells))) fun v3 =>
  BI BinOp.lss v3 (AV.int IntKind.i64 (-1073741824)) fun v4 =>
  CND v4
  (Q (AV.int IntKind.i64 3) (H.put nx (some (AObj.row a0.cells.length a0.cells))) (nx + 1))
  (LD false 1 (AV.ptr nx 1) (H.put nx (some (AObj.row a0.cells.length a0.cells))) fun v5 =>
  BI BinOp.gtr v5 (AV.int IntKind.i64 1073741824) fun v6 =>
  CND v6
  (Q (AV.int IntKind.i64 3) (H.put nx (some (AObj.row a0.cells.length a0.cells))) (nx + 1))
  (LD false 1 (AV.ptr nx 2) (H.put nx (some (AObj.row a0.cells.length a0.cells))) fun v7 =>
  BS BinOp.neq v7 (AV.str []) fun v8 =>
  CND v8
  (Q (AV.int IntKind.i64 2) (H.put nx (some (AObj.row a0.cells.length a0.cells))) (nx + 1))
  (Q (AV.int IntKind.i64 0) (H.put nx (some (AObj.row a0.cells.length a0.cells))) (nx + 1)))))
  (BI BinOp.eql v1 (AV.int IntKind.i64 1) fun v9 =>
  CND v9
  (LD false 1 (AV.ptr nx 2) (H.put nx (some (AObj.row a0.cells.length a0.cells))) fun v10 =>
  LNS v10 fun v11 =>
  BI BinOp.gtr v11 (AV.int IntKind.i64 60) fun v12 =>
  CND v12
  (Q (AV.int IntKind.i64 4) (H.put nx (some (AObj.row a0.cells.length a0.cells))) (nx + 1))
  (LD false 1 (AV.ptr nx 1) (H.put nx (some (AObj.row a0.cells.length a0.cells))) fun v13 =>
  BI BinOp.neq v13 (AV.int IntKind.i64 0) fun v14 =>
  CND v14
  (Q (AV.int IntKind.i64 2) (H.put nx (some (AObj.row a0.cells.length a0.cells))) (nx + 1))
  (Q (AV.int IntKind.i64 0) (H.put nx (some (AObj.row a0.cells.length a0.cells))) (nx + 1))))
  (BI BinOp.eql v1 (AV.int IntKind.i64 2) fun v15 =>
  CND v15
  (LD false 1 (AV.ptr nx 1) (H.put nx (some (AObj.row a0.cells.length a0.cells))) fun v16 =>
  BI BinOp.lss v16 (AV.int IntKind.i64 0) fun v17 =>
  CND v17
  (Q (AV.int IntKind.i64 6) (H.put nx (some (AObj.row a0.cells.length a0.cells))) (nx + 1))
  (LD false 1 (AV.ptr nx 1) (H.put nx (some (AObj.row a0.cells.length a0.cells))) fun v18 =>
  BI BinOp.geq v18 a1 fun v19 =>
  CND v19
  (Q (AV.int IntKind.i64 6) (H.put nx (some (AObj.row a0.cells.length a0.cells))) (nx + 1))
  (LD false 1 (AV.ptr nx 2) (H.put nx (some (AObj.row a0.cells.length a0.cells))) fun v20 =>
  BS BinOp.neq v20 (AV.str []) fun v21 =>
  CND v21
  (Q (AV.int IntKind.i64 2) (H.put nx (some (AObj.row a0.cells.length a0.cells))) (nx + 1))
  (Q (AV.int IntKind.i64 0) (H.put nx (some (AObj.row a0.cells.length a0.cells))) (nx + 1)))))
  (Q (AV.int IntKind.i64 1) (H.put nx (some (AObj.row a0.cells.length a0.cells))) (nx + 1))))
theorem zwref1_WrongValue_eq (a0 a1 : AV) (H : Heap) (nx : Nat) (Q : AV → Heap → Nat → Prop) : body Try.prog tab eqsT (lvOf zwref1_WrongValue_lv) Try.f29 (codeOf Try.f29) [a0, a1] H nx Q = zwref1_WrongValue_vc a0 a1 H nx Q := by kernel_rfl
theorem zwref1_WrongValue_calls (a0 a1 : AV) (H : Heap) (nx : Nat) (Q : AV → Heap → Nat → Prop) (h : zwref1_WrongValue_vc a0 a1 H nx Q) : ACalls Try.prog 29 [a0, a1] H nx Q :=
  acalls_body tabOk eqsOk mixed Try.func29 (by kernel_rfl) (by kernel_rfl) (by kernel_rfl) (by kernel_rfl) ((zwref1_WrongValue_eq a0 a1 H nx Q).symm ▸ h)

/-- wanderstaff/zwref6.Agent -/
def zwref6_Agent_lv : List (Nat × Nat × List Nat) := [(0, 25, [1, 2, 8, 9, 10, 11, 13, 14, 84, 85, 86, 149]), (2, 5, [1, 2, 48, 49, 50]), (2, 15, [1, 2, 84, 85, 86]), (2, 39, [1, 2, 84, 85, 86, 211, 212, 213]), (2, 47, [2, 228, 229, 230]), (3, 36, [1, 2, 9, 13, 84, 85, 86])]
def zwref6_Agent_k1 (Q : AV → Heap → Nat → Prop) (xs126 : List AV) (K125 : J3) (v137 : AV) (H138 : Heap) (nx139 : Nat) : Prop :=
  BI BinOp.neq v137 (AV.int IntKind.i64 0) fun v140 =>
  CND v140
  (Q v137 H138 nx139)
  (BI BinOp.add (nth xs126 7) (AV.int IntKind.i64 1) fun v141 =>
  K125 [nth xs126 0, nth xs126 1, nth xs126 2, nth xs126 3, nth xs126 4, nth xs126 5, nth xs126 6, v141] H138 nx139)
def zwref6_Agent_l1 (Q : AV → Heap → Nat → Prop) (K54 : J3) (K125 : J3) (xs126 : List AV) (H127 : Heap) (nx128 : Nat) : Prop :=
  BI BinOp.lss (nth xs126 7) (nth xs126 6) fun v129 =>
  CND v129
  (IA 3 (nth xs126 5) (nth xs126 7) fun v130 =>
  LD true 3 v130 H127 fun v131 =>
  ST 3 (AV.ptr nx128 0) v131 (H127.put nx128 (some (AObj.row 3 [AV.int IntKind.i64 0, AV.int IntKind.i64 0, AV.str []]))) fun H132 =>
  LD true 3 (AV.ptr nx128 0) H132 fun v133 =>
  FA 5 (nth xs126 1) fun v134 =>
  LD false 1 v134 H132 fun v135 =>
  LNL v135 fun v136 =>
  ACalls Try.prog 29 [v133, v136] H132 (nx128 + 1) (zwref6_Agent_k1 Q xs126 K125))
  (BI BinOp.add (nth xs126 4) (AV.int IntKind.i64 1) fun v142 =>
  K54 [nth xs126 0, nth xs126 1, nth xs126 2, nth xs126 3, v142] H127 nx128)
def zwref6_Agent_j1 (Q : AV → Heap → Nat → Prop) (j104 : J3) (xs143 : List AV) (H144 : Heap) (nx145 : Nat) : Prop :=
  CND (nth xs143 11)
  (BI BinOp.sub (nth xs143 6) (AV.int IntKind.i64 1) fun v147 =>
  FA 1 (nth xs143 3) fun v148 =>
  LD false 1 v148 H144 fun v149 =>
  BI BinOp.eql v149 (AV.int IntKind.i64 0) fun v150 =>
  CND v150
  (Q (AV.int IntKind.i64 10) H144 nx145)
  (FA 2 (nth xs143 4) fun v151 =>
  LD false 1 v151 H144 fun v152 =>
  FA 1 (nth xs143 3) fun v153 =>
  LD false 1 v153 H144 fun v154 =>
  BI BinOp.sub v154 (AV.int IntKind.i64 1) fun v155 =>
  IA 3 v152 v155 fun v156 =>
  LD true 3 v156 H144 fun v157 =>
  ST 3 (AV.ptr nx145 0) v157 (H144.put nx145 (some (AObj.row 3 [AV.int IntKind.i64 0, AV.int IntKind.i64 0, AV.int IntKind.i64 0]))) fun H158 =>
  FA 1 (nth xs143 3) fun v159 =>
  LD false 1 v159 H158 fun v160 =>
  BI BinOp.sub v160 (AV.int IntKind.i64 1) fun v161 =>
  IA 1 (nth xs143 5) v161 fun v162 =>
  LD false 1 v162 H158 fun v163 =>
  BI BinOp.geq v163 (AV.int IntKind.i64 0) fun v164 =>
  CND (nth xs143 7)
  (CND v164
  (LD false 1 (AV.ptr nx145 0) H158 fun v165 =>
  BI BinOp.eql v165 (AV.int IntKind.i64 13) fun v166 =>
  UO UnOp.not v166 fun v167 =>
  CND v167
  (Q (AV.int IntKind.i64 10) H158 (nx145 + 1))
  (j104 [nth xs143 0, nth xs143 1, nth xs143 3, v147, nth xs143 8, nth xs143 9, nth xs143 10] H158 (nx145 + 1)))
  (UO UnOp.not (AV.bool false) fun v168 =>
  CND v168
  (Q (AV.int IntKind.i64 10) H158 (nx145 + 1))
  (j104 [nth xs143 0, nth xs143 1, nth xs143 3, v147, nth xs143 8, nth xs143 9, nth xs143 10] H158 (nx145 + 1))))
  (CND v164
  (LDR false 1 (AV.ptr nx145 0) H158 fun v169 rd170 =>
  BI BinOp.eql v169 (AV.int IntKind.i64 17) fun v171 =>
  CND v171
  (LDR false 1 (AV.ptr nx145 1) H158 fun v172 rd173 =>
  FA 4 (nth xs143 1) fun v174 =>
  LDR false 1 v174 H158 fun v175 rd176 =>
  BI BinOp.add (nth xs143 2) (AV.int IntKind.i64 1) fun v177 =>
  IA 4 v175 v177 fun v178 =>
  FA 0 v178 fun v179 =>
  LDR false 1 v179 H158 fun v180 rd181 =>
  BI BinOp.eql v172 v180 fun v182 =>
  UO UnOp.not v182 fun v183 =>
  CND v183
  (Q (AV.int IntKind.i64 10) H158 (nx145 + 1))
  (j104 [nth xs143 0, nth xs143 1, nth xs143 3, v147, nth xs143 8, nth xs143 9, nth xs143 10] H158 (nx145 + 1)))
  (UO UnOp.not (AV.bool false) fun v184 =>
  CND v184
  (Q (AV.int IntKind.i64 10) H158 (nx145 + 1))
  (j104 [nth xs143 0, nth xs143 1, nth xs143 3, v147, nth xs143 8, nth xs143 9, nth xs143 10] H158 (nx145 + 1))))
  (UO UnOp.not (AV.bool false) fun v185 =>
  CND v185
  (Q (AV.int IntKind.i64 10) H158 (nx145 + 1))
  (j104 [nth xs143 0, nth xs143 1, nth xs143 3, v147, nth xs143 8, nth xs143 9, nth xs143 10] H158 (nx145 + 1))))))
  (j104 [nth xs143 0, nth xs143 1, nth xs143 3, nth xs143 6, nth xs143 8, nth xs143 9, nth xs143 10] H144 nx145)
def zwref6_Agent_b1 (v100 : AV) (xs55 : List AV) (nx57 : Nat) (v91 : AV) (v95 : AV) (H89 : Heap) (nx90 : Nat) (j146 : J3) : Prop :=
  UO UnOp.not v100 fun v186 =>
  CND v186
  (j146 [nth xs55 0, nth xs55 1, nth xs55 4, AV.ptr nx57 0, AV.ptr (nx57 + 1) 0, v91, v95, v100, nth xs55 2, nth xs55 3, nth xs55 4, AV.bool true] H89 nx90)
  (j146 [nth xs55 0, nth xs55 1, nth xs55 4, AV.ptr nx57 0, AV.ptr (nx57 + 1) 0, v91, v95, v100, nth xs55 2, nth xs55 3, nth xs55 4, nth xs55 0] H89 nx90)
def zwref6_Agent_j2 (Q : AV → Heap → Nat → Prop) (K54 : J3) (xs101 : List AV) (H102 : Heap) (nx103 : Nat) : Prop :=
  BI BinOp.lss (nth xs101 3) (AV.int IntKind.i64 0) fun v105 =>
  CND v105
  (Q (AV.int IntKind.i64 10) H102 nx103)
  (FA 3 (nth xs101 2) fun v106 =>
  LD false 1 v106 H102 fun v107 =>
  LNL v107 fun v108 =>
  BI BinOp.neq (nth xs101 3) v108 fun v109 =>
  CND v109
  (Q (AV.int IntKind.i64 10) H102 nx103)
  (FA 2 (nth xs101 2) fun v110 =>
  LDR false 1 v110 (H102.put nx103 (some (AObj.row 3 []))) fun v111 rd112 =>
  APPEND 3 32 (AV.slc nx103 0 0) v111 (H102.put nx103 (some (AObj.row 3 []))) (nx103 + 1) fun v113 rd114 fr115 D116 =>
  FA 3 (nth xs101 2) fun v117 =>
  LDR false 1 v117 ((H102.put nx103 (some (AObj.row 3 []))).apply D116) fun v118 rd119 =>
  APPEND 3 32 v113 v118 ((H102.put nx103 (some (AObj.row 3 []))).apply D116) ((nx103 + 1) + fr115.length) fun v120 rd121 fr122 D123 =>
  LNL v120 fun v124 =>
  nx103 ∉ [] ∧
  nx103 ∉ [] ∧
  nx103 ∉ rd112 ∧
  nx103 ∉ [] ∧
  nx103 ∉ [] ∧
  nx103 ∉ [] ∧
  disjK (domD D116) [] (
  disjK (domD D116) [] (
  nx103 ∉ rd119 ∧
  nx103 ∉ [] ∧
  disjK (domD D116) rd119 (
  disjK (domD D116) [] (
  nx103 ∉ [] ∧
  nx103 ∉ [] ∧
  disjK (domD D116) [] (
  disjK (domD D116) [] (
  disjK (domD D123) [] (
  disjK (domD D123) [] (
  LP (zwref6_Agent_l1 Q K54) [nth xs101 0, nth xs101 1, nth xs101 4, nth xs101 5, nth xs101 6, v120, v124, AV.int IntKind.i64 0] (((H102.put nx103 (some (AObj.row 3 []))).apply D116).apply D123) (((nx103 + 1) + fr115.length) + fr122.length)))))))))))
def zwref6_Agent_b2 (Q : AV → Heap → Nat → Prop) (v100 : AV) (xs55 : List AV) (nx57 : Nat) (v91 : AV) (v95 : AV) (H89 : Heap) (nx90 : Nat) (j104 : J3) : Prop :=
  JN (zwref6_Agent_j1 Q j104) (zwref6_Agent_b1 v100 xs55 nx57 v91 v95 H89 nx90)
def zwref6_Agent_k2 (nx57 : Nat) (xs55 : List AV) (Q : AV → Heap → Nat → Prop) (K54 : J3) (v88 : AV) (H89 : Heap) (nx90 : Nat) : Prop :=
  EX v88 0 fun v91 =>
  EX v88 1 fun v92 =>
  LD false 1 (AV.ptr nx57 1) H89 fun v93 =>
  IA 1 v91 v93 fun v94 =>
  LD false 1 v94 H89 fun v95 =>
  FA 4 (nth xs55 1) fun v96 =>
  LD false 1 v96 H89 fun v97 =>
  LNL v97 fun v98 =>
  BI BinOp.sub v98 (AV.int IntKind.i64 1) fun v99 =>
  BI BinOp.eql (nth xs55 4) v99 fun v100 =>
  JN (zwref6_Agent_j2 Q K54) (zwref6_Agent_b2 Q v100 xs55 nx57 v91 v95 H89 nx90)
def zwref6_Agent_k3 (Q : AV → Heap → Nat → Prop) (xs191 : List AV) (K190 : J3) (v210 : AV) (H211 : Heap) (nx212 : Nat) : Prop :=
  BI BinOp.neq v210 (AV.int IntKind.i64 0) fun v213 =>
  CND v213
  (Q v210 H211 nx212)
  (BI BinOp.add (nth xs191 3) (AV.int IntKind.i64 1) fun v214 =>
  K190 [nth xs191 0, nth xs191 1, nth xs191 2, v214] H211 nx212)
def zwref6_Agent_k4 (Q : AV → Heap → Nat → Prop) (nx193 : Nat) (xs191 : List AV) (K190 : J3) (v202 : AV) (H203 : Heap) (nx204 : Nat) : Prop :=
  BI BinOp.neq v202 (AV.int IntKind.i64 0) fun v205 =>
  CND v205
  (Q v202 H203 nx204)
  (LD true 3 (AV.ptr nx193 3) H203 fun v206 =>
  FA 5 (nth xs191 0) fun v207 =>
  LD false 1 v207 H203 fun v208 =>
  LNL v208 fun v209 =>
  ACalls Try.prog 29 [v206, v209] H203 nx204 (zwref6_Agent_k3 Q xs191 K190))
def zwref6_Agent_l2 (Q : AV → Heap → Nat → Prop) (K190 : J3) (xs191 : List AV) (H192 : Heap) (nx193 : Nat) : Prop :=
  BI BinOp.lss (nth xs191 3) (nth xs191 2) fun v194 =>
  CND v194
  (IA 6 (nth xs191 1) (nth xs191 3) fun v195 =>
  LD true 6 v195 H192 fun v196 =>
  ST 6 (AV.ptr nx193 0) v196 (H192.put nx193 (some (AObj.row 6 [AV.int IntKind.i64 0, AV.int IntKind.i64 0, AV.str [], AV.int IntKind.i64 0, AV.int IntKind.i64 0, AV.str []]))) fun H197 =>
  LD true 3 (AV.ptr nx193 0) H197 fun v198 =>
  FA 5 (nth xs191 0) fun v199 =>
  LD false 1 v199 H197 fun v200 =>
  LNL v200 fun v201 =>
  ACalls Try.prog 29 [v198, v201] H197 (nx193 + 1) (zwref6_Agent_k4 Q nx193 xs191 K190))
  (Q (AV.int IntKind.i64 0) H192 nx193)
def zwref6_Agent_l3 (Q : AV → Heap → Nat → Prop) (K54 : J3) (xs55 : List AV) (H56 : Heap) (nx57 : Nat) : Prop :=
  BI BinOp.lss (nth xs55 4) (nth xs55 3) fun v58 =>
  CND v58
  (IA 4 (nth xs55 2) (nth xs55 4) fun v59 =>
  LD true 4 v59 H56 fun v60 =>
  ST 4 (AV.ptr nx57 0) v60 (H56.put nx57 (some (AObj.row 4 [AV.int IntKind.i64 0, AV.int IntKind.i64 0, AV.nils, AV.nils]))) fun H61 =>
  LD false 1 (AV.ptr nx57 0) H61 fun v62 =>
  BI BinOp.lss v62 (AV.int IntKind.i64 0) fun v63 =>
  CND v63
  (Q (AV.int IntKind.i64 3) H61 (nx57 + 1))
  (LD false 1 (AV.ptr nx57 0) H61 fun v64 =>
  FA 2 (nth xs55 1) fun v65 =>
  FA 0 v65 fun v66 =>
  LD false 1 v66 H61 fun v67 =>
  LNL v67 fun v68 =>
  BI BinOp.geq v64 v68 fun v69 =>
  CND v69
  (Q (AV.int IntKind.i64 3) H61 (nx57 + 1))
  (FA 2 (nth xs55 1) fun v70 =>
  FA 0 v70 fun v71 =>
  LD false 1 v71 H61 fun v72 =>
  LD false 1 (AV.ptr nx57 0) H61 fun v73 =>
  IA 3 v72 v73 fun v74 =>
  LD true 3 v74 H61 fun v75 =>
  ST 3 (AV.ptr (nx57 + 1) 0) v75 (H61.put ((nx57 + 1)) (some (AObj.row 3 [AV.int IntKind.i64 0, AV.int IntKind.i64 0, AV.nils]))) fun H76 =>
  LD false 1 (AV.ptr nx57 1) H76 fun v77 =>
  BI BinOp.lss v77 (AV.int IntKind.i64 0) fun v78 =>
  CND v78
  (Q (AV.int IntKind.i64 3) H76 (nx57 + 2))
  (LD false 1 (AV.ptr nx57 1) H76 fun v79 =>
  LD false 1 (AV.ptr (nx57 + 1) 2) H76 fun v80 =>
  LNL v80 fun v81 =>
  BI BinOp.geq v79 v81 fun v82 =>
  CND v82
  (Q (AV.int IntKind.i64 3) H76 (nx57 + 2))
  (LD false 1 (AV.ptr nx57 2) H76 fun v83 =>
  LNL v83 fun v84 =>
  LD false 1 (AV.ptr (nx57 + 1) 1) H76 fun v85 =>
  BI BinOp.neq v84 v85 fun v86 =>
  CND v86
  (Q (AV.int IntKind.i64 3) H76 (nx57 + 2))
  (LD true 3 (AV.ptr (nx57 + 1) 0) H76 fun v87 =>
  ACalls Try.prog 15 [v87] H76 (nx57 + 2) (zwref6_Agent_k2 nx57 xs55 Q K54)))))))
  (FA 5 (nth xs55 1) fun v187 =>
  LD false 1 v187 H56 fun v188 =>
  LNL v188 fun v189 =>
  LP (zwref6_Agent_l2 Q) [nth xs55 1, v188, v189, AV.int IntKind.i64 0] H56 nx57)
def zwref6_Agent_l4 (Q : AV → Heap → Nat → Prop) (K18 : J3) (xs19 : List AV) (H20 : Heap) (nx21 : Nat) : Prop :=
  BI BinOp.lss (nth xs19 4) (nth xs19 3) fun v22 =>
  CND v22
  (IA 2 (nth xs19 2) (nth xs19 4) fun v23 =>
  LD true 2 v23 H20 fun v24 =>
  ST 2 (AV.ptr nx21 0) v24 (H20.put nx21 (some (AObj.row 2 [AV.int IntKind.i64 0, AV.int IntKind.i64 0]))) fun H25 =>
  AA 1 2 (AV.ptr nx21 0) (AV.int IntKind.i64 0) fun v26 =>
  LD false 1 v26 H25 fun v27 =>
  BI BinOp.lss v27 (AV.int IntKind.i64 0) fun v28 =>
  CND v28
  (Q (AV.int IntKind.i64 3) H25 (nx21 + 1))
  (AA 1 2 (AV.ptr nx21 0) (AV.int IntKind.i64 0) fun v29 =>
  LD false 1 v29 H25 fun v30 =>
  AA 1 2 (AV.ptr nx21 0) (AV.int IntKind.i64 1) fun v31 =>
  LD false 1 v31 H25 fun v32 =>
  BI BinOp.gtr v30 v32 fun v33 =>
  CND v33
  (Q (AV.int IntKind.i64 3) H25 (nx21 + 1))
  (BI BinOp.add (nth xs19 4) (AV.int IntKind.i64 1) fun v34 =>
  K18 [nth xs19 0, nth xs19 1, nth xs19 2, nth xs19 3, v34] H25 (nx21 + 1))))
  (FA 4 (nth xs19 1) fun v35 =>
  LD false 1 v35 H20 fun v36 =>
  LNL v36 fun v37 =>
  BI BinOp.eql v37 (AV.int IntKind.i64 0) fun v38 =>
  CND v38
  (Q (AV.int IntKind.i64 5) H20 nx21)
  (FA 4 (nth xs19 1) fun v39 =>
  LD false 1 v39 H20 fun v40 =>
  LNL v40 fun v41 =>
  BI BinOp.gtr v41 (AV.int IntKind.i64 12) fun v42 =>
  CND v42
  (Q (AV.int IntKind.i64 5) H20 nx21)
  (FA 5 (nth xs19 1) fun v43 =>
  LD false 1 v43 H20 fun v44 =>
  LNL v44 fun v45 =>
  FA 6 (nth xs19 1) fun v46 =>
  FA 1 v46 fun v47 =>
  LD false 1 v47 H20 fun v48 =>
  BI BinOp.add v45 v48 fun v49 =>
  BI BinOp.gtr v49 (AV.int IntKind.i64 60) fun v50 =>
  CND v50
  (Q (AV.int IntKind.i64 4) H20 nx21)
  (FA 4 (nth xs19 1) fun v51 =>
  LD false 1 v51 H20 fun v52 =>
  LNL v52 fun v53 =>
  LP (zwref6_Agent_l3 Q) [nth xs19 0, nth xs19 1, v52, v53, AV.int IntKind.i64 0] H20 nx21))))
def zwref6_Agent_k5 (Q : AV → Heap → Nat → Prop) (nx : Nat) (a1 : AV) (v2 : AV) (H3 : Heap) (nx4 : Nat) : Prop :=
  BI BinOp.neq v2 (AV.int IntKind.i64 0) fun v5 =>
  CND v5
  (Q v2 H3 nx4)
  (LD false 1 (AV.ptr nx 0) H3 fun v6 =>
  BD (fun i => some (i * 1, 1)) [AV.int IntKind.i64 0, AV.int IntKind.i64 0] [(0, v6), (1, AV.int IntKind.i64 1073741824)] fun v7 =>
  LD false 1 (AV.ptr nx 1) H3 fun v8 =>
  BD (fun i => some (i * 1, 1)) [AV.int IntKind.i64 0, AV.int IntKind.i64 0] [(0, v8), (1, AV.int IntKind.i64 1073741824)] fun v9 =>
  LD false 1 (AV.ptr nx 6) H3 fun v10 =>
  BD (fun i => some (i * 1, 1)) [AV.int IntKind.i64 0, AV.int IntKind.i64 0] [(0, v10), (1, AV.int IntKind.i64 2000)] fun v11 =>
  LD false 1 (AV.ptr nx 7) H3 fun v12 =>
  BD (fun i => some (i * 1, 1)) [AV.int IntKind.i64 0, AV.int IntKind.i64 0] [(0, v12), (1, AV.int IntKind.i64 60)] fun v13 =>
  LD false 1 (AV.ptr nx 8) H3 fun v14 =>
  BD (fun i => some (i * 1, 1)) [AV.int IntKind.i64 0, AV.int IntKind.i64 0] [(0, v14), (1, AV.int IntKind.i64 12)] fun v15 =>
  BSL 5 2 [AV.int IntKind.i64 0, AV.int IntKind.i64 0] [(0, v7), (1, v9), (2, v11), (3, v13), (4, v15)] fun cells16 =>
  LNL (AV.slc nx4 0 5) fun v17 =>
  LP (zwref6_Agent_l4 Q) [a1, AV.ptr nx 0, AV.slc nx4 0 5, v17, AV.int IntKind.i64 0] (H3.put nx4 (some (AObj.row 2 cells16))) (nx4 + 1))
def zwref6_Agent_vc (a0 a1 : AV) (H : Heap) (nx : Nat) (Q : AV → Heap → Nat → Prop) : Prop :=
  a0.sure = true ∧
  LD true 2 (AV.ptr nx 2) (H.put nx (some (AObj.row a0.cells.length a0.cells))) fun v1 =>
  ACalls Try.prog 10 [v1] (H.put nx (some (AObj.row a0.cells.length a0.cells))) (nx + 1) (zwref6_Agent_k5 Q nx a1)
theorem zwref6_Agent_eq (a0 a1 : AV) (H : Heap) (nx : Nat) (Q : AV → Heap → Nat → Prop) : body Try.prog tab eqsT (lvOf zwref6_Agent_lv) Try.f13 (codeOf Try.f13) [a0, a1] H nx Q = zwref6_Agent_vc a0 a1 H nx Q := by kernel_rfl
theorem zwref6_Agent_calls (a0 a1 : AV) (H : Heap) (nx : Nat) (Q : AV → Heap → Nat → Prop) (h : zwref6_Agent_vc a0 a1 H nx Q) : ACalls Try.prog 13 [a0, a1] H nx Q :=
  acalls_body tabOk eqsOk mixed Try.func13 (by kernel_rfl) (by kernel_rfl) (by kernel_rfl) (by kernel_rfl) ((zwref6_Agent_eq a0 a1 H nx Q).symm ▸ h)

/-- wanderstaff/zwlaw6.VerifyTells -/
def zwlaw6_VerifyTells_lv : List (Nat × Nat × List Nat) := [(2, 5, [7, 31, 32, 33]), (2, 13, [7, 10, 12, 31, 32, 33, 66, 67])]
def zwlaw6_VerifyTells_l1 (Q : AV → Heap → Nat → Prop) (K27 : J3) (K58 : J3) (xs59 : List AV) (H60 : Heap) (nx61 : Nat) : Prop :=
  BI BinOp.lss (nth xs59 7) (nth xs59 6) fun v62 =>
  CND v62
  (IA 1 (nth xs59 1) (nth xs59 7) fun v63 =>
  LDR false 1 v63 H60 fun v64 rd65 =>
  IA 1 (nth xs59 2) (nth xs59 7) fun v66 =>
  LDR false 1 v66 H60 fun v67 rd68 =>
  BI BinOp.neq v64 v67 fun v69 =>
  CND v69
  (Q (AV.bool false) H60 nx61)
  (BI BinOp.add (nth xs59 7) (AV.int IntKind.i64 1) fun v70 =>
  K58 [nth xs59 0, nth xs59 1, nth xs59 2, nth xs59 3, nth xs59 4, nth xs59 5, nth xs59 6, v70] H60 nx61))
  (BI BinOp.add (nth xs59 5) (AV.int IntKind.i64 1) fun v71 =>
  K27 [nth xs59 0, nth xs59 3, nth xs59 4, v71] H60 nx61)
def zwlaw6_VerifyTells_k1 (v46 : AV) (Q : AV → Heap → Nat → Prop) (v45 : AV) (K27 : J3) (xs28 : List AV) (v48 : AV) (H49 : Heap) (nx50 : Nat) : Prop :=
  EX v48 0 fun v51 =>
  EX v48 1 fun v52 =>
  BI BinOp.neq v46 v52 fun v53 =>
  CND v53
  (Q (AV.bool false) H49 nx50)
  (LNL v45 fun v54 =>
  LNL v51 fun v55 =>
  BI BinOp.neq v54 v55 fun v56 =>
  CND v56
  (Q (AV.bool false) H49 nx50)
  (LNL v45 fun v57 =>
  LP (zwlaw6_VerifyTells_l1 Q K27) [nth xs28 0, v45, v51, nth xs28 1, nth xs28 2, nth xs28 3, v57, AV.int IntKind.i64 0] H49 nx50))
def zwlaw6_VerifyTells_k2 (nx30 : Nat) (Q : AV → Heap → Nat → Prop) (K27 : J3) (xs28 : List AV) (v42 : AV) (H43 : Heap) (nx44 : Nat) : Prop :=
  EX v42 0 fun v45 =>
  EX v42 1 fun v46 =>
  LD true 3 (AV.ptr nx30 0) H43 fun v47 =>
  ACalls Try.prog 15 [v47] H43 nx44 (zwlaw6_VerifyTells_k1 v46 Q v45 K27 xs28)
def zwlaw6_VerifyTells_l2 (Q : AV → Heap → Nat → Prop) (K27 : J3) (xs28 : List AV) (H29 : Heap) (nx30 : Nat) : Prop :=
  BI BinOp.lss (nth xs28 3) (nth xs28 2) fun v31 =>
  CND v31
  (IA 3 (nth xs28 1) (nth xs28 3) fun v32 =>
  LD true 3 v32 H29 fun v33 =>
  ST 3 (AV.ptr nx30 0) v33 (H29.put nx30 (some (AObj.row 3 [AV.int IntKind.i64 0, AV.int IntKind.i64 0, AV.nils]))) fun H34 =>
  BI BinOp.neq (nth xs28 0) (AV.int IntKind.i64 0) fun v35 =>
  CND v35
  (BI BinOp.add (nth xs28 3) (AV.int IntKind.i64 1) fun v36 =>
  K27 [nth xs28 0, nth xs28 1, nth xs28 2, v36] H34 (nx30 + 1))
  (LD false 1 (AV.ptr nx30 2) H34 fun v37 =>
  LNL v37 fun v38 =>
  BI BinOp.eql v38 (AV.int IntKind.i64 0) fun v39 =>
  CND v39
  (BI BinOp.add (nth xs28 3) (AV.int IntKind.i64 1) fun v40 =>
  K27 [nth xs28 0, nth xs28 1, nth xs28 2, v40] H34 (nx30 + 1))
  (LD true 3 (AV.ptr nx30 0) H34 fun v41 =>
  ACalls Try.prog 14 [v41] H34 (nx30 + 1) (zwlaw6_VerifyTells_k2 nx30 Q K27 xs28))))
  (Q (AV.bool true) H29 nx30)
def zwlaw6_VerifyTells_k3 (v14 : AV) (D10 : Delta) (D17 : Delta) (rd19 : List Nat) (Q : AV → Heap → Nat → Prop) (H3 : Heap) (nx4 : Nat) (fr9 : List Nat) (fr16 : List Nat) (nx : Nat) (v2 : AV) (v20 : AV) (rd21 : List Nat) (fr22 : List Nat) (D23 : Delta) : Prop :=
  BI BinOp.neq v14 v20 fun v24 =>
  disjK (domD D10) [] (
  disjK (domD D10) [] (
  disjK (domD D17) rd19 (
  disjK (domD D17) [] (
  disjK (domD D17) [] (
  disjK (domD D17) [] (
  CND v24
  (Q (AV.bool false) (((H3.apply D10).apply D17).apply D23) (((nx4 + fr9.length) + fr16.length) + fr22.length))
  (LD false 1 (AV.ptr nx 0) (((H3.apply D10).apply D17).apply D23) fun v25 =>
  LNL v25 fun v26 =>
  LP (zwlaw6_VerifyTells_l2 Q) [v2, v25, v26, AV.int IntKind.i64 0] (((H3.apply D10).apply D17).apply D23) (((nx4 + fr9.length) + fr16.length) + fr22.length))))))))
def zwlaw6_VerifyTells_k4 (nx : Nat) (H3 : Heap) (D10 : Delta) (a2 : AV) (nx4 : Nat) (fr9 : List Nat) (Q : AV → Heap → Nat → Prop) (v2 : AV) (v14 : AV) (rd15 : List Nat) (fr16 : List Nat) (D17 : Delta) : Prop :=
  LDR true 9 (AV.ptr (nx + 1) 0) ((H3.apply D10).apply D17) fun v18 rd19 =>
  CALLD Try.prog (AV.clo 13 []) [v18, a2] ((H3.apply D10).apply D17) ((nx4 + fr9.length) + fr16.length) (zwlaw6_VerifyTells_k3 v14 D10 D17 rd19 Q H3 nx4 fr9 fr16 nx v2)
def zwlaw6_VerifyTells_k5 (v2 : AV) (Q : AV → Heap → Nat → Prop) (H3 : Heap) (nx4 : Nat) (nx : Nat) (a2 : AV) (v7 : AV) (rd8 : List Nat) (fr9 : List Nat) (D10 : Delta) : Prop :=
  BI BinOp.neq v7 v2 fun v11 =>
  CND v11
  (disjK (domD D10) [] (
  disjK (domD D10) [] (
  Q (AV.bool false) (H3.apply D10) (nx4 + fr9.length))))
  (LDR true 9 (AV.ptr (nx + 1) 0) (H3.apply D10) fun v12 rd13 =>
  CALLD Try.prog (AV.clo 12 []) [v12, a2] (H3.apply D10) (nx4 + fr9.length) (zwlaw6_VerifyTells_k4 nx H3 D10 a2 nx4 fr9 Q v2))
def zwlaw6_VerifyTells_k6 (nx : Nat) (Q : AV → Heap → Nat → Prop) (a2 : AV) (v2 : AV) (H3 : Heap) (nx4 : Nat) : Prop :=
  LDR true 2 (AV.ptr nx 0) H3 fun v5 rd6 =>
  CALLD Try.prog (AV.clo 11 []) [v5] H3 nx4 (zwlaw6_VerifyTells_k5 v2 Q H3 nx4 nx a2)
def zwlaw6_VerifyTells_vc (a0 a1 a2 : AV) (H : Heap) (nx : Nat) (Q : AV → Heap → Nat → Prop) : Prop :=
  a0.sure = true ∧
  a1.sure = true ∧
  LD true 2 (AV.ptr nx 0) ((H.put nx (some (AObj.row a0.cells.length a0.cells))).put ((nx + 1)) (some (AObj.row a1.cells.length a1.cells))) fun v1 =>
  ACalls Try.prog 10 [v1] ((H.put nx (some (AObj.row a0.cells.length a0.cells))).put ((nx + 1)) (some (AObj.row a1.cells.length a1.cells))) (nx + 2) (zwlaw6_VerifyTells_k6 nx Q a2)
theorem zwlaw6_VerifyTells_eq (a0 a1 a2 : AV) (H : Heap) (nx : Nat) (Q : AV → Heap → Nat → Prop) : body Try.prog tab eqsT (lvOf zwlaw6_VerifyTells_lv) Try.f4 (codeOf Try.f4) [a0, a1, a2] H nx Q = zwlaw6_VerifyTells_vc a0 a1 a2 H nx Q := by kernel_rfl
theorem zwlaw6_VerifyTells_calls (a0 a1 a2 : AV) (H : Heap) (nx : Nat) (Q : AV → Heap → Nat → Prop) (h : zwlaw6_VerifyTells_vc a0 a1 a2 H nx Q) : ACalls Try.prog 4 [a0, a1, a2] H nx Q :=
  acalls_body tabOk eqsOk mixed Try.func4 (by kernel_rfl) (by kernel_rfl) (by kernel_rfl) (by kernel_rfl) ((zwlaw6_VerifyTells_eq a0 a1 a2 H nx Q).symm ▸ h)

end Go.Proofs.Ytckhbfbbpdjmdaa
