/- What is to be shown of each function, written out. -/
import Derived.Test.YtdmibdjokofclaaDoorG5
set_option linter.unusedSimpArgs false
set_option linter.unusedVariables false
set_option maxRecDepth 8000
namespace Go.Proofs.YtdmibdjokofclaaDoor
open Go Go.RowKit
def zmo (a0 a1:AV) (H:Heap) (nx:Nat) (Q:QT):Prop :=
 LD true 9 a1 ((H.put nx (some (.row 9 [.int .i64 0,.int .i64 0,.nils,.nils,.nils,.nils,.int .i64 0,.int .i64 0,.int .i64 0]))).put ((nx+1)) (some (.row 3 [.int .i64 0,.str [],.int .i64 0]))) fun v1 =>
 BD (zaa tab [(3,0),(9,1),(33,2)]) [.int .i64 0,.str [],.int .i64 0] [(0,.int .i64 5),(2,a0)] fun v2 =>
 ST 9 (.ptr nx 0) v1 ((H.put nx (some (.row 9 [.int .i64 0,.int .i64 0,.nils,.nils,.nils,.nils,.int .i64 0,.int .i64 0,.int .i64 0]))).put ((nx+1)) (some (.row 3 [.int .i64 0,.str [],.int .i64 0]))) fun H3 =>
 ST 3 (.ptr (nx+1) 0) v2 H3 fun H4 =>
 LD true 9 (.ptr nx 0) H4 fun v5 =>
 LD true 3 (.ptr (nx+1) 0) H4 fun v6 =>
 Q (.tup [v5,v6]) H4 (nx+2)
theorem ztf (a0 a1:AV) (H:Heap) (nx:Nat) (Q:QT):zmo a0 a1 H nx Q→za Tryd.prog 41 [a0,a1] H nx Q :=
  zd (lv:=lvOf []) (c:=zn Tryd.f41) zw zx mixed Tryd.func41 (by kernel_rfl) (by kernel_rfl) (by kernel_rfl) (by kernel_rfl) (by kernel_rfl)
def zmn (nx:Nat) (Q:QT) (v12:AV) (H13:Heap) (nx14:Nat):Prop :=
 ST 9 (.ptr (nx+1) 0) v12 H13 fun H15 =>
 ST 3 (.ptr (nx+2) 0) (.agg [.int .i64 0,.str [],.int .i64 0]) H15 fun H16 =>
 LD true 9 (.ptr (nx+1) 0) H16 fun v17 =>
 LD true 3 (.ptr (nx+2) 0) H16 fun v18 =>
 Q (.tup [v17,v18]) H16 nx14
def zmm (a0 a1 a2:AV) (H:Heap) (nx:Nat) (Q:QT):Prop :=
 a0.sure=true ∧
 FA 3 a1 fun v1 =>
 LD false 1 v1 (((H.put nx (some (.row a0.cells.length a0.cells))).put ((nx+1)) (some (.row 9 [.int .i64 0,.int .i64 0,.nils,.nils,.nils,.nils,.int .i64 0,.int .i64 0,.int .i64 0]))).put ((nx+2)) (some (.row 3 [.int .i64 0,.str [],.int .i64 0]))) fun v2 =>
 LD true 3 (.ptr nx 0) (((H.put nx (some (.row a0.cells.length a0.cells))).put ((nx+1)) (some (.row 9 [.int .i64 0,.int .i64 0,.nils,.nils,.nils,.nils,.int .i64 0,.int .i64 0,.int .i64 0]))).put ((nx+2)) (some (.row 3 [.int .i64 0,.str [],.int .i64 0]))) fun v3 =>
 BSL 1 3 [.int .i64 0,.int .i64 0,.str []] [(0,v3)] fun cells4 =>
 APP 3 32 v2 (.slc (nx+3) 0 1) ((((H.put nx (some (.row a0.cells.length a0.cells))).put ((nx+1)) (some (.row 9 [.int .i64 0,.int .i64 0,.nils,.nils,.nils,.nils,.int .i64 0,.int .i64 0,.int .i64 0]))).put ((nx+2)) (some (.row 3 [.int .i64 0,.str [],.int .i64 0]))).put ((nx+3)) (some (.row 3 cells4))) (nx+4) fun v5 H6 nx7 =>
 FA 3 a1 fun v8 =>
 ST 1 v8 v5 H6 fun H9 =>
 LD true 9 a2 H9 fun v10 =>
 LD true 4 a1 H9 fun v11 =>
 za Tryd.prog 42 [v10,v11] H9 nx7 (zmn nx Q)
theorem zte (a0 a1 a2:AV) (H:Heap) (nx:Nat) (Q:QT):zmm a0 a1 a2 H nx Q→za Tryd.prog 43 [a0,a1,a2] H nx Q :=
  zd (lv:=lvOf []) (c:=zn Tryd.f43) zw zx mixed Tryd.func43 (by kernel_rfl) (by kernel_rfl) (by kernel_rfl) (by kernel_rfl) (by kernel_rfl)
def zhx (a0:AV) (H:Heap) (nx:Nat) (Q:QT):Prop :=
 BL .eql a0 .nils fun v1 =>
 CNDC v1
 (Q .nils H nx)
 (APP 3 24 (.slc nx 0 0) a0 (H.put nx (some (.row 3 []))) (nx+1) fun v2 H3 nx4 =>
 Q v2 H3 nx4)
theorem znd (a0:AV) (H:Heap) (nx:Nat) (Q:QT):zhx a0 H nx Q→za Tryd.prog 49 [a0] H nx Q :=
  zd (lv:=lvOf []) (c:=zn Tryd.f49) zw zx mixed Tryd.func49 (by kernel_rfl) (by kernel_rfl) (by kernel_rfl) (by kernel_rfl) (by kernel_rfl)
def zeb (a0:AV) (H:Heap) (nx:Nat) (Q:QT):Prop :=
 BL .eql a0 .nils fun v1 =>
 CNDC v1
 (Q .nils H nx)
 (APP 1 16 (.slc nx 0 0) a0 (H.put nx (some (.row 1 []))) (nx+1) fun v2 H3 nx4 =>
 Q v2 H3 nx4)
theorem zic (a0:AV) (H:Heap) (nx:Nat) (Q:QT):zeb a0 H nx Q→za Tryd.prog 50 [a0] H nx Q :=
  zd (lv:=lvOf []) (c:=zn Tryd.f50) zw zx mixed Tryd.func50 (by kernel_rfl) (by kernel_rfl) (by kernel_rfl) (by kernel_rfl) (by kernel_rfl)
def zjb (a0:AV) (H:Heap) (nx:Nat) (Q:QT):Prop :=
 BL .eql a0 .nils fun v1 =>
 CNDC v1
 (Q .nils H nx)
 (APP 6 64 (.slc nx 0 0) a0 (H.put nx (some (.row 6 []))) (nx+1) fun v2 H3 nx4 =>
 Q v2 H3 nx4)
theorem znw (a0:AV) (H:Heap) (nx:Nat) (Q:QT):zjb a0 H nx Q→za Tryd.prog 52 [a0] H nx Q :=
  zd (lv:=lvOf []) (c:=zn Tryd.f52) zw zx mixed Tryd.func52 (by kernel_rfl) (by kernel_rfl) (by kernel_rfl) (by kernel_rfl) (by kernel_rfl)
def zacd (nx6:Nat) (xs4:List AV) (K3:J3) (v12:AV) (H13:Heap) (nx14:Nat):Prop :=
 ST 1 (.ptr nx6 2) v12 H13 fun H15 =>
 LD true 3 (.ptr nx6 0) H15 fun v16 =>
 BSL 1 3 [.int .i64 0,.int .i64 0,.nils] [(0,v16)] fun cells17 =>
 APP 3 40 (nth xs4 2) (.slc nx14 0 1) (H15.put nx14 (some (.row 3 cells17))) (nx14+1) fun v18 H19 nx20 =>
 BI .add (nth xs4 5) (.int .i64 1) fun v21 =>
 K3 [nth xs4 0,nth xs4 1,v18,nth xs4 3,nth xs4 4,v21] H19 nx20
def zko (nx37:Nat) (v44:AV) (H41:Heap) (D47:zq) (rd49:List Nat) (xs35:List AV) (fr46:List Nat) (K34:J3) (v50:AV) (_:List Nat) (fr52:List Nat) (D53:zq):Prop :=
 zac 1 (.ptr nx37 2) v44 ((H41.apply D47).apply D53) fun _ _ fr56 D57 =>
 zac 1 (.ptr nx37 3) v50 (((H41.apply D47).apply D53).apply D57) fun _ _ fr60 D61 =>
 zb (domD D47) [] (
 zb (domD D47) [] (
 zb (domD D47) rd49 (
 zb (domD D47) [] (
 zb (domD D53) [] (
 zb (domD D53) [] (
 LD true 4 (.ptr nx37 0) ((((H41.apply D47).apply D53).apply D57).apply D61) fun v62 =>
 BSL 1 4 [.int .i64 0,.int .i64 0,.nils,.nils] [(0,v62)] fun cells63 =>
 APP 4 64 (nth xs35 2) (.slc (((((nx37+1)+fr46.length)+fr52.length)+fr56.length)+fr60.length) 0 1) (((((H41.apply D47).apply D53).apply D57).apply D61).put ((((((nx37+1)+fr46.length)+fr52.length)+fr56.length)+fr60.length)) (some (.row 4 cells63))) ((((((nx37+1)+fr46.length)+fr52.length)+fr56.length)+fr60.length)+1) fun v64 H65 nx66 =>
 BI .add (nth xs35 5) (.int .i64 1) fun v67 =>
 K34 [nth xs35 0,nth xs35 1,v64,nth xs35 3,nth xs35 4,v67] H65 nx66))))))
def zue (nx37:Nat) (H41:Heap) (xs35:List AV) (K34:J3) (v44:AV) (_:List Nat) (fr46:List Nat) (D47:zq):Prop :=
 LDR false 1 (.ptr nx37 3) (H41.apply D47) fun v48 rd49 =>
 zo Tryd.prog (.clo 51 []) [v48] (H41.apply D47) ((nx37+1)+fr46.length) (zko nx37 v44 H41 D47 rd49 xs35 fr46 K34)
def zacc (xs35:List AV) (Q:QT) (v70:AV) (H71:Heap) (nx72:Nat):Prop :=
 FA 4 (nth xs35 0) fun v73 =>
 ST 1 v73 (nth xs35 2) H71 fun H74 =>
 FA 5 (nth xs35 0) fun v75 =>
 ST 1 v75 v70 H74 fun H76 =>
 LD true 9 (nth xs35 0) H76 fun v77 =>
 ST 9 (nth xs35 1) v77 H76 fun H78 =>
 LD true 9 (nth xs35 1) H78 fun v79 =>
 Q v79 H78 nx72
def zpa (Q:QT) (K34:J3) (xs35:List AV) (H36:Heap) (nx37:Nat):Prop :=
 BI .lss (nth xs35 5) (nth xs35 4) fun v38 =>
 CNDC v38
 (IA 4 (nth xs35 3) (nth xs35 5) fun v39 =>
 LD true 4 v39 H36 fun v40 =>
 ST 4 (.ptr nx37 0) v40 (H36.put nx37 (some (.row 4 [.int .i64 0,.int .i64 0,.nils,.nils]))) fun H41 =>
 LDR false 1 (.ptr nx37 2) H41 fun v42 _ =>
 zo Tryd.prog (.clo 51 []) [v42] H41 (nx37+1) (zue nx37 H41 xs35 K34))
 (FA 5 (nth xs35 0) fun v68 =>
 LD false 1 v68 H36 fun v69 =>
 za Tryd.prog 52 [v69] H36 nx37 (zacc xs35 Q))
def zacb (xs4:List AV) (Q:QT) (v25:AV) (H26:Heap) (nx27:Nat):Prop :=
 BD (zaa tab [(23,0),(24,1)]) [.nils,.nils] [(0,nth xs4 2),(1,v25)] fun v28 =>
 FA 2 (nth xs4 0) fun v29 =>
 ST 2 v29 v28 H26 fun H30 =>
 FA 4 (nth xs4 0) fun v31 =>
 LD false 1 v31 H30 fun v32 =>
 LNL v32 fun v33 =>
 LP (zpa Q) [nth xs4 0,nth xs4 1,.nils,v32,v33,.int .i64 0] H30 nx27
def zoz (Q:QT) (K3:J3) (xs4:List AV) (H5:Heap) (nx6:Nat):Prop :=
 BI .lss (nth xs4 5) (nth xs4 4) fun v7 =>
 CNDC v7
 (IA 3 (nth xs4 3) (nth xs4 5) fun v8 =>
 LD true 3 v8 H5 fun v9 =>
 ST 3 (.ptr nx6 0) v9 (H5.put nx6 (some (.row 3 [.int .i64 0,.int .i64 0,.nils]))) fun H10 =>
 LD false 1 (.ptr nx6 2) H10 fun v11 =>
 za Tryd.prog 49 [v11] H10 (nx6+1) (zacd nx6 xs4 K3))
 (FA 2 (nth xs4 0) fun v22 =>
 FA 1 v22 fun v23 =>
 LD false 1 v23 H5 fun v24 =>
 za Tryd.prog 50 [v24] H5 nx6 (zacb xs4 Q))
def zaca (a0:AV) (H:Heap) (nx:Nat) (Q:QT):Prop :=
 a0.sure=true ∧
 LD false 1 (.ptr nx 2) ((H.put nx (some (.row a0.cells.length a0.cells))).put ((nx+1)) (some (.row 9 [.int .i64 0,.int .i64 0,.nils,.nils,.nils,.nils,.int .i64 0,.int .i64 0,.int .i64 0]))) fun v1 =>
 LNL v1 fun v2 =>
 LP (zoz Q) [.ptr nx 0,.ptr (nx+1) 0,.nils,v1,v2,.int .i64 0] ((H.put nx (some (.row a0.cells.length a0.cells))).put ((nx+1)) (some (.row 9 [.int .i64 0,.int .i64 0,.nils,.nils,.nils,.nils,.int .i64 0,.int .i64 0,.int .i64 0]))) (nx+2)
theorem zadt (a0:AV) (H:Heap) (nx:Nat) (Q:QT):zaca a0 H nx Q→za Tryd.prog 38 [a0] H nx Q :=
  zd (lv:=lvOf [(2,3,[1,2,3,11,12,13]),(2,11,[1,2,6,34,35,36])]) (c:=zn Tryd.f38) zw zx mixed Tryd.func38 (by kernel_rfl) (by kernel_rfl) (by kernel_rfl) (by kernel_rfl) (by kernel_rfl)
def zlu (a0 a1:AV) (H:Heap) (nx:Nat) (Q:QT):Prop :=
 BD (zaa tab [(3,0),(9,1),(33,2)]) [.int .i64 0,.str [],.int .i64 0] [(0,.int .i64 5),(2,a1)] fun v1 =>
 NC a0 fun v2 =>
 FA 10 v2 fun v3 =>
 ST 3 v3 v1 H fun H4 =>
 Q (.tup []) H4 nx
theorem zrb (a0 a1:AV) (H:Heap) (nx:Nat) (Q:QT):zlu a0 a1 H nx Q→za Tryd.prog 39 [a0,a1] H nx Q :=
  zd (lv:=lvOf []) (c:=zn Tryd.f39) zw zx mixed Tryd.func39 (by kernel_rfl) (by kernel_rfl) (by kernel_rfl) (by kernel_rfl) (by kernel_rfl)
def zhn (a0:AV) (H:Heap) (nx:Nat) (Q:QT):Prop :=
 NC a0 fun v1 =>
 FA 0 v1 fun v2 =>
 FA 4 v2 fun v3 =>
 LDR false 1 v3 H fun v4 _ =>
 NC a0 fun v6 =>
 FA 0 v6 fun v7 =>
 FA 4 v7 fun v8 =>
 LDR false 1 v8 H fun v9 _ =>
 LNL v9 fun v11 =>
 BI .sub v11 (.int .i64 1) fun v12 =>
 IA 4 v4 v12 fun v13 =>
 Q v13 H nx
theorem zjq (a0:AV) (H:Heap) (nx:Nat) (Q:QT):zhn a0 H nx Q→za Tryd.prog 53 [a0] H nx Q :=
  zd (lv:=lvOf []) (c:=zn Tryd.f53) zw zx mixed Tryd.func53 (by kernel_rfl) (by kernel_rfl) (by kernel_rfl) (by kernel_rfl) (by kernel_rfl)
def zgm (nx:Nat) (Q:QT) (v1:AV) (H2:Heap) (nx3:Nat):Prop :=
 NC v1 fun v4 =>
 FA 3 v4 fun v5 =>
 LDR false 1 v5 H2 fun v6 rd7 =>
 LDR true 3 (.ptr nx 0) H2 fun v8 _ =>
 BSL 1 3 [.int .i64 0,.int .i64 0,.str []] [(0,v8)] fun cells10 =>
 zam 3 32 v6 (.slc nx3 0 1) (H2.put nx3 (some (.row 3 cells10))) (nx3+1) fun v11 _ fr13 D14 =>
 NC v1 fun v15 =>
 FA 3 v15 fun v16 =>
 zac 1 v16 v11 ((H2.put nx3 (some (.row 3 cells10))).apply D14) fun _ _ fr19 D20 =>
 nx3∉[] ∧
 nx3∉[] ∧
 nx3∉[] ∧
 nx3∉[] ∧
 nx3∉rd7 ∧
 zb (domD D14) [] (
 Q (.tup []) (((H2.put nx3 (some (.row 3 cells10))).apply D14).apply D20) (((nx3+1)+fr13.length)+fr19.length))
def zgl (a0 a1:AV) (H:Heap) (nx:Nat) (Q:QT):Prop :=
 a1.sure=true ∧
 za Tryd.prog 53 [a0] (H.put nx (some (AObj.row a1.cells.length a1.cells))) (nx+1) (zgm nx Q)
theorem zix (a0 a1:AV) (H:Heap) (nx:Nat) (Q:QT):zgl a0 a1 H nx Q→za Tryd.prog 54 [a0,a1] H nx Q :=
  zd (lv:=lvOf []) (c:=zn Tryd.f54) zw zx mixed Tryd.func54 (by kernel_rfl) (by kernel_rfl) (by kernel_rfl) (by kernel_rfl) (by kernel_rfl)
def zmz (nx:Nat) (Q:QT) (v1:AV) (H2:Heap) (nx3:Nat):Prop :=
 NC v1 fun v4 =>
 FA 3 v4 fun v5 =>
 LDR false 1 v5 H2 fun v6 rd7 =>
 NC v1 fun v8 =>
 FA 3 v8 fun v9 =>
 LDR false 1 v9 H2 fun v10 rd11 =>
 LNL v10 fun v12 =>
 BI .sub v12 (.int .i64 1) fun v13 =>
 IA 3 v6 v13 fun v14 =>
 LDR true 3 v14 H2 fun v15 rd16 =>
 zac 3 (.ptr nx3 0) v15 (H2.put nx3 (some (.row 3 [.int .i64 0,.int .i64 0,.str []]))) fun _ _ fr19 D20 =>
 nx3∉[] ∧
 nx3∉[] ∧
 nx3∉[] ∧
 nx3∉rd7 ∧
 nx3∉[] ∧
 nx3∉[] ∧
 nx3∉[] ∧
 nx3∉rd11 ∧
 nx3∉[] ∧
 nx3∉[] ∧
 nx3∉[] ∧
 nx3∉rd16 ∧
 NC v1 fun v21 =>
 FA 3 v21 fun v22 =>
 LDR false 1 v22 ((H2.put nx3 (some (.row 3 [.int .i64 0,.int .i64 0,.str []]))).apply D20) fun v23 _ =>
 NC v1 fun v25 =>
 FA 3 v25 fun v26 =>
 LDR false 1 v26 ((H2.put nx3 (some (.row 3 [.int .i64 0,.int .i64 0,.str []]))).apply D20) fun v27 _ =>
 LNL v27 fun v29 =>
 BI .sub v29 (.int .i64 1) fun v30 =>
 zbc 3 v23 none (some v30) ((H2.put nx3 (some (.row 3 [.int .i64 0,.int .i64 0,.str []]))).apply D20) fun v31 _ fr33 D34 =>
 NC v1 fun v35 =>
 FA 3 v35 fun v36 =>
 zac 1 v36 v31 (((H2.put nx3 (some (.row 3 [.int .i64 0,.int .i64 0,.str []]))).apply D20).apply D34) fun _ _ fr39 D40 =>
 LD true 3 (.ptr nx3 0) ((((H2.put nx3 (some (.row 3 [.int .i64 0,.int .i64 0,.str []]))).apply D20).apply D34).apply D40) fun v41 =>
 ST 3 (.ptr nx 0) v41 ((((H2.put nx3 (some (.row 3 [.int .i64 0,.int .i64 0,.str []]))).apply D20).apply D34).apply D40) fun H42 =>
 LD true 3 (.ptr nx 0) H42 fun v43 =>
 Q v43 H42 ((((nx3+1)+fr19.length)+fr33.length)+fr39.length)
def zmy (a0:AV) (H:Heap) (nx:Nat) (Q:QT):Prop :=
 za Tryd.prog 53 [a0] (H.put nx (some (AObj.row 3 [AV.int IntKind.i64 0,AV.int IntKind.i64 0,AV.str []]))) (nx+1) (zmz nx Q)
theorem ztj (a0:AV) (H:Heap) (nx:Nat) (Q:QT):zmy a0 H nx Q→za Tryd.prog 56 [a0] H nx Q :=
  zd (lv:=lvOf []) (c:=zn Tryd.f56) zw zx mixed Tryd.func56 (by kernel_rfl) (by kernel_rfl) (by kernel_rfl) (by kernel_rfl) (by kernel_rfl)
def zyb (Q:QT) (v22:AV) (H23:Heap) (nx24:Nat):Prop :=
 Q (AV.tup []) H23 nx24
def zya (Q:QT) (v26:AV) (H27:Heap) (nx28:Nat):Prop :=
 Q (AV.tup []) H27 nx28
def zmv (nx3:Nat) (fr7:List Nat) (H4:Heap) (D8:zq) (rd10:List Nat) (rd6:List Nat) (a0:AV) (Q:QT) (v11:AV) (rd12:List Nat) (fr13:List Nat) (D14:zq):Prop :=
 EX v11 0 fun v15 =>
 EX v11 1 fun v16 =>
 zac 3 (.ptr (((nx3+1)+fr7.length)+fr13.length) 0) v15 (((H4.apply D8).apply D14).put ((((nx3+1)+fr7.length)+fr13.length)) (some (.row 3 [.int .i64 0,.int .i64 0,.str []]))) fun _ _ fr19 D20 =>
 zb (domD D8) [] (
 zb (domD D8) rd10 (
 zb (domD D8) [] (
 (((nx3+1)+fr7.length)+fr13.length)∉[] ∧
 (((nx3+1)+fr7.length)+fr13.length)∉[] ∧
 zb (domD D8) [] (
 zb (domD D8) [(((nx3+1)+fr7.length)+fr13.length)] (
 (((nx3+1)+fr7.length)+fr13.length)∉rd6 ∧
 (((nx3+1)+fr7.length)+fr13.length)∉rd10 ∧
 zb (domD D14) [] (
 zb (domD D14) [(((nx3+1)+fr7.length)+fr13.length)] (
 (((nx3+1)+fr7.length)+fr13.length)∉rd12 ∧
 (((nx3+1)+fr7.length)+fr13.length)∉[] ∧
 (((nx3+1)+fr7.length)+fr13.length)∉[] ∧
 (((nx3+1)+fr7.length)+fr13.length)∉[] ∧
 zb (domD D20) [] (
 BI .neq v16 (.int .i64 0) fun v21 =>
 CNDC v21
 (za Tryd.prog 39 [a0,v16] ((((H4.apply D8).apply D14).put ((((nx3+1)+fr7.length)+fr13.length)) (some (.row 3 [.int .i64 0,.int .i64 0,.str []]))).apply D20) (((((nx3+1)+fr7.length)+fr13.length)+1)+fr19.length) (zyb Q))
 (LD true 3 (.ptr (((nx3+1)+fr7.length)+fr13.length) 0) ((((H4.apply D8).apply D14).put ((((nx3+1)+fr7.length)+fr13.length)) (some (.row 3 [.int .i64 0,.int .i64 0,.str []]))).apply D20) fun v25 =>
 za Tryd.prog 54 [a0,v25] ((((H4.apply D8).apply D14).put ((((nx3+1)+fr7.length)+fr13.length)) (some (.row 3 [.int .i64 0,.int .i64 0,.str []]))).apply D20) (((((nx3+1)+fr7.length)+fr13.length)+1)+fr19.length) (zya Q))))))))))
def zmu (nx3:Nat) (H4:Heap) (a1:AV) (a0:AV) (Q:QT) (v5:AV) (rd6:List Nat) (fr7:List Nat) (D8:zq):Prop :=
 LDR true 3 (.ptr nx3 0) (H4.apply D8) fun v9 rd10 =>
 zo Tryd.prog (.clo 72 []) [a1,v5,v9] (H4.apply D8) ((nx3+1)+fr7.length) (zmv nx3 fr7 H4 D8 rd10 rd6 a0 Q)
def zmt (a0:AV) (a1:AV) (Q:QT) (v1:AV) (H2:Heap) (nx3:Nat):Prop :=
 ST 3 (.ptr nx3 0) v1 (H2.put nx3 (some (.row 3 [.int .i64 0,.int .i64 0,.str []]))) fun H4 =>
 zo Tryd.prog (.clo 56 []) [a0] H4 (nx3+1) (zmu nx3 H4 a1 a0 Q)
def zms (a0 a1:AV) (H:Heap) (nx:Nat) (Q:QT):Prop :=
 za Tryd.prog 56 [a0] H nx (zmt a0 a1 Q)
theorem zth (a0 a1:AV) (H:Heap) (nx:Nat) (Q:QT):zms a0 a1 H nx Q→za Tryd.prog 57 [a0,a1] H nx Q :=
  zd (lv:=lvOf []) (c:=zn Tryd.f57) zw zx mixed Tryd.func57 (by kernel_rfl) (by kernel_rfl) (by kernel_rfl) (by kernel_rfl) (by kernel_rfl)
def zwv (Q:QT) (v15:AV) (H16:Heap) (nx17:Nat):Prop :=
 Q (AV.tup []) H16 nx17
def zwu (Q:QT) (v58:AV) (H59:Heap) (nx60:Nat):Prop :=
 Q (AV.tup []) H59 nx60
def zgn (a0:AV) (Q:QT) (nx3:Nat) (v5:AV) (H6:Heap) (nx7:Nat):Prop :=
 ST 3 (.ptr nx7 0) v5 (H6.put nx7 (some (.row 3 [.int .i64 0,.int .i64 0,.str []]))) fun H8 =>
 NC a0 fun v9 =>
 FA 0 v9 fun v10 =>
 FA 6 v10 fun v11 =>
 FA 1 v11 fun v12 =>
 LD false 1 v12 H8 fun v13 =>
 BI .eql v13 (.int .i64 0) fun v14 =>
 CNDC v14
 (za Tryd.prog 39 [a0,.int .i64 13] H8 (nx7+1) (zwv Q))
 (NC a0 fun v18 =>
 FA 0 v18 fun v19 =>
 FA 6 v19 fun v20 =>
 FA 1 v20 fun v21 =>
 LD false 1 v21 H8 fun v22 =>
 BI .sub v22 (.int .i64 1) fun v23 =>
 NC a0 fun v24 =>
 FA 0 v24 fun v25 =>
 FA 6 v25 fun v26 =>
 FA 1 v26 fun v27 =>
 ST 1 v27 v23 H8 fun H28 =>
 NC a0 fun v29 =>
 FA 0 v29 fun v30 =>
 FA 5 v30 fun v31 =>
 LDR false 1 v31 H28 fun v32 rd33 =>
 LDR true 3 (.ptr nx7 0) H28 fun v34 _ =>
 LDR true 3 (.ptr nx3 0) H28 fun v36 _ =>
 BD (zaa tab [(55,0),(55,3)]) [.int .i64 0,.int .i64 0,.str [],.int .i64 0,.int .i64 0,.str []] [(0,v34),(1,v36)] fun v38 =>
 BSL 1 6 [.int .i64 0,.int .i64 0,.str [],.int .i64 0,.int .i64 0,.str []] [(0,v38)] fun cells39 =>
 zam 6 64 v32 (.slc (nx7+1) 0 1) (H28.put ((nx7+1)) (some (.row 6 cells39))) (nx7+2) fun v40 _ fr42 D43 =>
 NC a0 fun v44 =>
 FA 0 v44 fun v45 =>
 FA 5 v45 fun v46 =>
 zac 1 v46 v40 ((H28.put ((nx7+1)) (some (.row 6 cells39))).apply D43) fun _ _ fr49 D50 =>
 (nx7+1)∉[] ∧
 (nx7+1)∉[] ∧
 (nx7+1)∉[] ∧
 (nx7+1)∉[] ∧
 (nx7+1)∉[] ∧
 (nx7+1)∉rd33 ∧
 zb (domD D43) [] (
 NC a0 fun v51 =>
 FA 0 v51 fun v52 =>
 FA 5 v52 fun v53 =>
 LD false 1 v53 (((H28.put ((nx7+1)) (some (.row 6 cells39))).apply D43).apply D50) fun v54 =>
 LNL v54 fun v55 =>
 BI .sub v55 (.int .i64 1) fun v56 =>
 BD (zaa tab [(3,0),(3,1),(9,2)]) [.int .i64 0,.int .i64 0,.str []] [(0,.int .i64 2),(1,v56)] fun v57 =>
 za Tryd.prog 54 [a0,v57] (((H28.put ((nx7+1)) (some (.row 6 cells39))).apply D43).apply D50) (((nx7+2)+fr42.length)+fr49.length) (zwu Q)))
def zls (a0:AV) (Q:QT) (v1:AV) (H2:Heap) (nx3:Nat):Prop :=
 ST 3 (.ptr nx3 0) v1 (H2.put nx3 (some (.row 3 [.int .i64 0,.int .i64 0,.str []]))) fun H4 =>
 za Tryd.prog 56 [a0] H4 (nx3+1) (zgn a0 Q nx3)
def zlr (a0:AV) (H:Heap) (nx:Nat) (Q:QT):Prop :=
 za Tryd.prog 56 [a0] H nx (zls a0 Q)
theorem zqz (a0:AV) (H:Heap) (nx:Nat) (Q:QT):zlr a0 H nx Q→za Tryd.prog 58 [a0] H nx Q :=
  zd (lv:=lvOf []) (c:=zn Tryd.f58) zw zx mixed Tryd.func58 (by kernel_rfl) (by kernel_rfl) (by kernel_rfl) (by kernel_rfl) (by kernel_rfl)
def zwy (Q:QT) (v7:AV) (H8:Heap) (nx9:Nat):Prop :=
 Q AV.nilp H8 nx9
def zgo (a0:AV) (Q:QT) (v1:AV) (H2:Heap) (nx3:Nat):Prop :=
 ST 3 (.ptr nx3 0) v1 (H2.put nx3 (some (.row 3 [.int .i64 0,.int .i64 0,.str []]))) fun H4 =>
 LD false 1 (.ptr nx3 0) H4 fun v5 =>
 BI .neq v5 (.int .i64 2) fun v6 =>
 CNDC v6
 (za Tryd.prog 39 [a0,.int .i64 11] H4 (nx3+1) (zwy Q))
 (NC a0 fun v10 =>
 FA 0 v10 fun v11 =>
 FA 5 v11 fun v12 =>
 LDR false 1 v12 H4 fun v13 _ =>
 LDR false 1 (.ptr nx3 1) H4 fun v15 _ =>
 IA 6 v13 v15 fun v17 =>
 Q v17 H4 (nx3+1))
def zlv (a0:AV) (H:Heap) (nx:Nat) (Q:QT):Prop :=
 za Tryd.prog 56 [a0] H nx (zgo a0 Q)
theorem zrc (a0:AV) (H:Heap) (nx:Nat) (Q:QT):zlv a0 H nx Q→za Tryd.prog 59 [a0] H nx Q :=
  zd (lv:=lvOf []) (c:=zn Tryd.f59) zw zx mixed Tryd.func59 (by kernel_rfl) (by kernel_rfl) (by kernel_rfl) (by kernel_rfl) (by kernel_rfl)
def zes (Q:QT) (a1:AV) (nx3:Nat) (v5:AV) (H6:Heap) (nx7:Nat):Prop :=
 BP .eql v5 .nilp fun v8 =>
 CNDC v8
 (Q (.tup []) H6 nx7)
 (CNDC a1
 (LD true 3 (.ptr nx3 0) H6 fun v9 =>
 NC v5 fun v10 =>
 FA 0 v10 fun v11 =>
 ST 3 v11 v9 H6 fun H12 =>
 Q (.tup []) H12 nx7)
 (LD true 3 (.ptr nx3 0) H6 fun v13 =>
 NC v5 fun v14 =>
 FA 3 v14 fun v15 =>
 ST 3 v15 v13 H6 fun H16 =>
 Q (.tup []) H16 nx7))
def zmx (a0:AV) (Q:QT) (a1:AV) (v1:AV) (H2:Heap) (nx3:Nat):Prop :=
 ST 3 (.ptr nx3 0) v1 (H2.put nx3 (some (.row 3 [.int .i64 0,.int .i64 0,.str []]))) fun H4 =>
 za Tryd.prog 59 [a0] H4 (nx3+1) (zes Q a1 nx3)
def zmw (a0 a1:AV) (H:Heap) (nx:Nat) (Q:QT):Prop :=
 za Tryd.prog 56 [a0] H nx (zmx a0 Q a1)
theorem zti (a0 a1:AV) (H:Heap) (nx:Nat) (Q:QT):zmw a0 a1 H nx Q→za Tryd.prog 60 [a0,a1] H nx Q :=
  zd (lv:=lvOf []) (c:=zn Tryd.f60) zw zx mixed Tryd.func60 (by kernel_rfl) (by kernel_rfl) (by kernel_rfl) (by kernel_rfl) (by kernel_rfl)
def zye (Q:QT) (v7:AV) (H8:Heap) (nx9:Nat):Prop :=
 Q (AV.tup []) H8 nx9
def zyd (Q:QT) (v30:AV) (H31:Heap) (nx32:Nat):Prop :=
 Q (AV.tup []) H31 nx32
def zyc (Q:QT) (v34:AV) (H35:Heap) (nx36:Nat):Prop :=
 Q (AV.tup []) H35 nx36
def zet (Q:QT) (K17:J3) (xs18:List AV) (H19:Heap) (nx20:Nat):Prop :=
 BI .lss (nth xs18 4) (nth xs18 3) fun v21 =>
 CNDC v21
 (IA 4 (nth xs18 2) (nth xs18 4) fun v22 =>
 LD true 4 v22 H19 fun v23 =>
 ST 4 (.ptr nx20 0) v23 (H19.put nx20 (some (.row 4 [.str [],.int .i64 0,.int .i64 0,.str []]))) fun H24 =>
 LD false 1 (.ptr nx20 0) H24 fun v25 =>
 FA 2 (nth xs18 1) fun v26 =>
 LD false 1 v26 H24 fun v27 =>
 BS .eql v25 v27 fun v28 =>
 CNDC v28
 (LD true 3 (.ptr nx20 1) H24 fun v29 =>
 za Tryd.prog 54 [nth xs18 0,v29] H24 (nx20+1) (zyd Q))
 (BI .add (nth xs18 4) (.int .i64 1) fun v33 =>
 K17 [nth xs18 0,nth xs18 1,nth xs18 2,nth xs18 3,v33] H24 (nx20+1)))
 (za Tryd.prog 54 [nth xs18 0,.agg [.int .i64 0,.int .i64 0,.str []]] H19 nx20 (zyc Q))
def zho (a0:AV) (Q:QT) (v1:AV) (H2:Heap) (nx3:Nat):Prop :=
 ST 3 (.ptr nx3 0) v1 (H2.put nx3 (some (.row 3 [.int .i64 0,.int .i64 0,.str []]))) fun H4 =>
 LD false 1 (.ptr nx3 0) H4 fun v5 =>
 BI .neq v5 (.int .i64 1) fun v6 =>
 CNDC v6
 (za Tryd.prog 39 [a0,.int .i64 11] H4 (nx3+1) (zye Q))
 (NC a0 fun v10 =>
 FA 9 v10 fun v11 =>
 LD false 1 v11 H4 fun v12 =>
 NC v12 fun v13 =>
 FA 1 v13 fun v14 =>
 LD false 1 v14 H4 fun v15 =>
 LNL v15 fun v16 =>
 LP (zet Q) [a0,.ptr nx3 0,v15,v16,.int .i64 0] H4 (nx3+1))
def zna (a0:AV) (H:Heap) (nx:Nat) (Q:QT):Prop :=
 za Tryd.prog 56 [a0] H nx (zho a0 Q)
theorem ztk (a0:AV) (H:Heap) (nx:Nat) (Q:QT):zna a0 H nx Q→za Tryd.prog 61 [a0] H nx Q :=
  zd (lv:=lvOf [(2,4,[0,2,18,19,20])]) (c:=zn Tryd.f61) zw zx mixed Tryd.func61 (by kernel_rfl) (by kernel_rfl) (by kernel_rfl) (by kernel_rfl) (by kernel_rfl)
def zwx (Q:QT) (v7:AV) (H8:Heap) (nx9:Nat):Prop :=
 Q (AV.tup []) H8 nx9
def zww (Q:QT) (v16:AV) (H17:Heap) (nx18:Nat):Prop :=
 Q (AV.tup []) H17 nx18
def zdt (a0:AV) (Q:QT) (v1:AV) (H2:Heap) (nx3:Nat):Prop :=
 ST 3 (.ptr nx3 0) v1 (H2.put nx3 (some (.row 3 [.int .i64 0,.int .i64 0,.str []]))) fun H4 =>
 LD false 1 (.ptr nx3 0) H4 fun v5 =>
 BI .neq v5 (.int .i64 1) fun v6 =>
 CNDC v6
 (za Tryd.prog 39 [a0,.int .i64 11] H4 (nx3+1) (zwx Q))
 (NC a0 fun v10 =>
 FA 0 v10 fun v11 =>
 FA 6 v11 fun v12 =>
 FA 2 v12 fun v13 =>
 LD false 1 v13 H4 fun v14 =>
 BI .eql v14 (.int .i64 0) fun v15 =>
 CNDC v15
 (za Tryd.prog 54 [a0,.agg [.int .i64 0,.int .i64 0,.str []]] H4 (nx3+1) (zww Q))
 (NC a0 fun v19 =>
 FA 0 v19 fun v20 =>
 FA 6 v20 fun v21 =>
 FA 2 v21 fun v22 =>
 LD false 1 v22 H4 fun v23 =>
 BI .sub v23 (.int .i64 1) fun v24 =>
 NC a0 fun v25 =>
 FA 0 v25 fun v26 =>
 FA 6 v26 fun v27 =>
 FA 2 v27 fun v28 =>
 ST 1 v28 v24 H4 fun H29 =>
 LD false 1 (.ptr nx3 2) H29 fun v30 =>
 BD (zaa tab [(3,0),(9,1),(33,2)]) [.int .i64 0,.str [],.int .i64 0] [(0,.int .i64 3),(1,v30)] fun v31 =>
 NC a0 fun v32 =>
 FA 10 v32 fun v33 =>
 ST 3 v33 v31 H29 fun H34 =>
 Q (.tup []) H34 (nx3+1)))
def zlt (a0:AV) (H:Heap) (nx:Nat) (Q:QT):Prop :=
 za Tryd.prog 56 [a0] H nx (zdt a0 Q)
theorem zra (a0:AV) (H:Heap) (nx:Nat) (Q:QT):zlt a0 H nx Q→za Tryd.prog 62 [a0] H nx Q :=
  zd (lv:=lvOf []) (c:=zn Tryd.f62) zw zx mixed Tryd.func62 (by kernel_rfl) (by kernel_rfl) (by kernel_rfl) (by kernel_rfl) (by kernel_rfl)
def zwz (Q:QT) (v7:AV) (H8:Heap) (nx9:Nat):Prop :=
 Q (AV.tup []) H8 nx9
def zdu (nx:Nat) (a0:AV) (Q:QT) (v10:AV) (H11:Heap) (nx12:Nat):Prop :=
 NC v10 fun v13 =>
 FA 3 v13 fun v14 =>
 LDR false 1 v14 H11 fun v15 _ =>
 LNL v15 fun v17 =>
 LDR false 1 (.ptr nx 2) H11 fun v18 _ =>
 BI .sub v17 v18 fun v20 =>
 NC a0 fun v21 =>
 FA 0 v21 fun v22 =>
 FA 2 v22 fun v23 =>
 FA 0 v23 fun v24 =>
 LDR false 1 v24 H11 fun v25 _ =>
 LDR false 1 (.ptr nx 1) H11 fun v27 _ =>
 IA 3 v25 v27 fun v29 =>
 FA 1 v29 fun v30 =>
 LDR false 1 v30 H11 fun v31 _ =>
 MK 32 v31 v31 fun n33 =>
 NC v10 fun v34 =>
 FA 3 v34 fun v35 =>
 LD false 1 v35 (H11.put nx12 (some (.row 3 (List.replicate n33 [.int .i64 0,.int .i64 0,.str []]).flatten))) fun v36 =>
 SL 3 v36 (some v20) none (H11.put nx12 (some (.row 3 (List.replicate n33 [.int .i64 0,.int .i64 0,.str []]).flatten))) fun v37 =>
 CP 3 (.slc nx12 0 n33) v37 (H11.put nx12 (some (.row 3 (List.replicate n33 [.int .i64 0,.int .i64 0,.str []]).flatten))) fun _ H39 =>
 NC v10 fun v40 =>
 FA 3 v40 fun v41 =>
 LD false 1 v41 H39 fun v42 =>
 SL 3 v42 none (some v20) H39 fun v43 =>
 NC v10 fun v44 =>
 FA 3 v44 fun v45 =>
 ST 1 v45 v43 H39 fun H46 =>
 NC a0 fun v47 =>
 FA 0 v47 fun v48 =>
 FA 4 v48 fun v49 =>
 LDR false 1 v49 H46 fun v50 rd51 =>
 LDR false 1 (.ptr nx 1) H46 fun v52 _ =>
 BD (zaa tab [(3,0),(3,1),(78,2),(78,3)]) [.int .i64 0,.int .i64 0,.nils,.nils] [(0,v52),(2,.slc nx12 0 n33)] fun v54 =>
 BSL 1 4 [.int .i64 0,.int .i64 0,.nils,.nils] [(0,v54)] fun cells55 =>
 zam 4 64 v50 (.slc (nx12+1) 0 1) (H46.put ((nx12+1)) (some (.row 4 cells55))) (nx12+2) fun v56 _ fr58 D59 =>
 NC a0 fun v60 =>
 FA 0 v60 fun v61 =>
 FA 4 v61 fun v62 =>
 zac 1 v62 v56 ((H46.put ((nx12+1)) (some (.row 4 cells55))).apply D59) fun _ _ fr65 D66 =>
 (nx12+1)∉[] ∧
 (nx12+1)∉[] ∧
 (nx12+1)∉[] ∧
 (nx12+1)∉[] ∧
 (nx12+1)∉[] ∧
 (nx12+1)∉rd51 ∧
 zb (domD D59) [] (
 Q (.tup []) (((H46.put ((nx12+1)) (some (.row 4 cells55))).apply D59).apply D66) (((nx12+2)+fr58.length)+fr65.length))
def zgp (a0 a1:AV) (H:Heap) (nx:Nat) (Q:QT):Prop :=
 a1.sure=true ∧
 NC a0 fun v1 =>
 FA 0 v1 fun v2 =>
 FA 4 v2 fun v3 =>
 LD false 1 v3 (H.put nx (some (.row a1.cells.length a1.cells))) fun v4 =>
 LNL v4 fun v5 =>
 BI .geq v5 (.int .i64 12) fun v6 =>
 CNDC v6
 (za Tryd.prog 39 [a0,.int .i64 9] (H.put nx (some (.row a1.cells.length a1.cells))) (nx+1) (zwz Q))
 (za Tryd.prog 53 [a0] (H.put nx (some (.row a1.cells.length a1.cells))) (nx+1) (zdu nx a0 Q))
theorem zrd (a0 a1:AV) (H:Heap) (nx:Nat) (Q:QT):zgp a0 a1 H nx Q→za Tryd.prog 64 [a0,a1] H nx Q :=
  zd (lv:=lvOf []) (c:=zn Tryd.f64) zw zx mixed Tryd.func64 (by kernel_rfl) (by kernel_rfl) (by kernel_rfl) (by kernel_rfl) (by kernel_rfl)
def zlx (a0:AV) (H4:Heap) (D20:zq) (D27:zq) (Q:QT) (nx3:Nat) (fr19:List Nat) (fr26:List Nat) (v41:AV) (_:List Nat) (fr43:List Nat) (D44:zq):Prop :=
 BD (zaa tab [(3,0),(9,1),(33,2)]) [.int .i64 0,.str [],.int .i64 0] [(0,.int .i64 4),(1,v41)] fun v45 =>
 NC a0 fun v46 =>
 FA 10 v46 fun v47 =>
 zac 3 v47 v45 (((H4.apply D20).apply D27).apply D44) fun _ _ fr50 D51 =>
 zb (domD D44) [] (
 Q (.tup []) ((((H4.apply D20).apply D27).apply D44).apply D51) (((((nx3+1)+fr19.length)+fr26.length)+fr43.length)+fr50.length))
def zxa (Q:QT) (v53:AV) (H54:Heap) (nx55:Nat):Prop :=
 Q (AV.tup []) H54 nx55
def zgq (a0:AV) (Q:QT) (v1:AV) (H2:Heap) (nx3:Nat):Prop :=
 ST 3 (.ptr nx3 0) v1 (H2.put nx3 (some (.row 3 [.int .i64 0,.int .i64 0,.str []]))) fun H4 =>
 NC a0 fun v5 =>
 FA 0 v5 fun v6 =>
 FA 4 v6 fun v7 =>
 LDR false 1 v7 H4 fun v8 _ =>
 NC a0 fun v10 =>
 FA 0 v10 fun v11 =>
 FA 4 v11 fun v12 =>
 LDR false 1 v12 H4 fun v13 _ =>
 LNL v13 fun v15 =>
 BI .sub v15 (.int .i64 1) fun v16 =>
 zbc 4 v8 none (some v16) H4 fun v17 _ fr19 D20 =>
 NC a0 fun v21 =>
 FA 0 v21 fun v22 =>
 FA 4 v22 fun v23 =>
 zac 1 v23 v17 (H4.apply D20) fun _ _ fr26 D27 =>
 NC a0 fun v28 =>
 FA 0 v28 fun v29 =>
 FA 4 v29 fun v30 =>
 LD false 1 v30 ((H4.apply D20).apply D27) fun v31 =>
 LNL v31 fun v32 =>
 BI .eql v32 (.int .i64 0) fun v33 =>
 CNDC v33
 (NC a0 fun v34 =>
 FA 0 v34 fun v35 =>
 FA 5 v35 fun v36 =>
 LDR false 1 v36 ((H4.apply D20).apply D27) fun v37 _ =>
 LDR true 3 (.ptr nx3 0) ((H4.apply D20).apply D27) fun v39 _ =>
 zo Tryd.prog (.clo 63 []) [v37,v39,.int .i64 4] ((H4.apply D20).apply D27) (((nx3+1)+fr19.length)+fr26.length) (zlx a0 H4 D20 D27 Q nx3 fr19 fr26))
 (LD true 3 (.ptr nx3 0) ((H4.apply D20).apply D27) fun v52 =>
 za Tryd.prog 54 [a0,v52] ((H4.apply D20).apply D27) (((nx3+1)+fr19.length)+fr26.length) (zxa Q))
def zlw (a0:AV) (H:Heap) (nx:Nat) (Q:QT):Prop :=
 za Tryd.prog 56 [a0] H nx (zgq a0 Q)
theorem zre (a0:AV) (H:Heap) (nx:Nat) (Q:QT):zlw a0 H nx Q→za Tryd.prog 65 [a0] H nx Q :=
  zd (lv:=lvOf []) (c:=zn Tryd.f65) zw zx mixed Tryd.func65 (by kernel_rfl) (by kernel_rfl) (by kernel_rfl) (by kernel_rfl) (by kernel_rfl)
def zwt (Q:QT) (v51:AV) (H52:Heap) (nx53:Nat):Prop :=
 Q (AV.tup []) H52 nx53
def zlq (D69:zq) (Q:QT) (H46:Heap) (nx3:Nat) (fr27:List Nat) (fr68:List Nat) (v70:AV) (rd71:List Nat) (fr72:List Nat) (D73:zq):Prop :=
 zb (domD D69) [] (
 Q (AV.tup []) ((H46.apply D69).apply D73) ((((nx3+1)+fr27.length)+fr68.length)+fr72.length))
def zlp (a0:AV) (H46:Heap) (nx3:Nat) (fr27:List Nat) (Q:QT) (v66:AV) (rd67:List Nat) (fr68:List Nat) (D69:zq):Prop :=
 zo Tryd.prog (AV.clo 54 []) [a0,v66] (H46.apply D69) (((nx3+1)+fr27.length)+fr68.length) (zlq D69 Q H46 nx3 fr27 fr68)
def zlo (Q:QT) (H46:Heap) (nx3:Nat) (fr27:List Nat) (v84:AV) (rd85:List Nat) (fr86:List Nat) (D87:zq):Prop :=
 Q (AV.tup []) (H46.apply D87) (((nx3+1)+fr27.length)+fr86.length)
def zln (v91:AV) (v93:AV) (H46:Heap) (v90:AV) (rd92:List Nat) (nx3:Nat) (rd94:List Nat) (Q:QT) (fr27:List Nat) (v95:AV) (_:List Nat) (fr97:List Nat) (D98:zq):Prop :=
 IA 3 v91 v93 fun v99 =>
 zac 3 v99 v95 (H46.apply D98) fun _ _ fr102 D103 =>
 zb (domD D98) [] (
 zb (domD D98) [] (
 zb (domD D98) [] (
 SOFT v90 v91 D98 rd92 (
 zb (domD D98) [] (
 SOFT (.ptr nx3 1) v93 D98 rd94 (
 Q (.tup []) ((H46.apply D98).apply D103) ((((nx3+1)+fr27.length)+fr97.length)+fr102.length)))))))
def zws (Q:QT) (v106:AV) (H107:Heap) (nx108:Nat):Prop :=
 Q (AV.tup []) H107 nx108
def zwr (Q:QT) (v110:AV) (H111:Heap) (nx112:Nat):Prop :=
 Q (AV.tup []) H111 nx112
def zwq (Q:QT) (v121:AV) (H122:Heap) (nx123:Nat):Prop :=
 Q (AV.tup []) H122 nx123
def zgk (a0:AV) (Q:QT) (v114:AV) (H115:Heap) (nx116:Nat):Prop :=
 BP .neq v114 .nilp fun v117 =>
 CNDC v117
 (NC v114 fun v118 =>
 FA 0 v118 fun v119 =>
 LD true 3 v119 H115 fun v120 =>
 za Tryd.prog 54 [a0,v120] H115 nx116 (zwq Q))
 (Q (.tup []) H115 nx116)
def zud (Q:QT) (v132:AV) (H133:Heap) (nx134:Nat):Prop :=
 Q (AV.tup []) H133 nx134
def zfk (a0:AV) (Q:QT) (v125:AV) (H126:Heap) (nx127:Nat):Prop :=
 BP .neq v125 .nilp fun v128 =>
 CNDC v128
 (NC v125 fun v129 =>
 FA 3 v129 fun v130 =>
 LD true 3 v130 H126 fun v131 =>
 za Tryd.prog 54 [a0,v131] H126 nx127 (zud Q))
 (Q (.tup []) H126 nx127)
def zuc (Q:QT) (v138:AV) (H139:Heap) (nx140:Nat):Prop :=
 Q (AV.tup []) H139 nx140
def zub (Q:QT) (v144:AV) (H145:Heap) (nx146:Nat):Prop :=
 Q (AV.tup []) H145 nx146
def zua (Q:QT) (v148:AV) (H149:Heap) (nx150:Nat):Prop :=
 Q (AV.tup []) H149 nx150
def ztz (Q:QT) (v161:AV) (H162:Heap) (nx163:Nat):Prop :=
 Q (AV.tup []) H162 nx163
def zkn (a0:AV) (Q:QT) (v158:AV) (H159:Heap) (nx160:Nat):Prop :=
 za Tryd.prog 54 [a0,v158] H159 nx160 (ztz Q)
def zty (Q:QT) (v165:AV) (H166:Heap) (nx167:Nat):Prop :=
 Q (AV.tup []) H166 nx167
def zkm (a0:AV) (H46:Heap) (D177:zq) (v171:AV) (v172:AV) (rd173:List Nat) (Q:QT) (nx3:Nat) (fr27:List Nat) (fr176:List Nat) (v178:AV) (_:List Nat) (fr180:List Nat) (D181:zq):Prop :=
 BD (zaa tab [(3,0),(9,1),(33,2)]) [.int .i64 0,.str [],.int .i64 0] [(0,.int .i64 2),(1,v178)] fun v182 =>
 NC a0 fun v183 =>
 FA 10 v183 fun v184 =>
 zac 3 v184 v182 ((H46.apply D177).apply D181) fun _ _ fr187 D188 =>
 zb (domD D177) [] (
 zb (domD D177) [] (
 zb (domD D177) [] (
 zb (domD D177) [] (
 zb (domD D177) [] (
 SOFT v171 v172 D177 rd173 (
 zb (domD D181) [] (
 Q (.tup []) (((H46.apply D177).apply D181).apply D188) (((((nx3+1)+fr27.length)+fr176.length)+fr180.length)+fr187.length))))))))
def zkl (v172:AV) (H46:Heap) (nx3:Nat) (fr27:List Nat) (a0:AV) (v171:AV) (rd173:List Nat) (Q:QT) (v174:AV) (rd175:List Nat) (fr176:List Nat) (D177:zq):Prop :=
 zo Tryd.prog (AV.clo 63 []) [v172,v174,AV.int IntKind.i64 4] (H46.apply D177) (((nx3+1)+fr27.length)+fr176.length) (zkm a0 H46 D177 v171 v172 rd173 Q nx3 fr27 fr176)
def zdm (nx3:Nat) (v1:AV) (Q:QT) (v195:AV) (H196:Heap) (nx197:Nat):Prop :=
 ST 3 (.ptr nx197 0) v195 (H196.put nx197 (some (.row 3 [.int .i64 0,.int .i64 0,.str []]))) fun H198 =>
 LD false 1 (.ptr nx197 0) H198 fun v199 =>
 BI .eql v199 (.int .i64 0) fun v200 =>
 CND v200
 (LD false 1 (.ptr nx197 1) H198 fun v201 =>
 BI .eql v201 (.int .i64 0) fun v202 =>
 CNDC v202
 (LD false 1 (.ptr nx3 1) H198 fun v203 =>
 NC v1 fun v204 =>
 FA 1 v204 fun v205 =>
 ST 1 v205 v203 H198 fun H206 =>
 Q (.tup []) H206 (nx197+1))
 (Q (.tup []) H198 (nx197+1)))
 (Q (.tup []) H198 (nx197+1))
def ztx (Q:QT) (v209:AV) (H210:Heap) (nx211:Nat):Prop :=
 Q (AV.tup []) H210 nx211
def ztw (Q:QT) (v213:AV) (H214:Heap) (nx215:Nat):Prop :=
 Q (AV.tup []) H214 nx215
def ztv (Q:QT) (v217:AV) (H218:Heap) (nx219:Nat):Prop :=
 Q (AV.tup []) H218 nx219
def zu (a0:AV) (Q:QT) (v1:AV) (H2:Heap) (nx3:Nat):Prop :=
 NC a0 fun v4 =>
 FA 0 v4 fun v5 =>
 FA 2 v5 fun v6 =>
 FA 0 v6 fun v7 =>
 LDR false 1 v7 H2 fun v8 rd9 =>
 NC v1 fun v10 =>
 FA 0 v10 fun v11 =>
 LDR false 1 v11 H2 fun v12 rd13 =>
 IA 3 v8 v12 fun v14 =>
 FA 2 v14 fun v15 =>
 LDR false 1 v15 H2 fun v16 rd17 =>
 NC v1 fun v18 =>
 FA 1 v18 fun v19 =>
 LDR false 1 v19 H2 fun v20 rd21 =>
 IA 3 v16 v20 fun v22 =>
 LDR true 3 v22 H2 fun v23 rd24 =>
 zac 3 (.ptr nx3 0) v23 (H2.put nx3 (some (.row 3 [.int .i64 0,.int .i64 0,.int .i64 0]))) fun _ _ fr27 D28 =>
 nx3∉[] ∧
 nx3∉[] ∧
 nx3∉[] ∧
 nx3∉[] ∧
 nx3∉[] ∧
 nx3∉rd9 ∧
 nx3∉[] ∧
 nx3∉[] ∧
 nx3∉[] ∧
 nx3∉rd13 ∧
 nx3∉[] ∧
 nx3∉[] ∧
 nx3∉rd17 ∧
 nx3∉[] ∧
 nx3∉[] ∧
 nx3∉[] ∧
 nx3∉rd21 ∧
 nx3∉[] ∧
 nx3∉rd24 ∧
 NC v1 fun v29 =>
 FA 1 v29 fun v30 =>
 LD false 1 v30 ((H2.put nx3 (some (.row 3 [.int .i64 0,.int .i64 0,.int .i64 0]))).apply D28) fun v31 =>
 BI .add v31 (.int .i64 1) fun v32 =>
 NC v1 fun v33 =>
 FA 1 v33 fun v34 =>
 ST 1 v34 v32 ((H2.put nx3 (some (.row 3 [.int .i64 0,.int .i64 0,.int .i64 0]))).apply D28) fun H35 =>
 NC a0 fun v36 =>
 FA 0 v36 fun v37 =>
 FA 6 v37 fun v38 =>
 FA 0 v38 fun v39 =>
 LD false 1 v39 H35 fun v40 =>
 BI .sub v40 (.int .i64 1) fun v41 =>
 NC a0 fun v42 =>
 FA 0 v42 fun v43 =>
 FA 6 v43 fun v44 =>
 FA 0 v44 fun v45 =>
 ST 1 v45 v41 H35 fun H46 =>
 LD false 1 (.ptr nx3 0) H46 fun v47 =>
 BI .eql v47 (.int .i64 1) fun v48 =>
 CNDC v48
 (LD false 1 (.ptr nx3 1) H46 fun v49 =>
 BD (zaa tab [(3,0),(3,1),(9,2)]) [.int .i64 0,.int .i64 0,.str []] [(1,v49)] fun v50 =>
 za Tryd.prog 54 [a0,v50] H46 ((nx3+1)+fr27.length) (zwt Q))
 (BI .eql v47 (.int .i64 2) fun v54 =>
 CNDC v54
 (NC a0 fun v55 =>
 FA 0 v55 fun v56 =>
 FA 2 v56 fun v57 =>
 FA 1 v57 fun v58 =>
 LDR false 1 v58 H46 fun v59 _ =>
 LDR false 1 (.ptr nx3 1) H46 fun v61 _ =>
 IA 1 v59 v61 fun v63 =>
 LDR false 1 v63 H46 fun v64 _ =>
 zo Tryd.prog (.clo 55 []) [v64] H46 ((nx3+1)+fr27.length) (zlp a0 H46 nx3 fr27 Q))
 (BI .eql v47 (.int .i64 3) fun v74 =>
 CNDC v74
 (NC v1 fun v75 =>
 FA 2 v75 fun v76 =>
 LDR false 1 v76 H46 fun v77 _ =>
 LDR false 1 (.ptr nx3 1) H46 fun v79 _ =>
 IA 3 v77 v79 fun v81 =>
 LDR true 3 v81 H46 fun v82 _ =>
 zo Tryd.prog (.clo 54 []) [a0,v82] H46 ((nx3+1)+fr27.length) (zlo Q H46 nx3 fr27))
 (BI .eql v47 (.int .i64 4) fun v88 =>
 CNDC v88
 (NC v1 fun v89 =>
 FA 2 v89 fun v90 =>
 LDR false 1 v90 H46 fun v91 rd92 =>
 LDR false 1 (.ptr nx3 1) H46 fun v93 rd94 =>
 zo Tryd.prog (.clo 56 []) [a0] H46 ((nx3+1)+fr27.length) (zln v91 v93 H46 v90 rd92 nx3 rd94 Q fr27))
 (BI .eql v47 (.int .i64 5) fun v104 =>
 CNDC v104
 (LD false 1 (.ptr nx3 1) H46 fun v105 =>
 za Tryd.prog 57 [a0,v105] H46 ((nx3+1)+fr27.length) (zws Q))
 (BI .eql v47 (.int .i64 6) fun v109 =>
 CNDC v109
 (za Tryd.prog 58 [a0] H46 ((nx3+1)+fr27.length) (zwr Q))
 (BI .eql v47 (.int .i64 7) fun v113 =>
 CNDC v113
 (za Tryd.prog 59 [a0] H46 ((nx3+1)+fr27.length) (zgk a0 Q))
 (BI .eql v47 (.int .i64 8) fun v124 =>
 CNDC v124
 (za Tryd.prog 59 [a0] H46 ((nx3+1)+fr27.length) (zfk a0 Q))
 (BI .eql v47 (.int .i64 9) fun v135 =>
 CNDC v135
 (LD false 1 (.ptr nx3 0) H46 fun v136 =>
 BI .eql v136 (.int .i64 9) fun v137 =>
 za Tryd.prog 60 [a0,v137] H46 ((nx3+1)+fr27.length) (zuc Q))
 (BI .eql v47 (.int .i64 10) fun v141 =>
 CNDC v141
 (LD false 1 (.ptr nx3 0) H46 fun v142 =>
 BI .eql v142 (.int .i64 9) fun v143 =>
 za Tryd.prog 60 [a0,v143] H46 ((nx3+1)+fr27.length) (zub Q))
 (BI .eql v47 (.int .i64 11) fun v147 =>
 CNDC v147
 (za Tryd.prog 61 [a0] H46 ((nx3+1)+fr27.length) (zua Q))
 (BI .eql v47 (.int .i64 12) fun v151 =>
 CNDC v151
 (NC a0 fun v152 =>
 FA 9 v152 fun v153 =>
 LD false 1 v153 H46 fun v154 =>
 NC v154 fun v155 =>
 FA 0 v155 fun v156 =>
 LD false 1 v156 H46 fun v157 =>
 za Tryd.prog 55 [v157] H46 ((nx3+1)+fr27.length) (zkn a0 Q))
 (BI .eql v47 (.int .i64 13) fun v164 =>
 CNDC v164
 (za Tryd.prog 62 [a0] H46 ((nx3+1)+fr27.length) (zty Q))
 (BI .eql v47 (.int .i64 14) fun v168 =>
 CNDC v168
 (NC a0 fun v169 =>
 FA 0 v169 fun v170 =>
 FA 5 v170 fun v171 =>
 LDR false 1 v171 H46 fun v172 rd173 =>
 zo Tryd.prog (.clo 56 []) [a0] H46 ((nx3+1)+fr27.length) (zkl v172 H46 nx3 fr27 a0 v171 rd173 Q))
 (BI .eql v47 (.int .i64 15) fun v189 =>
 CNDC v189
 (LD false 1 (.ptr nx3 1) H46 fun v190 =>
 NC v1 fun v191 =>
 FA 1 v191 fun v192 =>
 ST 1 v192 v190 H46 fun H193 =>
 Q (.tup []) H193 ((nx3+1)+fr27.length))
 (BI .eql v47 (.int .i64 16) fun v194 =>
 CNDC v194
 (za Tryd.prog 56 [a0] H46 ((nx3+1)+fr27.length) (zdm nx3 v1 Q))
 (BI .eql v47 (.int .i64 17) fun v207 =>
 CNDC v207
 (LD true 3 (.ptr nx3 0) H46 fun v208 =>
 za Tryd.prog 64 [a0,v208] H46 ((nx3+1)+fr27.length) (ztx Q))
 (BI .eql v47 (.int .i64 18) fun v212 =>
 CNDC v212
 (za Tryd.prog 65 [a0] H46 ((nx3+1)+fr27.length) (ztw Q))
 (BI .eql v47 (.int .i64 19) fun v216 =>
 CNDC v216
 (za Tryd.prog 56 [a0] H46 ((nx3+1)+fr27.length) (ztv Q))
 (Q (.tup []) H46 ((nx3+1)+fr27.length))))))))))))))))))))
def zlm (a0:AV) (H:Heap) (nx:Nat) (Q:QT):Prop :=
 za Tryd.prog 53 [a0] H nx (zu a0 Q)
theorem zqy (a0:AV) (H:Heap) (nx:Nat) (Q:QT):zlm a0 H nx Q→za Tryd.prog 40 [a0] H nx Q :=
  zd (lv:=lvOf []) (c:=zn Tryd.f40) zw zx mixed Tryd.func40 (by kernel_rfl) (by kernel_rfl) (by kernel_rfl) (by kernel_rfl) (by kernel_rfl)
def zabz (xs7:List AV) (K6:J3) (_:AV) (H28:Heap) (nx29:Nat):Prop :=
 BI .add (nth xs7 4) (.int .i64 1) fun v30 =>
 K6 [nth xs7 0,nth xs7 1,nth xs7 2,nth xs7 3,v30] H28 nx29
def zaby (xs7:List AV) (K6:J3) (_:AV) (H32:Heap) (nx33:Nat):Prop :=
 BI .add (nth xs7 4) (.int .i64 1) fun v34 =>
 K6 [nth xs7 0,nth xs7 1,nth xs7 2,nth xs7 3,v34] H32 nx33
def zfl (Q:QT) (K6:J3) (xs7:List AV) (H8:Heap) (nx9:Nat):Prop :=
 NC (nth xs7 3) fun v10 =>
 FA 10 v10 fun v11 =>
 FA 0 v11 fun v12 =>
 LD false 1 v12 H8 fun v13 =>
 BI .eql v13 (.int .i64 0) fun v14 =>
 CNDC v14
 (BI .geq (nth xs7 4) (nth xs7 0) fun v15 =>
 CNDC v15
 (NC (nth xs7 3) fun v16 =>
 FA 10 v16 fun v17 =>
 FA 0 v17 fun v18 =>
 ST 1 v18 (.int .i64 1) H8 fun H19 =>
 BI .add (nth xs7 4) (.int .i64 1) fun v20 =>
 K6 [nth xs7 0,nth xs7 1,nth xs7 2,nth xs7 3,v20] H19 nx9)
 (NC (nth xs7 3) fun v21 =>
 FA 0 v21 fun v22 =>
 FA 6 v22 fun v23 =>
 FA 0 v23 fun v24 =>
 LD false 1 v24 H8 fun v25 =>
 BI .eql v25 (.int .i64 0) fun v26 =>
 CNDC v26
 (za Tryd.prog 39 [nth xs7 3,.int .i64 12] H8 nx9 (zabz xs7 K6))
 (za Tryd.prog 40 [nth xs7 3] H8 nx9 (zaby xs7 K6))))
 (NC (nth xs7 3) fun v35 =>
 FA 0 v35 fun v36 =>
 LDR true 9 v36 H8 fun v37 _ =>
 NC (nth xs7 3) fun v39 =>
 FA 10 v39 fun v40 =>
 LDR true 3 v40 H8 fun v41 rd42 =>
 zac 9 (nth xs7 1) v37 H8 fun _ _ fr45 D46 =>
 zac 3 (nth xs7 2) v41 (H8.apply D46) fun _ _ fr49 D50 =>
 zb (domD D46) [] (
 zb (domD D46) [] (
 zb (domD D46) [] (
 zb (domD D46) rd42 (
 LD true 9 (nth xs7 1) ((H8.apply D46).apply D50) fun v51 =>
 LD true 3 (nth xs7 2) ((H8.apply D46).apply D50) fun v52 =>
 Q (.tup [v51,v52]) ((H8.apply D46).apply D50) ((nx9+fr45.length)+fr49.length))))))
def zabx (nx:Nat) (Q:QT) (a2:AV) (v2:AV) (H3:Heap) (nx4:Nat):Prop :=
 BD (zaa tab [(32,0),(90,9),(71,10)]) [.int .i64 0,.int .i64 0,.nils,.nils,.nils,.nils,.int .i64 0,.int .i64 0,.int .i64 0,.nilp,.int .i64 0,.str [],.int .i64 0] [(0,v2),(1,.ptr (nx+1) 0)] fun v5 =>
 v5.sure=true ∧
 LP (zfl Q) [a2,.ptr (nx+2) 0,.ptr (nx+3) 0,.ptr nx4 0,.int .i64 0] (H3.put nx4 (some (.row v5.cells.length v5.cells))) (nx4+1)
def zabw (a0 a1 a2:AV) (H:Heap) (nx:Nat) (Q:QT):Prop :=
 a0.sure=true ∧
 a1.sure=true ∧
 LD true 9 (.ptr nx 0) ((((H.put nx (some (.row a0.cells.length a0.cells))).put ((nx+1)) (some (.row a1.cells.length a1.cells))).put ((nx+2)) (some (.row 9 [.int .i64 0,.int .i64 0,.nils,.nils,.nils,.nils,.int .i64 0,.int .i64 0,.int .i64 0]))).put ((nx+3)) (some (.row 3 [.int .i64 0,.str [],.int .i64 0]))) fun v1 =>
 za Tryd.prog 38 [v1] ((((H.put nx (some (.row a0.cells.length a0.cells))).put ((nx+1)) (some (.row a1.cells.length a1.cells))).put ((nx+2)) (some (.row 9 [.int .i64 0,.int .i64 0,.nils,.nils,.nils,.nils,.int .i64 0,.int .i64 0,.int .i64 0]))).put ((nx+3)) (some (.row 3 [.int .i64 0,.str [],.int .i64 0]))) (nx+4) (zabx nx Q a2)
theorem zads (a0 a1 a2:AV) (H:Heap) (nx:Nat) (Q:QT):zabw a0 a1 a2 H nx Q→za Tryd.prog 27 [a0,a1,a2] H nx Q :=
  zd (lv:=lvOf [(2,3,[2,6,7,8,9])]) (c:=zn Tryd.f27) zw zx mixed Tryd.func27 (by kernel_rfl) (by kernel_rfl) (by kernel_rfl) (by kernel_rfl) (by kernel_rfl)
def ziz (Q:QT) (K39:J3) (xs40:List AV) (H41:Heap) (nx42:Nat):Prop :=
 BI .lss (nth xs40 5) (nth xs40 4) fun v43 =>
 CNDC v43
 (FA 4 (nth xs40 1) fun v44 =>
 LD false 1 v44 H41 fun v45 =>
 IA 4 v45 (nth xs40 5) fun v46 =>
 NC v46 fun v47 =>
 FA 2 v47 fun v48 =>
 LD false 1 v48 H41 fun v49 =>
 CP 3 v49 (nth xs40 2) H41 fun v50 H51 =>
 SL 3 (nth xs40 2) (some v50) none H51 fun v52 =>
 NC v46 fun v53 =>
 FA 3 v53 fun v54 =>
 LD false 1 v54 H51 fun v55 =>
 CP 3 v55 v52 H51 fun v56 H57 =>
 SL 3 v52 (some v56) none H57 fun v58 =>
 BI .add (nth xs40 5) (.int .i64 1) fun v59 =>
 K39 [nth xs40 0,nth xs40 1,v58,nth xs40 3,nth xs40 4,v59] H57 nx42)
 (FA 5 (nth xs40 1) fun v60 =>
 ST 1 v60 (nth xs40 3) H41 fun H61 =>
 LD true 9 (nth xs40 1) H61 fun v62 =>
 ST 9 (nth xs40 0) v62 H61 fun H63 =>
 LD true 9 (nth xs40 0) H63 fun v64 =>
 Q v64 H63 nx42)
def zrf (xs9:List AV) (Q:QT) (v31:AV) (H32:Heap) (nx33:Nat):Prop :=
 EX v31 0 fun v34 =>
 EX v31 1 fun v35 =>
 FA 4 (nth xs9 1) fun v36 =>
 LD false 1 v36 H32 fun v37 =>
 LNL v37 fun v38 =>
 LP (ziz Q) [nth xs9 0,nth xs9 1,v34,v35,v38,.int .i64 0] H32 nx33
def ziy (Q:QT) (K8:J3) (xs9:List AV) (H10:Heap) (nx11:Nat):Prop :=
 BI .lss (nth xs9 5) (nth xs9 4) fun v12 =>
 CNDC v12
 (IA 4 (nth xs9 3) (nth xs9 5) fun v13 =>
 LD true 4 v13 H10 fun v14 =>
 ST 4 (.ptr nx11 0) v14 (H10.put nx11 (some (.row 4 [.int .i64 0,.int .i64 0,.nils,.nils]))) fun H15 =>
 LDR false 1 (.ptr nx11 2) H15 fun v16 _ =>
 zam 3 32 (nth xs9 2) v16 H15 (nx11+1) fun v18 _ fr20 D21 =>
 LDR false 1 (.ptr nx11 3) (H15.apply D21) fun v22 rd23 =>
 zam 3 32 v18 v22 (H15.apply D21) ((nx11+1)+fr20.length) fun v24 _ fr26 D27 =>
 zb (domD D21) [] (
 zb (domD D21) [] (
 zb (domD D21) rd23 (
 zb (domD D21) [] (
 BI .add (nth xs9 5) (.int .i64 1) fun v28 =>
 K8 [nth xs9 0,nth xs9 1,v24,nth xs9 3,nth xs9 4,v28] ((H15.apply D21).apply D27) (((nx11+1)+fr20.length)+fr26.length))))))
 (FA 5 (nth xs9 1) fun v29 =>
 LD false 1 v29 H10 fun v30 =>
 za Tryd.prog 47 [v30,nth xs9 2] H10 nx11 (zrf xs9 Q))
def zzp (Q:QT) (nx:Nat) (v2:AV) (H3:Heap) (nx4:Nat):Prop :=
 ST 9 (.ptr nx4 0) v2 (H3.put nx4 (some (.row 9 [.int .i64 0,.int .i64 0,.nils,.nils,.nils,.nils,.int .i64 0,.int .i64 0,.int .i64 0]))) fun H5 =>
 LD false 1 (.ptr nx4 4) H5 fun v6 =>
 LNL v6 fun v7 =>
 LP (ziy Q) [.ptr (nx+1) 0,.ptr nx4 0,.nils,v6,v7,.int .i64 0] H5 (nx4+1)
def zzo (a0:AV) (H:Heap) (nx:Nat) (Q:QT):Prop :=
 a0.sure=true ∧
 LD true 9 (.ptr nx 0) ((H.put nx (some (.row a0.cells.length a0.cells))).put ((nx+1)) (some (.row 9 [.int .i64 0,.int .i64 0,.nils,.nils,.nils,.nils,.int .i64 0,.int .i64 0,.int .i64 0]))) fun v1 =>
 za Tryd.prog 38 [v1] ((H.put nx (some (.row a0.cells.length a0.cells))).put ((nx+1)) (some (.row 9 [.int .i64 0,.int .i64 0,.nils,.nils,.nils,.nils,.int .i64 0,.int .i64 0,.int .i64 0]))) (nx+2) (zzp Q nx)
theorem zadf (a0:AV) (H:Heap) (nx:Nat) (Q:QT):zzo a0 H nx Q→za Tryd.prog 32 [a0] H nx Q :=
  zd (lv:=lvOf [(2,4,[2,3,4,13,14,15]),(2,10,[2,3,4,7,36,37])]) (c:=zn Tryd.f32) zw zx mixed Tryd.func32 (by kernel_rfl) (by kernel_rfl) (by kernel_rfl) (by kernel_rfl) (by kernel_rfl)
def zacf (nx:Nat) (Q:QT) (v18:AV) (H19:Heap) (nx20:Nat):Prop :=
 ST 9 (.ptr (nx+2) 0) v18 H19 fun H21 =>
 LD true 9 (.ptr (nx+2) 0) H21 fun v22 =>
 Q v22 H21 nx20
def zace (a0 a1 a2:AV) (H:Heap) (nx:Nat) (Q:QT):Prop :=
 a1.sure=true ∧
 a2.sure=true ∧
 LDR true 2 (.ptr nx 0) (((H.put nx (some (.row a1.cells.length a1.cells))).put ((nx+1)) (some (.row a2.cells.length a2.cells))).put ((nx+2)) (some (.row 9 [.int .i64 0,.int .i64 0,.nils,.nils,.nils,.nils,.int .i64 0,.int .i64 0,.int .i64 0]))) fun v1 rd2 =>
 LDR true 3 (.ptr (nx+1) 0) (((H.put nx (some (.row a1.cells.length a1.cells))).put ((nx+1)) (some (.row a2.cells.length a2.cells))).put ((nx+2)) (some (.row 9 [.int .i64 0,.int .i64 0,.nils,.nils,.nils,.nils,.int .i64 0,.int .i64 0,.int .i64 0]))) fun v3 rd4 =>
 LDR false 1 (.ptr nx 0) (((H.put nx (some (.row a1.cells.length a1.cells))).put ((nx+1)) (some (.row a2.cells.length a2.cells))).put ((nx+2)) (some (.row 9 [.int .i64 0,.int .i64 0,.nils,.nils,.nils,.nils,.int .i64 0,.int .i64 0,.int .i64 0]))) fun v5 rd6 =>
 IA 3 v5 (.int .i64 0) fun v7 =>
 FA 1 v7 fun v8 =>
 LDR false 1 v8 (((H.put nx (some (.row a1.cells.length a1.cells))).put ((nx+1)) (some (.row a2.cells.length a2.cells))).put ((nx+2)) (some (.row 9 [.int .i64 0,.int .i64 0,.nils,.nils,.nils,.nils,.int .i64 0,.int .i64 0,.int .i64 0]))) fun v9 rd10 =>
 MK 32 v9 v9 fun n11 =>
 BD (zaa tab [(3,0),(3,1),(26,2),(29,4),(30,5),(28,6)]) [.int .i64 0,.int .i64 0,.nils,.nils,.nils,.nils,.int .i64 0,.int .i64 0,.int .i64 0] [(0,a0),(2,v1),(5,v3),(3,.slc (nx+4) 0 1)] fun v12 =>
 zac 9 (.ptr (nx+5) 0) v12 ((((((H.put nx (some (.row a1.cells.length a1.cells))).put ((nx+1)) (some (.row a2.cells.length a2.cells))).put ((nx+2)) (some (.row 9 [.int .i64 0,.int .i64 0,.nils,.nils,.nils,.nils,.int .i64 0,.int .i64 0,.int .i64 0]))).put ((nx+3)) (some (.row 3 (List.replicate n11 [.int .i64 0,.int .i64 0,.str []]).flatten))).put ((nx+4)) (some (.row 4 [.int .i64 0,.int .i64 0,.slc (nx+3) 0 n11,.nils]))).put ((nx+5)) (some (.row 9 [.int .i64 0,.int .i64 0,.nils,.nils,.nils,.nils,.int .i64 0,.int .i64 0,.int .i64 0]))) fun _ _ fr15 D16 =>
 (nx+3)∉[] ∧
 (nx+3)∉rd2 ∧
 (nx+3)∉rd4 ∧
 (nx+4)∉[] ∧
 (nx+4)∉rd2 ∧
 (nx+4)∉rd4 ∧
 (nx+5)∉[] ∧
 (nx+5)∉rd2 ∧
 (nx+5)∉rd4 ∧
 (nx+5)∉[] ∧
 (nx+5)∉rd6 ∧
 (nx+5)∉[] ∧
 (nx+5)∉[] ∧
 (nx+5)∉rd10 ∧
 (nx+3)∉[] ∧
 (nx+3)∉[(nx+5)] ∧
 (nx+5)∉[] ∧
 (nx+5)∉[] ∧
 (nx+4)∉[] ∧
 (nx+4)∉[(nx+5)] ∧
 (nx+5)∉[] ∧
 (nx+5)∉[] ∧
 LD true 9 (.ptr (nx+5) 0) (((((((H.put nx (some (.row a1.cells.length a1.cells))).put ((nx+1)) (some (.row a2.cells.length a2.cells))).put ((nx+2)) (some (.row 9 [.int .i64 0,.int .i64 0,.nils,.nils,.nils,.nils,.int .i64 0,.int .i64 0,.int .i64 0]))).put ((nx+3)) (some (.row 3 (List.replicate n11 [.int .i64 0,.int .i64 0,.str []]).flatten))).put ((nx+4)) (some (.row 4 [.int .i64 0,.int .i64 0,.slc (nx+3) 0 n11,.nils]))).put ((nx+5)) (some (.row 9 [.int .i64 0,.int .i64 0,.nils,.nils,.nils,.nils,.int .i64 0,.int .i64 0,.int .i64 0]))).apply D16) fun v17 =>
 za Tryd.prog 38 [v17] (((((((H.put nx (some (.row a1.cells.length a1.cells))).put ((nx+1)) (some (.row a2.cells.length a2.cells))).put ((nx+2)) (some (.row 9 [.int .i64 0,.int .i64 0,.nils,.nils,.nils,.nils,.int .i64 0,.int .i64 0,.int .i64 0]))).put ((nx+3)) (some (.row 3 (List.replicate n11 [.int .i64 0,.int .i64 0,.str []]).flatten))).put ((nx+4)) (some (.row 4 [.int .i64 0,.int .i64 0,.slc (nx+3) 0 n11,.nils]))).put ((nx+5)) (some (.row 9 [.int .i64 0,.int .i64 0,.nils,.nils,.nils,.nils,.int .i64 0,.int .i64 0,.int .i64 0]))).apply D16) ((nx+6)+fr15.length) (zacf nx Q)
theorem zadu (a0 a1 a2:AV) (H:Heap) (nx:Nat) (Q:QT):zace a0 a1 a2 H nx Q→za Tryd.prog 26 [a0,a1,a2] H nx Q :=
  zd (lv:=lvOf []) (c:=zn Tryd.f26) zw zx mixed Tryd.func26 (by kernel_rfl) (by kernel_rfl) (by kernel_rfl) (by kernel_rfl) (by kernel_rfl)
def zug (a1:AV) (nx:Nat) (Q:QT) (v2:AV) (H3:Heap) (nx4:Nat):Prop :=
 ST 9 (.ptr nx4 0) v2 (H3.put nx4 (some (.row 9 [.int .i64 0,.int .i64 0,.nils,.nils,.nils,.nils,.int .i64 0,.int .i64 0,.int .i64 0]))) fun H5 =>
 LD false 1 (.ptr nx4 4) H5 fun v6 =>
 LD false 1 (.ptr nx4 4) H5 fun v7 =>
 LNL v7 fun v8 =>
 BI .sub v8 (.int .i64 1) fun v9 =>
 IA 4 v6 v9 fun v10 =>
 NC v10 fun v11 =>
 FA 3 v11 fun v12 =>
 LD false 1 v12 H5 fun v13 =>
 BD (zaa tab [(3,0),(3,1),(9,2)]) [.int .i64 0,.int .i64 0,.str []] [(1,a1)] fun v14 =>
 BSL 1 3 [.int .i64 0,.int .i64 0,.str []] [(0,v14)] fun cells15 =>
 APP 3 32 v13 (.slc (nx4+1) 0 1) (H5.put ((nx4+1)) (some (.row 3 cells15))) (nx4+2) fun v16 H17 nx18 =>
 NC v10 fun v19 =>
 FA 3 v19 fun v20 =>
 ST 1 v20 v16 H17 fun H21 =>
 LD true 9 (.ptr nx4 0) H21 fun v22 =>
 ST 9 (.ptr (nx+1) 0) v22 H21 fun H23 =>
 LD true 9 (.ptr (nx+1) 0) H23 fun v24 =>
 Q v24 H23 nx18
def zuf (a0 a1:AV) (H:Heap) (nx:Nat) (Q:QT):Prop :=
 a0.sure=true ∧
 LD true 9 (.ptr nx 0) ((H.put nx (some (.row a0.cells.length a0.cells))).put ((nx+1)) (some (.row 9 [.int .i64 0,.int .i64 0,.nils,.nils,.nils,.nils,.int .i64 0,.int .i64 0,.int .i64 0]))) fun v1 =>
 za Tryd.prog 38 [v1] ((H.put nx (some (.row a0.cells.length a0.cells))).put ((nx+1)) (some (.row 9 [.int .i64 0,.int .i64 0,.nils,.nils,.nils,.nils,.int .i64 0,.int .i64 0,.int .i64 0]))) (nx+2) (zug a1 nx Q)
theorem zzq (a0 a1:AV) (H:Heap) (nx:Nat) (Q:QT):zuf a0 a1 H nx Q→za Tryd.prog 28 [a0,a1] H nx Q :=
  zd (lv:=lvOf []) (c:=zn Tryd.f28) zw zx mixed Tryd.func28 (by kernel_rfl) (by kernel_rfl) (by kernel_rfl) (by kernel_rfl) (by kernel_rfl)
def zog (a0:AV) (H:Heap) (nx:Nat) (Q:QT):Prop :=
 a0.sure=true ∧
 LD false 1 (.ptr nx 0) (H.put nx (some (.row a0.cells.length a0.cells))) fun v1 =>
 BI .eql v1 (.int .i64 17) fun v2 =>
 CNDC v2
 (LD false 1 (.ptr nx 2) (H.put nx (some (.row a0.cells.length a0.cells))) fun v3 =>
 Q (.tup [v3,.int .i64 1]) (H.put nx (some (.row a0.cells.length a0.cells))) (nx+1))
 (zai (AK.int .i64) (.int .i64 1)=true ∧
 MU (.amap (nx+1)) (.int .i64 1) (.agg [.int .i64 0,.int .i64 1]) ((H.put nx (some (.row a0.cells.length a0.cells))).put ((nx+1)) (some (.mp []))) fun H4 =>
 zai (AK.int .i64) (.int .i64 2)=true ∧
 MU (.amap (nx+1)) (.int .i64 2) (.agg [.int .i64 0,.int .i64 1]) H4 fun H5 =>
 zai (AK.int .i64) (.int .i64 3)=true ∧
 MU (.amap (nx+1)) (.int .i64 3) (.agg [.int .i64 0,.int .i64 1]) H5 fun H6 =>
 zai (AK.int .i64) (.int .i64 4)=true ∧
 MU (.amap (nx+1)) (.int .i64 4) (.agg [.int .i64 1,.int .i64 0]) H6 fun H7 =>
 zai (AK.int .i64) (.int .i64 5)=true ∧
 MU (.amap (nx+1)) (.int .i64 5) (.agg [.int .i64 2,.int .i64 1]) H7 fun H8 =>
 zai (AK.int .i64) (.int .i64 6)=true ∧
 MU (.amap (nx+1)) (.int .i64 6) (.agg [.int .i64 2,.int .i64 1]) H8 fun H9 =>
 zai (AK.int .i64) (.int .i64 7)=true ∧
 MU (.amap (nx+1)) (.int .i64 7) (.agg [.int .i64 1,.int .i64 1]) H9 fun H10 =>
 zai (AK.int .i64) (.int .i64 8)=true ∧
 MU (.amap (nx+1)) (.int .i64 8) (.agg [.int .i64 1,.int .i64 1]) H10 fun H11 =>
 zai (AK.int .i64) (.int .i64 9)=true ∧
 MU (.amap (nx+1)) (.int .i64 9) (.agg [.int .i64 2,.int .i64 0]) H11 fun H12 =>
 zai (AK.int .i64) (.int .i64 10)=true ∧
 MU (.amap (nx+1)) (.int .i64 10) (.agg [.int .i64 2,.int .i64 0]) H12 fun H13 =>
 zai (AK.int .i64) (.int .i64 11)=true ∧
 MU (.amap (nx+1)) (.int .i64 11) (.agg [.int .i64 1,.int .i64 1]) H13 fun H14 =>
 zai (AK.int .i64) (.int .i64 12)=true ∧
 MU (.amap (nx+1)) (.int .i64 12) (.agg [.int .i64 0,.int .i64 1]) H14 fun H15 =>
 zai (AK.int .i64) (.int .i64 13)=true ∧
 MU (.amap (nx+1)) (.int .i64 13) (.agg [.int .i64 1,.int .i64 1]) H15 fun H16 =>
 zai (AK.int .i64) (.int .i64 14)=true ∧
 MU (.amap (nx+1)) (.int .i64 14) (.agg [.int .i64 1,.int .i64 0]) H16 fun H17 =>
 zai (AK.int .i64) (.int .i64 15)=true ∧
 MU (.amap (nx+1)) (.int .i64 15) (.agg [.int .i64 0,.int .i64 0]) H17 fun H18 =>
 zai (AK.int .i64) (.int .i64 16)=true ∧
 MU (.amap (nx+1)) (.int .i64 16) (.agg [.int .i64 1,.int .i64 0]) H18 fun H19 =>
 zai (AK.int .i64) (.int .i64 18)=true ∧
 MU (.amap (nx+1)) (.int .i64 18) (.agg [.int .i64 1,.int .i64 0]) H19 fun H20 =>
 zai (AK.int .i64) (.int .i64 19)=true ∧
 MU (.amap (nx+1)) (.int .i64 19) (.agg [.int .i64 1,.int .i64 0]) H20 fun H21 =>
 LD false 1 (.ptr nx 0) H21 fun v22 =>
 zai (AK.int .i64) v22=true ∧
 LK [.int .i64 0,.int .i64 0] true (.amap (nx+1)) v22 false H21 fun v23 =>
 ST 2 (.ptr (nx+2) 0) v23 (H21.put ((nx+2)) (some (.row 1 [.int .i64 0,.int .i64 0]))) fun H24 =>
 AA 1 2 (.ptr (nx+2) 0) (.int .i64 0) fun v25 =>
 LDR false 1 v25 H24 fun v26 _ =>
 AA 1 2 (.ptr (nx+2) 0) (.int .i64 1) fun v28 =>
 LDR false 1 v28 H24 fun v29 _ =>
 Q (.tup [v26,v29]) H24 (nx+3))
theorem zto (a0:AV) (H:Heap) (nx:Nat) (Q:QT):zog a0 H nx Q→za Tryd.prog 37 [a0] H nx Q :=
  zd (lv:=lvOf []) (c:=zn Tryd.f37) zw zx mixed Tryd.func37 (by kernel_rfl) (by kernel_rfl) (by kernel_rfl) (by kernel_rfl) (by kernel_rfl)
def zpx (a0 a1:AV) (H:Heap) (nx:Nat) (Q:QT):Prop :=
 a0.sure=true ∧
 a1.sure=true ∧
 LD false 1 (.ptr nx 4) ((((H.put nx (some (.row a0.cells.length a0.cells))).put ((nx+1)) (some (.row a1.cells.length a1.cells))).put ((nx+2)) (some (.row 9 [.int .i64 0,.int .i64 0,.nils,.nils,.nils,.nils,.int .i64 0,.int .i64 0,.int .i64 0]))).put ((nx+3)) (some (.row 4 []))) fun v1 =>
 APP 4 64 (.slc (nx+3) 0 0) v1 ((((H.put nx (some (.row a0.cells.length a0.cells))).put ((nx+1)) (some (.row a1.cells.length a1.cells))).put ((nx+2)) (some (.row 9 [.int .i64 0,.int .i64 0,.nils,.nils,.nils,.nils,.int .i64 0,.int .i64 0,.int .i64 0]))).put ((nx+3)) (some (.row 4 []))) (nx+4) fun v2 H3 nx4 =>
 LNL v2 fun v5 =>
 BI .sub v5 (.int .i64 1) fun v6 =>
 LD true 4 (.ptr (nx+1) 0) H3 fun v7 =>
 IA 4 v2 v6 fun v8 =>
 ST 4 v8 v7 H3 fun H9 =>
 ST 1 (.ptr nx 4) v2 H9 fun H10 =>
 LD true 9 (.ptr nx 0) H10 fun v11 =>
 ST 9 (.ptr (nx+2) 0) v11 H10 fun H12 =>
 LD true 9 (.ptr (nx+2) 0) H12 fun v13 =>
 Q v13 H12 nx4
theorem zwj (a0 a1:AV) (H:Heap) (nx:Nat) (Q:QT):zpx a0 a1 H nx Q→za Tryd.prog 42 [a0,a1] H nx Q :=
  zd (lv:=lvOf []) (c:=zn Tryd.f42) zw zx mixed Tryd.func42 (by kernel_rfl) (by kernel_rfl) (by kernel_rfl) (by kernel_rfl) (by kernel_rfl)
def zabc (nx:Nat) (Q:QT) (v3:AV) (H4:Heap) (nx5:Nat):Prop :=
 EX v3 0 fun v6 =>
 EX v3 1 fun v7 =>
 ST 9 (.ptr (nx+2) 0) v6 H4 fun H8 =>
 ST 3 (.ptr (nx+3) 0) v7 H8 fun H9 =>
 LD true 9 (.ptr (nx+2) 0) H9 fun v10 =>
 LD true 3 (.ptr (nx+3) 0) H9 fun v11 =>
 Q (.tup [v10,v11]) H9 nx5
def zabb (nx:Nat) (Q:QT) (v77:AV) (H78:Heap) (nx79:Nat):Prop :=
 EX v77 0 fun v80 =>
 EX v77 1 fun v81 =>
 ST 9 (.ptr (nx+2) 0) v80 H78 fun H82 =>
 ST 3 (.ptr (nx+3) 0) v81 H82 fun H83 =>
 LD true 9 (.ptr (nx+2) 0) H83 fun v84 =>
 LD true 3 (.ptr (nx+3) 0) H83 fun v85 =>
 Q (.tup [v84,v85]) H83 nx79
def zaba (nx:Nat) (Q:QT) (v94:AV) (H95:Heap) (nx96:Nat):Prop :=
 EX v94 0 fun v97 =>
 EX v94 1 fun v98 =>
 ST 9 (.ptr (nx+2) 0) v97 H95 fun H99 =>
 ST 3 (.ptr (nx+3) 0) v98 H99 fun H100 =>
 LD true 9 (.ptr (nx+2) 0) H100 fun v101 =>
 LD true 3 (.ptr (nx+3) 0) H100 fun v102 =>
 Q (.tup [v101,v102]) H100 nx96
def zqb (nx:Nat) (Q:QT) (v91:AV) (H92:Heap) (nx93:Nat):Prop :=
 za Tryd.prog 43 [v91,AV.ptr (nx+4) 0,AV.ptr nx 0] H92 nx93 (zaba nx Q)
def zaaz (nx:Nat) (Q:QT) (v108:AV) (H109:Heap) (nx110:Nat):Prop :=
 EX v108 0 fun v111 =>
 EX v108 1 fun v112 =>
 ST 9 (.ptr (nx+2) 0) v111 H109 fun H113 =>
 ST 3 (.ptr (nx+3) 0) v112 H113 fun H114 =>
 LD true 9 (.ptr (nx+2) 0) H114 fun v115 =>
 LD true 3 (.ptr (nx+3) 0) H114 fun v116 =>
 Q (.tup [v115,v116]) H114 nx110
def zaay (nx:Nat) (Q:QT) (v122:AV) (H123:Heap) (nx124:Nat):Prop :=
 EX v122 0 fun v125 =>
 EX v122 1 fun v126 =>
 ST 9 (.ptr (nx+2) 0) v125 H123 fun H127 =>
 ST 3 (.ptr (nx+3) 0) v126 H127 fun H128 =>
 LD true 9 (.ptr (nx+2) 0) H128 fun v129 =>
 LD true 3 (.ptr (nx+3) 0) H128 fun v130 =>
 Q (.tup [v129,v130]) H128 nx124
def zqa (nx:Nat) (Q:QT) (v119:AV) (H120:Heap) (nx121:Nat):Prop :=
 za Tryd.prog 43 [v119,AV.ptr (nx+4) 0,AV.ptr nx 0] H120 nx121 (zaay nx Q)
def zaax (nx:Nat) (Q:QT) (v146:AV) (H147:Heap) (nx148:Nat):Prop :=
 ST 9 (.ptr (nx+2) 0) v146 H147 fun H149 =>
 ST 3 (.ptr (nx+3) 0) (.agg [.int .i64 0,.str [],.int .i64 0]) H149 fun H150 =>
 LD true 9 (.ptr (nx+2) 0) H150 fun v151 =>
 LD true 3 (.ptr (nx+3) 0) H150 fun v152 =>
 Q (.tup [v151,v152]) H150 nx148
def zaaw (nx:Nat) (Q:QT) (v173:AV) (H174:Heap) (nx175:Nat):Prop :=
 EX v173 0 fun v176 =>
 EX v173 1 fun v177 =>
 ST 9 (.ptr (nx+2) 0) v176 H174 fun H178 =>
 ST 3 (.ptr (nx+3) 0) v177 H178 fun H179 =>
 LD true 9 (.ptr (nx+2) 0) H179 fun v180 =>
 LD true 3 (.ptr (nx+3) 0) H179 fun v181 =>
 Q (.tup [v180,v181]) H179 nx175
def zzl (nx:Nat) (Q:QT) (v183:AV) (H184:Heap) (nx185:Nat):Prop :=
 EX v183 0 fun v186 =>
 EX v183 1 fun v187 =>
 ST 9 (.ptr (nx+2) 0) v186 H184 fun H188 =>
 ST 3 (.ptr (nx+3) 0) v187 H188 fun H189 =>
 LD true 9 (.ptr (nx+2) 0) H189 fun v190 =>
 LD true 3 (.ptr (nx+3) 0) H189 fun v191 =>
 Q (.tup [v190,v191]) H189 nx185
def zih (nx71:Nat) (H72:Heap) (rd155:List Nat) (rd158:List Nat) (rd161:List Nat) (nx:Nat) (Q:QT) (v162:AV) (rd163:List Nat) (fr164:List Nat) (D165:zq):Prop :=
 EX v162 0 fun v166 =>
 EX v162 1 fun v167 =>
 zac 3 (.ptr (nx71+fr164.length) 0) v166 ((H72.apply D165).put ((nx71+fr164.length)) (some (.row 3 [.int .i64 0,.int .i64 0,.str []]))) fun _ _ fr170 D171 =>
 (nx71+fr164.length)∉[] ∧
 (nx71+fr164.length)∉rd155 ∧
 (nx71+fr164.length)∉[] ∧
 (nx71+fr164.length)∉[] ∧
 (nx71+fr164.length)∉rd158 ∧
 (nx71+fr164.length)∉[] ∧
 (nx71+fr164.length)∉[] ∧
 (nx71+fr164.length)∉rd161 ∧
 zb (domD D165) [] (
 zb (domD D165) [(nx71+fr164.length)] (
 (nx71+fr164.length)∉rd163 ∧
 (nx71+fr164.length)∉[] ∧
 (nx71+fr164.length)∉[] ∧
 (nx71+fr164.length)∉[] ∧
 zb (domD D171) [] (
 BI .neq v167 (.int .i64 0) fun v172 =>
 CNDC v172
 (za Tryd.prog 41 [v167,.ptr nx 0] (((H72.apply D165).put ((nx71+fr164.length)) (some (.row 3 [.int .i64 0,.int .i64 0,.str []]))).apply D171) (((nx71+fr164.length)+1)+fr170.length) (zaaw nx Q))
 (LD true 3 (.ptr (nx71+fr164.length) 0) (((H72.apply D165).put ((nx71+fr164.length)) (some (.row 3 [.int .i64 0,.int .i64 0,.str []]))).apply D171) fun v182 =>
 za Tryd.prog 43 [v182,.ptr (nx+4) 0,.ptr nx 0] (((H72.apply D165).put ((nx71+fr164.length)) (some (.row 3 [.int .i64 0,.int .i64 0,.str []]))).apply D171) (((nx71+fr164.length)+1)+fr170.length) (zzl nx Q)))))
def zzk (nx:Nat) (Q:QT) (v195:AV) (H196:Heap) (nx197:Nat):Prop :=
 EX v195 0 fun v198 =>
 EX v195 1 fun v199 =>
 ST 9 (.ptr (nx+2) 0) v198 H196 fun H200 =>
 ST 3 (.ptr (nx+3) 0) v199 H200 fun H201 =>
 LD true 9 (.ptr (nx+2) 0) H201 fun v202 =>
 LD true 3 (.ptr (nx+3) 0) H201 fun v203 =>
 Q (.tup [v202,v203]) H201 nx197
def zzj (nx:Nat) (Q:QT) (v233:AV) (H234:Heap) (nx235:Nat):Prop :=
 EX v233 0 fun v236 =>
 EX v233 1 fun v237 =>
 ST 9 (.ptr (nx+2) 0) v236 H234 fun H238 =>
 ST 3 (.ptr (nx+3) 0) v237 H238 fun H239 =>
 LD true 9 (.ptr (nx+2) 0) H239 fun v240 =>
 LD true 3 (.ptr (nx+3) 0) H239 fun v241 =>
 Q (.tup [v240,v241]) H239 nx235
def zzi (xs242:List AV) (Q:QT) (v250:AV) (H251:Heap) (nx252:Nat):Prop :=
 EX v250 0 fun v253 =>
 EX v250 1 fun v254 =>
 ST 9 (nth xs242 2) v253 H251 fun H255 =>
 ST 3 (nth xs242 3) v254 H255 fun H256 =>
 LD true 9 (nth xs242 2) H256 fun v257 =>
 LD true 3 (nth xs242 3) H256 fun v258 =>
 Q (.tup [v257,v258]) H256 nx252
def zzh (xs242:List AV) (Q:QT) (v277:AV) (H278:Heap) (nx279:Nat):Prop :=
 EX v277 0 fun v280 =>
 EX v277 1 fun v281 =>
 ST 9 (nth xs242 2) v280 H278 fun H282 =>
 ST 3 (nth xs242 3) v281 H282 fun H283 =>
 LD true 9 (nth xs242 2) H283 fun v284 =>
 LD true 3 (nth xs242 3) H283 fun v285 =>
 Q (.tup [v284,v285]) H283 nx279
def zzg (xs242:List AV) (Q:QT) (v290:AV) (H291:Heap) (nx292:Nat):Prop :=
 EX v290 0 fun v293 =>
 EX v290 1 fun v294 =>
 ST 9 (nth xs242 2) v293 H291 fun H295 =>
 ST 3 (nth xs242 3) v294 H295 fun H296 =>
 LD true 9 (nth xs242 2) H296 fun v297 =>
 LD true 3 (nth xs242 3) H296 fun v298 =>
 Q (.tup [v297,v298]) H296 nx292
def zzf (xs242:List AV) (Q:QT) (v328:AV) (H329:Heap) (nx330:Nat):Prop :=
 ST 9 (nth xs242 2) v328 H329 fun H331 =>
 ST 3 (nth xs242 3) (.agg [.int .i64 0,.str [],.int .i64 0]) H331 fun H332 =>
 LD true 9 (nth xs242 2) H332 fun v333 =>
 LD true 3 (nth xs242 3) H332 fun v334 =>
 Q (.tup [v333,v334]) H332 nx330
def zze (xs242:List AV) (Q:QT) (v354:AV) (H355:Heap) (nx356:Nat):Prop :=
 ST 9 (nth xs242 2) v354 H355 fun H357 =>
 ST 3 (nth xs242 3) (.agg [.int .i64 0,.str [],.int .i64 0]) H357 fun H358 =>
 LD true 9 (nth xs242 2) H358 fun v359 =>
 LD true 3 (nth xs242 3) H358 fun v360 =>
 Q (.tup [v359,v360]) H358 nx356
def zzd (xs361:List AV) (Q:QT) (v369:AV) (H370:Heap) (nx371:Nat):Prop :=
 EX v369 0 fun v372 =>
 EX v369 1 fun v373 =>
 ST 9 (nth xs361 2) v372 H370 fun H374 =>
 ST 3 (nth xs361 3) v373 H374 fun H375 =>
 LD true 9 (nth xs361 2) H375 fun v376 =>
 LD true 3 (nth xs361 3) H375 fun v377 =>
 Q (.tup [v376,v377]) H375 nx371
def zof (xs361:List AV) (H391:Heap) (Q:QT) (nx363:Nat) (v396:AV) (_:List Nat) (fr398:List Nat) (D399:zq):Prop :=
 IA 3 (nth xs361 7) (.int .i64 0) fun v400 =>
 FA 2 v400 fun v401 =>
 LDR false 1 v401 (H391.apply D399) fun v402 rd403 =>
 BD (zaa tab [(3,0),(9,1),(33,2)]) [.int .i64 0,.str [],.int .i64 0] [(0,.int .i64 3),(1,v402)] fun v404 =>
 zac 9 (nth xs361 2) v396 (H391.apply D399) fun _ _ fr407 D408 =>
 zac 3 (nth xs361 3) v404 ((H391.apply D399).apply D408) fun _ _ fr411 D412 =>
 zb (domD D399) [] (
 zb (domD D399) [] (
 zb (domD D399) [] (
 zb (domD D399) [] (
 zb (domD D399) [] (
 zb (domD D399) [] (
 zb (domD D399) rd403 (
 zb (domD D399) [] (
 zb (domD D399) [] (
 zb (domD D399) [] (
 zb (domD D408) [] (
 zb (domD D408) [] (
 zb (domD D408) [] (
 zb (domD D408) rd403 (
 zb (domD D408) [] (
 LD true 9 (nth xs361 2) (((H391.apply D399).apply D408).apply D412) fun v413 =>
 LD true 3 (nth xs361 3) (((H391.apply D399).apply D408).apply D412) fun v414 =>
 Q (.tup [v413,v414]) (((H391.apply D399).apply D408).apply D412) (((nx363+fr398.length)+fr407.length)+fr411.length))))))))))))))))
def zzc (xs421:List AV) (Q:QT) (v449:AV) (H450:Heap) (nx451:Nat):Prop :=
 EX v449 0 fun v452 =>
 EX v449 1 fun v453 =>
 ST 9 (nth xs421 1) v452 H450 fun H454 =>
 ST 3 (nth xs421 2) v453 H454 fun H455 =>
 LD true 9 (nth xs421 1) H455 fun v456 =>
 LD true 3 (nth xs421 2) H455 fun v457 =>
 Q (.tup [v456,v457]) H455 nx451
def zzb (xs421:List AV) (Q:QT) (v459:AV) (H460:Heap) (nx461:Nat):Prop :=
 EX v459 0 fun v462 =>
 EX v459 1 fun v463 =>
 ST 9 (nth xs421 1) v462 H460 fun H464 =>
 ST 3 (nth xs421 2) v463 H464 fun H465 =>
 LD true 9 (nth xs421 1) H465 fun v466 =>
 LD true 3 (nth xs421 2) H465 fun v467 =>
 Q (.tup [v466,v467]) H465 nx461
def zpz (Q:QT) (K420:J3) (xs421:List AV) (H422:Heap) (nx423:Nat):Prop :=
 BI .geq (nth xs421 7) (.int .i64 0) fun v424 =>
 CND v424
 (FA 0 (nth xs421 3) fun v425 =>
 LD false 1 v425 H422 fun v426 =>
 BI .eql v426 (.int .i64 11) fun v427 =>
 CNDC v427
 (FA 1 (nth xs421 0) fun v428 =>
 LDR false 1 v428 H422 fun v429 _ =>
 IA 4 v429 (nth xs421 7) fun v431 =>
 FA 0 v431 fun v432 =>
 LDR false 1 v432 H422 fun v433 _ =>
 IA 3 (nth xs421 4) (.int .i64 0) fun v435 =>
 FA 2 v435 fun v436 =>
 LDR false 1 v436 H422 fun v437 _ =>
 BS .eql v433 v437 fun v439 =>
 CNDC v439
 (FA 1 (nth xs421 0) fun v440 =>
 LD false 1 v440 H422 fun v441 =>
 IA 4 v441 (nth xs421 7) fun v442 =>
 FA 1 v442 fun v443 =>
 LD true 3 v443 H422 fun v444 =>
 ST 3 (nth xs421 6) v444 H422 fun H445 =>
 BI .sub (nth xs421 7) (.int .i64 1) fun v446 =>
 K420 [nth xs421 0,nth xs421 1,nth xs421 2,nth xs421 3,nth xs421 4,nth xs421 5,nth xs421 6,v446] H445 nx423)
 (BI .sub (nth xs421 7) (.int .i64 1) fun v447 =>
 K420 [nth xs421 0,nth xs421 1,nth xs421 2,nth xs421 3,nth xs421 4,nth xs421 5,nth xs421 6,v447] H422 nx423))
 (LD true 3 (nth xs421 6) H422 fun v448 =>
 CALL Tryd.prog (nth xs421 5) [v448] H422 nx423 (zzc xs421 Q)))
 (LD true 3 (nth xs421 6) H422 fun v458 =>
 CALL Tryd.prog (nth xs421 5) [v458] H422 nx423 (zzb xs421 Q))
def zza (xs474:List AV) (Q:QT) (v502:AV) (H503:Heap) (nx504:Nat):Prop :=
 EX v502 0 fun v505 =>
 EX v502 1 fun v506 =>
 ST 9 (nth xs474 1) v505 H503 fun H507 =>
 ST 3 (nth xs474 2) v506 H507 fun H508 =>
 LD true 9 (nth xs474 1) H508 fun v509 =>
 LD true 3 (nth xs474 2) H508 fun v510 =>
 Q (.tup [v509,v510]) H508 nx504
def zyz (xs474:List AV) (Q:QT) (v512:AV) (H513:Heap) (nx514:Nat):Prop :=
 EX v512 0 fun v515 =>
 EX v512 1 fun v516 =>
 ST 9 (nth xs474 1) v515 H513 fun H517 =>
 ST 3 (nth xs474 2) v516 H517 fun H518 =>
 LD true 9 (nth xs474 1) H518 fun v519 =>
 LD true 3 (nth xs474 2) H518 fun v520 =>
 Q (.tup [v519,v520]) H518 nx514
def zdv (Q:QT) (K473:J3) (xs474:List AV) (H475:Heap) (nx476:Nat):Prop :=
 BI .geq (nth xs474 7) (.int .i64 0) fun v477 =>
 CND v477
 (FA 0 (nth xs474 3) fun v478 =>
 LD false 1 v478 H475 fun v479 =>
 BI .eql v479 (.int .i64 11) fun v480 =>
 CNDC v480
 (FA 1 (nth xs474 0) fun v481 =>
 LDR false 1 v481 H475 fun v482 _ =>
 IA 4 v482 (nth xs474 7) fun v484 =>
 FA 0 v484 fun v485 =>
 LDR false 1 v485 H475 fun v486 _ =>
 IA 3 (nth xs474 4) (.int .i64 0) fun v488 =>
 FA 2 v488 fun v489 =>
 LDR false 1 v489 H475 fun v490 _ =>
 BS .eql v486 v490 fun v492 =>
 CNDC v492
 (FA 1 (nth xs474 0) fun v493 =>
 LD false 1 v493 H475 fun v494 =>
 IA 4 v494 (nth xs474 7) fun v495 =>
 FA 1 v495 fun v496 =>
 LD true 3 v496 H475 fun v497 =>
 ST 3 (nth xs474 6) v497 H475 fun H498 =>
 BI .sub (nth xs474 7) (.int .i64 1) fun v499 =>
 K473 [nth xs474 0,nth xs474 1,nth xs474 2,nth xs474 3,nth xs474 4,nth xs474 5,nth xs474 6,v499] H498 nx476)
 (BI .sub (nth xs474 7) (.int .i64 1) fun v500 =>
 K473 [nth xs474 0,nth xs474 1,nth xs474 2,nth xs474 3,nth xs474 4,nth xs474 5,nth xs474 6,v500] H475 nx476))
 (LD true 3 (nth xs474 6) H475 fun v501 =>
 CALL Tryd.prog (nth xs474 5) [v501] H475 nx476 (zza xs474 Q)))
 (LD true 3 (nth xs474 6) H475 fun v511 =>
 CALL Tryd.prog (nth xs474 5) [v511] H475 nx476 (zyz xs474 Q))
def zoe (xs361:List AV) (v526:AV) (H362:Heap) (D529:zq) (rd532:List Nat) (rd535:List Nat) (Q:QT) (nx363:Nat) (fr528:List Nat) (v536:AV) (_:List Nat) (fr538:List Nat) (D539:zq):Prop :=
 BD (zaa tab [(3,0),(9,1),(33,2)]) [.int .i64 0,.str [],.int .i64 0] [(0,.int .i64 2),(1,v536)] fun v540 =>
 zac 9 (nth xs361 2) v526 ((H362.apply D529).apply D539) fun _ _ fr543 D544 =>
 zac 3 (nth xs361 3) v540 (((H362.apply D529).apply D539).apply D544) fun _ _ fr547 D548 =>
 zb (domD D529) [] (
 zb (domD D529) [] (
 zb (domD D529) rd532 (
 zb (domD D529) [] (
 zb (domD D529) [] (
 zb (domD D529) [] (
 zb (domD D529) [] (
 zb (domD D529) [] (
 zb (domD D529) rd535 (
 zb (domD D529) [] (
 zb (domD D544) [] (
 LD true 9 (nth xs361 2) ((((H362.apply D529).apply D539).apply D544).apply D548) fun v549 =>
 LD true 3 (nth xs361 3) ((((H362.apply D529).apply D539).apply D544).apply D548) fun v550 =>
 Q (.tup [v549,v550]) ((((H362.apply D529).apply D539).apply D544).apply D548) ((((nx363+fr528.length)+fr538.length)+fr543.length)+fr547.length))))))))))))
def zod (xs361:List AV) (H362:Heap) (nx363:Nat) (Q:QT) (v526:AV) (_:List Nat) (fr528:List Nat) (D529:zq):Prop :=
 FA 5 (nth xs361 0) fun v530 =>
 LDR false 1 v530 (H362.apply D529) fun v531 rd532 =>
 IA 3 (nth xs361 7) (.int .i64 0) fun v533 =>
 LDR true 3 v533 (H362.apply D529) fun v534 rd535 =>
 zo Tryd.prog (.clo 46 []) [v531,v534,.int .i64 4] (H362.apply D529) (nx363+fr528.length) (zoe xs361 v526 H362 D529 rd532 rd535 Q nx363 fr528)
def zyy (xs361:List AV) (Q:QT) (v558:AV) (H559:Heap) (nx560:Nat):Prop :=
 ST 9 (nth xs361 2) v558 H559 fun H561 =>
 ST 3 (nth xs361 3) (.agg [.int .i64 0,.str [],.int .i64 0]) H561 fun H562 =>
 LD true 9 (nth xs361 2) H562 fun v563 =>
 LD true 3 (nth xs361 3) H562 fun v564 =>
 Q (.tup [v563,v564]) H562 nx560
def zyx (xs361:List AV) (Q:QT) (v575:AV) (H576:Heap) (nx577:Nat):Prop :=
 ST 9 (nth xs361 2) v575 H576 fun H578 =>
 ST 3 (nth xs361 3) (.agg [.int .i64 0,.str [],.int .i64 0]) H578 fun H579 =>
 LD true 9 (nth xs361 2) H579 fun v580 =>
 LD true 3 (nth xs361 3) H579 fun v581 =>
 Q (.tup [v580,v581]) H579 nx577
def zyw (xs361:List AV) (Q:QT) (v584:AV) (H585:Heap) (nx586:Nat):Prop :=
 ST 9 (nth xs361 2) v584 H585 fun H587 =>
 ST 3 (nth xs361 3) (.agg [.int .i64 0,.str [],.int .i64 0]) H587 fun H588 =>
 LD true 9 (nth xs361 2) H588 fun v589 =>
 LD true 3 (nth xs361 3) H588 fun v590 =>
 Q (.tup [v589,v590]) H588 nx586
def zyv (xs361:List AV) (Q:QT) (v609:AV) (H610:Heap) (nx611:Nat):Prop :=
 EX v609 0 fun v612 =>
 EX v609 1 fun v613 =>
 ST 9 (nth xs361 2) v612 H610 fun H614 =>
 ST 3 (nth xs361 3) v613 H614 fun H615 =>
 LD true 9 (nth xs361 2) H615 fun v616 =>
 LD true 3 (nth xs361 3) H615 fun v617 =>
 Q (.tup [v616,v617]) H615 nx611
def zoc (xs361:List AV) (Q:QT) (v605:AV) (H606:Heap) (nx607:Nat):Prop :=
 ST 9 (nth xs361 0) v605 H606 fun H608 =>
 CALL Tryd.prog (nth xs361 4) [.int .i64 9] H608 nx607 (zyv xs361 Q)
def zob (xs361:List AV) (v628:AV) (Q:QT) (v633:AV) (H634:Heap) (nx635:Nat):Prop :=
 ST 9 (nth xs361 0) v633 H634 fun H636 =>
 FA 4 (nth xs361 0) fun v637 =>
 LD false 1 v637 H636 fun v638 =>
 FA 1 (nth xs361 6) fun v639 =>
 LD false 1 v639 H636 fun v640 =>
 BD (zaa tab [(3,0),(3,1),(78,2),(78,3)]) [.int .i64 0,.int .i64 0,.nils,.nils] [(0,v640),(2,v628)] fun v641 =>
 BSL 1 4 [.int .i64 0,.int .i64 0,.nils,.nils] [(0,v641)] fun cells642 =>
 APP 4 64 v638 (.slc nx635 0 1) (H636.put nx635 (some (.row 4 cells642))) (nx635+1) fun v643 H644 nx645 =>
 FA 4 (nth xs361 0) fun v646 =>
 ST 1 v646 v643 H644 fun H647 =>
 LD true 9 (nth xs361 0) H647 fun v648 =>
 ST 9 (nth xs361 2) v648 H647 fun H649 =>
 ST 3 (nth xs361 3) (.agg [.int .i64 0,.str [],.int .i64 0]) H649 fun H650 =>
 LD true 9 (nth xs361 2) H650 fun v651 =>
 LD true 3 (nth xs361 3) H650 fun v652 =>
 Q (.tup [v651,v652]) H650 nx645
def zoa (xs361:List AV) (v668:AV) (H665:Heap) (rd669:List Nat) (Q:QT) (nx663:Nat) (v676:AV) (_:List Nat) (fr678:List Nat) (D679:zq):Prop :=
 BD (zaa tab [(3,0),(9,1),(33,2)]) [.int .i64 0,.str [],.int .i64 0] [(0,.int .i64 4),(1,v676)] fun v680 =>
 zac 9 (nth xs361 2) v668 (H665.apply D679) fun _ _ fr683 D684 =>
 zac 3 (nth xs361 3) v680 ((H665.apply D679).apply D684) fun _ _ fr687 D688 =>
 zb (domD D679) rd669 (
 zb (domD D684) [] (
 LD true 9 (nth xs361 2) (((H665.apply D679).apply D684).apply D688) fun v689 =>
 LD true 3 (nth xs361 3) (((H665.apply D679).apply D684).apply D688) fun v690 =>
 Q (.tup [v689,v690]) (((H665.apply D679).apply D684).apply D688) (((nx663+fr678.length)+fr683.length)+fr687.length)))
def zyu (xs361:List AV) (Q:QT) (v716:AV) (H717:Heap) (nx718:Nat):Prop :=
 ST 9 (nth xs361 2) v716 H717 fun H719 =>
 ST 3 (nth xs361 3) (.agg [.int .i64 0,.str [],.int .i64 0]) H719 fun H720 =>
 LD true 9 (nth xs361 2) H720 fun v721 =>
 LD true 3 (nth xs361 3) H720 fun v722 =>
 Q (.tup [v721,v722]) H720 nx718
def zyt (xs361:List AV) (Q:QT) (v725:AV) (H726:Heap) (nx727:Nat):Prop :=
 ST 9 (nth xs361 2) v725 H726 fun H728 =>
 ST 3 (nth xs361 3) (.agg [.int .i64 0,.str [],.int .i64 0]) H728 fun H729 =>
 LD true 9 (nth xs361 2) H729 fun v730 =>
 LD true 3 (nth xs361 3) H729 fun v731 =>
 Q (.tup [v730,v731]) H729 nx727
def zak (Q:QT) (xs361:List AV) (H362:Heap) (nx363:Nat):Prop :=
 CNDC (nth xs361 10)
 (IA 3 (nth xs361 7) (.int .i64 0) fun v365 =>
 FA 0 v365 fun v366 =>
 LD false 1 v366 H362 fun v367 =>
 BI .neq v367 (.int .i64 1) fun v368 =>
 CNDC v368
 (CALL Tryd.prog (nth xs361 4) [.int .i64 11] H362 nx363 (zzd xs361 Q))
 (FA 0 (nth xs361 6) fun v378 =>
 LD false 1 v378 H362 fun v379 =>
 BI .eql v379 (.int .i64 13) fun v380 =>
 CND v380
 (FA 6 (nth xs361 0) fun v381 =>
 FA 2 v381 fun v382 =>
 LD false 1 v382 H362 fun v383 =>
 BI .gtr v383 (.int .i64 0) fun v384 =>
 CNDC v384
 (FA 6 (nth xs361 0) fun v385 =>
 FA 2 v385 fun v386 =>
 LD false 1 v386 H362 fun v387 =>
 BI .sub v387 (.int .i64 1) fun v388 =>
 FA 6 (nth xs361 0) fun v389 =>
 FA 2 v389 fun v390 =>
 ST 1 v390 v388 H362 fun H391 =>
 LDR true 9 (nth xs361 0) H391 fun v392 _ =>
 LDR true 4 (nth xs361 5) H391 fun v394 _ =>
 zo Tryd.prog (.clo 42 []) [v392,v394] H391 nx363 (zof xs361 H391 Q nx363))
 (ST 3 (.ptr nx363 0) (.agg [.int .i64 0,.int .i64 0,.str []]) (H362.put nx363 (some (.row 3 [.int .i64 0,.int .i64 0,.str []]))) fun H415 =>
 FA 1 (nth xs361 1) fun v416 =>
 LD false 1 v416 H415 fun v417 =>
 LNL v417 fun v418 =>
 BI .sub v418 (.int .i64 1) fun v419 =>
 LP (zpz Q) [nth xs361 1,nth xs361 2,nth xs361 3,nth xs361 6,nth xs361 7,nth xs361 8,.ptr nx363 0,v419] H415 (nx363+1)))
 (ST 3 (.ptr nx363 0) (.agg [.int .i64 0,.int .i64 0,.str []]) (H362.put nx363 (some (.row 3 [.int .i64 0,.int .i64 0,.str []]))) fun H468 =>
 FA 1 (nth xs361 1) fun v469 =>
 LD false 1 v469 H468 fun v470 =>
 LNL v470 fun v471 =>
 BI .sub v471 (.int .i64 1) fun v472 =>
 LP (zdv Q) [nth xs361 1,nth xs361 2,nth xs361 3,nth xs361 6,nth xs361 7,nth xs361 8,.ptr nx363 0,v472] H468 (nx363+1))))
 (BI .eql (nth xs361 9) (.int .i64 14) fun v521 =>
 CNDC v521
 (LDR true 9 (nth xs361 0) H362 fun v522 _ =>
 LDR true 4 (nth xs361 5) H362 fun v524 _ =>
 zo Tryd.prog (.clo 42 []) [v522,v524] H362 nx363 (zod xs361 H362 nx363 Q))
 (BI .eql (nth xs361 9) (.int .i64 15) fun v551 =>
 CNDC v551
 (FA 1 (nth xs361 6) fun v552 =>
 LD false 1 v552 H362 fun v553 =>
 FA 1 (nth xs361 5) fun v554 =>
 ST 1 v554 v553 H362 fun H555 =>
 LD true 9 (nth xs361 0) H555 fun v556 =>
 LD true 4 (nth xs361 5) H555 fun v557 =>
 za Tryd.prog 42 [v556,v557] H555 nx363 (zyy xs361 Q))
 (BI .eql (nth xs361 9) (.int .i64 16) fun v565 =>
 CNDC v565
 (IA 3 (nth xs361 7) (.int .i64 0) fun v566 =>
 LD true 3 v566 H362 fun v567 =>
 gd (eqsT 55) (
 BA [.int .i64 0,.int .i64 0,.str []] .eql v567 (.agg [.int .i64 0,.int .i64 0,.str []]) fun v568 =>
 CNDC v568
 (FA 1 (nth xs361 6) fun v569 =>
 LD false 1 v569 H362 fun v570 =>
 FA 1 (nth xs361 5) fun v571 =>
 ST 1 v571 v570 H362 fun H572 =>
 LD true 9 (nth xs361 0) H572 fun v573 =>
 LD true 4 (nth xs361 5) H572 fun v574 =>
 za Tryd.prog 42 [v573,v574] H572 nx363 (zyx xs361 Q))
 (LD true 9 (nth xs361 0) H362 fun v582 =>
 LD true 4 (nth xs361 5) H362 fun v583 =>
 za Tryd.prog 42 [v582,v583] H362 nx363 (zyw xs361 Q))))
 (BI .eql (nth xs361 9) (.int .i64 17) fun v591 =>
 CNDC v591
 (FA 4 (nth xs361 0) fun v592 =>
 LD false 1 v592 H362 fun v593 =>
 LNL v593 fun v594 =>
 BI .geq v594 (.int .i64 12) fun v595 =>
 CNDC v595
 (FA 3 (nth xs361 5) fun v596 =>
 LD false 1 v596 H362 fun v597 =>
 APP 3 32 v597 (nth xs361 7) H362 nx363 fun v598 H599 nx600 =>
 FA 3 (nth xs361 5) fun v601 =>
 ST 1 v601 v598 H599 fun H602 =>
 LD true 9 (nth xs361 0) H602 fun v603 =>
 LD true 4 (nth xs361 5) H602 fun v604 =>
 za Tryd.prog 42 [v603,v604] H602 nx600 (zoc xs361 Q))
 (FA 2 (nth xs361 0) fun v618 =>
 FA 0 v618 fun v619 =>
 LD false 1 v619 H362 fun v620 =>
 FA 1 (nth xs361 6) fun v621 =>
 LD false 1 v621 H362 fun v622 =>
 IA 3 v620 v622 fun v623 =>
 FA 1 v623 fun v624 =>
 LD false 1 v624 H362 fun v625 =>
 LNL (nth xs361 7) fun v626 =>
 BI .sub v625 v626 fun v627 =>
 APP 3 32 (nth xs361 7) (zsrc [.int .i64 0,.int .i64 0,.str []] v627) H362 nx363 fun v628 H629 nx630 =>
 LD true 9 (nth xs361 0) H629 fun v631 =>
 LD true 4 (nth xs361 5) H629 fun v632 =>
 za Tryd.prog 42 [v631,v632] H629 nx630 (zob xs361 v628 Q)))
 (BI .eql (nth xs361 9) (.int .i64 18) fun v653 =>
 CNDC v653
 (FA 4 (nth xs361 0) fun v654 =>
 LD false 1 v654 (H362.put nx363 (some (.row 4 []))) fun v655 =>
 FA 4 (nth xs361 0) fun v656 =>
 LD false 1 v656 (H362.put nx363 (some (.row 4 []))) fun v657 =>
 LNL v657 fun v658 =>
 BI .sub v658 (.int .i64 1) fun v659 =>
 SL 4 v655 none (some v659) (H362.put nx363 (some (.row 4 []))) fun v660 =>
 APP 4 64 (.slc nx363 0 0) v660 (H362.put nx363 (some (.row 4 []))) (nx363+1) fun v661 H662 nx663 =>
 FA 4 (nth xs361 0) fun v664 =>
 ST 1 v664 v661 H662 fun H665 =>
 LNL v661 fun v666 =>
 BI .eql v666 (.int .i64 0) fun v667 =>
 CNDC v667
 (LDR true 9 (nth xs361 0) H665 fun v668 rd669 =>
 FA 5 (nth xs361 0) fun v670 =>
 LDR false 1 v670 H665 fun v671 _ =>
 IA 3 (nth xs361 7) (.int .i64 0) fun v673 =>
 LDR true 3 v673 H665 fun v674 _ =>
 zo Tryd.prog (.clo 46 []) [v671,v674,.int .i64 4] H665 nx663 (zoa xs361 v668 H665 rd669 Q nx663))
 (LNL v661 fun v691 =>
 BI .sub v691 (.int .i64 1) fun v692 =>
 IA 4 v661 v692 fun v693 =>
 LD true 4 v693 H665 fun v694 =>
 ST 4 (.ptr nx663 0) v694 (H665.put nx663 (some (.row 4 [.int .i64 0,.int .i64 0,.nils,.nils]))) fun H695 =>
 LDR false 1 (.ptr nx663 3) (H695.put ((nx663+1)) (some (.row 3 []))) fun v696 rd697 =>
 zam 3 32 (.slc (nx663+1) 0 0) v696 (H695.put ((nx663+1)) (some (.row 3 []))) (nx663+2) fun v698 rd699 fr700 D701 =>
 IA 3 (nth xs361 7) (.int .i64 0) fun v702 =>
 LDR true 3 v702 ((H695.put ((nx663+1)) (some (.row 3 []))).apply D701) fun v703 rd704 =>
 BSL 1 3 [.int .i64 0,.int .i64 0,.str []] [(0,v703)] fun cells705 =>
 zam 3 32 v698 (.slc ((nx663+2)+fr700.length) 0 1) (((H695.put ((nx663+1)) (some (.row 3 []))).apply D701).put (((nx663+2)+fr700.length)) (some (.row 3 cells705))) (((nx663+2)+fr700.length)+1) fun v706 _ fr708 D709 =>
 zac 1 (.ptr nx663 3) v706 ((((H695.put ((nx663+1)) (some (.row 3 []))).apply D701).put (((nx663+2)+fr700.length)) (some (.row 3 cells705))).apply D709) fun _ _ fr712 D713 =>
 (nx663+1)∉[] ∧
 (nx663+1)∉[] ∧
 (nx663+1)∉rd697 ∧
 (nx663+1)∉[] ∧
 (nx663+1)∉[] ∧
 (nx663+1)∉[] ∧
 zb (domD D701) [] (
 zb (domD D701) [] (
 (nx663+1)∉[] ∧
 (nx663+1)∉[] ∧
 zb (domD D701) [] (
 zb (domD D701) [] (
 (nx663+1)∉rd704 ∧
 (nx663+1)∉[] ∧
 zb (domD D701) rd704 (
 zb (domD D701) [] (
 (nx663+1)∉[] ∧
 (nx663+1)∉[((nx663+2)+fr700.length)] ∧
 ((nx663+2)+fr700.length)∉[] ∧
 ((nx663+2)+fr700.length)∉[] ∧
 ((nx663+2)+fr700.length)∉rd697 ∧
 zb (domD D701) [] (
 zb (domD D701) [((nx663+2)+fr700.length)] (
 ((nx663+2)+fr700.length)∉rd699 ∧
 LD true 9 (nth xs361 0) (((((H695.put ((nx663+1)) (some (.row 3 []))).apply D701).put (((nx663+2)+fr700.length)) (some (.row 3 cells705))).apply D709).apply D713) fun v714 =>
 LD true 4 (.ptr nx663 0) (((((H695.put ((nx663+1)) (some (.row 3 []))).apply D701).put (((nx663+2)+fr700.length)) (some (.row 3 cells705))).apply D709).apply D713) fun v715 =>
 za Tryd.prog 42 [v714,v715] (((((H695.put ((nx663+1)) (some (.row 3 []))).apply D701).put (((nx663+2)+fr700.length)) (some (.row 3 cells705))).apply D709).apply D713) (((((nx663+2)+fr700.length)+1)+fr708.length)+fr712.length) (zyu xs361 Q)))))))))))
 (LD true 9 (nth xs361 0) H362 fun v723 =>
 LD true 4 (nth xs361 5) H362 fun v724 =>
 za Tryd.prog 42 [v723,v724] H362 nx363 (zyt xs361 Q)))))))
def zal (xs242:List AV) (H243:Heap) (nx244:Nat) (j364:J3):Prop :=
 BI .eql (nth xs242 9) (.int .i64 11) fun v732 =>
 CNDC v732
 (j364 [nth xs242 0,nth xs242 1,nth xs242 2,nth xs242 3,nth xs242 4,nth xs242 5,nth xs242 6,nth xs242 7,nth xs242 8,nth xs242 9,.bool true] H243 nx244)
 (BI .eql (nth xs242 9) (.int .i64 13) fun v733 =>
 j364 [nth xs242 0,nth xs242 1,nth xs242 2,nth xs242 3,nth xs242 4,nth xs242 5,nth xs242 6,nth xs242 7,nth xs242 8,nth xs242 9,v733] H243 nx244)
def zy (Q:QT) (xs242:List AV) (H243:Heap) (nx244:Nat):Prop :=
 CNDC (nth xs242 10)
 (IA 3 (nth xs242 7) (.int .i64 0) fun v246 =>
 FA 0 v246 fun v247 =>
 LD false 1 v247 H243 fun v248 =>
 BI .neq v248 (.int .i64 2) fun v249 =>
 CNDC v249
 (CALL Tryd.prog (nth xs242 4) [.int .i64 11] H243 nx244 (zzi xs242 Q))
 (FA 5 (nth xs242 0) fun v259 =>
 LDR false 1 v259 H243 fun v260 rd261 =>
 IA 3 (nth xs242 7) (.int .i64 0) fun v262 =>
 FA 1 v262 fun v263 =>
 LDR false 1 v263 H243 fun v264 rd265 =>
 IA 6 v260 v264 fun v266 =>
 LDR true 6 v266 H243 fun v267 rd268 =>
 zac 6 (.ptr nx244 0) v267 (H243.put nx244 (some (.row 6 [.int .i64 0,.int .i64 0,.str [],.int .i64 0,.int .i64 0,.str []]))) fun _ _ fr271 D272 =>
 nx244∉[] ∧
 nx244∉rd261 ∧
 nx244∉[] ∧
 nx244∉[] ∧
 nx244∉[] ∧
 nx244∉rd265 ∧
 nx244∉[] ∧
 nx244∉rd268 ∧
 FA 0 (nth xs242 6) fun v273 =>
 LD false 1 v273 ((H243.put nx244 (some (.row 6 [.int .i64 0,.int .i64 0,.str [],.int .i64 0,.int .i64 0,.str []]))).apply D272) fun v274 =>
 BI .eql v274 (.int .i64 7) fun v275 =>
 CNDC v275
 (LD true 3 (.ptr nx244 0) ((H243.put nx244 (some (.row 6 [.int .i64 0,.int .i64 0,.str [],.int .i64 0,.int .i64 0,.str []]))).apply D272) fun v276 =>
 CALL Tryd.prog (nth xs242 8) [v276] ((H243.put nx244 (some (.row 6 [.int .i64 0,.int .i64 0,.str [],.int .i64 0,.int .i64 0,.str []]))).apply D272) ((nx244+1)+fr271.length) (zzh xs242 Q))
 (FA 0 (nth xs242 6) fun v286 =>
 LD false 1 v286 ((H243.put nx244 (some (.row 6 [.int .i64 0,.int .i64 0,.str [],.int .i64 0,.int .i64 0,.str []]))).apply D272) fun v287 =>
 BI .eql v287 (.int .i64 8) fun v288 =>
 CNDC v288
 (LD true 3 (.ptr nx244 3) ((H243.put nx244 (some (.row 6 [.int .i64 0,.int .i64 0,.str [],.int .i64 0,.int .i64 0,.str []]))).apply D272) fun v289 =>
 CALL Tryd.prog (nth xs242 8) [v289] ((H243.put nx244 (some (.row 6 [.int .i64 0,.int .i64 0,.str [],.int .i64 0,.int .i64 0,.str []]))).apply D272) ((nx244+1)+fr271.length) (zzg xs242 Q))
 (FA 5 (nth xs242 0) fun v299 =>
 LD false 1 v299 (((H243.put nx244 (some (.row 6 [.int .i64 0,.int .i64 0,.str [],.int .i64 0,.int .i64 0,.str []]))).apply D272).put (((nx244+1)+fr271.length)) (some (.row 6 []))) fun v300 =>
 APP 6 64 (.slc ((nx244+1)+fr271.length) 0 0) v300 (((H243.put nx244 (some (.row 6 [.int .i64 0,.int .i64 0,.str [],.int .i64 0,.int .i64 0,.str []]))).apply D272).put (((nx244+1)+fr271.length)) (some (.row 6 []))) (((nx244+1)+fr271.length)+1) fun v301 H302 nx303 =>
 FA 5 (nth xs242 0) fun v304 =>
 ST 1 v304 v301 H302 fun H305 =>
 FA 0 (nth xs242 6) fun v306 =>
 LD false 1 v306 H305 fun v307 =>
 BI .eql v307 (.int .i64 9) fun v308 =>
 CNDC v308
 (IA 3 (nth xs242 7) (.int .i64 1) fun v309 =>
 LD true 3 v309 H305 fun v310 =>
 ST 3 (.ptr nx244 0) v310 H305 fun H311 =>
 FA 5 (nth xs242 0) fun v312 =>
 LDR false 1 v312 H311 fun v313 _ =>
 IA 3 (nth xs242 7) (.int .i64 0) fun v315 =>
 FA 1 v315 fun v316 =>
 LDR false 1 v316 H311 fun v317 _ =>
 LDR true 6 (.ptr nx244 0) H311 fun v319 _ =>
 IA 6 v313 v317 fun v321 =>
 zac 6 v321 v319 H311 fun _ _ fr324 D325 =>
 LD true 9 (nth xs242 0) (H311.apply D325) fun v326 =>
 LD true 4 (nth xs242 5) (H311.apply D325) fun v327 =>
 za Tryd.prog 42 [v326,v327] (H311.apply D325) (nx303+fr324.length) (zzf xs242 Q))
 (IA 3 (nth xs242 7) (.int .i64 1) fun v335 =>
 LD true 3 v335 H305 fun v336 =>
 ST 3 (.ptr nx244 3) v336 H305 fun H337 =>
 FA 5 (nth xs242 0) fun v338 =>
 LDR false 1 v338 H337 fun v339 _ =>
 IA 3 (nth xs242 7) (.int .i64 0) fun v341 =>
 FA 1 v341 fun v342 =>
 LDR false 1 v342 H337 fun v343 _ =>
 LDR true 6 (.ptr nx244 0) H337 fun v345 _ =>
 IA 6 v339 v343 fun v347 =>
 zac 6 v347 v345 H337 fun _ _ fr350 D351 =>
 LD true 9 (nth xs242 0) (H337.apply D351) fun v352 =>
 LD true 4 (nth xs242 5) (H337.apply D351) fun v353 =>
 za Tryd.prog 42 [v352,v353] (H337.apply D351) (nx303+fr350.length) (zze xs242 Q))))))
 (JN (zak Q) (zal xs242 H243 nx244))
def zz (v73:AV) (nx:Nat) (v53:AV) (H72:Heap) (nx71:Nat) (j245:J3):Prop :=
 BI .eql v73 (.int .i64 7) fun v734 =>
 CNDC v734
 (j245 [.ptr nx 0,.ptr (nx+1) 0,.ptr (nx+2) 0,.ptr (nx+3) 0,.clo 41 [.ptr nx 0],.ptr (nx+4) 0,.ptr (nx+5) 0,v53,.clo 43 [.ptr (nx+4) 0,.ptr nx 0],v73,.bool true] H72 nx71)
 (BI .eql v73 (.int .i64 8) fun v735 =>
 CNDC v735
 (j245 [.ptr nx 0,.ptr (nx+1) 0,.ptr (nx+2) 0,.ptr (nx+3) 0,.clo 41 [.ptr nx 0],.ptr (nx+4) 0,.ptr (nx+5) 0,v53,.clo 43 [.ptr (nx+4) 0,.ptr nx 0],v73,.bool true] H72 nx71)
 (BI .eql v73 (.int .i64 9) fun v736 =>
 CNDC v736
 (j245 [.ptr nx 0,.ptr (nx+1) 0,.ptr (nx+2) 0,.ptr (nx+3) 0,.clo 41 [.ptr nx 0],.ptr (nx+4) 0,.ptr (nx+5) 0,v53,.clo 43 [.ptr (nx+4) 0,.ptr nx 0],v73,.bool true] H72 nx71)
 (BI .eql v73 (.int .i64 10) fun v737 =>
 j245 [.ptr nx 0,.ptr (nx+1) 0,.ptr (nx+2) 0,.ptr (nx+3) 0,.clo 41 [.ptr nx 0],.ptr (nx+4) 0,.ptr (nx+5) 0,v53,.clo 43 [.ptr (nx+4) 0,.ptr nx 0],v73,v737] H72 nx71)))
def zi (nx:Nat) (Q:QT) (v53:AV) (v69:AV) (H70:Heap) (nx71:Nat):Prop :=
 ST 9 (.ptr nx 0) v69 H70 fun H72 =>
 LD false 1 (.ptr (nx+5) 0) H72 fun v73 =>
 BI .eql v73 (.int .i64 1) fun v74 =>
 CNDC v74
 (LD false 1 (.ptr (nx+5) 1) H72 fun v75 =>
 BD (zaa tab [(3,0),(3,1),(9,2)]) [.int .i64 0,.int .i64 0,.str []] [(1,v75)] fun v76 =>
 za Tryd.prog 43 [v76,.ptr (nx+4) 0,.ptr nx 0] H72 nx71 (zabb nx Q))
 (BI .eql v73 (.int .i64 2) fun v86 =>
 CNDC v86
 (LD false 1 (.ptr nx 3) H72 fun v87 =>
 LD false 1 (.ptr (nx+5) 1) H72 fun v88 =>
 IA 1 v87 v88 fun v89 =>
 LD false 1 v89 H72 fun v90 =>
 za Tryd.prog 44 [v90] H72 nx71 (zqb nx Q))
 (BI .eql v73 (.int .i64 3) fun v103 =>
 CNDC v103
 (LD false 1 (.ptr (nx+4) 2) H72 fun v104 =>
 LD false 1 (.ptr (nx+5) 1) H72 fun v105 =>
 IA 3 v104 v105 fun v106 =>
 LD true 3 v106 H72 fun v107 =>
 za Tryd.prog 43 [v107,.ptr (nx+4) 0,.ptr nx 0] H72 nx71 (zaaz nx Q))
 (BI .eql v73 (.int .i64 12) fun v117 =>
 CNDC v117
 (LD false 1 (.ptr (nx+1) 0) H72 fun v118 =>
 za Tryd.prog 44 [v118] H72 nx71 (zqa nx Q))
 (BI .eql v73 (.int .i64 4) fun v131 =>
 CNDC v131
 (LDR false 1 (.ptr (nx+4) 2) H72 fun v132 _ =>
 LDR false 1 (.ptr (nx+5) 1) H72 fun v134 _ =>
 IA 3 v53 (.int .i64 0) fun v136 =>
 LDR true 3 v136 H72 fun v137 _ =>
 IA 3 v132 v134 fun v139 =>
 zac 3 v139 v137 H72 fun _ _ fr142 D143 =>
 LD true 9 (.ptr nx 0) (H72.apply D143) fun v144 =>
 LD true 4 (.ptr (nx+4) 0) (H72.apply D143) fun v145 =>
 za Tryd.prog 42 [v144,v145] (H72.apply D143) (nx71+fr142.length) (zaax nx Q))
 (BI .eql v73 (.int .i64 5) fun v153 =>
 CNDC v153
 (LDR false 1 (.ptr (nx+5) 1) H72 fun v154 rd155 =>
 IA 3 v53 (.int .i64 0) fun v156 =>
 LDR true 3 v156 H72 fun v157 rd158 =>
 IA 3 v53 (.int .i64 1) fun v159 =>
 LDR true 3 v159 H72 fun v160 rd161 =>
 zo Tryd.prog (.clo 45 []) [v154,v157,v160] H72 nx71 (zih nx71 H72 rd155 rd158 rd161 nx Q))
 (BI .eql v73 (.int .i64 6) fun v192 =>
 CNDC v192
 (LD false 1 (.ptr nx 7) H72 fun v193 =>
 BI .lss v193 (.int .i64 1) fun v194 =>
 CNDC v194
 (za Tryd.prog 41 [.int .i64 13,.ptr nx 0] H72 nx71 (zzk nx Q))
 (LD false 1 (.ptr nx 7) H72 fun v204 =>
 BI .sub v204 (.int .i64 1) fun v205 =>
 ST 1 (.ptr nx 7) v205 H72 fun H206 =>
 LDR false 1 (.ptr nx 5) (H206.put nx71 (some (.row 6 []))) fun v207 rd208 =>
 zam 6 64 (.slc nx71 0 0) v207 (H206.put nx71 (some (.row 6 []))) (nx71+1) fun v209 rd210 fr211 D212 =>
 IA 3 v53 (.int .i64 0) fun v213 =>
 LDR true 3 v213 ((H206.put nx71 (some (.row 6 []))).apply D212) fun v214 rd215 =>
 IA 3 v53 (.int .i64 1) fun v216 =>
 LDR true 3 v216 ((H206.put nx71 (some (.row 6 []))).apply D212) fun v217 rd218 =>
 BD (zaa tab [(55,0),(55,3)]) [.int .i64 0,.int .i64 0,.str [],.int .i64 0,.int .i64 0,.str []] [(0,v214),(1,v217)] fun v219 =>
 BSL 1 6 [.int .i64 0,.int .i64 0,.str [],.int .i64 0,.int .i64 0,.str []] [(0,v219)] fun cells220 =>
 zam 6 64 v209 (.slc ((nx71+1)+fr211.length) 0 1) (((H206.put nx71 (some (.row 6 []))).apply D212).put (((nx71+1)+fr211.length)) (some (.row 6 cells220))) (((nx71+1)+fr211.length)+1) fun v221 _ fr223 D224 =>
 zac 1 (.ptr nx 5) v221 ((((H206.put nx71 (some (.row 6 []))).apply D212).put (((nx71+1)+fr211.length)) (some (.row 6 cells220))).apply D224) fun _ _ fr227 D228 =>
 nx71∉[] ∧
 nx71∉[] ∧
 nx71∉rd208 ∧
 nx71∉[] ∧
 nx71∉[] ∧
 nx71∉[] ∧
 zb (domD D212) [] (
 zb (domD D212) [] (
 nx71∉[] ∧
 nx71∉[] ∧
 zb (domD D212) [] (
 zb (domD D212) [] (
 nx71∉rd215 ∧
 nx71∉[] ∧
 zb (domD D212) rd215 (
 zb (domD D212) [] (
 nx71∉[] ∧
 nx71∉[] ∧
 zb (domD D212) [] (
 zb (domD D212) [] (
 nx71∉[] ∧
 nx71∉[] ∧
 zb (domD D212) [] (
 zb (domD D212) [] (
 nx71∉rd218 ∧
 nx71∉[] ∧
 zb (domD D212) rd218 (
 zb (domD D212) [] (
 nx71∉[] ∧
 nx71∉[] ∧
 zb (domD D212) [] (
 zb (domD D212) [] (
 nx71∉[] ∧
 nx71∉[((nx71+1)+fr211.length)] ∧
 ((nx71+1)+fr211.length)∉[] ∧
 ((nx71+1)+fr211.length)∉[] ∧
 ((nx71+1)+fr211.length)∉rd208 ∧
 zb (domD D212) [] (
 zb (domD D212) [((nx71+1)+fr211.length)] (
 ((nx71+1)+fr211.length)∉rd210 ∧
 LD false 1 (.ptr nx 5) (((((H206.put nx71 (some (.row 6 []))).apply D212).put (((nx71+1)+fr211.length)) (some (.row 6 cells220))).apply D224).apply D228) fun v229 =>
 LNL v229 fun v230 =>
 BI .sub v230 (.int .i64 1) fun v231 =>
 BD (zaa tab [(3,0),(3,1),(9,2)]) [.int .i64 0,.int .i64 0,.str []] [(0,.int .i64 2),(1,v231)] fun v232 =>
 za Tryd.prog 43 [v232,.ptr (nx+4) 0,.ptr nx 0] (((((H206.put nx71 (some (.row 6 []))).apply D212).put (((nx71+1)+fr211.length)) (some (.row 6 cells220))).apply D224).apply D228) (((((nx71+1)+fr211.length)+1)+fr223.length)+fr227.length) (zzj nx Q)))))))))))))))))))
 (JN (zy Q) (zz v73 nx v53 H72 nx71))))))))
def znz (nx:Nat) (Q:QT) (v43:AV) (H44:Heap) (nx45:Nat):Prop :=
 EX v43 0 fun v46 =>
 EX v43 1 fun _ =>
 LD false 1 (.ptr (nx+4) 3) H44 fun v48 =>
 LNL v48 fun v49 =>
 BI .sub v49 v46 fun v50 =>
 LD false 1 (.ptr (nx+4) 3) (H44.put nx45 (some (.row 3 []))) fun v51 =>
 SL 3 v51 (some v50) none (H44.put nx45 (some (.row 3 []))) fun v52 =>
 APP 3 32 (.slc nx45 0 0) v52 (H44.put nx45 (some (.row 3 []))) (nx45+1) fun v53 H54 nx55 =>
 LD false 1 (.ptr (nx+4) 3) (H54.put nx55 (some (.row 3 []))) fun v56 =>
 SL 3 v56 none (some v50) (H54.put nx55 (some (.row 3 []))) fun v57 =>
 APP 3 32 (.slc nx55 0 0) v57 (H54.put nx55 (some (.row 3 []))) (nx55+1) fun v58 H59 nx60 =>
 ST 1 (.ptr (nx+4) 3) v58 H59 fun H61 =>
 LD false 1 (.ptr (nx+4) 2) (H61.put nx60 (some (.row 3 []))) fun v62 =>
 APP 3 32 (.slc nx60 0 0) v62 (H61.put nx60 (some (.row 3 []))) (nx60+1) fun v63 H64 nx65 =>
 ST 1 (.ptr (nx+4) 2) v63 H64 fun H66 =>
 LD true 9 (.ptr nx 0) H66 fun v67 =>
 LD true 4 (.ptr (nx+4) 0) H66 fun v68 =>
 za Tryd.prog 42 [v67,v68] H66 nx65 (zi nx Q v53)
def zpy (a0 a1:AV) (H:Heap) (nx:Nat) (Q:QT):Prop :=
 a0.sure=true ∧
 a1.sure=true ∧
 LD false 1 (.ptr nx 6) ((((H.put nx (some (.row a0.cells.length a0.cells))).put ((nx+1)) (some (.row a1.cells.length a1.cells))).put ((nx+2)) (some (.row 9 [.int .i64 0,.int .i64 0,.nils,.nils,.nils,.nils,.int .i64 0,.int .i64 0,.int .i64 0]))).put ((nx+3)) (some (.row 3 [.int .i64 0,.str [],.int .i64 0]))) fun v1 =>
 BI .eql v1 (.int .i64 0) fun v2 =>
 CNDC v2
 (za Tryd.prog 41 [.int .i64 12,.ptr nx 0] ((((H.put nx (some (.row a0.cells.length a0.cells))).put ((nx+1)) (some (.row a1.cells.length a1.cells))).put ((nx+2)) (some (.row 9 [.int .i64 0,.int .i64 0,.nils,.nils,.nils,.nils,.int .i64 0,.int .i64 0,.int .i64 0]))).put ((nx+3)) (some (.row 3 [.int .i64 0,.str [],.int .i64 0]))) (nx+4) (zabc nx Q))
 (LD false 1 (.ptr nx 6) ((((H.put nx (some (.row a0.cells.length a0.cells))).put ((nx+1)) (some (.row a1.cells.length a1.cells))).put ((nx+2)) (some (.row 9 [.int .i64 0,.int .i64 0,.nils,.nils,.nils,.nils,.int .i64 0,.int .i64 0,.int .i64 0]))).put ((nx+3)) (some (.row 3 [.int .i64 0,.str [],.int .i64 0]))) fun v12 =>
 BI .sub v12 (.int .i64 1) fun v13 =>
 ST 1 (.ptr nx 6) v13 ((((H.put nx (some (.row a0.cells.length a0.cells))).put ((nx+1)) (some (.row a1.cells.length a1.cells))).put ((nx+2)) (some (.row 9 [.int .i64 0,.int .i64 0,.nils,.nils,.nils,.nils,.int .i64 0,.int .i64 0,.int .i64 0]))).put ((nx+3)) (some (.row 3 [.int .i64 0,.str [],.int .i64 0]))) fun H14 =>
 LD false 1 (.ptr nx 4) H14 fun v15 =>
 LD false 1 (.ptr nx 4) H14 fun v16 =>
 LNL v16 fun v17 =>
 BI .sub v17 (.int .i64 1) fun v18 =>
 IA 4 v15 v18 fun v19 =>
 LD true 4 v19 H14 fun v20 =>
 ST 4 (.ptr (nx+4) 0) v20 (H14.put ((nx+4)) (some (.row 4 [.int .i64 0,.int .i64 0,.nils,.nils]))) fun H21 =>
 LDR false 1 (.ptr nx 2) H21 fun v22 rd23 =>
 LDR false 1 (.ptr (nx+4) 0) H21 fun v24 rd25 =>
 IA 3 v22 v24 fun v26 =>
 FA 2 v26 fun v27 =>
 LDR false 1 v27 H21 fun v28 rd29 =>
 LDR false 1 (.ptr (nx+4) 1) H21 fun v30 rd31 =>
 IA 3 v28 v30 fun v32 =>
 LDR true 3 v32 H21 fun v33 rd34 =>
 zac 3 (.ptr (nx+5) 0) v33 (H21.put ((nx+5)) (some (.row 3 [.int .i64 0,.int .i64 0,.int .i64 0]))) fun _ _ fr37 D38 =>
 (nx+5)∉[] ∧
 (nx+5)∉[] ∧
 (nx+5)∉rd23 ∧
 (nx+5)∉[] ∧
 (nx+5)∉rd25 ∧
 (nx+5)∉[] ∧
 (nx+5)∉[] ∧
 (nx+5)∉rd29 ∧
 (nx+5)∉[] ∧
 (nx+5)∉rd31 ∧
 (nx+5)∉[] ∧
 (nx+5)∉rd34 ∧
 LD false 1 (.ptr (nx+4) 1) ((H21.put ((nx+5)) (some (.row 3 [.int .i64 0,.int .i64 0,.int .i64 0]))).apply D38) fun v39 =>
 BI .add v39 (.int .i64 1) fun v40 =>
 ST 1 (.ptr (nx+4) 1) v40 ((H21.put ((nx+5)) (some (.row 3 [.int .i64 0,.int .i64 0,.int .i64 0]))).apply D38) fun H41 =>
 LD true 3 (.ptr (nx+5) 0) H41 fun v42 =>
 za Tryd.prog 37 [v42] H41 ((nx+6)+fr37.length) (znz nx Q))
theorem zwk (a0 a1:AV) (H:Heap) (nx:Nat) (Q:QT):zpy a0 a1 H nx Q→za Tryd.prog 30 [a0,a1] H nx Q :=
  zd (lv:=lvOf [(2,64,[3,4,5,8,12,13,17,18]),(3,42,[2,3,4,5,6,7,8,12,13,94,218]),(3,57,[2,3,4,5,6,7,8,12,13,94,286])]) (c:=zn Tryd.f30) zw zx mixed Tryd.func30 (by kernel_rfl) (by kernel_rfl) (by kernel_rfl) (by kernel_rfl) (by kernel_rfl)
def zmq (nx:Nat) (Q:QT) (v20:AV) (H21:Heap) (nx22:Nat):Prop :=
 ST 9 (.ptr (nx+1) 0) v20 H21 fun H23 =>
 LD true 9 (.ptr (nx+1) 0) H23 fun v24 =>
 Q v24 H23 nx22
def zmp (a0 a1:AV) (H:Heap) (nx:Nat) (Q:QT):Prop :=
 a0.sure=true ∧
 LD false 1 (.ptr nx 4) ((H.put nx (some (.row a0.cells.length a0.cells))).put ((nx+1)) (some (.row 9 [.int .i64 0,.int .i64 0,.nils,.nils,.nils,.nils,.int .i64 0,.int .i64 0,.int .i64 0]))) fun v1 =>
 LD false 1 (.ptr nx 4) ((H.put nx (some (.row a0.cells.length a0.cells))).put ((nx+1)) (some (.row 9 [.int .i64 0,.int .i64 0,.nils,.nils,.nils,.nils,.int .i64 0,.int .i64 0,.int .i64 0]))) fun v2 =>
 LNL v2 fun v3 =>
 BI .sub v3 (.int .i64 1) fun v4 =>
 IA 4 v1 v4 fun v5 =>
 LD true 4 v5 ((H.put nx (some (.row a0.cells.length a0.cells))).put ((nx+1)) (some (.row 9 [.int .i64 0,.int .i64 0,.nils,.nils,.nils,.nils,.int .i64 0,.int .i64 0,.int .i64 0]))) fun v6 =>
 ST 4 (.ptr (nx+2) 0) v6 (((H.put nx (some (.row a0.cells.length a0.cells))).put ((nx+1)) (some (.row 9 [.int .i64 0,.int .i64 0,.nils,.nils,.nils,.nils,.int .i64 0,.int .i64 0,.int .i64 0]))).put ((nx+2)) (some (.row 4 [.int .i64 0,.int .i64 0,.nils,.nils]))) fun H7 =>
 LD false 1 (.ptr (nx+2) 3) (H7.put ((nx+3)) (some (.row 3 []))) fun v8 =>
 APP 3 32 (.slc (nx+3) 0 0) v8 (H7.put ((nx+3)) (some (.row 3 []))) (nx+4) fun v9 H10 nx11 =>
 BD (zaa tab [(3,0),(3,1),(9,2)]) [.int .i64 0,.int .i64 0,.str []] [(1,a1)] fun v12 =>
 BSL 1 3 [.int .i64 0,.int .i64 0,.str []] [(0,v12)] fun cells13 =>
 APP 3 32 v9 (.slc nx11 0 1) (H10.put nx11 (some (.row 3 cells13))) (nx11+1) fun v14 H15 nx16 =>
 ST 1 (.ptr (nx+2) 3) v14 H15 fun H17 =>
 LD true 9 (.ptr nx 0) H17 fun v18 =>
 LD true 4 (.ptr (nx+2) 0) H17 fun v19 =>
 za Tryd.prog 42 [v18,v19] H17 nx16 (zmq nx Q)
theorem ztg (a0 a1:AV) (H:Heap) (nx:Nat) (Q:QT):zmp a0 a1 H nx Q→za Tryd.prog 31 [a0,a1] H nx Q :=
  zd (lv:=lvOf []) (c:=zn Tryd.f31) zw zx mixed Tryd.func31 (by kernel_rfl) (by kernel_rfl) (by kernel_rfl) (by kernel_rfl) (by kernel_rfl)
def zsb (a0 a1 a2:AV) (H:Heap) (nx:Nat) (Q:QT):Prop :=
 a1.sure=true ∧
 a2.sure=true ∧
 LDR true 2 (.ptr nx 0) (((H.put nx (some (.row a1.cells.length a1.cells))).put ((nx+1)) (some (.row a2.cells.length a2.cells))).put ((nx+2)) (some (.row 9 [.int .i64 0,.int .i64 0,.nils,.nils,.nils,.nils,.int .i64 0,.int .i64 0,.int .i64 0]))) fun v1 rd2 =>
 LDR true 3 (.ptr (nx+1) 0) (((H.put nx (some (.row a1.cells.length a1.cells))).put ((nx+1)) (some (.row a2.cells.length a2.cells))).put ((nx+2)) (some (.row 9 [.int .i64 0,.int .i64 0,.nils,.nils,.nils,.nils,.int .i64 0,.int .i64 0,.int .i64 0]))) fun v3 rd4 =>
 LDR false 1 (.ptr nx 0) (((H.put nx (some (.row a1.cells.length a1.cells))).put ((nx+1)) (some (.row a2.cells.length a2.cells))).put ((nx+2)) (some (.row 9 [.int .i64 0,.int .i64 0,.nils,.nils,.nils,.nils,.int .i64 0,.int .i64 0,.int .i64 0]))) fun v5 _ =>
 IA 3 v5 (.int .i64 0) fun v7 =>
 FA 1 v7 fun v8 =>
 LDR false 1 v8 (((H.put nx (some (.row a1.cells.length a1.cells))).put ((nx+1)) (some (.row a2.cells.length a2.cells))).put ((nx+2)) (some (.row 9 [.int .i64 0,.int .i64 0,.nils,.nils,.nils,.nils,.int .i64 0,.int .i64 0,.int .i64 0]))) fun v9 _ =>
 MK 32 v9 v9 fun n11 =>
 BD (zaa tab [(3,0),(3,1),(26,2),(29,4),(30,5),(28,6)]) [.int .i64 0,.int .i64 0,.nils,.nils,.nils,.nils,.int .i64 0,.int .i64 0,.int .i64 0] [(0,a0),(2,v1),(5,v3),(3,.slc (nx+4) 0 1)] fun v12 =>
 zac 9 (.ptr (nx+2) 0) v12 (((((H.put nx (some (.row a1.cells.length a1.cells))).put ((nx+1)) (some (.row a2.cells.length a2.cells))).put ((nx+2)) (some (.row 9 [.int .i64 0,.int .i64 0,.nils,.nils,.nils,.nils,.int .i64 0,.int .i64 0,.int .i64 0]))).put ((nx+3)) (some (.row 3 (List.replicate n11 [.int .i64 0,.int .i64 0,.str []]).flatten))).put ((nx+4)) (some (.row 4 [.int .i64 0,.int .i64 0,.slc (nx+3) 0 n11,.nils]))) fun _ _ fr15 D16 =>
 (nx+3)∉[] ∧
 (nx+3)∉rd2 ∧
 (nx+3)∉rd4 ∧
 (nx+4)∉[] ∧
 (nx+4)∉rd2 ∧
 (nx+4)∉rd4 ∧
 LD true 9 (.ptr (nx+2) 0) ((((((H.put nx (some (.row a1.cells.length a1.cells))).put ((nx+1)) (some (.row a2.cells.length a2.cells))).put ((nx+2)) (some (.row 9 [.int .i64 0,.int .i64 0,.nils,.nils,.nils,.nils,.int .i64 0,.int .i64 0,.int .i64 0]))).put ((nx+3)) (some (.row 3 (List.replicate n11 [.int .i64 0,.int .i64 0,.str []]).flatten))).put ((nx+4)) (some (.row 4 [.int .i64 0,.int .i64 0,.slc (nx+3) 0 n11,.nils]))).apply D16) fun v17 =>
 Q v17 ((((((H.put nx (some (.row a1.cells.length a1.cells))).put ((nx+1)) (some (.row a2.cells.length a2.cells))).put ((nx+2)) (some (.row 9 [.int .i64 0,.int .i64 0,.nils,.nils,.nils,.nils,.int .i64 0,.int .i64 0,.int .i64 0]))).put ((nx+3)) (some (.row 3 (List.replicate n11 [.int .i64 0,.int .i64 0,.str []]).flatten))).put ((nx+4)) (some (.row 4 [.int .i64 0,.int .i64 0,.slc (nx+3) 0 n11,.nils]))).apply D16) ((nx+5)+fr15.length)
theorem zxx (a0 a1 a2:AV) (H:Heap) (nx:Nat) (Q:QT):zsb a0 a1 a2 H nx Q→za Tryd.prog 29 [a0,a1,a2] H nx Q :=
  zd (lv:=lvOf []) (c:=zn Tryd.f29) zw zx mixed Tryd.func29 (by kernel_rfl) (by kernel_rfl) (by kernel_rfl) (by kernel_rfl) (by kernel_rfl)
def zdx (Q:QT) (K34:J3) (xs35:List AV) (H36:Heap) (nx37:Nat):Prop :=
 BI .lss (nth xs35 7) (nth xs35 6) fun v38 =>
 CNDC v38
 (IA 4 (nth xs35 5) (nth xs35 7) fun v39 =>
 LD true 4 v39 H36 fun v40 =>
 ST 4 (.ptr nx37 0) v40 (H36.put nx37 (some (.row 4 [.int .i64 0,.int .i64 0,.nils,.nils]))) fun H41 =>
 LDR false 1 (.ptr nx37 2) H41 fun v42 _ =>
 LNL v42 fun v44 =>
 LDR false 1 (.ptr nx37 3) H41 fun v45 _ =>
 LNL v45 fun v47 =>
 zbc 3 (nth xs35 2) none (some v44) (H41.put ((nx37+1)) (some (.row 3 []))) fun v48 rd49 fr50 D51 =>
 zam 3 32 (.slc (nx37+1) 0 0) v48 ((H41.put ((nx37+1)) (some (.row 3 []))).apply D51) ((nx37+2)+fr50.length) fun v52 rd53 fr54 D55 =>
 BI .add v44 v47 fun v56 =>
 zbc 3 (nth xs35 2) (some v44) (some v56) ((((H41.put ((nx37+1)) (some (.row 3 []))).apply D51).apply D55).put ((((nx37+2)+fr50.length)+fr54.length)) (some (.row 3 []))) fun v57 rd58 fr59 D60 =>
 zam 3 32 (.slc (((nx37+2)+fr50.length)+fr54.length) 0 0) v57 (((((H41.put ((nx37+1)) (some (.row 3 []))).apply D51).apply D55).put ((((nx37+2)+fr50.length)+fr54.length)) (some (.row 3 []))).apply D60) (((((nx37+2)+fr50.length)+fr54.length)+1)+fr59.length) fun v61 _ fr63 D64 =>
 zac 1 (.ptr nx37 2) v52 ((((((H41.put ((nx37+1)) (some (.row 3 []))).apply D51).apply D55).put ((((nx37+2)+fr50.length)+fr54.length)) (some (.row 3 []))).apply D60).apply D64) fun _ _ fr67 D68 =>
 zac 1 (.ptr nx37 3) v61 (((((((H41.put ((nx37+1)) (some (.row 3 []))).apply D51).apply D55).put ((((nx37+2)+fr50.length)+fr54.length)) (some (.row 3 []))).apply D60).apply D64).apply D68) fun _ _ fr71 D72 =>
 (nx37+1)∉[] ∧
 (nx37+1)∉[] ∧
 (nx37+1)∉[] ∧
 (nx37+1)∉[] ∧
 (nx37+1)∉rd49 ∧
 (nx37+1)∉(domD D51) ∧
 zb (domD D51) [] (
 (nx37+1)∉[] ∧
 (nx37+1)∉[(((nx37+2)+fr50.length)+fr54.length)] ∧
 (((nx37+2)+fr50.length)+fr54.length)∉[] ∧
 (((nx37+2)+fr50.length)+fr54.length)∉[] ∧
 (((nx37+2)+fr50.length)+fr54.length)∉[] ∧
 zb (domD D51) [] (
 zb (domD D51) [(((nx37+2)+fr50.length)+fr54.length)] (
 (((nx37+2)+fr50.length)+fr54.length)∉rd49 ∧
 zb (domD D55) [] (
 zb (domD D55) [(((nx37+2)+fr50.length)+fr54.length)] (
 (((nx37+2)+fr50.length)+fr54.length)∉rd53 ∧
 (nx37+1)∉[] ∧
 (nx37+1)∉[] ∧
 zb (domD D55) [] (
 zb (domD D55) [] (
 (((nx37+2)+fr50.length)+fr54.length)∉[] ∧
 (((nx37+2)+fr50.length)+fr54.length)∉[] ∧
 (nx37+1)∉[] ∧
 (nx37+1)∉[] ∧
 zb (domD D55) [] (
 zb (domD D55) [] (
 (((nx37+2)+fr50.length)+fr54.length)∉[] ∧
 (((nx37+2)+fr50.length)+fr54.length)∉[] ∧
 (nx37+1)∉[] ∧
 (nx37+1)∉[] ∧
 zb (domD D55) [] (
 zb (domD D55) [] (
 (((nx37+2)+fr50.length)+fr54.length)∉[] ∧
 (((nx37+2)+fr50.length)+fr54.length)∉[] ∧
 (nx37+1)∉[] ∧
 (nx37+1)∉[] ∧
 zb (domD D55) [] (
 zb (domD D55) [] (
 (((nx37+2)+fr50.length)+fr54.length)∉[] ∧
 (((nx37+2)+fr50.length)+fr54.length)∉[] ∧
 (nx37+1)∉[] ∧
 (nx37+1)∉[] ∧
 zb (domD D55) [] (
 zb (domD D55) [] (
 (((nx37+2)+fr50.length)+fr54.length)∉[] ∧
 (((nx37+2)+fr50.length)+fr54.length)∉[] ∧
 (nx37+1)∉rd58 ∧
 (nx37+1)∉(domD D60) ∧
 zb (domD D60) [] (
 zb (domD D55) rd58 (
 zb (domD D55) (domD D60) (
 zb (domD D60) rd53 (
 (((nx37+2)+fr50.length)+fr54.length)∉rd58 ∧
 (((nx37+2)+fr50.length)+fr54.length)∉(domD D60) ∧
 zb (domD D60) [] (
 (((nx37+2)+fr50.length)+fr54.length)∉[] ∧
 (((nx37+2)+fr50.length)+fr54.length)∉[] ∧
 zb (domD D64) [] (
 zb (domD D64) [] (
 BI .add v44 v47 fun v73 =>
 SL 3 (nth xs35 2) (some v73) none ((((((((H41.put ((nx37+1)) (some (.row 3 []))).apply D51).apply D55).put ((((nx37+2)+fr50.length)+fr54.length)) (some (.row 3 []))).apply D60).apply D64).apply D68).apply D72) fun v74 =>
 LD true 4 (.ptr nx37 0) ((((((((H41.put ((nx37+1)) (some (.row 3 []))).apply D51).apply D55).put ((((nx37+2)+fr50.length)+fr54.length)) (some (.row 3 []))).apply D60).apply D64).apply D68).apply D72) fun v75 =>
 BSL 1 4 [.int .i64 0,.int .i64 0,.nils,.nils] [(0,v75)] fun cells76 =>
 APP 4 64 (nth xs35 4) (.slc ((((((((nx37+2)+fr50.length)+fr54.length)+1)+fr59.length)+fr63.length)+fr67.length)+fr71.length) 0 1) (((((((((H41.put ((nx37+1)) (some (.row 3 []))).apply D51).apply D55).put ((((nx37+2)+fr50.length)+fr54.length)) (some (.row 3 []))).apply D60).apply D64).apply D68).apply D72).put (((((((((nx37+2)+fr50.length)+fr54.length)+1)+fr59.length)+fr63.length)+fr67.length)+fr71.length)) (some (.row 4 cells76))) (((((((((nx37+2)+fr50.length)+fr54.length)+1)+fr59.length)+fr63.length)+fr67.length)+fr71.length)+1) fun v77 H78 nx79 =>
 BI .add (nth xs35 7) (.int .i64 1) fun v80 =>
 K34 [nth xs35 0,nth xs35 1,v74,nth xs35 3,v77,nth xs35 5,nth xs35 6,v80] H78 nx79)))))))))))))))))))))))
 (FA 4 (nth xs35 0) fun v81 =>
 ST 1 v81 (nth xs35 4) H36 fun H82 =>
 FA 5 (nth xs35 0) fun v83 =>
 ST 1 v83 (nth xs35 3) H82 fun H84 =>
 LD true 9 (nth xs35 0) H84 fun v85 =>
 ST 9 (nth xs35 1) v85 H84 fun H86 =>
 LD true 9 (nth xs35 1) H86 fun v87 =>
 Q v87 H86 nx37)
def zjr (xs4:List AV) (Q:QT) (v26:AV) (H27:Heap) (nx28:Nat):Prop :=
 EX v26 0 fun v29 =>
 EX v26 1 fun v30 =>
 FA 4 (nth xs4 0) fun v31 =>
 LD false 1 v31 H27 fun v32 =>
 LNL v32 fun v33 =>
 LP (zdx Q) [nth xs4 0,nth xs4 1,v29,v30,.nils,v32,v33,.int .i64 0] H27 nx28
def zdw (Q:QT) (K3:J3) (xs4:List AV) (H5:Heap) (nx6:Nat):Prop :=
 BI .lss (nth xs4 5) (nth xs4 4) fun v7 =>
 CNDC v7
 (IA 4 (nth xs4 3) (nth xs4 5) fun v8 =>
 LD true 4 v8 H5 fun v9 =>
 ST 4 (.ptr nx6 0) v9 (H5.put nx6 (some (.row 4 [.int .i64 0,.int .i64 0,.nils,.nils]))) fun H10 =>
 LDR false 1 (.ptr nx6 2) H10 fun v11 _ =>
 zam 3 32 (nth xs4 2) v11 H10 (nx6+1) fun v13 _ fr15 D16 =>
 LDR false 1 (.ptr nx6 3) (H10.apply D16) fun v17 rd18 =>
 zam 3 32 v13 v17 (H10.apply D16) ((nx6+1)+fr15.length) fun v19 _ fr21 D22 =>
 zb (domD D16) [] (
 zb (domD D16) [] (
 zb (domD D16) rd18 (
 zb (domD D16) [] (
 BI .add (nth xs4 5) (.int .i64 1) fun v23 =>
 K3 [nth xs4 0,nth xs4 1,v19,nth xs4 3,nth xs4 4,v23] ((H10.apply D16).apply D22) (((nx6+1)+fr15.length)+fr21.length))))))
 (FA 5 (nth xs4 0) fun v24 =>
 LD false 1 v24 H5 fun v25 =>
 za Tryd.prog 48 [v25,nth xs4 2] H5 nx6 (zjr xs4 Q))
def zqc (a0:AV) (H:Heap) (nx:Nat) (Q:QT):Prop :=
 a0.sure=true ∧
 LD false 1 (.ptr nx 4) ((H.put nx (some (.row a0.cells.length a0.cells))).put ((nx+1)) (some (.row 9 [.int .i64 0,.int .i64 0,.nils,.nils,.nils,.nils,.int .i64 0,.int .i64 0,.int .i64 0]))) fun v1 =>
 LNL v1 fun v2 =>
 LP (zdw Q) [.ptr nx 0,.ptr (nx+1) 0,.nils,v1,v2,.int .i64 0] ((H.put nx (some (.row a0.cells.length a0.cells))).put ((nx+1)) (some (.row 9 [.int .i64 0,.int .i64 0,.nils,.nils,.nils,.nils,.int .i64 0,.int .i64 0,.int .i64 0]))) (nx+2)
theorem zwl (a0:AV) (H:Heap) (nx:Nat) (Q:QT):zqc a0 H nx Q→za Tryd.prog 33 [a0] H nx Q :=
  zd (lv:=lvOf [(2,3,[1,2,3,14,15,16]),(2,10,[1,2,6,7,8,36,37,38])]) (c:=zn Tryd.f33) zw zx mixed Tryd.func33 (by kernel_rfl) (by kernel_rfl) (by kernel_rfl) (by kernel_rfl) (by kernel_rfl)
def zqe (Q:QT) (K2:J3) (xs3:List AV) (H4:Heap) (nx5:Nat):Prop :=
 BI .lss (nth xs3 2) (nth xs3 1) fun v6 =>
 CNDC v6
 (IX (nth xs3 0) (nth xs3 2) fun v7 =>
 BI .lss v7 (.int .u8 32) fun v8 =>
 CND v8
 (Q (.bool false) H4 nx5)
 (IX (nth xs3 0) (nth xs3 2) fun v9 =>
 BI .gtr v9 (.int .u8 126) fun v10 =>
 CND v10
 (Q (.bool false) H4 nx5)
 (IX (nth xs3 0) (nth xs3 2) fun v11 =>
 BI .eql v11 (.int .u8 39) fun v12 =>
 CNDC v12
 (Q (.bool false) H4 nx5)
 (BI .add (nth xs3 2) (.int .i64 1) fun v13 =>
 K2 [nth xs3 0,nth xs3 1,v13] H4 nx5))))
 (LNS (nth xs3 0) fun v14 =>
 BI .lss v14 (.int .i64 13) fun v15 =>
 Q v15 H4 nx5)
def zqd (a0:AV) (H:Heap) (nx:Nat) (Q:QT):Prop :=
 LNS a0 fun v1 =>
 LP (zqe Q) [a0,v1,.int .i64 0] H nx
theorem zwn (a0:AV) (H:Heap) (nx:Nat) (Q:QT):zqd a0 H nx Q→za Tryd.prog 24 [a0] H nx Q :=
  zd (lv:=lvOf [(2,2,[0,5,6])]) (c:=zn Tryd.f24) zw zx mixed Tryd.func24 (by kernel_rfl) (by kernel_rfl) (by kernel_rfl) (by kernel_rfl) (by kernel_rfl)
def zwm (v23:AV) (Q:QT) (nx16:Nat) (v20:AV) (xs14:List AV) (K13:J3) (v46:AV) (H47:Heap) (nx48:Nat):Prop :=
 EX v46 0 fun v49 =>
 EX v46 1 fun v50 =>
 BI .lss v23 v49 fun v51 =>
 CND v51
 (Q (.tup [.nils,.int .i64 10]) H47 nx48)
 (LD false 1 (.ptr nx16 0) H47 fun v52 =>
 BI .eql v52 (.int .i64 18) fun v53 =>
 CND v53
 (BI .gtr v23 (.int .i64 1) fun v54 =>
 CNDC v54
 (Q (.tup [.nils,.int .i64 10]) H47 nx48)
 (BI .sub v23 v49 fun v55 =>
 BI .add v55 v50 fun v56 =>
 BI .gtr v56 (.int .i64 16) fun v57 =>
 CNDC v57
 (Q (.tup [.nils,.int .i64 4]) H47 nx48)
 (LD false 1 (.ptr nx16 0) H47 fun v58 =>
 BI .neq v58 (.int .i64 15) fun v59 =>
 CND v59
 (LD false 1 (.ptr nx16 0) H47 fun v60 =>
 BI .neq v60 (.int .i64 18) fun v61 =>
 CNDC v61
 (BI .add v20 (.int .i64 1) fun v62 =>
 BSL 1 1 [.int .i64 0] [(0,v62)] fun cells63 =>
 APP 1 8 (nth xs14 2) (.slc nx48 0 1) (H47.put nx48 (some (.row 1 cells63))) (nx48+1) fun v64 H65 nx66 =>
 BSL 1 1 [.int .i64 0] [(0,v56)] fun cells67 =>
 APP 1 8 (nth xs14 3) (.slc nx66 0 1) (H65.put nx66 (some (.row 1 cells67))) (nx66+1) fun v68 H69 nx70 =>
 LD false 1 (.ptr nx16 0) H69 fun v71 =>
 BI .eql v71 (.int .i64 15) fun v72 =>
 CND v72
 (LD false 1 (.ptr nx16 1) H69 fun v73 =>
 BSL 1 1 [.int .i64 0] [(0,v73)] fun cells74 =>
 APP 1 8 v64 (.slc nx70 0 1) (H69.put nx70 (some (.row 1 cells74))) (nx70+1) fun v75 H76 nx77 =>
 BSL 1 1 [.int .i64 0] [(0,v56)] fun cells78 =>
 APP 1 8 v68 (.slc nx77 0 1) (H76.put nx77 (some (.row 1 cells78))) (nx77+1) fun v79 H80 nx81 =>
 BI .add (nth xs14 4) (.int .i64 1) fun v82 =>
 K13 [nth xs14 0,nth xs14 1,v75,v79,v82] H80 nx81)
 (LD false 1 (.ptr nx16 0) H69 fun v83 =>
 BI .eql v83 (.int .i64 16) fun v84 =>
 CNDC v84
 (LD false 1 (.ptr nx16 1) H69 fun v85 =>
 BSL 1 1 [.int .i64 0] [(0,v85)] fun cells86 =>
 APP 1 8 v64 (.slc nx70 0 1) (H69.put nx70 (some (.row 1 cells86))) (nx70+1) fun v87 H88 nx89 =>
 BSL 1 1 [.int .i64 0] [(0,v56)] fun cells90 =>
 APP 1 8 v68 (.slc nx89 0 1) (H88.put nx89 (some (.row 1 cells90))) (nx89+1) fun v91 H92 nx93 =>
 BI .add (nth xs14 4) (.int .i64 1) fun v94 =>
 K13 [nth xs14 0,nth xs14 1,v87,v91,v94] H92 nx93)
 (BI .add (nth xs14 4) (.int .i64 1) fun v95 =>
 K13 [nth xs14 0,nth xs14 1,v64,v68,v95] H69 nx70)))
 (LD false 1 (.ptr nx16 0) H47 fun v96 =>
 BI .eql v96 (.int .i64 15) fun v97 =>
 CND v97
 (LD false 1 (.ptr nx16 1) H47 fun v98 =>
 BSL 1 1 [.int .i64 0] [(0,v98)] fun cells99 =>
 APP 1 8 (nth xs14 2) (.slc nx48 0 1) (H47.put nx48 (some (.row 1 cells99))) (nx48+1) fun v100 H101 nx102 =>
 BSL 1 1 [.int .i64 0] [(0,v56)] fun cells103 =>
 APP 1 8 (nth xs14 3) (.slc nx102 0 1) (H101.put nx102 (some (.row 1 cells103))) (nx102+1) fun v104 H105 nx106 =>
 BI .add (nth xs14 4) (.int .i64 1) fun v107 =>
 K13 [nth xs14 0,nth xs14 1,v100,v104,v107] H105 nx106)
 (LD false 1 (.ptr nx16 0) H47 fun v108 =>
 BI .eql v108 (.int .i64 16) fun v109 =>
 CNDC v109
 (LD false 1 (.ptr nx16 1) H47 fun v110 =>
 BSL 1 1 [.int .i64 0] [(0,v110)] fun cells111 =>
 APP 1 8 (nth xs14 2) (.slc nx48 0 1) (H47.put nx48 (some (.row 1 cells111))) (nx48+1) fun v112 H113 nx114 =>
 BSL 1 1 [.int .i64 0] [(0,v56)] fun cells115 =>
 APP 1 8 (nth xs14 3) (.slc nx114 0 1) (H113.put nx114 (some (.row 1 cells115))) (nx114+1) fun v116 H117 nx118 =>
 BI .add (nth xs14 4) (.int .i64 1) fun v119 =>
 K13 [nth xs14 0,nth xs14 1,v112,v116,v119] H117 nx118)
 (BI .add (nth xs14 4) (.int .i64 1) fun v120 =>
 K13 [nth xs14 0,nth xs14 1,nth xs14 2,nth xs14 3,v120] H47 nx48))))
 (LD false 1 (.ptr nx16 0) H47 fun v121 =>
 BI .eql v121 (.int .i64 15) fun v122 =>
 CND v122
 (LD false 1 (.ptr nx16 1) H47 fun v123 =>
 BSL 1 1 [.int .i64 0] [(0,v123)] fun cells124 =>
 APP 1 8 (nth xs14 2) (.slc nx48 0 1) (H47.put nx48 (some (.row 1 cells124))) (nx48+1) fun v125 H126 nx127 =>
 BSL 1 1 [.int .i64 0] [(0,v56)] fun cells128 =>
 APP 1 8 (nth xs14 3) (.slc nx127 0 1) (H126.put nx127 (some (.row 1 cells128))) (nx127+1) fun v129 H130 nx131 =>
 BI .add (nth xs14 4) (.int .i64 1) fun v132 =>
 K13 [nth xs14 0,nth xs14 1,v125,v129,v132] H130 nx131)
 (LD false 1 (.ptr nx16 0) H47 fun v133 =>
 BI .eql v133 (.int .i64 16) fun v134 =>
 CNDC v134
 (LD false 1 (.ptr nx16 1) H47 fun v135 =>
 BSL 1 1 [.int .i64 0] [(0,v135)] fun cells136 =>
 APP 1 8 (nth xs14 2) (.slc nx48 0 1) (H47.put nx48 (some (.row 1 cells136))) (nx48+1) fun v137 H138 nx139 =>
 BSL 1 1 [.int .i64 0] [(0,v56)] fun cells140 =>
 APP 1 8 (nth xs14 3) (.slc nx139 0 1) (H138.put nx139 (some (.row 1 cells140))) (nx139+1) fun v141 H142 nx143 =>
 BI .add (nth xs14 4) (.int .i64 1) fun v144 =>
 K13 [nth xs14 0,nth xs14 1,v137,v141,v144] H142 nx143)
 (BI .add (nth xs14 4) (.int .i64 1) fun v145 =>
 K13 [nth xs14 0,nth xs14 1,nth xs14 2,nth xs14 3,v145] H47 nx48))))))
 (BI .sub v23 v49 fun v146 =>
 BI .add v146 v50 fun v147 =>
 BI .gtr v147 (.int .i64 16) fun v148 =>
 CNDC v148
 (Q (.tup [.nils,.int .i64 4]) H47 nx48)
 (LD false 1 (.ptr nx16 0) H47 fun v149 =>
 BI .neq v149 (.int .i64 15) fun v150 =>
 CND v150
 (LD false 1 (.ptr nx16 0) H47 fun v151 =>
 BI .neq v151 (.int .i64 18) fun v152 =>
 CNDC v152
 (BI .add v20 (.int .i64 1) fun v153 =>
 BSL 1 1 [.int .i64 0] [(0,v153)] fun cells154 =>
 APP 1 8 (nth xs14 2) (.slc nx48 0 1) (H47.put nx48 (some (.row 1 cells154))) (nx48+1) fun v155 H156 nx157 =>
 BSL 1 1 [.int .i64 0] [(0,v147)] fun cells158 =>
 APP 1 8 (nth xs14 3) (.slc nx157 0 1) (H156.put nx157 (some (.row 1 cells158))) (nx157+1) fun v159 H160 nx161 =>
 LD false 1 (.ptr nx16 0) H160 fun v162 =>
 BI .eql v162 (.int .i64 15) fun v163 =>
 CND v163
 (LD false 1 (.ptr nx16 1) H160 fun v164 =>
 BSL 1 1 [.int .i64 0] [(0,v164)] fun cells165 =>
 APP 1 8 v155 (.slc nx161 0 1) (H160.put nx161 (some (.row 1 cells165))) (nx161+1) fun v166 H167 nx168 =>
 BSL 1 1 [.int .i64 0] [(0,v147)] fun cells169 =>
 APP 1 8 v159 (.slc nx168 0 1) (H167.put nx168 (some (.row 1 cells169))) (nx168+1) fun v170 H171 nx172 =>
 BI .add (nth xs14 4) (.int .i64 1) fun v173 =>
 K13 [nth xs14 0,nth xs14 1,v166,v170,v173] H171 nx172)
 (LD false 1 (.ptr nx16 0) H160 fun v174 =>
 BI .eql v174 (.int .i64 16) fun v175 =>
 CNDC v175
 (LD false 1 (.ptr nx16 1) H160 fun v176 =>
 BSL 1 1 [.int .i64 0] [(0,v176)] fun cells177 =>
 APP 1 8 v155 (.slc nx161 0 1) (H160.put nx161 (some (.row 1 cells177))) (nx161+1) fun v178 H179 nx180 =>
 BSL 1 1 [.int .i64 0] [(0,v147)] fun cells181 =>
 APP 1 8 v159 (.slc nx180 0 1) (H179.put nx180 (some (.row 1 cells181))) (nx180+1) fun v182 H183 nx184 =>
 BI .add (nth xs14 4) (.int .i64 1) fun v185 =>
 K13 [nth xs14 0,nth xs14 1,v178,v182,v185] H183 nx184)
 (BI .add (nth xs14 4) (.int .i64 1) fun v186 =>
 K13 [nth xs14 0,nth xs14 1,v155,v159,v186] H160 nx161)))
 (LD false 1 (.ptr nx16 0) H47 fun v187 =>
 BI .eql v187 (.int .i64 15) fun v188 =>
 CND v188
 (LD false 1 (.ptr nx16 1) H47 fun v189 =>
 BSL 1 1 [.int .i64 0] [(0,v189)] fun cells190 =>
 APP 1 8 (nth xs14 2) (.slc nx48 0 1) (H47.put nx48 (some (.row 1 cells190))) (nx48+1) fun v191 H192 nx193 =>
 BSL 1 1 [.int .i64 0] [(0,v147)] fun cells194 =>
 APP 1 8 (nth xs14 3) (.slc nx193 0 1) (H192.put nx193 (some (.row 1 cells194))) (nx193+1) fun v195 H196 nx197 =>
 BI .add (nth xs14 4) (.int .i64 1) fun v198 =>
 K13 [nth xs14 0,nth xs14 1,v191,v195,v198] H196 nx197)
 (LD false 1 (.ptr nx16 0) H47 fun v199 =>
 BI .eql v199 (.int .i64 16) fun v200 =>
 CNDC v200
 (LD false 1 (.ptr nx16 1) H47 fun v201 =>
 BSL 1 1 [.int .i64 0] [(0,v201)] fun cells202 =>
 APP 1 8 (nth xs14 2) (.slc nx48 0 1) (H47.put nx48 (some (.row 1 cells202))) (nx48+1) fun v203 H204 nx205 =>
 BSL 1 1 [.int .i64 0] [(0,v147)] fun cells206 =>
 APP 1 8 (nth xs14 3) (.slc nx205 0 1) (H204.put nx205 (some (.row 1 cells206))) (nx205+1) fun v207 H208 nx209 =>
 BI .add (nth xs14 4) (.int .i64 1) fun v210 =>
 K13 [nth xs14 0,nth xs14 1,v203,v207,v210] H208 nx209)
 (BI .add (nth xs14 4) (.int .i64 1) fun v211 =>
 K13 [nth xs14 0,nth xs14 1,nth xs14 2,nth xs14 3,v211] H47 nx48))))
 (LD false 1 (.ptr nx16 0) H47 fun v212 =>
 BI .eql v212 (.int .i64 15) fun v213 =>
 CND v213
 (LD false 1 (.ptr nx16 1) H47 fun v214 =>
 BSL 1 1 [.int .i64 0] [(0,v214)] fun cells215 =>
 APP 1 8 (nth xs14 2) (.slc nx48 0 1) (H47.put nx48 (some (.row 1 cells215))) (nx48+1) fun v216 H217 nx218 =>
 BSL 1 1 [.int .i64 0] [(0,v147)] fun cells219 =>
 APP 1 8 (nth xs14 3) (.slc nx218 0 1) (H217.put nx218 (some (.row 1 cells219))) (nx218+1) fun v220 H221 nx222 =>
 BI .add (nth xs14 4) (.int .i64 1) fun v223 =>
 K13 [nth xs14 0,nth xs14 1,v216,v220,v223] H221 nx222)
 (LD false 1 (.ptr nx16 0) H47 fun v224 =>
 BI .eql v224 (.int .i64 16) fun v225 =>
 CNDC v225
 (LD false 1 (.ptr nx16 1) H47 fun v226 =>
 BSL 1 1 [.int .i64 0] [(0,v226)] fun cells227 =>
 APP 1 8 (nth xs14 2) (.slc nx48 0 1) (H47.put nx48 (some (.row 1 cells227))) (nx48+1) fun v228 H229 nx230 =>
 BSL 1 1 [.int .i64 0] [(0,v147)] fun cells231 =>
 APP 1 8 (nth xs14 3) (.slc nx230 0 1) (H229.put nx230 (some (.row 1 cells231))) (nx230+1) fun v232 H233 nx234 =>
 BI .add (nth xs14 4) (.int .i64 1) fun v235 =>
 K13 [nth xs14 0,nth xs14 1,v228,v232,v235] H233 nx234)
 (BI .add (nth xs14 4) (.int .i64 1) fun v236 =>
 K13 [nth xs14 0,nth xs14 1,nth xs14 2,nth xs14 3,v236] H47 nx48))))))
def zas (v23:AV) (Q:QT) (nx16:Nat) (v20:AV) (xs14:List AV) (K13:J3) (v249:AV) (H250:Heap) (nx251:Nat):Prop :=
 EX v249 0 fun v252 =>
 EX v249 1 fun v253 =>
 BI .lss v23 v252 fun v254 =>
 CND v254
 (Q (.tup [.nils,.int .i64 10]) H250 nx251)
 (LD false 1 (.ptr nx16 0) H250 fun v255 =>
 BI .eql v255 (.int .i64 18) fun v256 =>
 CND v256
 (BI .gtr v23 (.int .i64 1) fun v257 =>
 CNDC v257
 (Q (.tup [.nils,.int .i64 10]) H250 nx251)
 (BI .sub v23 v252 fun v258 =>
 BI .add v258 v253 fun v259 =>
 BI .gtr v259 (.int .i64 16) fun v260 =>
 CNDC v260
 (Q (.tup [.nils,.int .i64 4]) H250 nx251)
 (LD false 1 (.ptr nx16 0) H250 fun v261 =>
 BI .neq v261 (.int .i64 15) fun v262 =>
 CND v262
 (LD false 1 (.ptr nx16 0) H250 fun v263 =>
 BI .neq v263 (.int .i64 18) fun v264 =>
 CNDC v264
 (BI .add v20 (.int .i64 1) fun v265 =>
 BSL 1 1 [.int .i64 0] [(0,v265)] fun cells266 =>
 APP 1 8 (nth xs14 2) (.slc nx251 0 1) (H250.put nx251 (some (.row 1 cells266))) (nx251+1) fun v267 H268 nx269 =>
 BSL 1 1 [.int .i64 0] [(0,v259)] fun cells270 =>
 APP 1 8 (nth xs14 3) (.slc nx269 0 1) (H268.put nx269 (some (.row 1 cells270))) (nx269+1) fun v271 H272 nx273 =>
 LD false 1 (.ptr nx16 0) H272 fun v274 =>
 BI .eql v274 (.int .i64 15) fun v275 =>
 CND v275
 (LD false 1 (.ptr nx16 1) H272 fun v276 =>
 BSL 1 1 [.int .i64 0] [(0,v276)] fun cells277 =>
 APP 1 8 v267 (.slc nx273 0 1) (H272.put nx273 (some (.row 1 cells277))) (nx273+1) fun v278 H279 nx280 =>
 BSL 1 1 [.int .i64 0] [(0,v259)] fun cells281 =>
 APP 1 8 v271 (.slc nx280 0 1) (H279.put nx280 (some (.row 1 cells281))) (nx280+1) fun v282 H283 nx284 =>
 BI .add (nth xs14 4) (.int .i64 1) fun v285 =>
 K13 [nth xs14 0,nth xs14 1,v278,v282,v285] H283 nx284)
 (LD false 1 (.ptr nx16 0) H272 fun v286 =>
 BI .eql v286 (.int .i64 16) fun v287 =>
 CNDC v287
 (LD false 1 (.ptr nx16 1) H272 fun v288 =>
 BSL 1 1 [.int .i64 0] [(0,v288)] fun cells289 =>
 APP 1 8 v267 (.slc nx273 0 1) (H272.put nx273 (some (.row 1 cells289))) (nx273+1) fun v290 H291 nx292 =>
 BSL 1 1 [.int .i64 0] [(0,v259)] fun cells293 =>
 APP 1 8 v271 (.slc nx292 0 1) (H291.put nx292 (some (.row 1 cells293))) (nx292+1) fun v294 H295 nx296 =>
 BI .add (nth xs14 4) (.int .i64 1) fun v297 =>
 K13 [nth xs14 0,nth xs14 1,v290,v294,v297] H295 nx296)
 (BI .add (nth xs14 4) (.int .i64 1) fun v298 =>
 K13 [nth xs14 0,nth xs14 1,v267,v271,v298] H272 nx273)))
 (LD false 1 (.ptr nx16 0) H250 fun v299 =>
 BI .eql v299 (.int .i64 15) fun v300 =>
 CND v300
 (LD false 1 (.ptr nx16 1) H250 fun v301 =>
 BSL 1 1 [.int .i64 0] [(0,v301)] fun cells302 =>
 APP 1 8 (nth xs14 2) (.slc nx251 0 1) (H250.put nx251 (some (.row 1 cells302))) (nx251+1) fun v303 H304 nx305 =>
 BSL 1 1 [.int .i64 0] [(0,v259)] fun cells306 =>
 APP 1 8 (nth xs14 3) (.slc nx305 0 1) (H304.put nx305 (some (.row 1 cells306))) (nx305+1) fun v307 H308 nx309 =>
 BI .add (nth xs14 4) (.int .i64 1) fun v310 =>
 K13 [nth xs14 0,nth xs14 1,v303,v307,v310] H308 nx309)
 (LD false 1 (.ptr nx16 0) H250 fun v311 =>
 BI .eql v311 (.int .i64 16) fun v312 =>
 CNDC v312
 (LD false 1 (.ptr nx16 1) H250 fun v313 =>
 BSL 1 1 [.int .i64 0] [(0,v313)] fun cells314 =>
 APP 1 8 (nth xs14 2) (.slc nx251 0 1) (H250.put nx251 (some (.row 1 cells314))) (nx251+1) fun v315 H316 nx317 =>
 BSL 1 1 [.int .i64 0] [(0,v259)] fun cells318 =>
 APP 1 8 (nth xs14 3) (.slc nx317 0 1) (H316.put nx317 (some (.row 1 cells318))) (nx317+1) fun v319 H320 nx321 =>
 BI .add (nth xs14 4) (.int .i64 1) fun v322 =>
 K13 [nth xs14 0,nth xs14 1,v315,v319,v322] H320 nx321)
 (BI .add (nth xs14 4) (.int .i64 1) fun v323 =>
 K13 [nth xs14 0,nth xs14 1,nth xs14 2,nth xs14 3,v323] H250 nx251))))
 (LD false 1 (.ptr nx16 0) H250 fun v324 =>
 BI .eql v324 (.int .i64 15) fun v325 =>
 CND v325
 (LD false 1 (.ptr nx16 1) H250 fun v326 =>
 BSL 1 1 [.int .i64 0] [(0,v326)] fun cells327 =>
 APP 1 8 (nth xs14 2) (.slc nx251 0 1) (H250.put nx251 (some (.row 1 cells327))) (nx251+1) fun v328 H329 nx330 =>
 BSL 1 1 [.int .i64 0] [(0,v259)] fun cells331 =>
 APP 1 8 (nth xs14 3) (.slc nx330 0 1) (H329.put nx330 (some (.row 1 cells331))) (nx330+1) fun v332 H333 nx334 =>
 BI .add (nth xs14 4) (.int .i64 1) fun v335 =>
 K13 [nth xs14 0,nth xs14 1,v328,v332,v335] H333 nx334)
 (LD false 1 (.ptr nx16 0) H250 fun v336 =>
 BI .eql v336 (.int .i64 16) fun v337 =>
 CNDC v337
 (LD false 1 (.ptr nx16 1) H250 fun v338 =>
 BSL 1 1 [.int .i64 0] [(0,v338)] fun cells339 =>
 APP 1 8 (nth xs14 2) (.slc nx251 0 1) (H250.put nx251 (some (.row 1 cells339))) (nx251+1) fun v340 H341 nx342 =>
 BSL 1 1 [.int .i64 0] [(0,v259)] fun cells343 =>
 APP 1 8 (nth xs14 3) (.slc nx342 0 1) (H341.put nx342 (some (.row 1 cells343))) (nx342+1) fun v344 H345 nx346 =>
 BI .add (nth xs14 4) (.int .i64 1) fun v347 =>
 K13 [nth xs14 0,nth xs14 1,v340,v344,v347] H345 nx346)
 (BI .add (nth xs14 4) (.int .i64 1) fun v348 =>
 K13 [nth xs14 0,nth xs14 1,nth xs14 2,nth xs14 3,v348] H250 nx251))))))
 (BI .sub v23 v252 fun v349 =>
 BI .add v349 v253 fun v350 =>
 BI .gtr v350 (.int .i64 16) fun v351 =>
 CNDC v351
 (Q (.tup [.nils,.int .i64 4]) H250 nx251)
 (LD false 1 (.ptr nx16 0) H250 fun v352 =>
 BI .neq v352 (.int .i64 15) fun v353 =>
 CND v353
 (LD false 1 (.ptr nx16 0) H250 fun v354 =>
 BI .neq v354 (.int .i64 18) fun v355 =>
 CNDC v355
 (BI .add v20 (.int .i64 1) fun v356 =>
 BSL 1 1 [.int .i64 0] [(0,v356)] fun cells357 =>
 APP 1 8 (nth xs14 2) (.slc nx251 0 1) (H250.put nx251 (some (.row 1 cells357))) (nx251+1) fun v358 H359 nx360 =>
 BSL 1 1 [.int .i64 0] [(0,v350)] fun cells361 =>
 APP 1 8 (nth xs14 3) (.slc nx360 0 1) (H359.put nx360 (some (.row 1 cells361))) (nx360+1) fun v362 H363 nx364 =>
 LD false 1 (.ptr nx16 0) H363 fun v365 =>
 BI .eql v365 (.int .i64 15) fun v366 =>
 CND v366
 (LD false 1 (.ptr nx16 1) H363 fun v367 =>
 BSL 1 1 [.int .i64 0] [(0,v367)] fun cells368 =>
 APP 1 8 v358 (.slc nx364 0 1) (H363.put nx364 (some (.row 1 cells368))) (nx364+1) fun v369 H370 nx371 =>
 BSL 1 1 [.int .i64 0] [(0,v350)] fun cells372 =>
 APP 1 8 v362 (.slc nx371 0 1) (H370.put nx371 (some (.row 1 cells372))) (nx371+1) fun v373 H374 nx375 =>
 BI .add (nth xs14 4) (.int .i64 1) fun v376 =>
 K13 [nth xs14 0,nth xs14 1,v369,v373,v376] H374 nx375)
 (LD false 1 (.ptr nx16 0) H363 fun v377 =>
 BI .eql v377 (.int .i64 16) fun v378 =>
 CNDC v378
 (LD false 1 (.ptr nx16 1) H363 fun v379 =>
 BSL 1 1 [.int .i64 0] [(0,v379)] fun cells380 =>
 APP 1 8 v358 (.slc nx364 0 1) (H363.put nx364 (some (.row 1 cells380))) (nx364+1) fun v381 H382 nx383 =>
 BSL 1 1 [.int .i64 0] [(0,v350)] fun cells384 =>
 APP 1 8 v362 (.slc nx383 0 1) (H382.put nx383 (some (.row 1 cells384))) (nx383+1) fun v385 H386 nx387 =>
 BI .add (nth xs14 4) (.int .i64 1) fun v388 =>
 K13 [nth xs14 0,nth xs14 1,v381,v385,v388] H386 nx387)
 (BI .add (nth xs14 4) (.int .i64 1) fun v389 =>
 K13 [nth xs14 0,nth xs14 1,v358,v362,v389] H363 nx364)))
 (LD false 1 (.ptr nx16 0) H250 fun v390 =>
 BI .eql v390 (.int .i64 15) fun v391 =>
 CND v391
 (LD false 1 (.ptr nx16 1) H250 fun v392 =>
 BSL 1 1 [.int .i64 0] [(0,v392)] fun cells393 =>
 APP 1 8 (nth xs14 2) (.slc nx251 0 1) (H250.put nx251 (some (.row 1 cells393))) (nx251+1) fun v394 H395 nx396 =>
 BSL 1 1 [.int .i64 0] [(0,v350)] fun cells397 =>
 APP 1 8 (nth xs14 3) (.slc nx396 0 1) (H395.put nx396 (some (.row 1 cells397))) (nx396+1) fun v398 H399 nx400 =>
 BI .add (nth xs14 4) (.int .i64 1) fun v401 =>
 K13 [nth xs14 0,nth xs14 1,v394,v398,v401] H399 nx400)
 (LD false 1 (.ptr nx16 0) H250 fun v402 =>
 BI .eql v402 (.int .i64 16) fun v403 =>
 CNDC v403
 (LD false 1 (.ptr nx16 1) H250 fun v404 =>
 BSL 1 1 [.int .i64 0] [(0,v404)] fun cells405 =>
 APP 1 8 (nth xs14 2) (.slc nx251 0 1) (H250.put nx251 (some (.row 1 cells405))) (nx251+1) fun v406 H407 nx408 =>
 BSL 1 1 [.int .i64 0] [(0,v350)] fun cells409 =>
 APP 1 8 (nth xs14 3) (.slc nx408 0 1) (H407.put nx408 (some (.row 1 cells409))) (nx408+1) fun v410 H411 nx412 =>
 BI .add (nth xs14 4) (.int .i64 1) fun v413 =>
 K13 [nth xs14 0,nth xs14 1,v406,v410,v413] H411 nx412)
 (BI .add (nth xs14 4) (.int .i64 1) fun v414 =>
 K13 [nth xs14 0,nth xs14 1,nth xs14 2,nth xs14 3,v414] H250 nx251))))
 (LD false 1 (.ptr nx16 0) H250 fun v415 =>
 BI .eql v415 (.int .i64 15) fun v416 =>
 CND v416
 (LD false 1 (.ptr nx16 1) H250 fun v417 =>
 BSL 1 1 [.int .i64 0] [(0,v417)] fun cells418 =>
 APP 1 8 (nth xs14 2) (.slc nx251 0 1) (H250.put nx251 (some (.row 1 cells418))) (nx251+1) fun v419 H420 nx421 =>
 BSL 1 1 [.int .i64 0] [(0,v350)] fun cells422 =>
 APP 1 8 (nth xs14 3) (.slc nx421 0 1) (H420.put nx421 (some (.row 1 cells422))) (nx421+1) fun v423 H424 nx425 =>
 BI .add (nth xs14 4) (.int .i64 1) fun v426 =>
 K13 [nth xs14 0,nth xs14 1,v419,v423,v426] H424 nx425)
 (LD false 1 (.ptr nx16 0) H250 fun v427 =>
 BI .eql v427 (.int .i64 16) fun v428 =>
 CNDC v428
 (LD false 1 (.ptr nx16 1) H250 fun v429 =>
 BSL 1 1 [.int .i64 0] [(0,v429)] fun cells430 =>
 APP 1 8 (nth xs14 2) (.slc nx251 0 1) (H250.put nx251 (some (.row 1 cells430))) (nx251+1) fun v431 H432 nx433 =>
 BSL 1 1 [.int .i64 0] [(0,v350)] fun cells434 =>
 APP 1 8 (nth xs14 3) (.slc nx433 0 1) (H432.put nx433 (some (.row 1 cells434))) (nx433+1) fun v435 H436 nx437 =>
 BI .add (nth xs14 4) (.int .i64 1) fun v438 =>
 K13 [nth xs14 0,nth xs14 1,v431,v435,v438] H436 nx437)
 (BI .add (nth xs14 4) (.int .i64 1) fun v439 =>
 K13 [nth xs14 0,nth xs14 1,nth xs14 2,nth xs14 3,v439] H250 nx251))))))
def zbh (Q:QT) (K13:J3) (xs14:List AV) (H15:Heap) (nx16:Nat):Prop :=
 LNL (nth xs14 2) fun v17 =>
 BI .lss (nth xs14 4) v17 fun v18 =>
 CNDC v18
 (IA 1 (nth xs14 2) (nth xs14 4) fun v19 =>
 LDR false 1 v19 H15 fun v20 _ =>
 IA 1 (nth xs14 3) (nth xs14 4) fun v22 =>
 LDR false 1 v22 H15 fun v23 _ =>
 BI .lss v20 (.int .i64 0) fun v25 =>
 CND v25
 (Q (.tup [.nils,.int .i64 8]) H15 nx16)
 (LNL (nth xs14 1) fun v26 =>
 BI .geq v20 v26 fun v27 =>
 CNDC v27
 (Q (.tup [.nils,.int .i64 8]) H15 nx16)
 (IA 1 (nth xs14 1) v20 fun v28 =>
 LD false 1 v28 H15 fun v29 =>
 BI .geq v29 (.int .i64 0) fun v30 =>
 CND v30
 (IA 1 (nth xs14 1) v20 fun v31 =>
 LD false 1 v31 H15 fun v32 =>
 BI .neq v32 v23 fun v33 =>
 CNDC v33
 (Q (.tup [.nils,.int .i64 10]) H15 nx16)
 (IA 1 (nth xs14 1) v20 fun v34 =>
 LD false 1 v34 H15 fun v35 =>
 BI .geq v35 (.int .i64 0) fun v36 =>
 CNDC v36
 (BI .add (nth xs14 4) (.int .i64 1) fun v37 =>
 K13 [nth xs14 0,nth xs14 1,nth xs14 2,nth xs14 3,v37] H15 nx16)
 (IA 1 (nth xs14 1) v20 fun v38 =>
 ST 1 v38 v23 H15 fun H39 =>
 FA 2 (nth xs14 0) fun v40 =>
 LD false 1 v40 H39 fun v41 =>
 IA 3 v41 v20 fun v42 =>
 LD true 3 v42 H39 fun v43 =>
 ST 3 (.ptr nx16 0) v43 (H39.put nx16 (some (.row 3 [.int .i64 0,.int .i64 0,.int .i64 0]))) fun H44 =>
 LD true 3 (.ptr nx16 0) H44 fun v45 =>
 za Tryd.prog 37 [v45] H44 (nx16+1) (zwm v23 Q nx16 v20 xs14 K13))))
 (IA 1 (nth xs14 1) v20 fun v237 =>
 LD false 1 v237 H15 fun v238 =>
 BI .geq v238 (.int .i64 0) fun v239 =>
 CNDC v239
 (BI .add (nth xs14 4) (.int .i64 1) fun v240 =>
 K13 [nth xs14 0,nth xs14 1,nth xs14 2,nth xs14 3,v240] H15 nx16)
 (IA 1 (nth xs14 1) v20 fun v241 =>
 ST 1 v241 v23 H15 fun H242 =>
 FA 2 (nth xs14 0) fun v243 =>
 LD false 1 v243 H242 fun v244 =>
 IA 3 v244 v20 fun v245 =>
 LD true 3 v245 H242 fun v246 =>
 ST 3 (.ptr nx16 0) v246 (H242.put nx16 (some (.row 3 [.int .i64 0,.int .i64 0,.int .i64 0]))) fun H247 =>
 LD true 3 (.ptr nx16 0) H247 fun v248 =>
 za Tryd.prog 37 [v248] H247 (nx16+1) (zas v23 Q nx16 v20 xs14 K13))))))
 (Q (.tup [nth xs14 1,.int .i64 0]) H15 nx16)
def zll (Q:QT) (K5:J3) (xs6:List AV) (H7:Heap) (nx8:Nat):Prop :=
 BI .lss (nth xs6 3) (nth xs6 2) fun v9 =>
 CNDC v9
 (IA 1 (nth xs6 1) (nth xs6 3) fun v10 =>
 ST 1 v10 (.int .i64 (-1)) H7 fun H11 =>
 BI .add (nth xs6 3) (.int .i64 1) fun v12 =>
 K5 [nth xs6 0,nth xs6 1,nth xs6 2,v12] H11 nx8)
 (LP (zbh Q) [nth xs6 0,nth xs6 1,.slc nx8 0 1,.slc (nx8+1) 0 1,.int .i64 0] ((H7.put nx8 (some (.row 1 [.int .i64 0]))).put ((nx8+1)) (some (.row 1 [.int .i64 0]))) (nx8+2))
def zlk (a0:AV) (H:Heap) (nx:Nat) (Q:QT):Prop :=
 a0.sure=true ∧
 LD false 1 (.ptr nx 2) (H.put nx (some (.row a0.cells.length a0.cells))) fun v1 =>
 LNL v1 fun v2 =>
 MK 8 v2 v2 fun n3 =>
 LNL (.slc (nx+1) 0 n3) fun v4 =>
 LP (zll Q) [.ptr nx 0,.slc (nx+1) 0 n3,v4,.int .i64 0] ((H.put nx (some (.row a0.cells.length a0.cells))).put ((nx+1)) (some (.row 1 (List.replicate n3 [.int .i64 0]).flatten))) (nx+2)
theorem zqt (a0:AV) (H:Heap) (nx:Nat) (Q:QT):zlk a0 H nx Q→za Tryd.prog 25 [a0] H nx Q :=
  zd (lv:=lvOf [(2,3,[1,4,19,20]),(2,9,[1,4,6,7,8])]) (c:=zn Tryd.f25) zw zx mixed Tryd.func25 (by kernel_rfl) (by kernel_rfl) (by kernel_rfl) (by kernel_rfl) (by kernel_rfl)
def zli (Q:QT) (xs13:List AV) (K12:J3) (v19:AV) (H20:Heap) (nx21:Nat):Prop :=
 UO .not v19 fun v22 =>
 CNDC v22
 (Q (.int .i64 7) H20 nx21)
 (BI .add (nth xs13 3) (.int .i64 1) fun v23 =>
 K12 [nth xs13 0,nth xs13 1,nth xs13 2,v23] H20 nx21)
def zgi (Q:QT) (K70:J3) (xs83:List AV) (H84:Heap) (nx85:Nat):Prop :=
 FA 1 (nth xs83 2) fun v87 =>
 LDR false 1 v87 H84 fun v88 _ =>
 BI .lss v88 (nth xs83 3) fun v90 =>
 CND v90
 (Q (.int .i64 3) H84 nx85)
 (FA 1 (nth xs83 2) fun v91 =>
 LDR false 1 v91 H84 fun v92 _ =>
 BI .gtr v92 (nth xs83 4) fun v94 =>
 CND v94
 (Q (.int .i64 3) H84 nx85)
 (FA 0 (nth xs83 2) fun v95 =>
 LDR false 1 v95 H84 fun v96 _ =>
 BI .eql v96 (.int .i64 17) fun v98 =>
 CND v98
 (FA 2 (nth xs83 2) fun v99 =>
 LDR false 1 v99 H84 fun v100 _ =>
 FA 0 (nth xs83 0) fun v102 =>
 LDR false 1 v102 H84 fun v103 _ =>
 FA 1 (nth xs83 2) fun v105 =>
 LDR false 1 v105 H84 fun v106 _ =>
 IA 3 v103 v106 fun v108 =>
 FA 0 v108 fun v109 =>
 LDR false 1 v109 H84 fun v110 _ =>
 BI .neq v100 v110 fun v112 =>
 CND v112
 (Q (.int .i64 3) H84 nx85)
 (FA 0 (nth xs83 2) fun v113 =>
 LDR false 1 v113 H84 fun v114 _ =>
 BI .neq v114 (.int .i64 17) fun v116 =>
 CND v116
 (FA 2 (nth xs83 2) fun v117 =>
 LDR false 1 v117 H84 fun v118 _ =>
 BI .neq v118 (.int .i64 0) fun v120 =>
 CNDC v120
 (Q (.int .i64 3) H84 nx85)
 (BI .add (nth xs83 10) (.int .i64 1) fun v121 =>
 K70 [nth xs83 0,nth xs83 1,nth xs83 5,nth xs83 6,nth xs83 7,nth xs83 8,nth xs83 9,v121] H84 nx85))
 (BI .add (nth xs83 10) (.int .i64 1) fun v122 =>
 K70 [nth xs83 0,nth xs83 1,nth xs83 5,nth xs83 6,nth xs83 7,nth xs83 8,nth xs83 9,v122] H84 nx85)))
 (FA 0 (nth xs83 2) fun v123 =>
 LDR false 1 v123 H84 fun v124 _ =>
 BI .neq v124 (.int .i64 17) fun v126 =>
 CND v126
 (FA 2 (nth xs83 2) fun v127 =>
 LDR false 1 v127 H84 fun v128 _ =>
 BI .neq v128 (.int .i64 0) fun v130 =>
 CNDC v130
 (Q (.int .i64 3) H84 nx85)
 (BI .add (nth xs83 10) (.int .i64 1) fun v131 =>
 K70 [nth xs83 0,nth xs83 1,nth xs83 5,nth xs83 6,nth xs83 7,nth xs83 8,nth xs83 9,v131] H84 nx85))
 (BI .add (nth xs83 10) (.int .i64 1) fun v132 =>
 K70 [nth xs83 0,nth xs83 1,nth xs83 5,nth xs83 6,nth xs83 7,nth xs83 8,nth xs83 9,v132] H84 nx85))))
def zlj (v82:AV) (xs71:List AV) (nx73:Nat) (H77:Heap) (j86:J3):Prop :=
 BI .eql v82 (.int .i64 1) fun v133 =>
 CNDC v133
 (j86 [nth xs71 0,nth xs71 1,.ptr nx73 0,.int .i64 (-1073741824),.int .i64 1073741824,nth xs71 2,nth xs71 3,nth xs71 4,nth xs71 5,nth xs71 6,nth xs71 7] H77 (nx73+1))
 (BI .eql v82 (.int .i64 2) fun v134 =>
 CNDC v134
 (FA 1 (nth xs71 0) fun v135 =>
 LD false 1 v135 H77 fun v136 =>
 LNL v136 fun v137 =>
 BI .sub v137 (.int .i64 1) fun v138 =>
 j86 [nth xs71 0,nth xs71 1,.ptr nx73 0,.int .i64 0,v138,nth xs71 2,nth xs71 3,nth xs71 4,nth xs71 5,nth xs71 6,nth xs71 7] H77 (nx73+1))
 (BI .eql v82 (.int .i64 3) fun v139 =>
 CNDC v139
 (FA 1 (nth xs71 1) fun v140 =>
 LD false 1 v140 H77 fun v141 =>
 BI .sub v141 (.int .i64 1) fun v142 =>
 j86 [nth xs71 0,nth xs71 1,.ptr nx73 0,.int .i64 0,v142,nth xs71 2,nth xs71 3,nth xs71 4,nth xs71 5,nth xs71 6,nth xs71 7] H77 (nx73+1))
 (BI .eql v82 (.int .i64 4) fun v143 =>
 CNDC v143
 (FA 1 (nth xs71 1) fun v144 =>
 LD false 1 v144 H77 fun v145 =>
 BI .sub v145 (.int .i64 1) fun v146 =>
 j86 [nth xs71 0,nth xs71 1,.ptr nx73 0,.int .i64 0,v146,nth xs71 2,nth xs71 3,nth xs71 4,nth xs71 5,nth xs71 6,nth xs71 7] H77 (nx73+1))
 (BI .eql v82 (.int .i64 5) fun v147 =>
 CNDC v147
 (j86 [nth xs71 0,nth xs71 1,.ptr nx73 0,.int .i64 1,.int .i64 5,nth xs71 2,nth xs71 3,nth xs71 4,nth xs71 5,nth xs71 6,nth xs71 7] H77 (nx73+1))
 (BI .eql v82 (.int .i64 15) fun v148 =>
 CNDC v148
 (FA 2 (nth xs71 1) fun v149 =>
 LD false 1 v149 H77 fun v150 =>
 LNL v150 fun v151 =>
 BI .sub v151 (.int .i64 1) fun v152 =>
 j86 [nth xs71 0,nth xs71 1,.ptr nx73 0,.int .i64 0,v152,nth xs71 2,nth xs71 3,nth xs71 4,nth xs71 5,nth xs71 6,nth xs71 7] H77 (nx73+1))
 (BI .eql v82 (.int .i64 16) fun v153 =>
 CNDC v153
 (FA 2 (nth xs71 1) fun v154 =>
 LD false 1 v154 H77 fun v155 =>
 LNL v155 fun v156 =>
 BI .sub v156 (.int .i64 1) fun v157 =>
 j86 [nth xs71 0,nth xs71 1,.ptr nx73 0,.int .i64 0,v157,nth xs71 2,nth xs71 3,nth xs71 4,nth xs71 5,nth xs71 6,nth xs71 7] H77 (nx73+1))
 (BI .eql v82 (.int .i64 17) fun v158 =>
 CNDC v158
 (FA 0 (nth xs71 0) fun v159 =>
 LD false 1 v159 H77 fun v160 =>
 LNL v160 fun v161 =>
 BI .sub v161 (.int .i64 1) fun v162 =>
 j86 [nth xs71 0,nth xs71 1,.ptr nx73 0,.int .i64 0,v162,nth xs71 2,nth xs71 3,nth xs71 4,nth xs71 5,nth xs71 6,nth xs71 7] H77 (nx73+1))
 (j86 [nth xs71 0,nth xs71 1,.ptr nx73 0,.int .i64 0,.int .i64 0,nth xs71 2,nth xs71 3,nth xs71 4,nth xs71 5,nth xs71 6,nth xs71 7] H77 (nx73+1)))))))))
def zlh (Q:QT) (xs71:List AV) (K60:J3) (v164:AV) (H165:Heap) (nx166:Nat):Prop :=
 EX v164 0 fun _ =>
 EX v164 1 fun v168 =>
 BI .neq v168 (.int .i64 0) fun v169 =>
 CNDC v169
 (Q v168 H165 nx166)
 (BI .add (nth xs71 4) (.int .i64 1) fun v170 =>
 K60 [nth xs71 0,nth xs71 2,nth xs71 3,v170] H165 nx166)
def zgh (Q:QT) (K60:J3) (K70:J3) (xs71:List AV) (H72:Heap) (nx73:Nat):Prop :=
 BI .lss (nth xs71 7) (nth xs71 6) fun v74 =>
 CNDC v74
 (IA 3 (nth xs71 5) (nth xs71 7) fun v75 =>
 LD true 3 v75 H72 fun v76 =>
 ST 3 (.ptr nx73 0) v76 (H72.put nx73 (some (.row 3 [.int .i64 0,.int .i64 0,.int .i64 0]))) fun H77 =>
 LD false 1 (.ptr nx73 0) H77 fun v78 =>
 BI .lss v78 (.int .i64 1) fun v79 =>
 CND v79
 (Q (.int .i64 1) H77 (nx73+1))
 (LD false 1 (.ptr nx73 0) H77 fun v80 =>
 BI .gtr v80 (.int .i64 19) fun v81 =>
 CNDC v81
 (Q (.int .i64 1) H77 (nx73+1))
 (LD false 1 (.ptr nx73 0) H77 fun v82 =>
 JN (zgi Q K70) (zlj v82 xs71 nx73 H77))))
 (LD true 3 (nth xs71 1) H72 fun v163 =>
 za Tryd.prog 25 [v163] H72 nx73 (zlh Q xs71 K60))
def zgg (Q:QT) (K60:J3) (xs61:List AV) (H62:Heap) (nx63:Nat):Prop :=
 BI .lss (nth xs61 3) (nth xs61 2) fun v64 =>
 CNDC v64
 (IA 3 (nth xs61 1) (nth xs61 3) fun v65 =>
 LD true 3 v65 H62 fun v66 =>
 ST 3 (.ptr nx63 0) v66 (H62.put nx63 (some (.row 3 [.int .i64 0,.int .i64 0,.nils]))) fun H67 =>
 LD false 1 (.ptr nx63 2) H67 fun v68 =>
 LNL v68 fun v69 =>
 LP (zgh Q K60) [nth xs61 0,.ptr nx63 0,nth xs61 1,nth xs61 2,nth xs61 3,v68,v69,.int .i64 0] H67 (nx63+1))
 (Q (.int .i64 0) H62 nx63)
def zgf (Q:QT) (K33:J3) (xs34:List AV) (H35:Heap) (nx36:Nat):Prop :=
 BI .lss (nth xs34 3) (nth xs34 2) fun v37 =>
 CNDC v37
 (IA 3 (nth xs34 1) (nth xs34 3) fun v38 =>
 LD true 3 v38 H35 fun v39 =>
 ST 3 (.ptr nx36 0) v39 (H35.put nx36 (some (.row 3 [.int .i64 0,.int .i64 0,.nils]))) fun H40 =>
 LD false 1 (.ptr nx36 0) H40 fun v41 =>
 BI .lss v41 (.int .i64 0) fun v42 =>
 CND v42
 (Q (.int .i64 3) H40 (nx36+1))
 (LD false 1 (.ptr nx36 0) H40 fun v43 =>
 BI .gtr v43 (.int .i64 4) fun v44 =>
 CND v44
 (Q (.int .i64 3) H40 (nx36+1))
 (LD false 1 (.ptr nx36 1) H40 fun v45 =>
 LD false 1 (.ptr nx36 0) H40 fun v46 =>
 BI .lss v45 v46 fun v47 =>
 CND v47
 (Q (.int .i64 3) H40 (nx36+1))
 (LD false 1 (.ptr nx36 1) H40 fun v48 =>
 BI .gtr v48 (.int .i64 8) fun v49 =>
 CND v49
 (Q (.int .i64 3) H40 (nx36+1))
 (LD false 1 (.ptr nx36 2) H40 fun v50 =>
 LNL v50 fun v51 =>
 BI .eql v51 (.int .i64 0) fun v52 =>
 CND v52
 (Q (.int .i64 3) H40 (nx36+1))
 (LD false 1 (.ptr nx36 2) H40 fun v53 =>
 LNL v53 fun v54 =>
 BI .gtr v54 (.int .i64 200) fun v55 =>
 CNDC v55
 (Q (.int .i64 3) H40 (nx36+1))
 (BI .add (nth xs34 3) (.int .i64 1) fun v56 =>
 K33 [nth xs34 0,nth xs34 1,nth xs34 2,v56] H40 (nx36+1))))))))
 (FA 0 (nth xs34 0) fun v57 =>
 LD false 1 v57 H35 fun v58 =>
 LNL v58 fun v59 =>
 LP (zgg Q) [nth xs34 0,v58,v59,.int .i64 0] H35 nx36)
def zge (Q:QT) (K12:J3) (xs13:List AV) (H14:Heap) (nx15:Nat):Prop :=
 BI .lss (nth xs13 3) (nth xs13 2) fun v16 =>
 CNDC v16
 (IA 1 (nth xs13 1) (nth xs13 3) fun v17 =>
 LD false 1 v17 H14 fun v18 =>
 za Tryd.prog 24 [v18] H14 nx15 (zli Q xs13 K12))
 (FA 0 (nth xs13 0) fun v24 =>
 LD false 1 v24 H14 fun v25 =>
 IA 3 v25 (.int .i64 0) fun v26 =>
 FA 0 v26 fun v27 =>
 LD false 1 v27 H14 fun v28 =>
 BI .neq v28 (.int .i64 0) fun v29 =>
 CNDC v29
 (Q (.int .i64 10) H14 nx15)
 (FA 0 (nth xs13 0) fun v30 =>
 LD false 1 v30 H14 fun v31 =>
 LNL v31 fun v32 =>
 LP (zgf Q) [nth xs13 0,v31,v32,.int .i64 0] H14 nx15))
def zlg (a0:AV) (H:Heap) (nx:Nat) (Q:QT):Prop :=
 a0.sure=true ∧
 LD false 1 (.ptr nx 0) (H.put nx (some (.row a0.cells.length a0.cells))) fun v1 =>
 LNL v1 fun v2 =>
 BI .eql v2 (.int .i64 0) fun v3 =>
 CND v3
 (Q (.int .i64 5) (H.put nx (some (.row a0.cells.length a0.cells))) (nx+1))
 (LD false 1 (.ptr nx 0) (H.put nx (some (.row a0.cells.length a0.cells))) fun v4 =>
 LNL v4 fun v5 =>
 BI .gtr v5 (.int .i64 5) fun v6 =>
 CNDC v6
 (Q (.int .i64 5) (H.put nx (some (.row a0.cells.length a0.cells))) (nx+1))
 (LD false 1 (.ptr nx 1) (H.put nx (some (.row a0.cells.length a0.cells))) fun v7 =>
 LNL v7 fun v8 =>
 BI .gtr v8 (.int .i64 16) fun v9 =>
 CNDC v9
 (Q (.int .i64 4) (H.put nx (some (.row a0.cells.length a0.cells))) (nx+1))
 (LD false 1 (.ptr nx 1) (H.put nx (some (.row a0.cells.length a0.cells))) fun v10 =>
 LNL v10 fun v11 =>
 LP (zge Q) [.ptr nx 0,v10,v11,.int .i64 0] (H.put nx (some (.row a0.cells.length a0.cells))) (nx+1))))
theorem zqs (a0:AV) (H:Heap) (nx:Nat) (Q:QT):zlg a0 H nx Q→za Tryd.prog 10 [a0] H nx Q :=
  zd (lv:=lvOf [(1,8,[1,8,10,11,12,87,88,89,94,95,96]),(2,6,[1,30,31,32]),(2,14,[1,47,48,49]),(2,20,[1,87,88,89]),(2,23,[1,8,87,88,89,94,95,96])]) (c:=zn Tryd.f10) zw zx mixed Tryd.func10 (by kernel_rfl) (by kernel_rfl) (by kernel_rfl) (by kernel_rfl) (by kernel_rfl)
def zol (Q:QT) (xs126:List AV) (K125:J3) (v137:AV) (H138:Heap) (nx139:Nat):Prop :=
 BI .neq v137 (.int .i64 0) fun v140 =>
 CNDC v140
 (Q v137 H138 nx139)
 (BI .add (nth xs126 7) (.int .i64 1) fun v141 =>
 K125 [nth xs126 0,nth xs126 1,nth xs126 2,nth xs126 3,nth xs126 4,nth xs126 5,nth xs126 6,v141] H138 nx139)
def zij (Q:QT) (K54:J3) (K125:J3) (xs126:List AV) (H127:Heap) (nx128:Nat):Prop :=
 BI .lss (nth xs126 7) (nth xs126 6) fun v129 =>
 CNDC v129
 (IA 3 (nth xs126 5) (nth xs126 7) fun v130 =>
 LD true 3 v130 H127 fun v131 =>
 ST 3 (.ptr nx128 0) v131 (H127.put nx128 (some (.row 3 [.int .i64 0,.int .i64 0,.str []]))) fun H132 =>
 LD true 3 (.ptr nx128 0) H132 fun v133 =>
 FA 5 (nth xs126 1) fun v134 =>
 LD false 1 v134 H132 fun v135 =>
 LNL v135 fun v136 =>
 za Tryd.prog 21 [v133,v136] H132 (nx128+1) (zol Q xs126 K125))
 (BI .add (nth xs126 4) (.int .i64 1) fun v142 =>
 K54 [nth xs126 0,nth xs126 1,nth xs126 2,nth xs126 3,v142] H127 nx128)
def zci (Q:QT) (j104:J3) (xs143:List AV) (H144:Heap) (nx145:Nat):Prop :=
 CNDC (nth xs143 11)
 (BI .sub (nth xs143 6) (.int .i64 1) fun v147 =>
 FA 1 (nth xs143 3) fun v148 =>
 LD false 1 v148 H144 fun v149 =>
 BI .eql v149 (.int .i64 0) fun v150 =>
 CNDC v150
 (Q (.int .i64 10) H144 nx145)
 (FA 2 (nth xs143 4) fun v151 =>
 LD false 1 v151 H144 fun v152 =>
 FA 1 (nth xs143 3) fun v153 =>
 LD false 1 v153 H144 fun v154 =>
 BI .sub v154 (.int .i64 1) fun v155 =>
 IA 3 v152 v155 fun v156 =>
 LD true 3 v156 H144 fun v157 =>
 ST 3 (.ptr nx145 0) v157 (H144.put nx145 (some (.row 3 [.int .i64 0,.int .i64 0,.int .i64 0]))) fun H158 =>
 FA 1 (nth xs143 3) fun v159 =>
 LD false 1 v159 H158 fun v160 =>
 BI .sub v160 (.int .i64 1) fun v161 =>
 IA 1 (nth xs143 5) v161 fun v162 =>
 LD false 1 v162 H158 fun v163 =>
 BI .geq v163 (.int .i64 0) fun v164 =>
 CNDC (nth xs143 7)
 (CND v164
 (LD false 1 (.ptr nx145 0) H158 fun v165 =>
 BI .eql v165 (.int .i64 13) fun v166 =>
 UO .not v166 fun v167 =>
 CNDC v167
 (Q (.int .i64 10) H158 (nx145+1))
 (j104 [nth xs143 0,nth xs143 1,nth xs143 3,v147,nth xs143 8,nth xs143 9,nth xs143 10] H158 (nx145+1)))
 (UO .not (.bool false) fun v168 =>
 CNDC v168
 (Q (.int .i64 10) H158 (nx145+1))
 (j104 [nth xs143 0,nth xs143 1,nth xs143 3,v147,nth xs143 8,nth xs143 9,nth xs143 10] H158 (nx145+1))))
 (CND v164
 (LDR false 1 (.ptr nx145 0) H158 fun v169 _ =>
 BI .eql v169 (.int .i64 17) fun v171 =>
 CND v171
 (LDR false 1 (.ptr nx145 1) H158 fun v172 _ =>
 FA 4 (nth xs143 1) fun v174 =>
 LDR false 1 v174 H158 fun v175 _ =>
 BI .add (nth xs143 2) (.int .i64 1) fun v177 =>
 IA 4 v175 v177 fun v178 =>
 FA 0 v178 fun v179 =>
 LDR false 1 v179 H158 fun v180 _ =>
 BI .eql v172 v180 fun v182 =>
 UO .not v182 fun v183 =>
 CNDC v183
 (Q (.int .i64 10) H158 (nx145+1))
 (j104 [nth xs143 0,nth xs143 1,nth xs143 3,v147,nth xs143 8,nth xs143 9,nth xs143 10] H158 (nx145+1)))
 (UO .not (.bool false) fun v184 =>
 CNDC v184
 (Q (.int .i64 10) H158 (nx145+1))
 (j104 [nth xs143 0,nth xs143 1,nth xs143 3,v147,nth xs143 8,nth xs143 9,nth xs143 10] H158 (nx145+1))))
 (UO .not (.bool false) fun v185 =>
 CNDC v185
 (Q (.int .i64 10) H158 (nx145+1))
 (j104 [nth xs143 0,nth xs143 1,nth xs143 3,v147,nth xs143 8,nth xs143 9,nth xs143 10] H158 (nx145+1))))))
 (j104 [nth xs143 0,nth xs143 1,nth xs143 3,nth xs143 6,nth xs143 8,nth xs143 9,nth xs143 10] H144 nx145)
def zil (v100:AV) (xs55:List AV) (nx57:Nat) (v91:AV) (v95:AV) (H89:Heap) (nx90:Nat) (j146:J3):Prop :=
 UO .not v100 fun v186 =>
 CND v186
 (j146 [nth xs55 0,nth xs55 1,nth xs55 4,.ptr nx57 0,.ptr (nx57+1) 0,v91,v95,v100,nth xs55 2,nth xs55 3,nth xs55 4,.bool true] H89 nx90)
 (j146 [nth xs55 0,nth xs55 1,nth xs55 4,.ptr nx57 0,.ptr (nx57+1) 0,v91,v95,v100,nth xs55 2,nth xs55 3,nth xs55 4,nth xs55 0] H89 nx90)
def zbt (Q:QT) (K54:J3) (xs101:List AV) (H102:Heap) (nx103:Nat):Prop :=
 BI .lss (nth xs101 3) (.int .i64 0) fun v105 =>
 CND v105
 (Q (.int .i64 10) H102 nx103)
 (FA 3 (nth xs101 2) fun v106 =>
 LD false 1 v106 H102 fun v107 =>
 LNL v107 fun v108 =>
 BI .neq (nth xs101 3) v108 fun v109 =>
 CNDC v109
 (Q (.int .i64 10) H102 nx103)
 (FA 2 (nth xs101 2) fun v110 =>
 LDR false 1 v110 (H102.put nx103 (some (.row 3 []))) fun v111 rd112 =>
 zam 3 32 (.slc nx103 0 0) v111 (H102.put nx103 (some (.row 3 []))) (nx103+1) fun v113 _ fr115 D116 =>
 FA 3 (nth xs101 2) fun v117 =>
 LDR false 1 v117 ((H102.put nx103 (some (.row 3 []))).apply D116) fun v118 rd119 =>
 zam 3 32 v113 v118 ((H102.put nx103 (some (.row 3 []))).apply D116) ((nx103+1)+fr115.length) fun v120 _ fr122 D123 =>
 LNL v120 fun v124 =>
 nx103∉[] ∧
 nx103∉[] ∧
 nx103∉rd112 ∧
 nx103∉[] ∧
 nx103∉[] ∧
 nx103∉[] ∧
 zb (domD D116) [] (
 zb (domD D116) [] (
 nx103∉rd119 ∧
 nx103∉[] ∧
 zb (domD D116) rd119 (
 zb (domD D116) [] (
 nx103∉[] ∧
 nx103∉[] ∧
 zb (domD D116) [] (
 zb (domD D116) [] (
 zb (domD D123) [] (
 zb (domD D123) [] (
 LP (zij Q K54) [nth xs101 0,nth xs101 1,nth xs101 4,nth xs101 5,nth xs101 6,v120,v124,.int .i64 0] (((H102.put nx103 (some (.row 3 []))).apply D116).apply D123) (((nx103+1)+fr115.length)+fr122.length)))))))))))
def zom (Q:QT) (v100:AV) (xs55:List AV) (nx57:Nat) (v91:AV) (v95:AV) (H89:Heap) (nx90:Nat) (j104:J3):Prop :=
 JN (zci Q j104) (zil v100 xs55 nx57 v91 v95 H89 nx90)
def zok (nx57:Nat) (xs55:List AV) (Q:QT) (K54:J3) (v88:AV) (H89:Heap) (nx90:Nat):Prop :=
 EX v88 0 fun v91 =>
 EX v88 1 fun _ =>
 LD false 1 (.ptr nx57 1) H89 fun v93 =>
 IA 1 v91 v93 fun v94 =>
 LD false 1 v94 H89 fun v95 =>
 FA 4 (nth xs55 1) fun v96 =>
 LD false 1 v96 H89 fun v97 =>
 LNL v97 fun v98 =>
 BI .sub v98 (.int .i64 1) fun v99 =>
 BI .eql (nth xs55 4) v99 fun v100 =>
 JN (zbt Q K54) (zom Q v100 xs55 nx57 v91 v95 H89 nx90)
def zoj (Q:QT) (xs191:List AV) (K190:J3) (v210:AV) (H211:Heap) (nx212:Nat):Prop :=
 BI .neq v210 (.int .i64 0) fun v213 =>
 CNDC v213
 (Q v210 H211 nx212)
 (BI .add (nth xs191 3) (.int .i64 1) fun v214 =>
 K190 [nth xs191 0,nth xs191 1,nth xs191 2,v214] H211 nx212)
def zoi (Q:QT) (nx193:Nat) (xs191:List AV) (K190:J3) (v202:AV) (H203:Heap) (nx204:Nat):Prop :=
 BI .neq v202 (.int .i64 0) fun v205 =>
 CNDC v205
 (Q v202 H203 nx204)
 (LD true 3 (.ptr nx193 3) H203 fun v206 =>
 FA 5 (nth xs191 0) fun v207 =>
 LD false 1 v207 H203 fun v208 =>
 LNL v208 fun v209 =>
 za Tryd.prog 21 [v206,v209] H203 nx204 (zoj Q xs191 K190))
def zii (Q:QT) (K190:J3) (xs191:List AV) (H192:Heap) (nx193:Nat):Prop :=
 BI .lss (nth xs191 3) (nth xs191 2) fun v194 =>
 CNDC v194
 (IA 6 (nth xs191 1) (nth xs191 3) fun v195 =>
 LD true 6 v195 H192 fun v196 =>
 ST 6 (.ptr nx193 0) v196 (H192.put nx193 (some (.row 6 [.int .i64 0,.int .i64 0,.str [],.int .i64 0,.int .i64 0,.str []]))) fun H197 =>
 LD true 3 (.ptr nx193 0) H197 fun v198 =>
 FA 5 (nth xs191 0) fun v199 =>
 LD false 1 v199 H197 fun v200 =>
 LNL v200 fun v201 =>
 za Tryd.prog 21 [v198,v201] H197 (nx193+1) (zoi Q nx193 xs191 K190))
 (Q (.int .i64 0) H192 nx193)
def zaz (Q:QT) (K54:J3) (xs55:List AV) (H56:Heap) (nx57:Nat):Prop :=
 BI .lss (nth xs55 4) (nth xs55 3) fun v58 =>
 CNDC v58
 (IA 4 (nth xs55 2) (nth xs55 4) fun v59 =>
 LD true 4 v59 H56 fun v60 =>
 ST 4 (.ptr nx57 0) v60 (H56.put nx57 (some (.row 4 [.int .i64 0,.int .i64 0,.nils,.nils]))) fun H61 =>
 LD false 1 (.ptr nx57 0) H61 fun v62 =>
 BI .lss v62 (.int .i64 0) fun v63 =>
 CND v63
 (Q (.int .i64 3) H61 (nx57+1))
 (LD false 1 (.ptr nx57 0) H61 fun v64 =>
 FA 2 (nth xs55 1) fun v65 =>
 FA 0 v65 fun v66 =>
 LD false 1 v66 H61 fun v67 =>
 LNL v67 fun v68 =>
 BI .geq v64 v68 fun v69 =>
 CNDC v69
 (Q (.int .i64 3) H61 (nx57+1))
 (FA 2 (nth xs55 1) fun v70 =>
 FA 0 v70 fun v71 =>
 LD false 1 v71 H61 fun v72 =>
 LD false 1 (.ptr nx57 0) H61 fun v73 =>
 IA 3 v72 v73 fun v74 =>
 LD true 3 v74 H61 fun v75 =>
 ST 3 (.ptr (nx57+1) 0) v75 (H61.put ((nx57+1)) (some (.row 3 [.int .i64 0,.int .i64 0,.nils]))) fun H76 =>
 LD false 1 (.ptr nx57 1) H76 fun v77 =>
 BI .lss v77 (.int .i64 0) fun v78 =>
 CND v78
 (Q (.int .i64 3) H76 (nx57+2))
 (LD false 1 (.ptr nx57 1) H76 fun v79 =>
 LD false 1 (.ptr (nx57+1) 2) H76 fun v80 =>
 LNL v80 fun v81 =>
 BI .geq v79 v81 fun v82 =>
 CND v82
 (Q (.int .i64 3) H76 (nx57+2))
 (LD false 1 (.ptr nx57 2) H76 fun v83 =>
 LNL v83 fun v84 =>
 LD false 1 (.ptr (nx57+1) 1) H76 fun v85 =>
 BI .neq v84 v85 fun v86 =>
 CNDC v86
 (Q (.int .i64 3) H76 (nx57+2))
 (LD true 3 (.ptr (nx57+1) 0) H76 fun v87 =>
 za Tryd.prog 25 [v87] H76 (nx57+2) (zok nx57 xs55 Q K54)))))))
 (FA 5 (nth xs55 1) fun v187 =>
 LD false 1 v187 H56 fun v188 =>
 LNL v188 fun v189 =>
 LP (zii Q) [nth xs55 1,v188,v189,.int .i64 0] H56 nx57)
def zbs (Q:QT) (K18:J3) (xs19:List AV) (H20:Heap) (nx21:Nat):Prop :=
 BI .lss (nth xs19 4) (nth xs19 3) fun v22 =>
 CNDC v22
 (IA 2 (nth xs19 2) (nth xs19 4) fun v23 =>
 LD true 2 v23 H20 fun v24 =>
 ST 2 (.ptr nx21 0) v24 (H20.put nx21 (some (.row 1 [.int .i64 0,.int .i64 0]))) fun H25 =>
 AA 1 2 (.ptr nx21 0) (.int .i64 0) fun v26 =>
 LD false 1 v26 H25 fun v27 =>
 BI .lss v27 (.int .i64 0) fun v28 =>
 CND v28
 (Q (.int .i64 3) H25 (nx21+1))
 (AA 1 2 (.ptr nx21 0) (.int .i64 0) fun v29 =>
 LD false 1 v29 H25 fun v30 =>
 AA 1 2 (.ptr nx21 0) (.int .i64 1) fun v31 =>
 LD false 1 v31 H25 fun v32 =>
 BI .gtr v30 v32 fun v33 =>
 CNDC v33
 (Q (.int .i64 3) H25 (nx21+1))
 (BI .add (nth xs19 4) (.int .i64 1) fun v34 =>
 K18 [nth xs19 0,nth xs19 1,nth xs19 2,nth xs19 3,v34] H25 (nx21+1))))
 (FA 4 (nth xs19 1) fun v35 =>
 LD false 1 v35 H20 fun v36 =>
 LNL v36 fun v37 =>
 BI .eql v37 (.int .i64 0) fun v38 =>
 CND v38
 (Q (.int .i64 5) H20 nx21)
 (FA 4 (nth xs19 1) fun v39 =>
 LD false 1 v39 H20 fun v40 =>
 LNL v40 fun v41 =>
 BI .gtr v41 (.int .i64 12) fun v42 =>
 CNDC v42
 (Q (.int .i64 5) H20 nx21)
 (FA 5 (nth xs19 1) fun v43 =>
 LD false 1 v43 H20 fun v44 =>
 LNL v44 fun v45 =>
 FA 6 (nth xs19 1) fun v46 =>
 FA 1 v46 fun v47 =>
 LD false 1 v47 H20 fun v48 =>
 BI .add v45 v48 fun v49 =>
 BI .gtr v49 (.int .i64 60) fun v50 =>
 CNDC v50
 (Q (.int .i64 4) H20 nx21)
 (FA 4 (nth xs19 1) fun v51 =>
 LD false 1 v51 H20 fun v52 =>
 LNL v52 fun v53 =>
 LP (zaz Q) [nth xs19 0,nth xs19 1,v52,v53,.int .i64 0] H20 nx21))))
def zik (Q:QT) (nx:Nat) (a1:AV) (v2:AV) (H3:Heap) (nx4:Nat):Prop :=
 BI .neq v2 (.int .i64 0) fun v5 =>
 CNDC v5
 (Q v2 H3 nx4)
 (LD false 1 (.ptr nx 0) H3 fun v6 =>
 BD (fun i=>some (i*1,1)) [.int .i64 0,.int .i64 0] [(0,v6),(1,.int .i64 1073741824)] fun v7 =>
 LD false 1 (.ptr nx 1) H3 fun v8 =>
 BD (fun i=>some (i*1,1)) [.int .i64 0,.int .i64 0] [(0,v8),(1,.int .i64 1073741824)] fun v9 =>
 LD false 1 (.ptr nx 6) H3 fun v10 =>
 BD (fun i=>some (i*1,1)) [.int .i64 0,.int .i64 0] [(0,v10),(1,.int .i64 2000)] fun v11 =>
 LD false 1 (.ptr nx 7) H3 fun v12 =>
 BD (fun i=>some (i*1,1)) [.int .i64 0,.int .i64 0] [(0,v12),(1,.int .i64 60)] fun v13 =>
 LD false 1 (.ptr nx 8) H3 fun v14 =>
 BD (fun i=>some (i*1,1)) [.int .i64 0,.int .i64 0] [(0,v14),(1,.int .i64 12)] fun v15 =>
 BSL 5 2 [.int .i64 0,.int .i64 0] [(0,v7),(1,v9),(2,v11),(3,v13),(4,v15)] fun cells16 =>
 LNL (.slc nx4 0 5) fun v17 =>
 LP (zbs Q) [a1,.ptr nx 0,.slc nx4 0 5,v17,.int .i64 0] (H3.put nx4 (some (.row 2 cells16))) (nx4+1))
def zoh (a0 a1:AV) (H:Heap) (nx:Nat) (Q:QT):Prop :=
 a0.sure=true ∧
 LD true 2 (.ptr nx 2) (H.put nx (some (.row a0.cells.length a0.cells))) fun v1 =>
 za Tryd.prog 10 [v1] (H.put nx (some (.row a0.cells.length a0.cells))) (nx+1) (zik Q nx a1)
theorem ztp (a0 a1:AV) (H:Heap) (nx:Nat) (Q:QT):zoh a0 a1 H nx Q→za Tryd.prog 14 [a0,a1] H nx Q :=
  zd (lv:=lvOf [(0,25,[1,2,8,9,10,11,13,14,84,85,86,149]),(2,5,[1,2,48,49,50]),(2,15,[1,2,84,85,86]),(2,39,[1,2,84,85,86,211,212,213]),(2,47,[2,228,229,230]),(3,36,[1,2,9,13,84,85,86])]) (c:=zn Tryd.f14) zw zx mixed Tryd.func14 (by kernel_rfl) (by kernel_rfl) (by kernel_rfl) (by kernel_rfl) (by kernel_rfl)
def zcj (Q:QT) (K35:J3) (K61:J3) (xs62:List AV) (H63:Heap) (nx64:Nat):Prop :=
 BI .lss (nth xs62 7) (nth xs62 6) fun v65 =>
 CNDC v65
 (FA 2 (nth xs62 1) fun v66 =>
 LDR false 1 v66 H63 fun v67 _ =>
 IA 3 v67 (nth xs62 7) fun v69 =>
 LDR true 3 v69 H63 fun v70 _ =>
 FA 2 (nth xs62 2) fun v72 =>
 LDR false 1 v72 H63 fun v73 _ =>
 IA 3 v73 (nth xs62 7) fun v75 =>
 LDR true 3 v75 H63 fun v76 _ =>
 gd (eqsT 65) (
 BA [.int .i64 0,.int .i64 0,.int .i64 0] .neq v70 v76 fun v78 =>
 CNDC v78
 (Q (.bool false) H63 nx64)
 (BI .add (nth xs62 7) (.int .i64 1) fun v79 =>
 K61 [nth xs62 0,nth xs62 1,nth xs62 2,nth xs62 3,nth xs62 4,nth xs62 5,nth xs62 6,v79] H63 nx64)))
 (BI .add (nth xs62 5) (.int .i64 1) fun v80 =>
 K35 [nth xs62 0,nth xs62 3,nth xs62 4,v80] H63 nx64)
def zea (Q:QT) (K35:J3) (xs36:List AV) (H37:Heap) (nx38:Nat):Prop :=
 BI .lss (nth xs36 3) (nth xs36 2) fun v39 =>
 CNDC v39
 (IA 3 (nth xs36 1) (nth xs36 3) fun v40 =>
 LD true 3 v40 H37 fun v41 =>
 ST 3 (.ptr nx38 0) v41 (H37.put nx38 (some (.row 3 [.int .i64 0,.int .i64 0,.nils]))) fun H42 =>
 FA 0 (nth xs36 0) fun v43 =>
 LD false 1 v43 H42 fun v44 =>
 IA 3 v44 (nth xs36 3) fun v45 =>
 LD true 3 v45 H42 fun v46 =>
 ST 3 (.ptr (nx38+1) 0) v46 (H42.put ((nx38+1)) (some (.row 3 [.int .i64 0,.int .i64 0,.nils]))) fun H47 =>
 LD false 1 (.ptr nx38 0) H47 fun v48 =>
 LD false 1 (.ptr (nx38+1) 0) H47 fun v49 =>
 BI .neq v48 v49 fun v50 =>
 CND v50
 (Q (.bool false) H47 (nx38+2))
 (LD false 1 (.ptr nx38 1) H47 fun v51 =>
 LD false 1 (.ptr (nx38+1) 1) H47 fun v52 =>
 BI .neq v51 v52 fun v53 =>
 CND v53
 (Q (.bool false) H47 (nx38+2))
 (LD false 1 (.ptr nx38 2) H47 fun v54 =>
 LNL v54 fun v55 =>
 LD false 1 (.ptr (nx38+1) 2) H47 fun v56 =>
 LNL v56 fun v57 =>
 BI .neq v55 v57 fun v58 =>
 CNDC v58
 (Q (.bool false) H47 (nx38+2))
 (LD false 1 (.ptr nx38 2) H47 fun v59 =>
 LNL v59 fun v60 =>
 LP (zcj Q K35) [nth xs36 0,.ptr nx38 0,.ptr (nx38+1) 0,nth xs36 1,nth xs36 2,nth xs36 3,v60,.int .i64 0] H47 (nx38+2)))))
 (Q (.bool true) H37 nx38)
def zdz (Q:QT) (K13:J3) (xs14:List AV) (H15:Heap) (nx16:Nat):Prop :=
 BI .lss (nth xs14 3) (nth xs14 2) fun v17 =>
 CNDC v17
 (FA 1 (nth xs14 0) fun v18 =>
 LDR false 1 v18 H15 fun v19 _ =>
 IA 1 v19 (nth xs14 3) fun v21 =>
 LDR false 1 v21 H15 fun v22 _ =>
 FA 1 (nth xs14 1) fun v24 =>
 LDR false 1 v24 H15 fun v25 _ =>
 IA 1 v25 (nth xs14 3) fun v27 =>
 LDR false 1 v27 H15 fun v28 _ =>
 BS .neq v22 v28 fun v30 =>
 CNDC v30
 (Q (.bool false) H15 nx16)
 (BI .add (nth xs14 3) (.int .i64 1) fun v31 =>
 K13 [nth xs14 0,nth xs14 1,nth xs14 2,v31] H15 nx16))
 (FA 0 (nth xs14 0) fun v32 =>
 LD false 1 v32 H15 fun v33 =>
 LNL v33 fun v34 =>
 LP (zea Q) [nth xs14 1,v33,v34,.int .i64 0] H15 nx16)
def zhq (a0 a1:AV) (H:Heap) (nx:Nat) (Q:QT):Prop :=
 a0.sure=true ∧
 a1.sure=true ∧
 LD false 1 (.ptr nx 0) ((H.put nx (some (.row a0.cells.length a0.cells))).put ((nx+1)) (some (.row a1.cells.length a1.cells))) fun v1 =>
 LNL v1 fun v2 =>
 LD false 1 (.ptr (nx+1) 0) ((H.put nx (some (.row a0.cells.length a0.cells))).put ((nx+1)) (some (.row a1.cells.length a1.cells))) fun v3 =>
 LNL v3 fun v4 =>
 BI .neq v2 v4 fun v5 =>
 CND v5
 (Q (.bool false) ((H.put nx (some (.row a0.cells.length a0.cells))).put ((nx+1)) (some (.row a1.cells.length a1.cells))) (nx+2))
 (LD false 1 (.ptr nx 1) ((H.put nx (some (.row a0.cells.length a0.cells))).put ((nx+1)) (some (.row a1.cells.length a1.cells))) fun v6 =>
 LNL v6 fun v7 =>
 LD false 1 (.ptr (nx+1) 1) ((H.put nx (some (.row a0.cells.length a0.cells))).put ((nx+1)) (some (.row a1.cells.length a1.cells))) fun v8 =>
 LNL v8 fun v9 =>
 BI .neq v7 v9 fun v10 =>
 CNDC v10
 (Q (.bool false) ((H.put nx (some (.row a0.cells.length a0.cells))).put ((nx+1)) (some (.row a1.cells.length a1.cells))) (nx+2))
 (LD false 1 (.ptr nx 1) ((H.put nx (some (.row a0.cells.length a0.cells))).put ((nx+1)) (some (.row a1.cells.length a1.cells))) fun v11 =>
 LNL v11 fun v12 =>
 LP (zdz Q) [.ptr nx 0,.ptr (nx+1) 0,v12,.int .i64 0] ((H.put nx (some (.row a0.cells.length a0.cells))).put ((nx+1)) (some (.row a1.cells.length a1.cells))) (nx+2)))
theorem zmr (a0 a1:AV) (H:Heap) (nx:Nat) (Q:QT):zhq a0 a1 H nx Q→za Tryd.prog 34 [a0,a1] H nx Q :=
  zd (lv:=lvOf [(2,4,[2,3,28,29]),(2,10,[3,45,46,47]),(2,16,[3,7,8,45,46,47,80,81])]) (c:=zn Tryd.f34) zw zx mixed Tryd.func34 (by kernel_rfl) (by kernel_rfl) (by kernel_rfl) (by kernel_rfl) (by kernel_rfl)
def zjp (Q:QT) (xs30:List AV) (K29:J3) (v56:AV) (H57:Heap) (nx58:Nat):Prop :=
 UO .not v56 fun v59 =>
 CNDC v59
 (Q (.bool false) H57 nx58)
 (BI .add (nth xs30 3) (.int .i64 1) fun v60 =>
 K29 [nth xs30 0,nth xs30 1,nth xs30 2,v60] H57 nx58)
def zjo (Q:QT) (nx32:Nat) (xs30:List AV) (K29:J3) (v50:AV) (H51:Heap) (nx52:Nat):Prop :=
 UO .not v50 fun v53 =>
 CND v53
 (Q (.bool false) H51 nx52)
 (LD false 1 (.ptr nx32 3) H51 fun v54 =>
 LD false 1 (.ptr (nx32+1) 3) H51 fun v55 =>
 za Tryd.prog 36 [v54,v55] H51 nx52 (zjp Q xs30 K29))
def zfd (Q:QT) (K29:J3) (xs30:List AV) (H31:Heap) (nx32:Nat):Prop :=
 BI .lss (nth xs30 3) (nth xs30 2) fun v33 =>
 CNDC v33
 (IA 4 (nth xs30 1) (nth xs30 3) fun v34 =>
 LD true 4 v34 H31 fun v35 =>
 ST 4 (.ptr nx32 0) v35 (H31.put nx32 (some (.row 4 [.int .i64 0,.int .i64 0,.nils,.nils]))) fun H36 =>
 FA 4 (nth xs30 0) fun v37 =>
 LD false 1 v37 H36 fun v38 =>
 IA 4 v38 (nth xs30 3) fun v39 =>
 LD true 4 v39 H36 fun v40 =>
 ST 4 (.ptr (nx32+1) 0) v40 (H36.put ((nx32+1)) (some (.row 4 [.int .i64 0,.int .i64 0,.nils,.nils]))) fun H41 =>
 LD false 1 (.ptr nx32 0) H41 fun v42 =>
 LD false 1 (.ptr (nx32+1) 0) H41 fun v43 =>
 BI .neq v42 v43 fun v44 =>
 CND v44
 (Q (.bool false) H41 (nx32+2))
 (LD false 1 (.ptr nx32 1) H41 fun v45 =>
 LD false 1 (.ptr (nx32+1) 1) H41 fun v46 =>
 BI .neq v45 v46 fun v47 =>
 CND v47
 (Q (.bool false) H41 (nx32+2))
 (LD false 1 (.ptr nx32 2) H41 fun v48 =>
 LD false 1 (.ptr (nx32+1) 2) H41 fun v49 =>
 za Tryd.prog 36 [v48,v49] H41 (nx32+2) (zjo Q nx32 xs30 K29))))
 (Q (.bool true) H31 nx32)
def zjn (Q:QT) (nx:Nat) (v23:AV) (H24:Heap) (nx25:Nat):Prop :=
 UO .not v23 fun v26 =>
 CNDC v26
 (Q (.bool false) H24 nx25)
 (LD false 1 (.ptr nx 4) H24 fun v27 =>
 LNL v27 fun v28 =>
 LP (zfd Q) [.ptr (nx+1) 0,v27,v28,.int .i64 0] H24 nx25)
def zjm (Q:QT) (nx:Nat) (v12:AV) (H13:Heap) (nx14:Nat):Prop :=
 UO .not v12 fun v15 =>
 CND v15
 (Q (.bool false) H13 nx14)
 (LD false 1 (.ptr nx 4) H13 fun v16 =>
 LNL v16 fun v17 =>
 LD false 1 (.ptr (nx+1) 4) H13 fun v18 =>
 LNL v18 fun v19 =>
 BI .neq v17 v19 fun v20 =>
 CND v20
 (Q (.bool false) H13 nx14)
 (LD false 1 (.ptr nx 5) H13 fun v21 =>
 LD false 1 (.ptr (nx+1) 5) H13 fun v22 =>
 za Tryd.prog 35 [v21,v22] H13 nx14 (zjn Q nx)))
def zjl (a0 a1:AV) (H:Heap) (nx:Nat) (Q:QT):Prop :=
 a0.sure=true ∧
 a1.sure=true ∧
 LD false 1 (.ptr nx 0) ((H.put nx (some (.row a0.cells.length a0.cells))).put ((nx+1)) (some (.row a1.cells.length a1.cells))) fun v1 =>
 LD false 1 (.ptr (nx+1) 0) ((H.put nx (some (.row a0.cells.length a0.cells))).put ((nx+1)) (some (.row a1.cells.length a1.cells))) fun v2 =>
 BI .neq v1 v2 fun v3 =>
 CND v3
 (Q (.bool false) ((H.put nx (some (.row a0.cells.length a0.cells))).put ((nx+1)) (some (.row a1.cells.length a1.cells))) (nx+2))
 (LD false 1 (.ptr nx 1) ((H.put nx (some (.row a0.cells.length a0.cells))).put ((nx+1)) (some (.row a1.cells.length a1.cells))) fun v4 =>
 LD false 1 (.ptr (nx+1) 1) ((H.put nx (some (.row a0.cells.length a0.cells))).put ((nx+1)) (some (.row a1.cells.length a1.cells))) fun v5 =>
 BI .neq v4 v5 fun v6 =>
 CND v6
 (Q (.bool false) ((H.put nx (some (.row a0.cells.length a0.cells))).put ((nx+1)) (some (.row a1.cells.length a1.cells))) (nx+2))
 (LD true 3 (.ptr nx 6) ((H.put nx (some (.row a0.cells.length a0.cells))).put ((nx+1)) (some (.row a1.cells.length a1.cells))) fun v7 =>
 LD true 3 (.ptr (nx+1) 6) ((H.put nx (some (.row a0.cells.length a0.cells))).put ((nx+1)) (some (.row a1.cells.length a1.cells))) fun v8 =>
 gd (eqsT 28) (
 BA [.int .i64 0,.int .i64 0,.int .i64 0] .neq v7 v8 fun v9 =>
 CND v9
 (Q (.bool false) ((H.put nx (some (.row a0.cells.length a0.cells))).put ((nx+1)) (some (.row a1.cells.length a1.cells))) (nx+2))
 (LD true 2 (.ptr nx 2) ((H.put nx (some (.row a0.cells.length a0.cells))).put ((nx+1)) (some (.row a1.cells.length a1.cells))) fun v10 =>
 LD true 2 (.ptr (nx+1) 2) ((H.put nx (some (.row a0.cells.length a0.cells))).put ((nx+1)) (some (.row a1.cells.length a1.cells))) fun v11 =>
 za Tryd.prog 34 [v10,v11] ((H.put nx (some (.row a0.cells.length a0.cells))).put ((nx+1)) (some (.row a1.cells.length a1.cells))) (nx+2) (zjm Q nx)))))
theorem zpn (a0 a1:AV) (H:Heap) (nx:Nat) (Q:QT):zjl a0 a1 H nx Q→za Tryd.prog 17 [a0,a1] H nx Q :=
  zd (lv:=lvOf [(2,4,[3,53,54,55])]) (c:=zn Tryd.f17) zw zx mixed Tryd.func17 (by kernel_rfl) (by kernel_rfl) (by kernel_rfl) (by kernel_rfl) (by kernel_rfl)
end Go.Proofs.YtdmibdjokofclaaDoor
