/- What is to be shown of each function, written out. The plain law of wire: numbers as bytes, and back; no program in sight. How Go data lies in memory, as Lean data: a predicate with the set of blocks that it rests on. The plain data of the program: values, cells, code, programs, agents; and how they lie in memory. What is wrong with values, programs, and agents: plain functions. Values, and cells of values: plain functions (chapter 1). The machine: an agent's steps, as a plain function (chapter 7). Agents as bytes, and back: the plain functions. Texts of programs: what they are read as; the plain functions (chapter 3). Calls that only read: what they are handed may be owned. What a call has made is read by value from now on, in part. Parsing: the parser in memory; what goes on behind a first wrong thing; a result by value. -/
import Derived.Test.YtpllgpgdcbgalaaDoorG6
import Derived.Test.YtpllgpgdcbgalaaDoorG5
import Derived.WalkKit
import Derived.Deep.Slices
import Derived.Lib.ItoaNum
import Derived.Lib.AtoiAll
set_option linter.unusedSimpArgs false
set_option linter.unusedVariables false
set_option maxRecDepth 8000
namespace Go.Proofs.YtpllgpgdcbgalaaDoor
open Go Go.RowKit
def zey (a0 a1 a2 a3:AV) (H:Heap) (nx:Nat) (Q:QT):Prop :=
 NC a0 fun v1 =>
 FA 4 v1 fun v2 =>
 LD false 1 v2 H fun v3 =>
 BD (zl tab [(3,0),(3,1),(3,2)]) [.int .i64 0,.int .i64 0,.int .i64 0] [(0,a1),(1,a2),(2,a3)] fun v4 =>
 BSL 1 3 [.int .i64 0,.int .i64 0,.int .i64 0] [(0,v4)] fun cells5 =>
 PUTH H nx (.row 3 cells5) fun H6 =>
 APP 3 24 v3 (.slc nx 0 1) H6 (nx+1) fun v7 H8 nx9 =>
 NC a0 fun v10 =>
 FA 4 v10 fun v11 =>
 ST 1 v11 v7 H8 fun H12 =>
 NC a0 fun v13 =>
 FA 4 v13 fun v14 =>
 LD false 1 v14 H12 fun v15 =>
 LNL v15 fun v16 =>
 BI .sub v16 (.int .i64 1) fun v17 =>
 Q v17 H12 nx9
theorem znj (a0 a1 a2 a3:AV) (H:Heap) (nx:Nat) (Q:QT):zey a0 a1 a2 a3 H nx Q→za Tryd.prog 38 [a0,a1,a2,a3] H nx Q :=
  zg (lv:=lvOf []) (c:=zq Tryd.f38) zz zab mixed Tryd.func38 (by kernel_rfl) (by kernel_rfl) (by kernel_rfl) (by kernel_rfl) (by kernel_rfl)
def zci (Q:QT) (K1:J3) (xs2:List AV) (H3:Heap) (nx4:Nat):Prop :=
 BP .neq (nth xs2 0) .nilp fun v5 =>
 CNDC v5
 (NC (nth xs2 0) fun v6 =>
 FA 0 v6 fun v7 =>
 LD false 1 v7 H3 fun v8 =>
 BS .eql v8 (nth xs2 1) fun v9 =>
 CNDC v9
 (NC (nth xs2 0) fun v10 =>
 FA 1 v10 fun v11 =>
 LD false 1 v11 H3 fun v12 =>
 Q v12 H3 nx4)
 (NC (nth xs2 0) fun v13 =>
 FA 2 v13 fun v14 =>
 LD false 1 v14 H3 fun v15 =>
 K1 [v15,nth xs2 1] H3 nx4))
 (Q (.int .i64 0) H3 nx4)
def zhr (a0 a1:AV) (H:Heap) (nx:Nat) (Q:QT):Prop :=
 LP (zci Q) [a0,a1] H nx
theorem zme (a0 a1:AV) (H:Heap) (nx:Nat) (Q:QT):zhr a0 a1 H nx Q→za Tryd.prog 73 [a0,a1] H nx Q :=
  zg (lv:=lvOf [(2,1,[0,1])]) (c:=zq Tryd.f73) zz zab mixed Tryd.func73 (by kernel_rfl) (by kernel_rfl) (by kernel_rfl) (by kernel_rfl) (by kernel_rfl)
def zcj (a0:AV) (a1:AV) (Q:QT) (v4:AV) (H5:Heap) (nx6:Nat):Prop :=
 BI .lss v4 (.int .i64 0) fun v7 =>
 CNDC v7
 (NC a0 fun v8 =>
 FA 1 v8 fun v9 =>
 LD false 1 v9 H5 fun v10 =>
 LNL v10 fun v11 =>
 NC a0 fun v12 =>
 FA 1 v12 fun v13 =>
 LD false 1 v13 H5 fun v14 =>
 BSL 1 1 [.str []] [(0,a1)] fun cells15 =>
 PUTH H5 nx6 (.row 1 cells15) fun H16 =>
 APP 1 16 v14 (.slc nx6 0 1) H16 (nx6+1) fun v17 H18 nx19 =>
 NC a0 fun v20 =>
 FA 1 v20 fun v21 =>
 ST 1 v21 v17 H18 fun H22 =>
 Q v11 H22 nx19)
 (Q v4 H5 nx6)
def zhs (a0 a1:AV) (H:Heap) (nx:Nat) (Q:QT):Prop :=
 NC a0 fun v1 =>
 FA 1 v1 fun v2 =>
 LD false 1 v2 H fun v3 =>
 za Tryd.prog 70 [v3,a1] H nx (zcj a0 a1 Q)
theorem zmf (a0 a1:AV) (H:Heap) (nx:Nat) (Q:QT):zhs a0 a1 H nx Q→za Tryd.prog 82 [a0,a1] H nx Q :=
  zg (lv:=lvOf []) (c:=zq Tryd.f82) zz zab mixed Tryd.func82 (by kernel_rfl) (by kernel_rfl) (by kernel_rfl) (by kernel_rfl) (by kernel_rfl)
def zcn (Q:QT) (xs3:List AV) (K2:J3) (v9:AV) (H10:Heap) (nx11:Nat):Prop :=
 CNDC v9
 (Q (nth xs3 3) H10 nx11)
 (BI .add (nth xs3 3) (.int .i64 1) fun v12 =>
 K2 [nth xs3 0,nth xs3 1,nth xs3 2,v12] H10 nx11)
def zcm (Q:QT) (K2:J3) (xs3:List AV) (H4:Heap) (nx5:Nat):Prop :=
 BI .lss (nth xs3 3) (nth xs3 2) fun v6 =>
 CNDC v6
 (IA 3 (nth xs3 0) (nth xs3 3) fun v7 =>
 LD true 3 v7 H4 fun v8 =>
 CALL Tryd.prog (nth xs3 1) [v8] H4 nx5 (zcn Q xs3 K2))
 (Q (.int .i64 (-1)) H4 nx5)
def zfa (a0 a1:AV) (H:Heap) (nx:Nat) (Q:QT):Prop :=
 LNL a0 fun v1 =>
 LP (zcm Q) [a0,a1,v1,.int .i64 0] H nx
theorem zjd (a0 a1:AV) (H:Heap) (nx:Nat) (Q:QT):zfa a0 a1 H nx Q→za Tryd.prog 83 [a0,a1] H nx Q :=
  zg (lv:=lvOf [(2,2,[0,1,7,8])]) (c:=zq Tryd.f83) zz zab mixed Tryd.func83 (by kernel_rfl) (by kernel_rfl) (by kernel_rfl) (by kernel_rfl) (by kernel_rfl)
def zig (xs8:List AV) (K7:J3) (_:AV) (H19:Heap) (nx20:Nat):Prop :=
 BI .add (nth xs8 5) (.int .i64 1) fun v21 =>
 K7 [nth xs8 0,nth xs8 1,nth xs8 2,nth xs8 3,nth xs8 4,v21] H19 nx20
def zu (Q:QT) (v39:AV) (H40:Heap) (nx41:Nat):Prop :=
 Q (AV.tup []) H40 nx41
def zif (xs8:List AV) (Q:QT) (v47:AV) (H48:Heap) (nx49:Nat):Prop :=
 za Tryd.prog 38 [nth xs8 0,AV.int IntKind.i64 2,v47,AV.int IntKind.i64 0] H48 nx49 (zu Q)
def zie (xs8:List AV) (Q:QT) (v58:AV) (H59:Heap) (nx60:Nat):Prop :=
 za Tryd.prog 38 [nth xs8 0,AV.int IntKind.i64 3,v58,AV.int IntKind.i64 0] H59 nx60 (zu Q)
def zid (D104:zi) (rd106:List Nat) (rd110:List Nat) (Q:QT) (H29:Heap) (nx10:Nat) (fr103:List Nat) (v112:AV) (rd113:List Nat) (fr114:List Nat) (D115:zi):Prop :=
 zb (domD D104) [] (
 zb (domD D104) rd106 (
 zb (domD D104) [] (
 zb (domD D104) [] (
 zb (domD D104) [] (
 zb (domD D104) [] (
 zb (domD D104) [] (
 zb (domD D104) rd110 (
 zb (domD D104) [] (
 zb (domD D104) [] (
 zb (domD D104) [] (
 Q (AV.tup []) ((H29.apply D104).apply D115) ((nx10+fr103.length)+fr114.length))))))))))))
def zic (xs8:List AV) (H29:Heap) (nx10:Nat) (Q:QT) (v101:AV) (_:List Nat) (fr103:List Nat) (D104:zi):Prop :=
 LDR false 1 (nth xs8 3) (H29.apply D104) fun v105 rd106 =>
 NC v105 fun v107 =>
 FA 3 v107 fun v108 =>
 LDR false 1 v108 (H29.apply D104) fun v109 rd110 =>
 LNL v109 fun v111 =>
 zm Tryd.prog (.clo 38 []) [nth xs8 0,.int .i64 17,v101,v111] (H29.apply D104) (nx10+fr103.length) (zid D104 rd106 rd110 Q H29 nx10 fr103)
def zp (Q:QT) (K7:J3) (xs8:List AV) (H9:Heap) (nx10:Nat):Prop :=
 BI .lss (nth xs8 5) (nth xs8 4) fun v11 =>
 CNDC v11
 (LD false 1 (nth xs8 3) H9 fun v12 =>
 NC v12 fun v13 =>
 FA 3 v13 fun v14 =>
 LD false 1 v14 H9 fun v15 =>
 IA 4 v15 (nth xs8 5) fun v16 =>
 BI .add (nth xs8 2) (nth xs8 5) fun v17 =>
 za Tryd.prog 72 [nth xs8 0,v16,nth xs8 1,v17] H9 nx10 (zig xs8 K7))
 (NC (nth xs8 0) fun v22 =>
 FA 3 v22 fun v23 =>
 LD false 1 v23 H9 fun v24 =>
 BI .add (nth xs8 2) (.int .i64 1) fun v25 =>
 MM false v24 v25 fun v26 =>
 NC (nth xs8 0) fun v27 =>
 FA 3 v27 fun v28 =>
 ST 1 v28 v26 H9 fun H29 =>
 LD false 1 (nth xs8 3) H29 fun v30 =>
 NC v30 fun v31 =>
 FA 0 v31 fun v32 =>
 LD false 1 v32 H29 fun v33 =>
 BI .eql v33 (.int .i64 1) fun v34 =>
 CNDC v34
 (LD false 1 (nth xs8 3) H29 fun v35 =>
 NC v35 fun v36 =>
 FA 1 v36 fun v37 =>
 LD false 1 v37 H29 fun v38 =>
 za Tryd.prog 38 [nth xs8 0,.int .i64 1,v38,.int .i64 0] H29 nx10 (zu Q))
 (BI .eql v33 (.int .i64 2) fun v42 =>
 CNDC v42
 (LD false 1 (nth xs8 3) H29 fun v43 =>
 NC v43 fun v44 =>
 FA 2 v44 fun v45 =>
 LD false 1 v45 H29 fun v46 =>
 za Tryd.prog 82 [nth xs8 0,v46] H29 nx10 (zif xs8 Q))
 (BI .eql v33 (.int .i64 3) fun v53 =>
 CNDC v53
 (LD false 1 (nth xs8 3) H29 fun v54 =>
 NC v54 fun v55 =>
 FA 2 v55 fun v56 =>
 LD false 1 v56 H29 fun v57 =>
 za Tryd.prog 73 [nth xs8 1,v57] H29 nx10 (zie xs8 Q))
 (BI .eql v33 (.int .i64 4) fun v64 =>
 CNDC v64
 (LD false 1 (nth xs8 3) H29 fun v65 =>
 NC v65 fun v66 =>
 FA 1 v66 fun v67 =>
 LD false 1 v67 H29 fun v68 =>
 za Tryd.prog 38 [nth xs8 0,.int .i64 5,v68,.int .i64 0] H29 nx10 (zu Q))
 (BI .eql v33 (.int .i64 5) fun v72 =>
 CNDC v72
 (za Tryd.prog 38 [nth xs8 0,.int .i64 6,.int .i64 0,.int .i64 0] H29 nx10 (zu Q))
 (BI .eql v33 (.int .i64 6) fun v76 =>
 CNDC v76
 (za Tryd.prog 38 [nth xs8 0,.int .i64 7,.int .i64 0,.int .i64 0] H29 nx10 (zu Q))
 (BI .eql v33 (.int .i64 7) fun v80 =>
 CNDC v80
 (za Tryd.prog 38 [nth xs8 0,.int .i64 8,.int .i64 0,.int .i64 0] H29 nx10 (zu Q))
 (BI .eql v33 (.int .i64 8) fun v84 =>
 CNDC v84
 (za Tryd.prog 38 [nth xs8 0,.int .i64 11,.int .i64 0,.int .i64 0] H29 nx10 (zu Q))
 (BI .eql v33 (.int .i64 9) fun v88 =>
 CNDC v88
 (za Tryd.prog 38 [nth xs8 0,.int .i64 12,.int .i64 0,.int .i64 0] H29 nx10 (zu Q))
 (BI .eql v33 (.int .i64 10) fun v92 =>
 CNDC v92
 (za Tryd.prog 38 [nth xs8 0,.int .i64 13,.int .i64 0,.int .i64 0] H29 nx10 (zu Q))
 (BI .eql v33 (.int .i64 11) fun v96 =>
 CNDC v96
 (NC (nth xs8 0) fun v97 =>
 FA 0 v97 fun v98 =>
 LDR false 1 v98 H29 fun v99 _ =>
 zm Tryd.prog (.clo 83 []) [v99,.clo 84 [nth xs8 3]] H29 nx10 (zic xs8 H29 nx10 Q))
 (Q (.tup []) H29 nx10))))))))))))
def zib (a0 a1 a2 a3:AV) (H:Heap) (nx:Nat) (Q:QT):Prop :=
 a1.sure=true ∧
 PUTH H nx (.row a1.cells.length a1.cells) fun H1 =>
 LD false 1 (.ptr nx 0) H1 fun v2 =>
 NC v2 fun v3 =>
 FA 3 v3 fun v4 =>
 LD false 1 v4 H1 fun v5 =>
 LNL v5 fun v6 =>
 LP (zp Q) [a0,a2,a3,.ptr nx 0,v6,.int .i64 0] H1 (nx+1)
theorem zmh (a0 a1 a2 a3:AV) (H:Heap) (nx:Nat) (Q:QT):zib a0 a1 a2 a3 H nx Q→za Tryd.prog 72 [a0,a1,a2,a3] H nx Q :=
  zg (lv:=lvOf [(2,2,[0,2,3,5,13,14])]) (c:=zq Tryd.f72) zz zab mixed Tryd.func72 (by kernel_rfl) (by kernel_rfl) (by kernel_rfl) (by kernel_rfl) (by kernel_rfl)
def zia (xs10:List AV) (K9:J3) (_:AV) (H19:Heap) (nx20:Nat):Prop :=
 BI .add (nth xs10 5) (.int .i64 1) fun v21 =>
 K9 [nth xs10 0,nth xs10 1,nth xs10 2,nth xs10 3,nth xs10 4,v21] H19 nx20
def zhz (Q:QT) (nx12:Nat) (v44:AV) (H45:Heap) (nx46:Nat):Prop :=
 Q (AV.ptr nx12 0) H45 nx46
def zaf (Q:QT) (xs10:List AV) (v54:AV) (H55:Heap) (nx56:Nat):Prop :=
 Q (nth xs10 2) H55 nx56
def zhy (xs10:List AV) (Q:QT) (v51:AV) (H52:Heap) (nx53:Nat):Prop :=
 za Tryd.prog 38 [nth xs10 0,AV.int IntKind.i64 4,v51,AV.int IntKind.i64 0] H52 nx53 (zaf Q xs10)
def zck (xs10:List AV) (v67:AV) (Q:QT) (_:AV) (H89:Heap) (nx90:Nat):Prop :=
 NC (nth xs10 0) fun v91 =>
 FA 4 v91 fun v92 =>
 LDR false 1 v92 H89 fun v93 _ =>
 NC (nth xs10 0) fun v95 =>
 FA 4 v95 fun v96 =>
 LDR false 1 v96 H89 fun v97 _ =>
 LNL v97 fun v99 =>
 IA 3 v93 v67 fun v100 =>
 FA 1 v100 fun v101 =>
 zag 1 v101 v99 H89 fun _ _ fr104 D105 =>
 Q (nth xs10 2) (H89.apply D105) (nx90+fr104.length)
def zhx (xs10:List AV) (v58:AV) (Q:QT) (v67:AV) (H68:Heap) (nx69:Nat):Prop :=
 NC (nth xs10 0) fun v70 =>
 FA 4 v70 fun v71 =>
 LDR false 1 v71 H68 fun v72 _ =>
 NC (nth xs10 0) fun v74 =>
 FA 4 v74 fun v75 =>
 LDR false 1 v75 H68 fun v76 _ =>
 LNL v76 fun v78 =>
 IA 3 v72 v58 fun v79 =>
 FA 1 v79 fun v80 =>
 zag 1 v80 v78 H68 fun _ _ fr83 D84 =>
 NC (nth xs10 1) fun v85 =>
 FA 4 v85 fun v86 =>
 LD false 1 v86 (H68.apply D84) fun v87 =>
 za Tryd.prog 37 [nth xs10 0,v87,nth xs10 2] (H68.apply D84) (nx69+fr83.length) (zck xs10 v67 Q)
def zhw (xs10:List AV) (v58:AV) (Q:QT) (v64:AV) (H65:Heap) (nx66:Nat):Prop :=
 za Tryd.prog 38 [nth xs10 0,AV.int IntKind.i64 15,AV.int IntKind.i64 0,AV.int IntKind.i64 0] H65 nx66 (zhx xs10 v58 Q)
def zhv (xs10:List AV) (Q:QT) (v58:AV) (H59:Heap) (nx60:Nat):Prop :=
 NC (nth xs10 1) fun v61 =>
 FA 3 v61 fun v62 =>
 LD false 1 v62 H59 fun v63 =>
 za Tryd.prog 37 [nth xs10 0,v63,nth xs10 2] H59 nx60 (zhw xs10 v58 Q)
def zhu (xs10:List AV) (v107:AV) (Q:QT) (v113:AV) (H114:Heap) (nx115:Nat):Prop :=
 za Tryd.prog 38 [nth xs10 0,AV.int IntKind.i64 15,nth xs10 3,AV.int IntKind.i64 0] H114 nx115 (zck xs10 v107 Q)
def zgu (xs10:List AV) (Q:QT) (v107:AV) (H108:Heap) (nx109:Nat):Prop :=
 NC (nth xs10 1) fun v110 =>
 FA 3 v110 fun v111 =>
 LD false 1 v111 H108 fun v112 =>
 za Tryd.prog 37 [nth xs10 0,v112,nth xs10 2] H108 nx109 (zhu xs10 v107 Q)
def zt (Q:QT) (K9:J3) (xs10:List AV) (H11:Heap) (nx12:Nat):Prop :=
 BI .lss (nth xs10 5) (nth xs10 4) fun v13 =>
 CNDC v13
 (NC (nth xs10 1) fun v14 =>
 FA 2 v14 fun v15 =>
 LD false 1 v15 H11 fun v16 =>
 IA 4 v16 (nth xs10 5) fun v17 =>
 za Tryd.prog 72 [nth xs10 0,v17,nth xs10 2,nth xs10 5] H11 nx12 (zia xs10 K9))
 (NC (nth xs10 1) fun v22 =>
 FA 0 v22 fun v23 =>
 LD false 1 v23 H11 fun v24 =>
 BI .eql v24 (.int .i64 1) fun v25 =>
 CNDC v25
 (NC (nth xs10 1) fun v26 =>
 FA 1 v26 fun v27 =>
 LDR false 1 v27 H11 fun v28 _ =>
 NC (nth xs10 0) fun v30 =>
 FA 2 v30 fun v31 =>
 LDR false 1 v31 H11 fun v32 _ =>
 BD (zl tab [(9,0),(3,1),(71,2)]) [.str [],.int .i64 0,.nilp] [(0,v28),(1,v32),(2,nth xs10 2)] fun v34 =>
 v34.sure=true ∧
 PUTH H11 nx12 (.row v34.cells.length v34.cells) fun H35 =>
 NC (nth xs10 0) fun v36 =>
 FA 2 v36 fun v37 =>
 LD false 1 v37 H35 fun v38 =>
 BI .add v38 (.int .i64 1) fun v39 =>
 NC (nth xs10 0) fun v40 =>
 FA 2 v40 fun v41 =>
 ST 1 v41 v39 H35 fun H42 =>
 LD false 1 (.ptr nx12 1) H42 fun v43 =>
 za Tryd.prog 38 [nth xs10 0,.int .i64 4,v43,.int .i64 0] H42 (nx12+1) (zhz Q nx12))
 (BI .eql v24 (.int .i64 2) fun v47 =>
 CNDC v47
 (NC (nth xs10 1) fun v48 =>
 FA 1 v48 fun v49 =>
 LD false 1 v49 H11 fun v50 =>
 za Tryd.prog 73 [nth xs10 2,v50] H11 nx12 (zhy xs10 Q))
 (BI .eql v24 (.int .i64 3) fun v57 =>
 CNDC v57
 (za Tryd.prog 38 [nth xs10 0,.int .i64 16,.int .i64 0,.int .i64 0] H11 nx12 (zhv xs10 Q))
 (BI .eql v24 (.int .i64 4) fun v106 =>
 CNDC v106
 (za Tryd.prog 38 [nth xs10 0,.int .i64 16,.int .i64 0,.int .i64 0] H11 nx12 (zgu xs10 Q))
 (BI .eql v24 (.int .i64 5) fun v134 =>
 CNDC v134
 (za Tryd.prog 38 [nth xs10 0,.int .i64 14,.int .i64 0,.int .i64 0] H11 nx12 (zaf Q xs10))
 (BI .eql v24 (.int .i64 6) fun v138 =>
 CNDC v138
 (za Tryd.prog 38 [nth xs10 0,.int .i64 18,.int .i64 0,.int .i64 0] H11 nx12 (zaf Q xs10))
 (BI .eql v24 (.int .i64 7) fun v142 =>
 CNDC v142
 (za Tryd.prog 38 [nth xs10 0,.int .i64 9,.int .i64 0,.int .i64 0] H11 nx12 (zaf Q xs10))
 (BI .eql v24 (.int .i64 8) fun v146 =>
 CNDC v146
 (za Tryd.prog 38 [nth xs10 0,.int .i64 10,.int .i64 0,.int .i64 0] H11 nx12 (zaf Q xs10))
 (BI .eql v24 (.int .i64 9) fun v150 =>
 CNDC v150
 (za Tryd.prog 38 [nth xs10 0,.int .i64 19,.int .i64 0,.int .i64 0] H11 nx12 (zaf Q xs10))
 (Q (nth xs10 2) H11 nx12))))))))))
def zht (a0 a1 a2:AV) (H:Heap) (nx:Nat) (Q:QT):Prop :=
 NC a0 fun v1 =>
 FA 4 v1 fun v2 =>
 LD false 1 v2 H fun v3 =>
 LNL v3 fun v4 =>
 NC a1 fun v5 =>
 FA 2 v5 fun v6 =>
 LD false 1 v6 H fun v7 =>
 LNL v7 fun v8 =>
 LP (zt Q) [a0,a1,a2,v4,v8,.int .i64 0] H nx
theorem zmg (a0 a1 a2:AV) (H:Heap) (nx:Nat) (Q:QT):zht a0 a1 a2 H nx Q→za Tryd.prog 56 [a0,a1,a2] H nx Q :=
  zg (lv:=lvOf [(2,3,[0,1,2,7,21,22])]) (c:=zq Tryd.f56) zz zab mixed Tryd.func56 (by kernel_rfl) (by kernel_rfl) (by kernel_rfl) (by kernel_rfl) (by kernel_rfl)
def zgw (xs3:List AV) (K2:J3) (v8:AV) (H9:Heap) (nx10:Nat):Prop :=
 BI .add (nth xs3 4) (.int .i64 1) fun v11 =>
 K2 [nth xs3 0,nth xs3 1,v8,nth xs3 3,v11] H9 nx10
def zdq (Q:QT) (K2:J3) (xs3:List AV) (H4:Heap) (nx5:Nat):Prop :=
 BI .lss (nth xs3 4) (nth xs3 3) fun v6 =>
 CNDC v6
 (IA 5 (nth xs3 1) (nth xs3 4) fun v7 =>
 za Tryd.prog 56 [nth xs3 0,v7,nth xs3 2] H4 nx5 (zgw xs3 K2))
 (Q (.tup []) H4 nx5)
def zgv (a0 a1 a2:AV) (H:Heap) (nx:Nat) (Q:QT):Prop :=
 LNL a1 fun v1 =>
 LP (zdq Q) [a0,a1,a2,v1,.int .i64 0] H nx
theorem zlj (a0 a1 a2:AV) (H:Heap) (nx:Nat) (Q:QT):zgv a0 a1 a2 H nx Q→za Tryd.prog 37 [a0,a1,a2] H nx Q :=
  zg (lv:=lvOf [(2,1,[0,1,2,8,9])]) (c:=zq Tryd.f37) zz zab mixed Tryd.func37 (by kernel_rfl) (by kernel_rfl) (by kernel_rfl) (by kernel_rfl) (by kernel_rfl)
def zce (xs39:List AV) (Q:QT) (K6:J3) (_:AV) (H57:Heap) (nx58:Nat):Prop :=
 NC (nth xs39 1) fun v59 =>
 FA 4 v59 fun v60 =>
 LD false 1 v60 H57 fun v61 =>
 LNL v61 fun v62 =>
 BI .gtr v62 (.int .i64 200) fun v63 =>
 CND v63
 (ST 2 (nth xs39 0) (.agg [.nils,.nils]) H57 fun H64 =>
 LD true 2 (nth xs39 0) H64 fun v65 =>
 Q (.tup [v65,.int .i64 4]) H64 nx58)
 (NC (nth xs39 1) fun v66 =>
 FA 3 v66 fun v67 =>
 LD false 1 v67 H57 fun v68 =>
 BI .gtr v68 (.int .i64 16) fun v69 =>
 CNDC v69
 (ST 2 (nth xs39 0) (.agg [.nils,.nils]) H57 fun H70 =>
 LD true 2 (nth xs39 0) H70 fun v71 =>
 Q (.tup [v71,.int .i64 4]) H70 nx58)
 (FA 0 (nth xs39 2) fun v72 =>
 LDR false 1 v72 H57 fun v73 rd74 =>
 FA 1 (nth xs39 3) fun v75 =>
 LDR false 1 v75 H57 fun v76 _ =>
 LNL v76 fun v78 =>
 NC (nth xs39 1) fun v79 =>
 FA 2 v79 fun v80 =>
 LDR false 1 v80 H57 fun v81 _ =>
 NC (nth xs39 1) fun v83 =>
 FA 4 v83 fun v84 =>
 LDR false 1 v84 H57 fun v85 _ =>
 BD (zl tab [(3,0),(3,1),(38,2)]) [.int .i64 0,.int .i64 0,.nils] [(0,v78),(1,v81),(2,v85)] fun v87 =>
 BSL 1 3 [.int .i64 0,.int .i64 0,.nils] [(0,v87)] fun cells88 =>
 PUTH H57 nx58 (.row 3 cells88) fun H89 =>
 zad 3 40 v73 (.slc nx58 0 1) H89 (nx58+1) fun v90 _ fr92 D93 =>
 FA 0 (nth xs39 2) fun v94 =>
 zag 1 v94 v90 (H89.apply D93) fun _ _ fr97 D98 =>
 nx58∉[] ∧
 nx58∉rd74 ∧
 BI .add (nth xs39 7) (.int .i64 1) fun v99 =>
 K6 [nth xs39 0,nth xs39 1,nth xs39 2,nth xs39 5,nth xs39 6,v99] ((H89.apply D93).apply D98) (((nx58+1)+fr92.length)+fr97.length)))
def zoo (xs39:List AV) (Q:QT) (K6:J3) (v53:AV) (H54:Heap) (nx55:Nat):Prop :=
 za Tryd.prog 38 [nth xs39 1,AV.int IntKind.i64 18,AV.int IntKind.i64 0,AV.int IntKind.i64 0] H54 nx55 (zce xs39 Q K6)
def zon (xs39:List AV) (Q:QT) (K6:J3) (v50:AV) (H51:Heap) (nx52:Nat):Prop :=
 za Tryd.prog 38 [nth xs39 1,AV.int IntKind.i64 1,AV.int IntKind.i64 0,AV.int IntKind.i64 0] H51 nx52 (zoo xs39 Q K6)
def zeb (Q:QT) (K6:J3) (K38:J3) (xs39:List AV) (H40:Heap) (nx41:Nat):Prop :=
 BI .lss (nth xs39 10) (nth xs39 9) fun v42 =>
 CNDC v42
 (IA 1 (nth xs39 8) (nth xs39 10) fun v43 =>
 LD false 1 v43 H40 fun v44 =>
 BD (zl tab [(9,0),(3,1),(71,2)]) [.str [],.int .i64 0,.nilp] [(0,v44),(1,nth xs39 10),(2,nth xs39 4)] fun v45 =>
 v45.sure=true ∧
 PUTH H40 nx41 (.row v45.cells.length v45.cells) fun H46 =>
 BI .add (nth xs39 10) (.int .i64 1) fun v47 =>
 K38 [nth xs39 0,nth xs39 1,nth xs39 2,nth xs39 3,.ptr nx41 0,nth xs39 5,nth xs39 6,nth xs39 7,nth xs39 8,nth xs39 9,v47] H46 (nx41+1))
 (FA 2 (nth xs39 3) fun v48 =>
 LD false 1 v48 H40 fun v49 =>
 za Tryd.prog 37 [nth xs39 1,v49,nth xs39 4] H40 nx41 (zon xs39 Q K6))
def zgi (Q:QT) (K6:J3) (xs7:List AV) (H8:Heap) (nx9:Nat):Prop :=
 BI .lss (nth xs7 5) (nth xs7 4) fun v10 =>
 CNDC v10
 (IA 3 (nth xs7 3) (nth xs7 5) fun v11 =>
 LD true 3 v11 H8 fun v12 =>
 PUTH H8 nx9 (.row 3 [.str [],.nils,.nils]) fun H13 =>
 ST 3 (.ptr nx9 0) v12 H13 fun H14 =>
 LDR false 1 (.ptr nx9 1) H14 fun v15 rd16 =>
 LNL v15 fun v17 =>
 NC (nth xs7 1) fun v18 =>
 FA 4 v18 fun v19 =>
 zag 1 v19 .nils H14 fun _ _ fr22 D23 =>
 NC (nth xs7 1) fun v24 =>
 FA 2 v24 fun v25 =>
 zag 1 v25 v17 (H14.apply D23) fun _ _ fr28 D29 =>
 NC (nth xs7 1) fun v30 =>
 FA 3 v30 fun v31 =>
 zag 1 v31 (.int .i64 0) ((H14.apply D23).apply D29) fun _ _ fr34 D35 =>
 zb (domD D23) [] (
 zb (domD D23) [] (
 zb (domD D23) [] (
 zb (domD D23) rd16 (
 zb (domD D23) [] (
 zb (domD D29) [] (
 LD false 1 (.ptr nx9 1) (((H14.apply D23).apply D29).apply D35) fun v36 =>
 LNL v36 fun v37 =>
 LP (zeb Q K6) [nth xs7 0,nth xs7 1,nth xs7 2,.ptr nx9 0,.nilp,nth xs7 3,nth xs7 4,nth xs7 5,v36,v37,.int .i64 0] (((H14.apply D23).apply D29).apply D35) ((((nx9+1)+fr22.length)+fr28.length)+fr34.length))))))))
 (NC (nth xs7 1) fun v100 =>
 FA 1 v100 fun v101 =>
 LD false 1 v101 H8 fun v102 =>
 FA 1 (nth xs7 2) fun v103 =>
 ST 1 v103 v102 H8 fun H104 =>
 LD true 2 (nth xs7 2) H104 fun v105 =>
 ST 2 (nth xs7 0) v105 H104 fun H106 =>
 LD true 2 (nth xs7 0) H106 fun v107 =>
 Q (.tup [v107,.int .i64 0]) H106 nx9)
def zom (a0:AV) (H:Heap) (nx:Nat) (Q:QT):Prop :=
 PUTH H nx (.row 2 [.nils,.nils]) fun H1 =>
 BD (zl tab [(22,0),(32,1),(3,2),(3,3),(38,4)]) [.nils,.nils,.int .i64 0,.int .i64 0,.nils] [(0,a0)] fun v2 =>
 v2.sure=true ∧
 PUTH H1 (nx+1) (.row v2.cells.length v2.cells) fun H3 =>
 PUTH H3 (nx+2) (.row 2 [.nils,.nils]) fun H4 =>
 LNL a0 fun v5 =>
 LP (zgi Q) [.ptr nx 0,.ptr (nx+1) 0,.ptr (nx+2) 0,a0,v5,.int .i64 0] H4 (nx+3)
theorem zrh (a0:AV) (H:Heap) (nx:Nat) (Q:QT):zom a0 H nx Q→za Tryd.prog 16 [a0] H nx Q :=
  zg (lv:=lvOf [(2,4,[2,4,5,14,15,16]),(2,9,[2,4,5,7,8,14,15,16,33,34,35])]) (c:=zq Tryd.f16) zz zab mixed Tryd.func16 (by kernel_rfl) (by kernel_rfl) (by kernel_rfl) (by kernel_rfl) (by kernel_rfl)
def zke (xs5:List AV) (K4:J3) (v14:AV) (H15:Heap) (nx16:Nat):Prop :=
 APP 3 24 (nth xs5 3) v14 H15 nx16 fun v17 H18 nx19 =>
 BI .add (nth xs5 6) (.int .i64 1) fun v20 =>
 K4 [nth xs5 0,nth xs5 1,nth xs5 2,v17,nth xs5 4,nth xs5 5,v20] H18 nx19
def zbi (Q:QT) (K37:J3) (xs38:List AV) (H39:Heap) (nx40:Nat):Prop :=
 NC (nth xs38 0) fun v41 =>
 FA 1 v41 fun v42 =>
 LDR false 1 v42 H39 fun v43 _ =>
 LNL v43 fun v45 =>
 BI .lss (nth xs38 4) v45 fun v46 =>
 CND v46
 (NC (nth xs38 0) fun v47 =>
 FA 1 v47 fun v48 =>
 LDR false 1 v48 H39 fun v49 _ =>
 IA 1 v49 (nth xs38 4) fun v51 =>
 LDR false 1 v51 H39 fun v52 _ =>
 FA 2 (nth xs38 1) fun v54 =>
 LDR false 1 v54 H39 fun v55 _ =>
 BS .neq v52 v55 fun v57 =>
 CNDC v57
 (BI .add (nth xs38 4) (.int .i64 1) fun v58 =>
 K37 [nth xs38 0,nth xs38 1,nth xs38 2,nth xs38 3,v58] H39 nx40)
 (NC (nth xs38 0) fun v59 =>
 FA 1 v59 fun v60 =>
 LD false 1 v60 H39 fun v61 =>
 LNL v61 fun v62 =>
 BI .eql (nth xs38 4) v62 fun v63 =>
 CNDC v63
 (NC (nth xs38 0) fun v64 =>
 FA 1 v64 fun v65 =>
 LDR false 1 v65 H39 fun v66 rd67 =>
 FA 2 (nth xs38 1) fun v68 =>
 LDR false 1 v68 H39 fun v69 _ =>
 BSL 1 1 [.str []] [(0,v69)] fun cells71 =>
 PUTH H39 nx40 (.row 1 cells71) fun H72 =>
 zad 1 16 v66 (.slc nx40 0 1) H72 (nx40+1) fun v73 _ fr75 D76 =>
 NC (nth xs38 0) fun v77 =>
 FA 1 v77 fun v78 =>
 zag 1 v78 v73 (H72.apply D76) fun _ _ fr81 D82 =>
 nx40∉[] ∧
 nx40∉[] ∧
 nx40∉[] ∧
 nx40∉[] ∧
 nx40∉rd67 ∧
 zb (domD D76) [] (
 BD (zl tab [(3,0),(3,1),(3,2)]) [.int .i64 0,.int .i64 0,.int .i64 0] [(0,.int .i64 2),(1,nth xs38 4)] fun v83 =>
 ST 3 (nth xs38 3) v83 ((H72.apply D76).apply D82) fun H84 =>
 LD true 3 (nth xs38 3) H84 fun v85 =>
 BSL 1 3 [.int .i64 0,.int .i64 0,.int .i64 0] [(0,v85)] fun cells86 =>
 PUTH H84 (((nx40+1)+fr75.length)+fr81.length) (.row 3 cells86) fun H87 =>
 APP 3 24 (nth xs38 2) (.slc (((nx40+1)+fr75.length)+fr81.length) 0 1) H87 ((((nx40+1)+fr75.length)+fr81.length)+1) fun v88 H89 nx90 =>
 Q v88 H89 nx90))
 (BD (zl tab [(3,0),(3,1),(3,2)]) [.int .i64 0,.int .i64 0,.int .i64 0] [(0,.int .i64 2),(1,nth xs38 4)] fun v91 =>
 ST 3 (nth xs38 3) v91 H39 fun H92 =>
 LD true 3 (nth xs38 3) H92 fun v93 =>
 BSL 1 3 [.int .i64 0,.int .i64 0,.int .i64 0] [(0,v93)] fun cells94 =>
 PUTH H92 nx40 (.row 3 cells94) fun H95 =>
 APP 3 24 (nth xs38 2) (.slc nx40 0 1) H95 (nx40+1) fun v96 H97 nx98 =>
 Q v96 H97 nx98)))
 (NC (nth xs38 0) fun v99 =>
 FA 1 v99 fun v100 =>
 LD false 1 v100 H39 fun v101 =>
 LNL v101 fun v102 =>
 BI .eql (nth xs38 4) v102 fun v103 =>
 CNDC v103
 (NC (nth xs38 0) fun v104 =>
 FA 1 v104 fun v105 =>
 LDR false 1 v105 H39 fun v106 rd107 =>
 FA 2 (nth xs38 1) fun v108 =>
 LDR false 1 v108 H39 fun v109 _ =>
 BSL 1 1 [.str []] [(0,v109)] fun cells111 =>
 PUTH H39 nx40 (.row 1 cells111) fun H112 =>
 zad 1 16 v106 (.slc nx40 0 1) H112 (nx40+1) fun v113 _ fr115 D116 =>
 NC (nth xs38 0) fun v117 =>
 FA 1 v117 fun v118 =>
 zag 1 v118 v113 (H112.apply D116) fun _ _ fr121 D122 =>
 nx40∉[] ∧
 nx40∉[] ∧
 nx40∉[] ∧
 nx40∉[] ∧
 nx40∉rd107 ∧
 zb (domD D116) [] (
 BD (zl tab [(3,0),(3,1),(3,2)]) [.int .i64 0,.int .i64 0,.int .i64 0] [(0,.int .i64 2),(1,nth xs38 4)] fun v123 =>
 ST 3 (nth xs38 3) v123 ((H112.apply D116).apply D122) fun H124 =>
 LD true 3 (nth xs38 3) H124 fun v125 =>
 BSL 1 3 [.int .i64 0,.int .i64 0,.int .i64 0] [(0,v125)] fun cells126 =>
 PUTH H124 (((nx40+1)+fr115.length)+fr121.length) (.row 3 cells126) fun H127 =>
 APP 3 24 (nth xs38 2) (.slc (((nx40+1)+fr115.length)+fr121.length) 0 1) H127 ((((nx40+1)+fr115.length)+fr121.length)+1) fun v128 H129 nx130 =>
 Q v128 H129 nx130))
 (BD (zl tab [(3,0),(3,1),(3,2)]) [.int .i64 0,.int .i64 0,.int .i64 0] [(0,.int .i64 2),(1,nth xs38 4)] fun v131 =>
 ST 3 (nth xs38 3) v131 H39 fun H132 =>
 LD true 3 (nth xs38 3) H132 fun v133 =>
 BSL 1 3 [.int .i64 0,.int .i64 0,.int .i64 0] [(0,v133)] fun cells134 =>
 PUTH H132 nx40 (.row 3 cells134) fun H135 =>
 APP 3 24 (nth xs38 2) (.slc nx40 0 1) H135 (nx40+1) fun v136 H137 nx138 =>
 Q v136 H137 nx138))
def zdk (Q:QT) (K167:J3) (xs168:List AV) (H169:Heap) (nx170:Nat):Prop :=
 BI .lss (nth xs168 5) (nth xs168 4) fun v171 =>
 CNDC v171
 (IA 3 (nth xs168 3) (nth xs168 5) fun v172 =>
 LD true 3 v172 H169 fun v173 =>
 PUTH H169 nx170 (.row 3 [.str [],.nils,.nils]) fun H174 =>
 ST 3 (.ptr nx170 0) v173 H174 fun H175 =>
 LD false 1 (.ptr nx170 0) H175 fun v176 =>
 FA 2 (nth xs168 0) fun v177 =>
 LD false 1 v177 H175 fun v178 =>
 BS .eql v176 v178 fun v179 =>
 CNDC v179
 (FA 3 (nth xs168 0) fun v180 =>
 LD false 1 v180 H175 fun v181 =>
 LNL v181 fun v182 =>
 BD (zl tab [(3,0),(3,1),(3,2)]) [.int .i64 0,.int .i64 0,.int .i64 0] [(0,.int .i64 17),(1,nth xs168 5),(2,v182)] fun v183 =>
 ST 3 (nth xs168 2) v183 H175 fun H184 =>
 BI .add (nth xs168 5) (.int .i64 1) fun v185 =>
 K167 [nth xs168 0,nth xs168 1,nth xs168 2,nth xs168 3,nth xs168 4,v185] H184 (nx170+1))
 (BI .add (nth xs168 5) (.int .i64 1) fun v186 =>
 K167 [nth xs168 0,nth xs168 1,nth xs168 2,nth xs168 3,nth xs168 4,v186] H175 (nx170+1)))
 (LD true 3 (nth xs168 2) H169 fun v187 =>
 BSL 1 3 [.int .i64 0,.int .i64 0,.int .i64 0] [(0,v187)] fun cells188 =>
 PUTH H169 nx170 (.row 3 cells188) fun H189 =>
 APP 3 24 (nth xs168 1) (.slc nx170 0 1) H189 (nx170+1) fun v190 H191 nx192 =>
 Q v190 H191 nx192)
def zai (Q:QT) (K4:J3) (xs5:List AV) (H6:Heap) (nx7:Nat):Prop :=
 BI .lss (nth xs5 6) (nth xs5 5) fun v8 =>
 CNDC v8
 (IA 4 (nth xs5 4) (nth xs5 6) fun v9 =>
 LD true 4 v9 H6 fun v10 =>
 PUTH H6 nx7 (.row 4 [.int .i64 0,.int .i64 0,.str [],.nils]) fun H11 =>
 ST 4 (.ptr nx7 0) v10 H11 fun H12 =>
 LD true 4 (.ptr nx7 0) H12 fun v13 =>
 za Tryd.prog 57 [nth xs5 0,v13,nth xs5 1] H12 (nx7+1) (zke xs5 K4))
 (PUTH H6 nx7 (.row 3 [.int .i64 0,.int .i64 0,.int .i64 0]) fun H21 =>
 ST 3 (.ptr nx7 0) (.agg [.int .i64 0,.int .i64 0,.int .i64 0]) H21 fun H22 =>
 FA 0 (nth xs5 2) fun v23 =>
 LD false 1 v23 H22 fun v24 =>
 BI .eql v24 (.int .i64 1) fun v25 =>
 CNDC v25
 (FA 1 (nth xs5 2) fun v26 =>
 LD false 1 v26 H22 fun v27 =>
 BD (zl tab [(3,0),(3,1),(3,2)]) [.int .i64 0,.int .i64 0,.int .i64 0] [(0,.int .i64 1),(1,v27)] fun v28 =>
 ST 3 (.ptr nx7 0) v28 H22 fun H29 =>
 LD true 3 (.ptr nx7 0) H29 fun v30 =>
 BSL 1 3 [.int .i64 0,.int .i64 0,.int .i64 0] [(0,v30)] fun cells31 =>
 PUTH H29 (nx7+1) (.row 3 cells31) fun H32 =>
 APP 3 24 (nth xs5 3) (.slc (nx7+1) 0 1) H32 (nx7+2) fun v33 H34 nx35 =>
 Q v33 H34 nx35)
 (BI .eql v24 (.int .i64 2) fun v36 =>
 CNDC v36
 (LP (zbi Q) [nth xs5 0,nth xs5 2,nth xs5 3,.ptr nx7 0,.int .i64 0] H22 (nx7+1))
 (BI .eql v24 (.int .i64 3) fun v139 =>
 CNDC v139
 (FA 2 (nth xs5 2) fun v140 =>
 LD false 1 v140 H22 fun v141 =>
 zn (AK.str) v141=true ∧
 LK [.int .i64 0] false (nth xs5 1) v141 false H22 fun v142 =>
 BD (zl tab [(3,0),(3,1),(3,2)]) [.int .i64 0,.int .i64 0,.int .i64 0] [(0,.int .i64 3),(1,v142)] fun v143 =>
 ST 3 (.ptr nx7 0) v143 H22 fun H144 =>
 LD true 3 (.ptr nx7 0) H144 fun v145 =>
 BSL 1 3 [.int .i64 0,.int .i64 0,.int .i64 0] [(0,v145)] fun cells146 =>
 PUTH H144 (nx7+1) (.row 3 cells146) fun H147 =>
 APP 3 24 (nth xs5 3) (.slc (nx7+1) 0 1) H147 (nx7+2) fun v148 H149 nx150 =>
 Q v148 H149 nx150)
 (BI .eql v24 (.int .i64 4) fun v151 =>
 CNDC v151
 (FA 1 (nth xs5 2) fun v152 =>
 LD false 1 v152 H22 fun v153 =>
 BD (zl tab [(3,0),(3,1),(3,2)]) [.int .i64 0,.int .i64 0,.int .i64 0] [(0,.int .i64 5),(1,v153)] fun v154 =>
 ST 3 (.ptr nx7 0) v154 H22 fun H155 =>
 LD true 3 (.ptr nx7 0) H155 fun v156 =>
 BSL 1 3 [.int .i64 0,.int .i64 0,.int .i64 0] [(0,v156)] fun cells157 =>
 PUTH H155 (nx7+1) (.row 3 cells157) fun H158 =>
 APP 3 24 (nth xs5 3) (.slc (nx7+1) 0 1) H158 (nx7+2) fun v159 H160 nx161 =>
 Q v159 H160 nx161)
 (BI .eql v24 (.int .i64 11) fun v162 =>
 CNDC v162
 (NC (nth xs5 0) fun v163 =>
 FA 0 v163 fun v164 =>
 LD false 1 v164 H22 fun v165 =>
 LNL v165 fun v166 =>
 LP (zdk Q) [nth xs5 2,nth xs5 3,.ptr nx7 0,v165,v166,.int .i64 0] H22 (nx7+1))
 (PUTH H22 (nx7+1) (.mp []) fun H193 =>
 zn (AK.int .i64) (.int .i64 5)=true ∧
 MU (.amap (nx7+1)) (.int .i64 5) (.int .i64 6) H193 fun H194 =>
 zn (AK.int .i64) (.int .i64 6)=true ∧
 MU (.amap (nx7+1)) (.int .i64 6) (.int .i64 7) H194 fun H195 =>
 zn (AK.int .i64) (.int .i64 7)=true ∧
 MU (.amap (nx7+1)) (.int .i64 7) (.int .i64 8) H195 fun H196 =>
 zn (AK.int .i64) (.int .i64 8)=true ∧
 MU (.amap (nx7+1)) (.int .i64 8) (.int .i64 11) H196 fun H197 =>
 zn (AK.int .i64) (.int .i64 9)=true ∧
 MU (.amap (nx7+1)) (.int .i64 9) (.int .i64 12) H197 fun H198 =>
 zn (AK.int .i64) (.int .i64 10)=true ∧
 MU (.amap (nx7+1)) (.int .i64 10) (.int .i64 13) H198 fun H199 =>
 FA 0 (nth xs5 2) fun v200 =>
 LD false 1 v200 H199 fun v201 =>
 zn (AK.int .i64) v201=true ∧
 LK [.int .i64 0] false (.amap (nx7+1)) v201 false H199 fun v202 =>
 ST 1 (.ptr nx7 0) v202 H199 fun H203 =>
 LD true 3 (.ptr nx7 0) H203 fun v204 =>
 BSL 1 3 [.int .i64 0,.int .i64 0,.int .i64 0] [(0,v204)] fun cells205 =>
 PUTH H203 (nx7+2) (.row 3 cells205) fun H206 =>
 APP 3 24 (nth xs5 3) (.slc (nx7+2) 0 1) H206 (nx7+3) fun v207 H208 nx209 =>
 Q v207 H208 nx209))))))
def zkd (a0 a1 a2:AV) (H:Heap) (nx:Nat) (Q:QT):Prop :=
 a1.sure=true ∧
 PUTH H nx (.row a1.cells.length a1.cells) fun H1 =>
 LD false 1 (.ptr nx 3) H1 fun v2 =>
 LNL v2 fun v3 =>
 LP (zai Q) [a0,a2,.ptr nx 0,.nils,v2,v3,.int .i64 0] H1 (nx+1)
theorem znt (a0 a1 a2:AV) (H:Heap) (nx:Nat) (Q:QT):zkd a0 a1 a2 H nx Q→za Tryd.prog 57 [a0,a1,a2] H nx Q :=
  zg (lv:=lvOf [(2,3,[0,2,4,7,15,16,17]),(2,14,[0,4,7,10,11]),(2,25,[4,7,10,102,103,104])]) (c:=zq Tryd.f57) zz zab mixed Tryd.func57 (by kernel_rfl) (by kernel_rfl) (by kernel_rfl) (by kernel_rfl) (by kernel_rfl)
def zgx (Q:QT) (K6:J3) (xs7:List AV) (H8:Heap) (nx9:Nat):Prop :=
 BI .lss (nth xs7 4) (nth xs7 3) fun v10 =>
 CNDC v10
 (IA 3 (nth xs7 2) (nth xs7 4) fun v11 =>
 LD true 3 v11 H8 fun v12 =>
 PUTH H8 nx9 (.row 3 [.int .i64 0,.int .i64 0,.int .i64 0]) fun H13 =>
 ST 3 (.ptr nx9 0) v12 H13 fun H14 =>
 LD false 1 (.ptr nx9 0) H14 fun v15 =>
 BI .eql v15 (.int .i64 15) fun v16 =>
 CND v16
 (LD false 1 (.ptr nx9 1) H14 fun v17 =>
 LNL (nth xs7 0) fun v18 =>
 BI .add v17 v18 fun v19 =>
 ST 1 (.ptr nx9 1) v19 H14 fun H20 =>
 LD true 3 (.ptr nx9 0) H20 fun v21 =>
 BSL 1 3 [.int .i64 0,.int .i64 0,.int .i64 0] [(0,v21)] fun cells22 =>
 PUTH H20 (nx9+1) (.row 3 cells22) fun H23 =>
 APP 3 24 (nth xs7 1) (.slc (nx9+1) 0 1) H23 (nx9+2) fun v24 H25 nx26 =>
 BI .add (nth xs7 4) (.int .i64 1) fun v27 =>
 K6 [nth xs7 0,v24,nth xs7 2,nth xs7 3,v27] H25 nx26)
 (LD false 1 (.ptr nx9 0) H14 fun v28 =>
 BI .eql v28 (.int .i64 16) fun v29 =>
 CNDC v29
 (LD false 1 (.ptr nx9 1) H14 fun v30 =>
 LNL (nth xs7 0) fun v31 =>
 BI .add v30 v31 fun v32 =>
 ST 1 (.ptr nx9 1) v32 H14 fun H33 =>
 LD true 3 (.ptr nx9 0) H33 fun v34 =>
 BSL 1 3 [.int .i64 0,.int .i64 0,.int .i64 0] [(0,v34)] fun cells35 =>
 PUTH H33 (nx9+1) (.row 3 cells35) fun H36 =>
 APP 3 24 (nth xs7 1) (.slc (nx9+1) 0 1) H36 (nx9+2) fun v37 H38 nx39 =>
 BI .add (nth xs7 4) (.int .i64 1) fun v40 =>
 K6 [nth xs7 0,v37,nth xs7 2,nth xs7 3,v40] H38 nx39)
 (LD true 3 (.ptr nx9 0) H14 fun v41 =>
 BSL 1 3 [.int .i64 0,.int .i64 0,.int .i64 0] [(0,v41)] fun cells42 =>
 PUTH H14 (nx9+1) (.row 3 cells42) fun H43 =>
 APP 3 24 (nth xs7 1) (.slc (nx9+1) 0 1) H43 (nx9+2) fun v44 H45 nx46 =>
 BI .add (nth xs7 4) (.int .i64 1) fun v47 =>
 K6 [nth xs7 0,v44,nth xs7 2,nth xs7 3,v47] H45 nx46)))
 (Q (nth xs7 1) H8 nx9)
def zll (a0 a1:AV) (H:Heap) (nx:Nat) (Q:QT):Prop :=
 PUTH H nx (.row 3 []) fun H1 =>
 APP 3 24 (.slc nx 0 0) a0 H1 (nx+1) fun v2 H3 nx4 =>
 LNL a1 fun v5 =>
 LP (zgx Q) [a0,v2,a1,v5,.int .i64 0] H3 nx4
theorem zpk (a0 a1:AV) (H:Heap) (nx:Nat) (Q:QT):zll a0 a1 H nx Q→za Tryd.prog 59 [a0,a1] H nx Q :=
  zg (lv:=lvOf [(2,3,[0,5,11,12,13])]) (c:=zq Tryd.f59) zz zab mixed Tryd.func59 (by kernel_rfl) (by kernel_rfl) (by kernel_rfl) (by kernel_rfl) (by kernel_rfl)
def zjb (v42:AV) (H41:Heap) (nx36:Nat) (xs34:List AV) (rd43:List Nat) (K33:J3) (v46:AV) (_:List Nat) (fr48:List Nat) (D49:zi):Prop :=
 zad 3 24 v42 v46 (H41.apply D49) ((nx36+1)+fr48.length) fun v50 _ fr52 D53 =>
 zag 1 (nth xs34 4) v50 ((H41.apply D49).apply D53) fun _ _ fr56 D57 =>
 SOFT (nth xs34 4) v42 D49 rd43 (
 BI .add (nth xs34 10) (.int .i64 1) fun v58 =>
 K33 [nth xs34 0,nth xs34 1,nth xs34 2,nth xs34 3,nth xs34 4,nth xs34 5,nth xs34 6,nth xs34 7,nth xs34 8,nth xs34 9,v58] (((H41.apply D49).apply D53).apply D57) ((((nx36+1)+fr48.length)+fr52.length)+fr56.length))
def zbc (xs34:List AV) (K21:J3) (_:AV) (H84:Heap) (nx85:Nat):Prop :=
 BI .add (nth xs34 7) (.int .i64 1) fun v86 =>
 K21 [nth xs34 0,nth xs34 1,nth xs34 2,nth xs34 5,nth xs34 6,v86] H84 nx85
def zja (xs34:List AV) (H144:Heap) (D148:zi) (D154:zi) (v149:AV) (rd150:List Nat) (K21:J3) (nx36:Nat) (fr101:List Nat) (fr108:List Nat) (fr115:List Nat) (fr128:List Nat) (fr132:List Nat) (fr147:List Nat) (fr153:List Nat) (v155:AV) (_:List Nat) (fr157:List Nat) (D158:zi):Prop :=
 zag 1 (nth xs34 1) v155 (((H144.apply D148).apply D154).apply D158) fun _ _ fr161 D162 =>
 SOFT (nth xs34 1) v149 D154 rd150 (
 BI .add (nth xs34 7) (.int .i64 1) fun v163 =>
 K21 [nth xs34 0,nth xs34 1,nth xs34 2,nth xs34 5,nth xs34 6,v163] ((((H144.apply D148).apply D154).apply D158).apply D162) ((((((((((((nx36+fr101.length)+fr108.length)+1)+fr115.length)+1)+fr128.length)+fr132.length)+1)+fr147.length)+fr153.length)+fr157.length)+fr161.length))
def ziz (v149:AV) (H144:Heap) (D148:zi) (nx36:Nat) (fr101:List Nat) (fr108:List Nat) (fr115:List Nat) (fr128:List Nat) (fr132:List Nat) (fr147:List Nat) (xs34:List AV) (rd150:List Nat) (K21:J3) (v151:AV) (rd152:List Nat) (fr153:List Nat) (D154:zi):Prop :=
 zm Tryd.prog (AV.clo 59 []) [v149,v151] ((H144.apply D148).apply D154) ((((((((((nx36+fr101.length)+fr108.length)+1)+fr115.length)+1)+fr128.length)+fr132.length)+1)+fr147.length)+fr153.length) (zja xs34 H144 D148 D154 v149 rd150 K21 nx36 fr101 fr108 fr115 fr128 fr132 fr147 fr153)
def zes (xs34:List AV) (H125:Heap) (D129:zi) (v99:AV) (v106:AV) (nx36:Nat) (fr101:List Nat) (fr108:List Nat) (fr115:List Nat) (fr128:List Nat) (K21:J3) (v130:AV) (rd131:List Nat) (fr132:List Nat) (D133:zi):Prop :=
 LDR false 1 (nth xs34 4) ((H125.apply D129).apply D133) fun v134 rd135 =>
 LNL v134 fun v136 =>
 LNL v99 fun v137 =>
 BI .add v136 v137 fun v138 =>
 BI .add v138 (.int .i64 2) fun v139 =>
 LNL v106 fun v140 =>
 BI .add v139 v140 fun v141 =>
 BD (zl tab [(3,0),(3,1),(3,2)]) [.int .i64 0,.int .i64 0,.int .i64 0] [(0,.int .i64 15),(1,v141)] fun v142 =>
 BSL 1 3 [.int .i64 0,.int .i64 0,.int .i64 0] [(0,v142)] fun cells143 =>
 PUTH ((H125.apply D129).apply D133) (((((((nx36+fr101.length)+fr108.length)+1)+fr115.length)+1)+fr128.length)+fr132.length) (.row 3 cells143) fun H144 =>
 zad 3 24 v130 (.slc (((((((nx36+fr101.length)+fr108.length)+1)+fr115.length)+1)+fr128.length)+fr132.length) 0 1) H144 ((((((((nx36+fr101.length)+fr108.length)+1)+fr115.length)+1)+fr128.length)+fr132.length)+1) fun v145 _ fr147 D148 =>
 zb (domD D133) rd135 (
 zb (domD D133) [] (
 zb (domD D133) [] (
 zb (domD D133) [] (
 zb (domD D133) [] (
 zb (domD D133) [] (
 zb (domD D133) [] (
 zb (domD D133) [] (
 zb (domD D133) [] (
 zb (domD D133) [] (
 zb (domD D133) [] (
 zb (domD D133) [] (
 zb (domD D133) [] (
 zb (domD D133) [] (
 zb (domD D133) [] (
 zb (domD D133) [] (
 zb (domD D133) [] (
 zb (domD D133) [] (
 zb (domD D133) [] (
 zb (domD D133) [] (
 (((((((nx36+fr101.length)+fr108.length)+1)+fr115.length)+1)+fr128.length)+fr132.length)∉[] ∧
 (((((((nx36+fr101.length)+fr108.length)+1)+fr115.length)+1)+fr128.length)+fr132.length)∉[] ∧
 zb (domD D133) [] (
 zb (domD D133) [(((((((nx36+fr101.length)+fr108.length)+1)+fr115.length)+1)+fr128.length)+fr132.length)] (
 (((((((nx36+fr101.length)+fr108.length)+1)+fr115.length)+1)+fr128.length)+fr132.length)∉rd131 ∧
 LDR false 1 (nth xs34 1) (H144.apply D148) fun v149 rd150 =>
 zm Tryd.prog (.clo 59 []) [v145,v106] (H144.apply D148) (((((((((nx36+fr101.length)+fr108.length)+1)+fr115.length)+1)+fr128.length)+fr132.length)+1)+fr147.length) (ziz v149 H144 D148 nx36 fr101 fr108 fr115 fr128 fr132 fr147 xs34 rd150 K21)))))))))))))))))))))))
def ziy (D102:zi) (rd105:List Nat) (H35:Heap) (nx36:Nat) (fr101:List Nat) (xs34:List AV) (v99:AV) (K21:J3) (v106:AV) (_:List Nat) (fr108:List Nat) (D109:zi):Prop :=
 zb (domD D102) [] (
 zb (domD D102) [] (
 zb (domD D102) [] (
 zb (domD D102) [] (
 zb (domD D102) rd105 (
 zb (domD D102) [] (
 zb (domD D102) [] (
 zb (domD D102) [] (
 PUTH ((H35.apply D102).apply D109) ((nx36+fr101.length)+fr108.length) (.row 3 []) fun H110 =>
 LDR false 1 (nth xs34 4) H110 fun v111 rd112 =>
 zad 3 24 (.slc ((nx36+fr101.length)+fr108.length) 0 0) v111 H110 (((nx36+fr101.length)+fr108.length)+1) fun v113 rd114 fr115 D116 =>
 LDR false 1 (nth xs34 4) (H110.apply D116) fun v117 rd118 =>
 LNL v117 fun v119 =>
 LNL v99 fun v120 =>
 BI .add v119 v120 fun v121 =>
 BI .add v121 (.int .i64 2) fun v122 =>
 BD (zl tab [(3,0),(3,1),(3,2)]) [.int .i64 0,.int .i64 0,.int .i64 0] [(0,.int .i64 16),(1,v122)] fun v123 =>
 BSL 1 3 [.int .i64 0,.int .i64 0,.int .i64 0] [(0,v123)] fun cells124 =>
 PUTH (H110.apply D116) ((((nx36+fr101.length)+fr108.length)+1)+fr115.length) (.row 3 cells124) fun H125 =>
 zad 3 24 v113 (.slc ((((nx36+fr101.length)+fr108.length)+1)+fr115.length) 0 1) H125 (((((nx36+fr101.length)+fr108.length)+1)+fr115.length)+1) fun v126 _ fr128 D129 =>
 ((nx36+fr101.length)+fr108.length)∉rd112 ∧
 ((nx36+fr101.length)+fr108.length)∉[] ∧
 ((nx36+fr101.length)+fr108.length)∉rd118 ∧
 ((nx36+fr101.length)+fr108.length)∉[] ∧
 zb (domD D116) rd118 (
 zb (domD D116) [] (
 ((nx36+fr101.length)+fr108.length)∉[] ∧
 ((nx36+fr101.length)+fr108.length)∉[] ∧
 zb (domD D116) [] (
 zb (domD D116) [] (
 ((nx36+fr101.length)+fr108.length)∉[] ∧
 ((nx36+fr101.length)+fr108.length)∉[] ∧
 zb (domD D116) [] (
 zb (domD D116) [] (
 ((nx36+fr101.length)+fr108.length)∉[] ∧
 ((nx36+fr101.length)+fr108.length)∉[] ∧
 zb (domD D116) [] (
 zb (domD D116) [] (
 ((nx36+fr101.length)+fr108.length)∉[] ∧
 ((nx36+fr101.length)+fr108.length)∉[] ∧
 zb (domD D116) [] (
 zb (domD D116) [] (
 ((nx36+fr101.length)+fr108.length)∉[] ∧
 ((nx36+fr101.length)+fr108.length)∉[] ∧
 zb (domD D116) [] (
 zb (domD D116) [] (
 ((nx36+fr101.length)+fr108.length)∉[] ∧
 ((nx36+fr101.length)+fr108.length)∉[] ∧
 zb (domD D116) [] (
 zb (domD D116) [] (
 ((nx36+fr101.length)+fr108.length)∉[] ∧
 ((nx36+fr101.length)+fr108.length)∉[((((nx36+fr101.length)+fr108.length)+1)+fr115.length)] ∧
 ((((nx36+fr101.length)+fr108.length)+1)+fr115.length)∉[] ∧
 ((((nx36+fr101.length)+fr108.length)+1)+fr115.length)∉rd112 ∧
 zb (domD D116) [] (
 zb (domD D116) [((((nx36+fr101.length)+fr108.length)+1)+fr115.length)] (
 ((((nx36+fr101.length)+fr108.length)+1)+fr115.length)∉rd114 ∧
 zm Tryd.prog (.clo 59 []) [v126,v99] (H125.apply D129) ((((((nx36+fr101.length)+fr108.length)+1)+fr115.length)+1)+fr128.length) (zes xs34 H125 D129 v99 v106 nx36 fr101 fr108 fr115 fr128 K21)))))))))))))))))))))))))
def zix (xs34:List AV) (H35:Heap) (nx36:Nat) (K21:J3) (v99:AV) (_:List Nat) (fr101:List Nat) (D102:zi):Prop :=
 FA 4 (nth xs34 3) fun v103 =>
 LDR false 1 v103 (H35.apply D102) fun v104 rd105 =>
 zm Tryd.prog (.clo 39 []) [nth xs34 0,v104,nth xs34 2] (H35.apply D102) (nx36+fr101.length) (ziy D102 rd105 H35 nx36 fr101 xs34 v99 K21)
def ziw (xs34:List AV) (H196:Heap) (D200:zi) (v190:AV) (D195:zi) (rd191:List Nat) (nx169:Nat) (fr175:List Nat) (fr188:List Nat) (fr194:List Nat) (rd193:List Nat) (K21:J3) (fr199:List Nat) (v201:AV) (_:List Nat) (fr203:List Nat) (D204:zi):Prop :=
 zag 1 (nth xs34 1) v201 ((H196.apply D200).apply D204) fun _ _ fr207 D208 =>
 SOFT (nth xs34 1) v190 D195 rd191 (
 zb (domD D195) [] (
 zb (domD D195) [] (
 (((((nx169+1)+fr175.length)+1)+fr188.length)+fr194.length)∉rd191 ∧
 (((((nx169+1)+fr175.length)+1)+fr188.length)+fr194.length)∉[] ∧
 (((((nx169+1)+fr175.length)+1)+fr188.length)+fr194.length)∉[] ∧
 zb (domD D195) [] (
 zb (domD D195) [(((((nx169+1)+fr175.length)+1)+fr188.length)+fr194.length)] (
 (((((nx169+1)+fr175.length)+1)+fr188.length)+fr194.length)∉rd193 ∧
 zb (domD D200) rd191 (
 BI .add (nth xs34 7) (.int .i64 1) fun v209 =>
 K21 [nth xs34 0,nth xs34 1,nth xs34 2,nth xs34 5,nth xs34 6,v209] (((H196.apply D200).apply D204).apply D208) (((((((((nx169+1)+fr175.length)+1)+fr188.length)+fr194.length)+1)+fr199.length)+fr203.length)+fr207.length)))))))
def ziv (H185:Heap) (D189:zi) (nx169:Nat) (fr175:List Nat) (fr188:List Nat) (v190:AV) (xs34:List AV) (rd191:List Nat) (K21:J3) (v192:AV) (rd193:List Nat) (fr194:List Nat) (D195:zi):Prop :=
 PUTH ((H185.apply D189).apply D195) (((((nx169+1)+fr175.length)+1)+fr188.length)+fr194.length) (.row 3 [.int .i64 15,.int .i64 0,.int .i64 0]) fun H196 =>
 zad 3 24 v192 (.slc (((((nx169+1)+fr175.length)+1)+fr188.length)+fr194.length) 0 1) H196 ((((((nx169+1)+fr175.length)+1)+fr188.length)+fr194.length)+1) fun v197 _ fr199 D200 =>
 zm Tryd.prog (.clo 59 []) [v190,v197] (H196.apply D200) (((((((nx169+1)+fr175.length)+1)+fr188.length)+fr194.length)+1)+fr199.length) (ziw xs34 H196 D200 v190 D195 rd191 nx169 fr175 fr188 fr194 rd193 K21 fr199)
def zhj (xs34:List AV) (K21:J3) (v167:AV) (H168:Heap) (nx169:Nat):Prop :=
 PUTH H168 nx169 (.row 3 []) fun H170 =>
 LDR false 1 (nth xs34 4) H170 fun v171 rd172 =>
 zad 3 24 (.slc nx169 0 0) v171 H170 (nx169+1) fun v173 rd174 fr175 D176 =>
 LDR false 1 (nth xs34 4) (H170.apply D176) fun v177 rd178 =>
 LNL v177 fun v179 =>
 LNL v167 fun v180 =>
 BI .add v179 v180 fun v181 =>
 BI .add v181 (.int .i64 2) fun v182 =>
 BD (zl tab [(3,0),(3,1),(3,2)]) [.int .i64 0,.int .i64 0,.int .i64 0] [(0,.int .i64 16),(1,v182)] fun v183 =>
 BSL 1 3 [.int .i64 0,.int .i64 0,.int .i64 0] [(0,v183)] fun cells184 =>
 PUTH (H170.apply D176) ((nx169+1)+fr175.length) (.row 3 cells184) fun H185 =>
 zad 3 24 v173 (.slc ((nx169+1)+fr175.length) 0 1) H185 (((nx169+1)+fr175.length)+1) fun v186 _ fr188 D189 =>
 nx169∉rd172 ∧
 nx169∉[] ∧
 nx169∉rd178 ∧
 nx169∉[] ∧
 zb (domD D176) rd178 (
 zb (domD D176) [] (
 nx169∉[] ∧
 nx169∉[] ∧
 zb (domD D176) [] (
 zb (domD D176) [] (
 nx169∉[] ∧
 nx169∉[] ∧
 zb (domD D176) [] (
 zb (domD D176) [] (
 nx169∉[] ∧
 nx169∉[] ∧
 zb (domD D176) [] (
 zb (domD D176) [] (
 nx169∉[] ∧
 nx169∉[] ∧
 zb (domD D176) [] (
 zb (domD D176) [] (
 nx169∉[] ∧
 nx169∉[] ∧
 zb (domD D176) [] (
 zb (domD D176) [] (
 nx169∉[] ∧
 nx169∉[] ∧
 zb (domD D176) [] (
 zb (domD D176) [] (
 nx169∉[] ∧
 nx169∉[((nx169+1)+fr175.length)] ∧
 ((nx169+1)+fr175.length)∉[] ∧
 ((nx169+1)+fr175.length)∉rd172 ∧
 zb (domD D176) [] (
 zb (domD D176) [((nx169+1)+fr175.length)] (
 ((nx169+1)+fr175.length)∉rd174 ∧
 LDR false 1 (nth xs34 1) (H185.apply D189) fun v190 rd191 =>
 zm Tryd.prog (.clo 59 []) [v186,v167] (H185.apply D189) ((((nx169+1)+fr175.length)+1)+fr188.length) (ziv H185 D189 nx169 fr175 fr188 v190 xs34 rd191 K21)))))))))))))))))
def zf (K21:J3) (K33:J3) (xs34:List AV) (H35:Heap) (nx36:Nat):Prop :=
 BI .lss (nth xs34 10) (nth xs34 9) fun v37 =>
 CNDC v37
 (IA 4 (nth xs34 8) (nth xs34 10) fun v38 =>
 LD true 4 v38 H35 fun v39 =>
 PUTH H35 nx36 (.row 4 [.int .i64 0,.int .i64 0,.str [],.nils]) fun H40 =>
 ST 4 (.ptr nx36 0) v39 H40 fun H41 =>
 LDR false 1 (nth xs34 4) H41 fun v42 rd43 =>
 LDR true 4 (.ptr nx36 0) H41 fun v44 _ =>
 zm Tryd.prog (.clo 57 []) [nth xs34 0,v44,nth xs34 2] H41 (nx36+1) (zjb v42 H41 nx36 xs34 rd43 K33))
 (FA 0 (nth xs34 3) fun v59 =>
 LD false 1 v59 H35 fun v60 =>
 BI .eql v60 (.int .i64 1) fun v61 =>
 CNDC v61
 (FA 1 (nth xs34 3) fun v62 =>
 LDR false 1 v62 H35 fun v63 _ =>
 NC (nth xs34 0) fun v65 =>
 FA 2 v65 fun v66 =>
 LDR false 1 v66 H35 fun v67 _ =>
 zn (AK.str) v63=true ∧
 MUPD (nth xs34 2) v63 v67 H35 fun _ _ fr71 D72 =>
 NC (nth xs34 0) fun v73 =>
 FA 2 v73 fun v74 =>
 LD false 1 v74 (H35.apply D72) fun v75 =>
 BI .add v75 (.int .i64 1) fun v76 =>
 NC (nth xs34 0) fun v77 =>
 FA 2 v77 fun v78 =>
 ST 1 v78 v76 (H35.apply D72) fun H79 =>
 FA 1 (nth xs34 3) fun v80 =>
 LD false 1 v80 H79 fun v81 =>
 zn (AK.str) v81=true ∧
 LK [.int .i64 0] false (nth xs34 2) v81 false H79 fun v82 =>
 za Tryd.prog 58 [.int .i64 4,v82,nth xs34 1,nth xs34 4] H79 (nx36+fr71.length) (zbc xs34 K21))
 (BI .eql v60 (.int .i64 2) fun v87 =>
 CNDC v87
 (FA 1 (nth xs34 3) fun v88 =>
 LD false 1 v88 H35 fun v89 =>
 zn (AK.str) v89=true ∧
 LK [.int .i64 0] false (nth xs34 2) v89 false H35 fun v90 =>
 za Tryd.prog 58 [.int .i64 4,v90,nth xs34 1,nth xs34 4] H35 nx36 (zbc xs34 K21))
 (BI .eql v60 (.int .i64 3) fun v95 =>
 CNDC v95
 (FA 3 (nth xs34 3) fun v96 =>
 LDR false 1 v96 H35 fun v97 _ =>
 zm Tryd.prog (.clo 39 []) [nth xs34 0,v97,nth xs34 2] H35 nx36 (zix xs34 H35 nx36 K21))
 (BI .eql v60 (.int .i64 4) fun v164 =>
 CNDC v164
 (FA 3 (nth xs34 3) fun v165 =>
 LD false 1 v165 H35 fun v166 =>
 za Tryd.prog 39 [nth xs34 0,v166,nth xs34 2] H35 nx36 (zhj xs34 K21))
 (PUTH H35 nx36 (.mp []) fun H210 =>
 zn (AK.int .i64) (.int .i64 5)=true ∧
 MU (.amap nx36) (.int .i64 5) (.int .i64 14) H210 fun H211 =>
 zn (AK.int .i64) (.int .i64 6)=true ∧
 MU (.amap nx36) (.int .i64 6) (.int .i64 18) H211 fun H212 =>
 zn (AK.int .i64) (.int .i64 7)=true ∧
 MU (.amap nx36) (.int .i64 7) (.int .i64 9) H212 fun H213 =>
 zn (AK.int .i64) (.int .i64 8)=true ∧
 MU (.amap nx36) (.int .i64 8) (.int .i64 10) H213 fun H214 =>
 zn (AK.int .i64) (.int .i64 9)=true ∧
 MU (.amap nx36) (.int .i64 9) (.int .i64 19) H214 fun H215 =>
 FA 0 (nth xs34 3) fun v216 =>
 LD false 1 v216 H215 fun v217 =>
 zn (AK.int .i64) v217=true ∧
 LK [.int .i64 0] false (.amap nx36) v217 false H215 fun v218 =>
 za Tryd.prog 58 [v218,.int .i64 0,nth xs34 1,nth xs34 4] H215 (nx36+1) (zbc xs34 K21))))))
def zcq (Q:QT) (K21:J3) (xs22:List AV) (H23:Heap) (nx24:Nat):Prop :=
 BI .lss (nth xs22 5) (nth xs22 4) fun v25 =>
 CNDC v25
 (IA 5 (nth xs22 3) (nth xs22 5) fun v26 =>
 LD true 5 v26 H23 fun v27 =>
 PUTH H23 nx24 (.row 5 [.int .i64 0,.str [],.nils,.nils,.nils]) fun H28 =>
 ST 5 (.ptr nx24 0) v27 H28 fun H29 =>
 PUTH H29 (nx24+1) (.row 1 [.nils]) fun H30 =>
 LD false 1 (.ptr nx24 2) H30 fun v31 =>
 LNL v31 fun v32 =>
 LP (zf K21) [nth xs22 0,nth xs22 1,nth xs22 2,.ptr nx24 0,.ptr (nx24+1) 0,nth xs22 3,nth xs22 4,nth xs22 5,v31,v32,.int .i64 0] H30 (nx24+2))
 (LD false 1 (nth xs22 1) H23 fun v223 =>
 Q v223 H23 nx24)
def zer (Q:QT) (K6:J3) (xs7:List AV) (H8:Heap) (nx9:Nat):Prop :=
 NEXT (nth xs7 4) H8 nx9 fun v10 H11 nx12 =>
 EX v10 0 fun v13 =>
 CNDC v13
 (zrm (nth xs7 4) H11 nx12 fun v14 H15 nx16 =>
 EX v14 0 fun v17 =>
 EX v14 1 fun v18 =>
 zn (AK.str) v17=true ∧
 MU (nth xs7 3) v17 v18 H15 fun H19 =>
 K6 [nth xs7 0,nth xs7 1,nth xs7 2,nth xs7 3,nth xs7 4] H19 nx16)
 (LNL (nth xs7 1) fun v20 =>
 LP (zcq Q) [nth xs7 0,nth xs7 2,nth xs7 3,nth xs7 1,v20,.int .i64 0] H11 nx12)
def ziu (a0 a1 a2:AV) (H:Heap) (nx:Nat) (Q:QT):Prop :=
 PUTH H nx (.row 1 [.nils]) fun H1 =>
 PUTH H1 (nx+1) (.mp []) fun H2 =>
 zrk a2 H2 (nx+2) fun v3 H4 nx5 =>
 LP (zer Q) [a0,a1,.ptr nx 0,.amap (nx+1),v3] H4 nx5
theorem zmo (a0 a1 a2:AV) (H:Heap) (nx:Nat) (Q:QT):ziu a0 a1 a2 H nx Q→za Tryd.prog 39 [a0,a1,a2] H nx Q :=
  zg (lv:=lvOf [(2,4,[0,1,7,8,24]),(2,8,[0,7,8,33,34,35]),(2,12,[0,7,8,12,13,33,34,35,40,41,42])]) (c:=zq Tryd.f39) zz zab mixed Tryd.func39 (by kernel_rfl) (by kernel_rfl) (by kernel_rfl) (by kernel_rfl) (by kernel_rfl)
def zlx (xs5:List AV) (K4:J3) (v14:AV) (H15:Heap) (nx16:Nat):Prop :=
 BI .add (nth xs5 3) v14 fun v17 =>
 MM false (nth xs5 0) v17 fun v18 =>
 BI .add (nth xs5 3) (.int .i64 1) fun v19 =>
 K4 [v18,nth xs5 1,nth xs5 2,v19] H15 nx16
def zgz (Q:QT) (K4:J3) (xs5:List AV) (H6:Heap) (nx7:Nat):Prop :=
 BI .lss (nth xs5 3) (nth xs5 2) fun v8 =>
 CNDC v8
 (IA 4 (nth xs5 1) (nth xs5 3) fun v9 =>
 LD true 4 v9 H6 fun v10 =>
 PUTH H6 nx7 (.row 4 [.int .i64 0,.int .i64 0,.str [],.nils]) fun H11 =>
 ST 4 (.ptr nx7 0) v10 H11 fun H12 =>
 LD true 4 (.ptr nx7 0) H12 fun v13 =>
 za Tryd.prog 60 [v13] H12 (nx7+1) (zlx xs5 K4))
 (Q (nth xs5 0) H6 nx7)
def zlw (a0:AV) (H:Heap) (nx:Nat) (Q:QT):Prop :=
 a0.sure=true ∧
 PUTH H nx (.row a0.cells.length a0.cells) fun H1 =>
 LD false 1 (.ptr nx 3) H1 fun v2 =>
 LNL v2 fun v3 =>
 LP (zgz Q) [.int .i64 1,v2,v3,.int .i64 0] H1 (nx+1)
theorem zpq (a0:AV) (H:Heap) (nx:Nat) (Q:QT):zlw a0 H nx Q→za Tryd.prog 60 [a0] H nx Q :=
  zg (lv:=lvOf [(2,3,[3,7,8,9])]) (c:=zq Tryd.f60) zz zab mixed Tryd.func60 (by kernel_rfl) (by kernel_rfl) (by kernel_rfl) (by kernel_rfl) (by kernel_rfl)
def zlv (xs14:List AV) (K13:J3) (v23:AV) (H24:Heap) (nx25:Nat):Prop :=
 BI .add (nth xs14 7) v23 fun v26 =>
 MM false (nth xs14 0) v26 fun v27 =>
 BI .add (nth xs14 7) (.int .i64 1) fun v28 =>
 K13 [v27,nth xs14 1,nth xs14 2,nth xs14 3,nth xs14 4,nth xs14 5,nth xs14 6,v28] H24 nx25
def zlu (xs14:List AV) (v32:AV) (D35:zi) (rd38:List Nat) (K2:J3) (H15:Heap) (nx16:Nat) (fr34:List Nat) (v39:AV) (_:List Nat) (fr41:List Nat) (D42:zi):Prop :=
 MX3 (nth xs14 0) v32 v39 fun v43 =>
 zb (domD D35) [] (
 zb (domD D35) [] (
 zb (domD D35) [] (
 zb (domD D35) rd38 (
 zb (domD D35) [] (
 zb (domD D42) [] (
 BI .add (nth xs14 4) (.int .i64 1) fun v44 =>
 K2 [v43,nth xs14 2,nth xs14 3,v44] ((H15.apply D35).apply D42) ((nx16+fr34.length)+fr41.length)))))))
def zlt (xs14:List AV) (H15:Heap) (nx16:Nat) (K2:J3) (v32:AV) (_:List Nat) (fr34:List Nat) (D35:zi):Prop :=
 FA 4 (nth xs14 1) fun v36 =>
 LDR false 1 v36 (H15.apply D35) fun v37 rd38 =>
 zm Tryd.prog (.clo 40 []) [v37] (H15.apply D35) (nx16+fr34.length) (zlu xs14 v32 D35 rd38 K2 H15 nx16 fr34)
def zeg (K2:J3) (K13:J3) (xs14:List AV) (H15:Heap) (nx16:Nat):Prop :=
 BI .lss (nth xs14 7) (nth xs14 6) fun v17 =>
 CNDC v17
 (IA 4 (nth xs14 5) (nth xs14 7) fun v18 =>
 LD true 4 v18 H15 fun v19 =>
 PUTH H15 nx16 (.row 4 [.int .i64 0,.int .i64 0,.str [],.nils]) fun H20 =>
 ST 4 (.ptr nx16 0) v19 H20 fun H21 =>
 LD true 4 (.ptr nx16 0) H21 fun v22 =>
 za Tryd.prog 60 [v22] H21 (nx16+1) (zlv xs14 K13))
 (FA 3 (nth xs14 1) fun v29 =>
 LDR false 1 v29 H15 fun v30 _ =>
 zm Tryd.prog (.clo 40 []) [v30] H15 nx16 (zlt xs14 H15 nx16 K2))
def zgy (Q:QT) (K2:J3) (xs3:List AV) (H4:Heap) (nx5:Nat):Prop :=
 BI .lss (nth xs3 3) (nth xs3 2) fun v6 =>
 CNDC v6
 (IA 5 (nth xs3 1) (nth xs3 3) fun v7 =>
 LD true 5 v7 H4 fun v8 =>
 PUTH H4 nx5 (.row 5 [.int .i64 0,.str [],.nils,.nils,.nils]) fun H9 =>
 ST 5 (.ptr nx5 0) v8 H9 fun H10 =>
 LD false 1 (.ptr nx5 2) H10 fun v11 =>
 LNL v11 fun v12 =>
 LP (zeg K2) [nth xs3 0,.ptr nx5 0,nth xs3 1,nth xs3 2,nth xs3 3,v11,v12,.int .i64 0] H10 (nx5+1))
 (Q (nth xs3 0) H4 nx5)
def zls (a0:AV) (H:Heap) (nx:Nat) (Q:QT):Prop :=
 LNL a0 fun v1 =>
 LP (zgy Q) [.int .i64 0,a0,v1,.int .i64 0] H nx
theorem zpp (a0:AV) (H:Heap) (nx:Nat) (Q:QT):zls a0 H nx Q→za Tryd.prog 40 [a0] H nx Q :=
  zg (lv:=lvOf [(2,3,[3,8,9,10]),(2,6,[3,5,8,9,10,15,16,17])]) (c:=zq Tryd.f40) zz zab mixed Tryd.func40 (by kernel_rfl) (by kernel_rfl) (by kernel_rfl) (by kernel_rfl) (by kernel_rfl)
def zef (xs20:List AV) (Q:QT) (v40:AV) (K7:J3) (v49:AV) (H50:Heap) (nx51:Nat):Prop :=
 BI .gtr v49 (.int .i64 16) fun v52 =>
 CNDC v52
 (ST 2 (nth xs20 0) (.agg [.nils,.nils]) H50 fun H53 =>
 LD true 2 (nth xs20 0) H53 fun v54 =>
 Q (.tup [v54,.int .i64 4]) H53 nx51)
 (FA 0 (nth xs20 2) fun v55 =>
 LDR false 1 v55 H50 fun v56 rd57 =>
 FA 1 (nth xs20 3) fun v58 =>
 LDR false 1 v58 H50 fun v59 _ =>
 LNL v59 fun v61 =>
 NC (nth xs20 1) fun v62 =>
 FA 2 v62 fun v63 =>
 LDR false 1 v63 H50 fun v64 _ =>
 BD (zl tab [(3,0),(3,1),(38,2)]) [.int .i64 0,.int .i64 0,.nils] [(0,v61),(1,v64),(2,v40)] fun v66 =>
 BSL 1 3 [.int .i64 0,.int .i64 0,.nils] [(0,v66)] fun cells67 =>
 PUTH H50 nx51 (.row 3 cells67) fun H68 =>
 zad 3 40 v56 (.slc nx51 0 1) H68 (nx51+1) fun v69 _ fr71 D72 =>
 FA 0 (nth xs20 2) fun v73 =>
 zag 1 v73 v69 (H68.apply D72) fun _ _ fr76 D77 =>
 nx51∉[] ∧
 nx51∉rd57 ∧
 BI .add (nth xs20 7) (.int .i64 1) fun v78 =>
 K7 [nth xs20 0,nth xs20 1,nth xs20 2,nth xs20 5,nth xs20 6,v78] ((H68.apply D72).apply D77) (((nx51+1)+fr71.length)+fr76.length))
def zlr (xs20:List AV) (Q:QT) (K7:J3) (v36:AV) (H37:Heap) (nx38:Nat):Prop :=
 PUTH H37 nx38 (.row 3 [.int .i64 1,.int .i64 0,.int .i64 0,.int .i64 18,.int .i64 0,.int .i64 0]) fun H39 =>
 APP 3 24 v36 (.slc nx38 0 2) H39 (nx38+1) fun v40 H41 nx42 =>
 LNL v40 fun v43 =>
 BI .gtr v43 (.int .i64 200) fun v44 =>
 CND v44
 (ST 2 (nth xs20 0) (.agg [.nils,.nils]) H41 fun H45 =>
 LD true 2 (nth xs20 0) H45 fun v46 =>
 Q (.tup [v46,.int .i64 4]) H45 nx42)
 (FA 2 (nth xs20 3) fun v47 =>
 LD false 1 v47 H41 fun v48 =>
 za Tryd.prog 40 [v48] H41 nx42 (zef xs20 Q v40 K7))
def zbh (Q:QT) (K7:J3) (K19:J3) (xs20:List AV) (H21:Heap) (nx22:Nat):Prop :=
 BI .lss (nth xs20 10) (nth xs20 9) fun v23 =>
 CNDC v23
 (IA 1 (nth xs20 8) (nth xs20 10) fun v24 =>
 LD false 1 v24 H21 fun v25 =>
 zn (AK.str) v25=true ∧
 MU (nth xs20 4) v25 (nth xs20 10) H21 fun H26 =>
 BI .add (nth xs20 10) (.int .i64 1) fun v27 =>
 K19 [nth xs20 0,nth xs20 1,nth xs20 2,nth xs20 3,nth xs20 4,nth xs20 5,nth xs20 6,nth xs20 7,nth xs20 8,nth xs20 9,v27] H26 nx22)
 (FA 1 (nth xs20 3) fun v28 =>
 LD false 1 v28 H21 fun v29 =>
 LNL v29 fun v30 =>
 NC (nth xs20 1) fun v31 =>
 FA 2 v31 fun v32 =>
 ST 1 v32 v30 H21 fun H33 =>
 FA 2 (nth xs20 3) fun v34 =>
 LD false 1 v34 H33 fun v35 =>
 za Tryd.prog 39 [nth xs20 1,v35,nth xs20 4] H33 nx22 (zlr xs20 Q K7))
def zee (Q:QT) (K7:J3) (xs8:List AV) (H9:Heap) (nx10:Nat):Prop :=
 BI .lss (nth xs8 5) (nth xs8 4) fun v11 =>
 CNDC v11
 (IA 3 (nth xs8 3) (nth xs8 5) fun v12 =>
 LD true 3 v12 H9 fun v13 =>
 PUTH H9 nx10 (.row 3 [.str [],.nils,.nils]) fun H14 =>
 ST 3 (.ptr nx10 0) v13 H14 fun H15 =>
 PUTH H15 (nx10+1) (.mp []) fun H16 =>
 LD false 1 (.ptr nx10 1) H16 fun v17 =>
 LNL v17 fun v18 =>
 LP (zbh Q K7) [nth xs8 0,nth xs8 1,nth xs8 2,.ptr nx10 0,.amap (nx10+1),nth xs8 3,nth xs8 4,nth xs8 5,v17,v18,.int .i64 0] H16 (nx10+2))
 (NC (nth xs8 1) fun v79 =>
 FA 1 v79 fun v80 =>
 LD false 1 v80 H9 fun v81 =>
 FA 1 (nth xs8 2) fun v82 =>
 ST 1 v82 v81 H9 fun H83 =>
 LD true 2 (nth xs8 2) H83 fun v84 =>
 ST 2 (nth xs8 0) v84 H83 fun H85 =>
 LD true 2 (nth xs8 0) H85 fun v86 =>
 Q (.tup [v86,.int .i64 0]) H85 nx10)
def zlq (a0:AV) (H:Heap) (nx:Nat) (Q:QT):Prop :=
 PUTH H nx (.row 2 [.nils,.nils]) fun H1 =>
 BD (zl tab [(22,0),(32,1),(3,2)]) [.nils,.nils,.int .i64 0] [(0,a0)] fun v2 =>
 v2.sure=true ∧
 PUTH H1 (nx+1) (.row v2.cells.length v2.cells) fun H3 =>
 PUTH H3 (nx+2) (.row 2 [.nils,.nils]) fun H4 =>
 ST 2 (.ptr (nx+2) 0) (.agg [.nils,.nils]) H4 fun H5 =>
 LNL a0 fun v6 =>
 LP (zee Q) [.ptr nx 0,.ptr (nx+1) 0,.ptr (nx+2) 0,a0,v6,.int .i64 0] H5 (nx+3)
theorem zpo (a0:AV) (H:Heap) (nx:Nat) (Q:QT):zlq a0 H nx Q→za Tryd.prog 17 [a0] H nx Q :=
  zg (lv:=lvOf [(2,4,[2,4,5,16,17,18]),(2,8,[2,4,5,7,8,16,17,18,24,25,26])]) (c:=zq Tryd.f17) zz zab mixed Tryd.func17 (by kernel_rfl) (by kernel_rfl) (by kernel_rfl) (by kernel_rfl) (by kernel_rfl)
def zbm (Q:QT) (K37:J3) (K65:J3) (xs66:List AV) (H67:Heap) (nx68:Nat):Prop :=
 BI .lss (nth xs66 7) (nth xs66 6) fun v69 =>
 CNDC v69
 (FA 2 (nth xs66 1) fun v70 =>
 LDR false 1 v70 H67 fun v71 _ =>
 IA 3 v71 (nth xs66 7) fun v73 =>
 LDR true 3 v73 H67 fun v74 _ =>
 FA 2 (nth xs66 2) fun v76 =>
 LDR false 1 v76 H67 fun v77 _ =>
 IA 3 v77 (nth xs66 7) fun v79 =>
 LDR true 3 v79 H67 fun v80 _ =>
 gd (eqsT 45) (
 BA [.int .i64 0,.int .i64 0,.int .i64 0] .neq v74 v80 fun v82 =>
 CNDC v82
 (Q (.bool false) H67 nx68)
 (BI .add (nth xs66 7) (.int .i64 1) fun v83 =>
 K65 [nth xs66 0,nth xs66 1,nth xs66 2,nth xs66 3,nth xs66 4,nth xs66 5,nth xs66 6,v83] H67 nx68)))
 (BI .add (nth xs66 5) (.int .i64 1) fun v84 =>
 K37 [nth xs66 0,nth xs66 3,nth xs66 4,v84] H67 nx68)
def zct (Q:QT) (K37:J3) (xs38:List AV) (H39:Heap) (nx40:Nat):Prop :=
 BI .lss (nth xs38 3) (nth xs38 2) fun v41 =>
 CNDC v41
 (IA 3 (nth xs38 1) (nth xs38 3) fun v42 =>
 LD true 3 v42 H39 fun v43 =>
 PUTH H39 nx40 (.row 3 [.int .i64 0,.int .i64 0,.nils]) fun H44 =>
 ST 3 (.ptr nx40 0) v43 H44 fun H45 =>
 FA 0 (nth xs38 0) fun v46 =>
 LD false 1 v46 H45 fun v47 =>
 IA 3 v47 (nth xs38 3) fun v48 =>
 LD true 3 v48 H45 fun v49 =>
 PUTH H45 (nx40+1) (.row 3 [.int .i64 0,.int .i64 0,.nils]) fun H50 =>
 ST 3 (.ptr (nx40+1) 0) v49 H50 fun H51 =>
 LD false 1 (.ptr nx40 0) H51 fun v52 =>
 LD false 1 (.ptr (nx40+1) 0) H51 fun v53 =>
 BI .neq v52 v53 fun v54 =>
 CND v54
 (Q (.bool false) H51 (nx40+2))
 (LD false 1 (.ptr nx40 1) H51 fun v55 =>
 LD false 1 (.ptr (nx40+1) 1) H51 fun v56 =>
 BI .neq v55 v56 fun v57 =>
 CND v57
 (Q (.bool false) H51 (nx40+2))
 (LD false 1 (.ptr nx40 2) H51 fun v58 =>
 LNL v58 fun v59 =>
 LD false 1 (.ptr (nx40+1) 2) H51 fun v60 =>
 LNL v60 fun v61 =>
 BI .neq v59 v61 fun v62 =>
 CNDC v62
 (Q (.bool false) H51 (nx40+2))
 (LD false 1 (.ptr nx40 2) H51 fun v63 =>
 LNL v63 fun v64 =>
 LP (zbm Q K37) [nth xs38 0,.ptr nx40 0,.ptr (nx40+1) 0,nth xs38 1,nth xs38 2,nth xs38 3,v64,.int .i64 0] H51 (nx40+2)))))
 (Q (.bool true) H39 nx40)
def zcs (Q:QT) (K15:J3) (xs16:List AV) (H17:Heap) (nx18:Nat):Prop :=
 BI .lss (nth xs16 3) (nth xs16 2) fun v19 =>
 CNDC v19
 (FA 1 (nth xs16 0) fun v20 =>
 LDR false 1 v20 H17 fun v21 _ =>
 IA 1 v21 (nth xs16 3) fun v23 =>
 LDR false 1 v23 H17 fun v24 _ =>
 FA 1 (nth xs16 1) fun v26 =>
 LDR false 1 v26 H17 fun v27 _ =>
 IA 1 v27 (nth xs16 3) fun v29 =>
 LDR false 1 v29 H17 fun v30 _ =>
 BS .neq v24 v30 fun v32 =>
 CNDC v32
 (Q (.bool false) H17 nx18)
 (BI .add (nth xs16 3) (.int .i64 1) fun v33 =>
 K15 [nth xs16 0,nth xs16 1,nth xs16 2,v33] H17 nx18))
 (FA 0 (nth xs16 0) fun v34 =>
 LD false 1 v34 H17 fun v35 =>
 LNL v35 fun v36 =>
 LP (zct Q) [nth xs16 1,v35,v36,.int .i64 0] H17 nx18)
def zfw (a0 a1:AV) (H:Heap) (nx:Nat) (Q:QT):Prop :=
 a0.sure=true ∧
 PUTH H nx (.row a0.cells.length a0.cells) fun H1 =>
 a1.sure=true ∧
 PUTH H1 (nx+1) (.row a1.cells.length a1.cells) fun H2 =>
 LD false 1 (.ptr nx 0) H2 fun v3 =>
 LNL v3 fun v4 =>
 LD false 1 (.ptr (nx+1) 0) H2 fun v5 =>
 LNL v5 fun v6 =>
 BI .neq v4 v6 fun v7 =>
 CND v7
 (Q (.bool false) H2 (nx+2))
 (LD false 1 (.ptr nx 1) H2 fun v8 =>
 LNL v8 fun v9 =>
 LD false 1 (.ptr (nx+1) 1) H2 fun v10 =>
 LNL v10 fun v11 =>
 BI .neq v9 v11 fun v12 =>
 CNDC v12
 (Q (.bool false) H2 (nx+2))
 (LD false 1 (.ptr nx 1) H2 fun v13 =>
 LNL v13 fun v14 =>
 LP (zcs Q) [.ptr nx 0,.ptr (nx+1) 0,v14,.int .i64 0] H2 (nx+2)))
theorem zjp (a0 a1:AV) (H:Heap) (nx:Nat) (Q:QT):zfw a0 a1 H nx Q→za Tryd.prog 18 [a0,a1] H nx Q :=
  zg (lv:=lvOf [(2,4,[2,3,28,29]),(2,10,[3,45,46,47]),(2,16,[3,7,8,45,46,47,80,81])]) (c:=zq Tryd.f18) zz zab mixed Tryd.func18 (by kernel_rfl) (by kernel_rfl) (by kernel_rfl) (by kernel_rfl) (by kernel_rfl)
def zgt (Q:QT) (v28:AV) (H29:Heap) (nx30:Nat):Prop :=
 Q v28 H29 nx30
def zgs (v15:AV) (nx13:Nat) (Q:QT) (v18:AV) (H19:Heap) (nx20:Nat):Prop :=
 EX v18 0 fun v21 =>
 EX v18 1 fun v22 =>
 PUTH H19 nx20 (.row 2 [.nils,.nils]) fun H23 =>
 ST 2 (.ptr nx20 0) v21 H23 fun H24 =>
 BI .eql v15 v22 fun v25 =>
 CND v25
 (LD true 2 (.ptr nx13 0) H24 fun v26 =>
 LD true 2 (.ptr nx20 0) H24 fun v27 =>
 za Tryd.prog 18 [v26,v27] H24 (nx20+1) (zgt Q))
 (Q (.bool false) H24 (nx20+1))
def zgr (v4:AV) (Q:QT) (v11:AV) (H12:Heap) (nx13:Nat):Prop :=
 EX v11 0 fun v14 =>
 EX v11 1 fun v15 =>
 PUTH H12 nx13 (.row 2 [.nils,.nils]) fun H16 =>
 ST 2 (.ptr nx13 0) v14 H16 fun H17 =>
 za Tryd.prog 17 [v4] H17 (nx13+1) (zgs v15 nx13 Q)
def zdp (Q:QT) (v4:AV) (v7:AV) (H8:Heap) (nx9:Nat):Prop :=
 BI .neq v7 (.int .i64 0) fun v10 =>
 CNDC v10
 (Q (.bool true) H8 nx9)
 (za Tryd.prog 16 [v4] H8 nx9 (zgr v4 Q))
def zdo (Q:QT) (v1:AV) (H2:Heap) (nx3:Nat):Prop :=
 EX v1 0 fun v4 =>
 EX v1 1 fun v5 =>
 BI .neq v5 (.int .i64 0) fun v6 =>
 CND v6
 (Q (.bool true) H2 nx3)
 (za Tryd.prog 12 [v4] H2 nx3 (zdp Q v4))
def zgq (a0:AV) (H:Heap) (nx:Nat) (Q:QT):Prop :=
 za Tryd.prog 10 [a0] H nx (zdo Q)
theorem zle (a0:AV) (H:Heap) (nx:Nat) (Q:QT):zgq a0 H nx Q→za Tryd.prog 5 [a0] H nx Q :=
  zg (lv:=lvOf []) (c:=zq Tryd.f5) zz zab mixed Tryd.func5 (by kernel_rfl) (by kernel_rfl) (by kernel_rfl) (by kernel_rfl) (by kernel_rfl)
def zgh (a0 a1:AV) (H:Heap) (nx:Nat) (Q:QT):Prop :=
 a0.sure=true ∧
 PUTH H nx (.row a0.cells.length a0.cells) fun H1 =>
 LDR false 1 (.ptr nx 0) H1 fun v2 _ =>
 LDR false 1 a1 H1 fun v4 _ =>
 NC v4 fun v6 =>
 FA 2 v6 fun v7 =>
 LDR false 1 v7 H1 fun v8 _ =>
 BS .eql v2 v8 fun v10 =>
 Q v10 H1 (nx+1)
theorem zkn (a0 a1:AV) (H:Heap) (nx:Nat) (Q:QT):zgh a0 a1 H nx Q→za Tryd.prog 84 [a0,a1] H nx Q :=
  zg (lv:=lvOf []) (c:=zq Tryd.f84) zz zab mixed Tryd.func84 (by kernel_rfl) (by kernel_rfl) (by kernel_rfl) (by kernel_rfl) (by kernel_rfl)
end Go.Proofs.YtpllgpgdcbgalaaDoor
set_option maxRecDepth 8000
namespace Go.Proofs.YtpllgpgdcbgalaaDoor
namespace WM
abbrev Bytes:=List UInt8
def enc:Nat→Nat→Bytes
  | 0,u=>[UInt8.ofNat u]
  | f+1,u=>if 128≤u then UInt8.ofNat (u % 128+128) :: enc f (u / 128) else [UInt8.ofNat u]
def rot5 (u:Nat):Nat:=(u*32 % 4294967296) ||| (u / 134217728)
def sumStep (s:Nat) (c:UInt8):Nat:=rot5 (s ^^^ c.toNat)*16777619 % 4294967296
def sum (b:Bytes):Nat:=b.foldl sumStep 2166136261
end WM
end Go.Proofs.YtpllgpgdcbgalaaDoor
set_option maxRecDepth 8000
namespace Go.Proofs.YtpllgpgdcbgalaaDoor
open Go Go.RowKit
abbrev Str:=List UInt8
def I64 (n:Int):Prop := -9223372036854775808≤n∧n≤9223372036854775807
structure Ty (α:Type) where
  sz:Nat
  R:(Nat→Prop)→World→List Value→α→Prop
  len:∀ {S:Nat→Prop} {w:World} {cs:List Value} {x:α},R S w cs x→cs.length=sz
  mono:∀ {S S':Nat→Prop} {w w':World} {cs:List Value} {x:α},(∀ k,S k→S' k∧w'.heap[k]? = w.heap[k]?)→R S w cs x→R S' w' cs x
def zbl (w:World) (b off:Nat) (cs:List Value):Prop:=∀ j v,cs[j]? = some v→w.cell? ⟨b,off+j,none⟩=some v
theorem zbl.same {w w':World} {b off:Nat} {cs:List Value} (h:zbl w b off cs) (hb:w'.heap[b]? = w.heap[b]?):zbl w' b off cs :=
  fun j v hv=>(World.cell?_of_block (w:=w) (a:=⟨b,off+j,none⟩) hb).trans (h j v hv)
theorem zbl.c0 {w:World} {b off:Nat} {v:Value} {r:List Value} (h:zbl w b off (v :: r)):w.cell? ⟨b,off,none⟩=some v:=h 0 v rfl
theorem zbl.c1 {w:World} {b off:Nat} {v0 v:Value} {r:List Value} (h:zbl w b off (v0 :: v :: r)):w.cell? ⟨b,off+1,none⟩=some v:=h 1 v rfl
theorem zbl.c2 {w:World} {b off:Nat} {v0 v1 v:Value} {r:List Value} (h:zbl w b off (v0 :: v1 :: v :: r)):w.cell? ⟨b,off+2,none⟩=some v:=h 2 v rfl
theorem zbl.c3 {w:World} {b off:Nat} {v0 v1 v2 v:Value} {r:List Value} (h:zbl w b off (v0 :: v1 :: v2 :: v :: r)):w.cell? ⟨b,off+3,none⟩=some v:=h 3 v rfl
theorem zbl.c4 {w:World} {b off:Nat} {v0 v1 v2 v3 v:Value} {r:List Value} (h:zbl w b off (v0 :: v1 :: v2 :: v3 :: v :: r)):w.cell? ⟨b,off+4,none⟩=some v:=h 4 v rfl
theorem zbl.c5 {w:World} {b off:Nat} {v0 v1 v2 v3 v4 v:Value} {r:List Value} (h:zbl w b off (v0 :: v1 :: v2 :: v3 :: v4 :: v :: r)):w.cell? ⟨b,off+5,none⟩=some v:=h 5 v rfl
def zacj (B:Nat):Nat→Prop:=fun k=>k < B
theorem Ty.below {α:Type} (T:Ty α) {w w':World} {cs:List Value} {x:α} (h:T.R (zacj w.heap.size) w cs x) (hb:Below w.heap.size w w'):T.R (zacj w'.heap.size) w' cs x :=
  T.mono (fun k hk=>⟨Nat.lt_of_lt_of_le hk hb.size,hb.block k hk⟩) h
end Go.Proofs.YtpllgpgdcbgalaaDoor
set_option maxRecDepth 8000
namespace Go.Proofs.YtpllgpgdcbgalaaDoor
open Go Go.RowKit
structure Val where
  kind:Int
  n:Int
  text:Str
  deriving DecidableEq
structure Cl where
  left:Val
  right:Val
  deriving DecidableEq
structure Ins where
  op:Int
  a:Int
  b:Int
  deriving DecidableEq
structure Cod where
  params:Int
  vars:Int
  ins:List Ins
  deriving DecidableEq
structure Prg where
  codes:List Cod
  words:List Str
  deriving DecidableEq
structure Frm where
  fn:Int
  at_:Int
  vars:List Val
  stack:List Val
  deriving DecidableEq
structure Pmt where
  fuel:Int
  room:Int
  hops:Int
  deriving DecidableEq
structure Agt where
  id:Int
  trip:Int
  prog:Prg
  frames:List Frm
  heap:List Cl
  permit:Pmt
  deriving DecidableEq
def str (s:Str):Value:=.string ⟨s.toArray⟩
def Val.cells (v:Val):List Value:=[.int .i64 v.kind,.int .i64 v.n,.string ⟨v.text.toArray⟩]
def Val.ok (v:Val):Prop:=I64 v.kind∧I64 v.n∧v.text.length≤maxLen
def Ins.cells (i:Ins):List Value:=[.int .i64 i.op,.int .i64 i.a,.int .i64 i.b]
def Ins.ok (i:Ins):Prop:=I64 i.op∧I64 i.a∧I64 i.b
def Cl.cells (c:Cl):List Value:=c.left.cells ++ c.right.cells
def Cl.ok (c:Cl):Prop:=c.left.ok∧c.right.ok
def Pmt.cells (p:Pmt):List Value:=[.int .i64 p.fuel,.int .i64 p.room,.int .i64 p.hops]
def Pmt.ok (p:Pmt):Prop:=I64 p.fuel∧I64 p.room∧I64 p.hops
end Go.Proofs.YtpllgpgdcbgalaaDoor
set_option maxRecDepth 8000
namespace Go.Proofs.YtpllgpgdcbgalaaDoor
namespace VM
def wrong (v:Val) (cells:Int):Int :=
  if v.kind < 0∨2 < v.kind then 1
  else if v.kind=0∧(v.n < -1073741824∨1073741824 < v.n) then 3
  else if v.kind=1∧60 < v.text.length then 4
  else if v.kind=2∧(v.n < 0∨cells≤v.n) then 6
  else if (v.kind=1∧v.n ≠ 0)∨(v.kind ≠ 1∧v.text ≠ []) then 2
  else 0
def wordByte (c:UInt8):Bool:=decide (32≤c.toNat) && decide (c.toNat≤126) && !(c.toNat == 39)
def word (s:Str):Bool:=decide (s.length≤12) && s.all wordByte
def effect (i:Ins):Int×Int :=
  if i.op=1∨i.op=2∨i.op=3∨i.op=12 then (0,1)
  else if i.op=4∨i.op=14∨i.op=16∨i.op=19∨i.op=18 then (1,0)
  else if i.op=5∨i.op=6 then (2,1)
  else if i.op=7∨i.op=8∨i.op=11∨i.op=13 then (1,1)
  else if i.op=9∨i.op=10 then (2,0)
  else if i.op=17 then (i.b,1)
  else (0,0)
def isIn (n most:Int):Bool:=decide (0≤n) && decide (n < most)
def numOk (p:Prg) (c:Cod) (i:Ins):Bool :=
  if i.op=1 then decide (-1073741824≤i.a) && decide (i.a≤1073741824)
  else if i.op=2 then isIn i.a p.words.length
  else if i.op=3∨i.op=4 then isIn i.a c.vars
  else if i.op=5 then decide (1≤i.a) && decide (i.a≤5)
  else if i.op=15∨i.op=16 then isIn i.a c.ins.length
  else if i.op=17 then isIn i.a p.codes.length && decide (some i.b=(p.codes[i.a.toNat]?).map (·.params))
  else decide (i.a=0)
def numbers (p:Prg) (c:Cod) (i:Ins):Int :=
  if i.op < 1∨19 < i.op then 1
  else if numOk p c i=false∨(i.op ≠ 17∧i.b ≠ 0) then 3
  else 0
def heightsGo (ins:List Ins):Nat→List (Int×Int)→List Int→List Int×Int
  | 0,_,_=>([],0)
  | _+1,[],out=>(out,0)
  | f + 1, (at_,h) :: q,out =>
    match (if 0≤at_ then ins[at_.toNat]? else none) with
    | none=>([],8)
    | some i =>
      if 0≤out.getD at_.toNat 0 then (if out.getD at_.toNat 0 ≠ h then ([],10) else heightsGo ins f q out)
      else
        if h < (effect i).1∨(i.op=18∧h ≠ 1) then ([],10)
        else if 16 < h+(effect i).2 - (effect i).1 then ([],4)
        else
          let h':=h+(effect i).2 - (effect i).1
          heightsGo ins f (q ++ (if i.op ≠ 15∧i.op ≠ 18 then [(at_+1,h')] else []) ++ (if i.op=15∨i.op=16 then [(i.a,h')] else [])) (out.set at_.toNat h)
def heights (ins:List Ins):List Int×Int:=heightsGo ins (2*ins.length+2) [(0,0)] (List.replicate ins.length (-1))
def codeRange (c:Cod):Bool:=decide (c.params < 0∨4 < c.params∨c.vars < c.params∨8 < c.vars∨c.ins.length < 1∨200 < c.ins.length)
def firstErr {α:Type} (f:α→Int):List α→Int
  | []=>0
  | x :: r=>if f x ≠ 0 then f x else firstErr f r
def codeErr (p:Prg) (c:Cod):Int:=if firstErr (numbers p c) c.ins ≠ 0 then firstErr (numbers p c) c.ins else (heights c.ins).2
def program (p:Prg):Int :=
  if p.codes.length < 1∨5 < p.codes.length then 5
  else if 16 < p.words.length then 4
  else if p.words.all word=false then 7
  else if (p.codes.getD 0 ⟨0,0,[]⟩).params ≠ 0 then 10
  else if p.codes.any codeRange then 3
  else firstErr (codeErr p) p.codes
def frame (a : Agt) (k:Nat) (away:Bool):Int :=
  match a.frames[k]? with
  | none=>0
  | some f =>
    match (if 0≤f.fn then a.prog.codes[f.fn.toNat]? else none) with
    | none=>3
    | some c =>
      match (if 0≤f.at_ then c.ins[f.at_.toNat]? else none) with
      | none=>3
      | some _ =>
        if (f.vars.length:Int) ≠ c.vars then 3
        else
          let hs:=(heights c.ins).1
          let h:=hs.getD f.at_.toNat 0
          let last:=decide (k+1=a.frames.length)
          let waits:=!last || away
          let prev:=c.ins.getD (f.at_.toNat - 1) ⟨0,0,0⟩
          let bad:=(!last && (decide (prev.op ≠ 17) || decide (prev.a ≠ ((a.frames[k+1]?).map (·.fn)).getD 0))) || (last && decide (prev.op ≠ 13)) || decide (hs.getD (f.at_.toNat - 1) 0 < 0)
          if waits && (decide (f.at_=0) || bad) then 10
          else
            let h':=if waits then h - 1 else h
            if h' < 0∨(f.stack.length:Int) ≠ h' then 10
            else firstErr (fun v=>wrong v a.heap.length) (f.vars ++ f.stack)
def cellErr (n:Int) (c:Cl):Int:=if wrong c.left n ≠ 0 then wrong c.left n else wrong c.right n
def framesErr (a:Agt) (away:Bool):Int:=firstErr (fun k=>frame a k away) (List.range a.frames.length)
def agent (a:Agt) (away:Bool):Int :=
  if program a.prog ≠ 0 then program a.prog
  else if a.id < 0∨1073741824 < a.id∨a.trip < 0∨1073741824 < a.trip∨a.permit.fuel < 0∨2000 < a.permit.fuel∨a.permit.room < 0∨60 < a.permit.room∨a.permit.hops < 0∨12 < a.permit.hops then 3
  else if a.frames.length < 1∨12 < a.frames.length then 5
  else if 60 - a.permit.room < a.heap.length then 4
  else if framesErr a away ≠ 0 then framesErr a away
  else firstErr (cellErr a.heap.length) a.heap
end VM
end Go.Proofs.YtpllgpgdcbgalaaDoor
set_option maxRecDepth 8000
namespace Go.Proofs.YtpllgpgdcbgalaaDoor
namespace VM
def cInt (n:Int):Val:=⟨0,n.tmod 1073741825,[]⟩
def cText (s:Str):Val:=⟨1,0,s.take 60⟩
def bit (b:Bool):Val:=⟨0,if b=true then 1 else 0,[]⟩
def vzero:Val:=⟨0,0,[]⟩
def two (op:Int) (a b:Val):Val×Int :=
  if op < 1∨5 < op then (vzero,1)
  else if op=5 then (bit (decide (a=b)),0)
  else if (a.kind=1∧b.kind=1)∧op=1 then (cText (a.text ++ b.text),0)
  else if (a.kind=1∧b.kind=1)∧op=4 then (bit (Op.bytesLess a.text b.text),0)
  else if a.kind ≠ 0∨b.kind ≠ 0 then (vzero,11)
  else if op=1 then (cInt (a.n+b.n),0)
  else if op=2 then (cInt (a.n - b.n),0)
  else if op=3 then (cInt (a.n*b.n),0)
  else (bit (decide (a.n < b.n)),0)
def vshow (h:List Cl):Nat→Val→Str
  | d, v=>if v.kind=0 then Lib.itoa v.n else if v.kind=1 then v.text else match d with
    | 0=>[46,46]
    | d+1=>match (if 0≤v.n then h[v.n.toNat]? else none) with
      | none=>[46,46]
      | some c=>[40] ++ vshow h d c.left ++ [32] ++ vshow h d c.right ++ [41]
def meet (o:List Nat) (v:Val):List Nat:=if v.kind=2∧v.n.toNat∉o then o ++ [v.n.toNat] else o
def drain (h:List Cl):Nat→List Nat→Nat→List Nat
  | 0,o,_=>o
  | f + 1,o,d=>match o[d]? with
    | none=>o
    | some n=>match h[n]? with
      | none=>o
      | some c=>drain h f (meet (meet o c.left) c.right) (d+1)
def orderGo (h:List Cl):List Val→List Nat→List Nat
  | [],o=>o
  | v :: r,o=>orderGo h r (drain h (h.length - o.length) (meet o v) o.length)
def order (h:List Cl) (l:List Val):List Nat:=orderGo h l []
def put (o:List Nat) (v:Val):Val:=if v.kind=2 then { v with n:=(o.idxOf v.n.toNat:Nat) } else v
def right (h:List Cl) (l:List Val):Bool:=l.all (fun v=>decide (wrong v h.length=0)) && h.all (fun c=>decide (wrong c.left h.length=0) && decide (wrong c.right h.length=0))
end VM
end Go.Proofs.YtpllgpgdcbgalaaDoor
set_option maxRecDepth 8000
namespace Go.Proofs.YtpllgpgdcbgalaaDoor
structure Fct where
  key:Str
  val:Val
structure Spt where
  name:Str
  facts:List Fct
  fuel:Int
  cells:Int
structure Evt where
  kind:Int
  text:Str
  err:Int
namespace VM
def ev0:Evt:=⟨0,[],0⟩
def dead (e:Int):Evt:=⟨5,[],e⟩
def ask (l:List Fct) (k:Str):Val:=match l.find? (fun f=>decide (f.key=k)) with
  | some f=>f.val
  | none=>vzero
def cl0:Cl:=⟨vzero,vzero⟩
def toF (a:Agt) (fs:List Frm) (f:Frm):Agt:={ a with frames:=fs ++ [f] }
def top1 (st:List Val):Val:=st.getD (st.length - 1) vzero
def top2 (st:List Val):Val:=st.getD (st.length - 2) vzero
def low (k:Nat) (st:List Val):List Val:=st.take (st.length - k)
def push (a:Agt) (fs:List Frm) (f:Frm) (st:List Val) (v:Val):Agt×Evt:=(toF a fs { f with stack:=st ++ [v] },ev0)
def codeAt (p:Prg) (n:Int):Cod:=p.codes.getD n.toNat ⟨0,0,[]⟩
def opDo (a:Agt) (s:Spt) (fs:List Frm) (f:Frm) (i:Ins):Agt×Evt :=
  if i.op=1 then push a fs f f.stack ⟨0,i.a,[]⟩
  else if i.op=2 then push a fs f f.stack (cText (a.prog.words.getD i.a.toNat []))
  else if i.op=3 then push a fs f f.stack (f.vars.getD i.a.toNat vzero)
  else if i.op=4 then (toF a fs { f with stack:=low 1 f.stack,vars:=f.vars.set i.a.toNat (top1 f.stack) },ev0)
  else if i.op=5 then (if (two i.a (top2 f.stack) (top1 f.stack)).2=0 then push a fs f (low 2 f.stack) (two i.a (top2 f.stack) (top1 f.stack)).1 else (toF a fs { f with stack:=low 2 f.stack },dead (two i.a (top2 f.stack) (top1 f.stack)).2))
  else if i.op=6 then (if a.permit.room=0 then (toF a fs { f with stack:=low 2 f.stack },dead 13)
    else push { a with heap:=a.heap ++ [⟨top2 f.stack,top1 f.stack⟩],permit:={ a.permit with room:=a.permit.room - 1 } } fs f (low 2 f.stack) ⟨2,a.heap.length,[]⟩)
  else if i.op=7 then (if (top1 f.stack).kind ≠ 2 then (toF a fs { f with stack:=low 1 f.stack },dead 11) else push a fs f (low 1 f.stack) (a.heap.getD (top1 f.stack).n.toNat cl0).left)
  else if i.op=8 then (if (top1 f.stack).kind ≠ 2 then (toF a fs { f with stack:=low 1 f.stack },dead 11) else push a fs f (low 1 f.stack) (a.heap.getD (top1 f.stack).n.toNat cl0).right)
  else if i.op=9 then (if (top2 f.stack).kind ≠ 2 then (toF a fs { f with stack:=low 2 f.stack },dead 11) else (toF { a with heap:=a.heap.set (top2 f.stack).n.toNat { a.heap.getD (top2 f.stack).n.toNat cl0 with left:=top1 f.stack } } fs { f with stack:=low 2 f.stack },ev0))
  else if i.op=10 then (if (top2 f.stack).kind ≠ 2 then (toF a fs { f with stack:=low 2 f.stack },dead 11) else (toF { a with heap:=a.heap.set (top2 f.stack).n.toNat { a.heap.getD (top2 f.stack).n.toNat cl0 with right:=top1 f.stack } } fs { f with stack:=low 2 f.stack },ev0))
  else if i.op=11 then (if (top1 f.stack).kind ≠ 1 then (toF a fs { f with stack:=low 1 f.stack },dead 11) else push a fs f (low 1 f.stack) (ask s.facts (top1 f.stack).text))
  else if i.op=12 then push a fs f f.stack (cText s.name)
  else if i.op=13 then (if (top1 f.stack).kind ≠ 1 then (toF a fs { f with stack:=low 1 f.stack },dead 11) else if a.permit.hops=0 then push a fs f (low 1 f.stack) vzero
    else (toF { a with permit:={ a.permit with hops:=a.permit.hops - 1 } } fs { f with stack:=low 1 f.stack },⟨3,(top1 f.stack).text,0⟩))
  else if i.op=14 then (toF a fs { f with stack:=low 1 f.stack },⟨2,vshow a.heap 4 (top1 f.stack),0⟩)
  else if i.op=15 then (toF a fs { f with at_:=i.a },ev0)
  else if i.op=16 then (toF a fs { f with stack:=low 1 f.stack,at_:=if (top1 f.stack).kind=0∧(top1 f.stack).n=0 then i.a else f.at_ },ev0)
  else if i.op=17 then (if 12≤fs.length+1 then (toF a fs f,dead 9)
    else (toF a (fs ++ [{ f with stack:=low i.b.toNat f.stack }]) ⟨i.a,0,f.stack.drop (f.stack.length - i.b.toNat) ++ List.replicate ((codeAt a.prog i.a).vars - i.b).toNat vzero,[]⟩,ev0))
  else if i.op=18 then (match fs.getLast? with
    | none=>({ a with frames:=[] },⟨4,vshow a.heap 4 (top1 f.stack),0⟩)
    | some g=>push a fs.dropLast g g.stack (top1 f.stack))
  else (toF a fs { f with stack:=low 1 f.stack },ev0)
def insAt (p:Prg) (f:Frm):Ins:=(codeAt p f.fn).ins.getD f.at_.toNat ⟨0,0,0⟩
def step (a:Agt) (s:Spt):Agt×Evt :=
  if a.permit.fuel=0 then (a,dead 12)
  else match a.frames.getLast? with
    | none=>(a,ev0)
    | some f=>opDo { a with permit:={ a.permit with fuel:=a.permit.fuel - 1 } } s a.frames.dropLast { f with at_:=f.at_+1 } (insAt a.prog f)
def run (s:Spt):Nat→Agt→Agt×Evt
  | 0,a=>(a,⟨1,[],0⟩)
  | n+1,a=>if (step a s).2.kind ≠ 0 then step a s else run s n (step a s).1
end VM
end Go.Proofs.YtpllgpgdcbgalaaDoor
set_option maxRecDepth 8000
namespace Go.Proofs.YtpllgpgdcbgalaaDoor
namespace VM
inductive R (α:Type) where
  | ok (a:α) (r:Str)
  | no (e:Int)
def Rd (α:Type):Type:=Str→R α
def Rd.pure {α:Type} (a:α):Rd α:=fun b=>.ok a b
def Rd.bind {α β:Type} (m:Rd α) (f:α→Rd β):Rd β:=fun b=>match m b with
  | .ok a r=>f a r
  | .no e=>.no e
def rMany {α:Type} (m:Rd α):Nat→Rd (List α)
  | 0=>.pure []
  | n+1=>m.bind fun a=>(rMany m n).bind fun l=>.pure (a :: l)
abbrev St:=Str×Int
structure Goes {α:Type} (m:Rd α) (st:St) (a:α) (st':St):Prop where
  stuck:st.2 ≠ 0→st'.2=st.2
  good:st.2=0→∀ x r,m st.1=.ok x r→a=x∧st'=(r,0)
  bad:st.2=0→∀ e,m st.1=.no e→e ≠ 0∧st'.2=e
theorem Goes.pure {α:Type} (a:α) (st:St):Goes (Rd.pure a) st a st :=
  ⟨fun _=>rfl,fun h x r hr=>by cases hr; exact ⟨rfl,Prod.ext rfl h⟩,fun _ e h=>by cases h⟩
theorem Goes.bind {α β:Type} {m:Rd α} {k:α→Rd β} {st st1 st2:St} {a:α} {b:β} (h:Goes m st a st1) (h2:Goes (k a) st1 b st2):Goes (m.bind k) st b st2:=by
  refine ⟨fun he => ?_,fun he x r hr => ?_,fun he e hr => ?_⟩
  · have h1:=h.stuck he
    rw [← h1]
    exact h2.stuck (by rw [h1]; exact he)
  · unfold Rd.bind at hr
    split at hr
    · rename_i a' r' hm
      obtain ⟨rfl,rfl⟩:=h.good he _ _ hm
      exact h2.good rfl x r hr
    · cases hr
  · unfold Rd.bind at hr
    split at hr
    · rename_i a' r' hm
      obtain ⟨rfl,rfl⟩:=h.good he _ _ hm
      exact h2.bad rfl e hr
    · rename_i e' hm
      cases hr
      obtain ⟨h1,h3⟩:=h.bad he _ hm
      refine ⟨h1,?_⟩
      rw [← h3]
      exact h2.stuck (by rw [h3]; exact h1)
theorem Goes.more {α:Type} {m:Rd α} {st st1 st2:St} {a:α} {l:List α} {n:Nat} (h:Goes m st a st1) (h2:Goes (rMany m n) st1 l st2):Goes (rMany m (n+1)) st (a :: l) st2 :=
  h.bind (h2.bind (Goes.pure _ _))
end VM
end Go.Proofs.YtpllgpgdcbgalaaDoor
set_option maxRecDepth 8000
namespace Go.Proofs.YtpllgpgdcbgalaaDoor
inductive Ex where
  | mk (kind n:Int) (text:Str) (args:List Ex)
inductive Sm where
  | mk (kind:Int) (name:Str) (args:List Ex) (thn els:List Sm)
structure Fnc where
  name:Str
  params:List Str
  body:List Sm
namespace VM
def ex0:Ex:=.mk 0 0 [] []
def sm0:Sm:=.mk 0 [] [] [] []
def blank (c:UInt8):Bool:=c == 32 || c == 10
def trim (b:Str):Str:=b.dropWhile blank
def nxt (b:Str):Int:=match trim b with
  | []=>0
  | c :: _=>if c=0 then 1 else (c.toNat:Int)
def mustR (c:Int):Rd Unit:=fun b=>if nxt b=c then .ok () ((trim b).drop 1) else if nxt b=0 then .no 8 else .no 2
def wordC (c:UInt8):Bool:=!(c == 32 || c == 10 || c == 40 || c == 41 || c == 39)
def wordR:Rd Str:=fun b=>if trim b=[] then .no 8 else if (trim b).takeWhile wordC=[] then .no 2 else .ok ((trim b).takeWhile wordC) ((trim b).dropWhile wordC)
def keys:List Str:=[[108,101,116],[115,101,116],[105,102],[119,104,105,108,101],[115,97,121],[114,101,116,117,114,110],[112,117,116,108],[112,117,116,114],[100,111],[99,101,108,108],[108,101,102,116],[114,105,103,104,116],[97,115,107],[104,101,114,101],[103,111]]
def name (s:Str):Bool:=decide (s∉keys) && s.all (fun c=>decide (97≤c.toNat) && decide (c.toNat≤122)) && decide (0 < s.length) && decide (s.length < 9)
def errR {α:Type} (e:Int):Rd α:=fun _=>.no e
def numOf (w:Str):Option Int:=match Lib.atoiAll w with
  | .ok n=>if Lib.itoa n=w then some n else none
  | _=>none
def headOf (w:Str):Option (Int×Int×Nat) :=
  if w=[43] then some (4,1,2) else if w=[45] then some (4,2,2) else if w=[42] then some (4,3,2) else if w=[60] then some (4,4,2) else if w=[61] then some (4,5,2)
  else if w=[99,101,108,108] then some (5,0,2) else if w=[108,101,102,116] then some (6,0,1) else if w=[114,105,103,104,116] then some (7,0,1) else if w=[97,115,107] then some (8,0,1) else if w=[104,101,114,101] then some (9,0,0) else if w=[103,111] then some (10,0,1) else none
def plain:Rd Ex:=wordR.bind fun w=>match numOf w with
  | some n=>if n < -1073741824∨1073741824 < n then errR 3 else .pure (.mk 1 n [] [])
  | none=>if name w then .pure (.mk 3 0 w []) else errR 7
def stKind (w:Str):Int :=
  if w=[108,101,116] then 1 else if w=[115,101,116] then 2 else if w=[105,102] then 3 else if w=[119,104,105,108,101] then 4 else if w=[115,97,121] then 5 else if w=[114,101,116,117,114,110] then 6 else if w=[112,117,116,108] then 7 else if w=[112,117,116,114] then 8 else if w=[100,111] then 9 else 0
end VM
end Go.Proofs.YtpllgpgdcbgalaaDoor
set_option maxRecDepth 8000
namespace Go.Proofs.YtpllgpgdcbgalaaDoor
open Go Go.RowKit
theorem za.pure {P:Program} {f:FuncId} {args:List AV} {r:AV} {H:Heap} {nx:Nat} (h:za P f args H nx fun v H' _=>Frz H' nx v r∧Keep nx H' H):za P f args H nx fun v H' nx'=>v=r∧H'=H∧nx'=nx:=by
  refine za.tidy fun hlive => ?_
  refine (za.gc (R:=fun v H'=>v=r∧H'=H) h fun v H' nx' ⟨h1,h2⟩=>⟨r,H,⟨rfl,rfl⟩,h1,fun g o ho=>⟨hlive g o ho,by rw [h2 g (hlive g o ho)]; exact ho,.inl ho⟩⟩).mono fun v H' nx' ⟨⟨a,b⟩,c⟩=>⟨a,b,c⟩
theorem LC.of_qcr {P:Program} {f:FuncId} {args:List AV} {r:AV} {H0:Heap} {rd:List Nat} (hrd:∀ g∈rd,(H0 g).isSome=true)
    (h:∀ H nx,(∀ g∈rd,H g=H0 g∧g < nx)→za P f args H nx fun v H' nx'=>v=r∧H'=H∧nx'=nx) (hr:Bel (fun _=>False) r):LC P f args H0 rd [] [] r:=by
  intro A ρ H w cargs ⟨N,hN⟩ s ha hag _
  have sN:Sim (· < N) ρ H w:=⟨fun g o ho=>hN g (s.live g o ho),fun g o ho=>(s.obj g o ho).mono rfl (fun _ _ h=>h) (fun g hg=>⟨rfl,hN g hg⟩),s.inj,s.lay⟩
  have aN:LRel (Kof ρ H w) ρ (· < N) args cargs.toList:=⟨ha.1,fun j v c hv hc=>(ha.2 j v c hv hc).mono (fun _ _ h=>h) (fun g hg=>⟨rfl,hN g hg⟩)⟩
  have hr':∀ g∈rd,H g=H0 g∧g < N:=fun g hg=>⟨hag g hg,by
    obtain ⟨o,ho⟩:=Option.isSome_iff_exists.1 (hrd g hg)
    exact hN g (s.live g o ((hag g hg).trans ho))⟩
  refine zae (h H N hr' ρ w cargs sN aN) fun cv w' ⟨r',H',nx',ρ',⟨q0,q1,q2⟩,q3,q4,q5⟩ => ?_
  subst q0; subst q1; subst q2
  have hA:(fun x=>A x∨x∈([]:List Nat))=A:=by funext x; simp
  refine ⟨ρ',?_,?_,?_⟩
  · rw [hA]
    exact ⟨s.live,fun g o ho=>(q3.obj g o ho).restrict (s.obj g o ho).bel,q3.inj,q3.lay⟩
  · rw [hA]
    exact q4.restrict (hr.mono fun _ h=>h.elim)
  · rw [hA]
    exact ⟨fun g hg=>⟨(q5.agree g (hN g hg)).1,hg⟩,q5.k,q5.os,q5.tape,q5.output,q5.size⟩
theorem zm.of_qcr {P:Program} {f:FuncId} {args cap:List AV} {r:AV} {H:Heap} {nx:Nat} {k:Kt} (rd:List Nat) (hrd:∀ g∈rd,(H g).isSome=true)
    (h:∀ H' nx,(∀ g∈rd,H' g=H g∧g < nx)→za P f (args ++ cap) H' nx fun v H'' nx'=>v=r∧H''=H'∧nx'=nx) (hr:Bel (fun _=>False) r) (hk:k r rd [] []):zm P (.clo f cap) args H nx k :=
  ⟨r,rd,[],[],.inl rfl,LC.of_qcr hrd h hr,hk⟩
theorem za.pure_call {P:Program} {f:FuncId} {args:List AV} {r:AV} {H:Heap} {nx:Nat} {kk:AV→Heap→Nat→Prop} (h:za P f args H nx fun v H' _=>Frz H' nx v r∧Keep nx H' H) (hk:kk r H nx):za P f args H nx kk :=
  h.pure.mono fun v H' nx' ⟨h1,h2,h3⟩=>by subst h1; subst h2; subst h3; exact hk
def flat:AV→Bool
  | .int _ _ | .str _ | .bool _=>true
  | .agg xs | .tup xs=>xs.attach.all fun ⟨x,_⟩=>flat x
  | _=>false
theorem zaba {xs:List AV}:flat (.agg xs)=xs.all flat:=by rw [flat]; simp
theorem zaaz {xs:List AV}:flat (.tup xs)=xs.all flat:=by rw [flat]; simp
@[simp] theorem zahy {k:IntKind} {n:Int}:flat (.int k n)=true:=by rw [flat]
@[simp] theorem zahx {s:List UInt8}:flat (.str s)=true:=by rw [flat]
@[simp] theorem zagf {b:Bool}:flat (.bool b)=true:=by rw [flat]
theorem VRel.flat {K K':zj} {ρ ρ':Nat→Loc} {A A':Nat→Prop} {v:AV} {c:Value} (h:VRel K ρ A v c):flat v=true→VRel K' ρ' A' v c:=by
  induction h with
  | int k n=>exact fun _=>.int k n
  | bool b=>exact fun _=>.bool b
  | str s=>exact fun _=>.str s
  | agg xs cs h1 _ ih =>
    intro hf
    rw [zaba] at hf
    exact .agg xs cs h1 fun j v c hv hc=>ih j v c hv hc (List.all_eq_true.1 hf v (List.mem_of_getElem? hv))
  | tup xs cs h1 _ ih =>
    intro hf
    rw [zaaz] at hf
    exact .tup xs cs h1 fun j v c hv hc=>ih j v c hv hc (List.all_eq_true.1 hf v (List.mem_of_getElem? hv))
  | _=>intro hf; simp [Go.Proofs.YtpllgpgdcbgalaaDoor.flat] at hf
def LFrz (H:Heap) (xs ys:List AV):Prop:=ys.length=xs.length∧∀ (j:Nat) (v u:AV),xs[j]? = some v→ys[j]? = some u→Frz H 0 v u
theorem LFrz.nil {H:Heap}:LFrz H [] []:=⟨rfl,fun j v u h=>by simp at h⟩
theorem LFrz.cons {H:Heap} {v u:AV} {xs ys:List AV} (h:Frz H 0 v u) (k:LFrz H xs ys):LFrz H (v :: xs) (u :: ys):=by
  refine ⟨by simp [k.1],fun j a b ha hb => ?_⟩
  cases j with
  | zero=>simp at ha hb; subst ha; subst hb; exact h
  | succ j=>exact k.2 j a b (by simpa using ha) (by simpa using hb)
theorem LFrz.rel {A:Nat→Prop} {ρ:Nat→Loc} {H:Heap} {w:World} {xs ys:List AV} {cs:List Value} (s:Sim A ρ H w) (h:LFrz H xs ys) (k:LRel (Kof ρ H w) ρ A xs cs) (A':Nat→Prop):LRel (Kof ρ (fun _=>none) w) ρ A' ys cs:=by
  refine ⟨k.1.trans h.1.symm,fun j u c hu hc => ?_⟩
  have hj:j < xs.length:=by have:=(List.getElem?_eq_some_iff.1 hu).1; rw [h.1] at this; exact this
  have hv:xs[j]? = some xs[j]:=List.getElem?_eq_getElem hj
  exact ((h.2 j _ u hv hu).rel s (fun g o ho=>by cases ho) c (k.2 j _ c hv hc)).mono (fun _ _ h=>h) (fun g hg=>absurd hg (Nat.not_lt_zero _))
theorem QC.reads {P:Program} {f:FuncId} {args args':List AV} {r:AV} (h:QC P f args r) (hr:flat r=true) {H:Heap} {nx:Nat} (hf:LFrz H args' args):za P f args' H nx fun v H' nx'=>v=r∧H'=H∧nx'=nx:=by
  intro ρ w cargs s ha
  have s0:=(s.drop (H':=fun _=>none) (fun g o ho=>by cases ho)).1
  refine zae (h (fun _=>none) nx ρ w cargs s0 (hf.rel s ha _)) fun cv w' ⟨r',H',nx',ρ',⟨q0,q1,q2⟩,q3,q4,q5⟩ => ?_
  subst q0; subst q1; subst q2
  have keep:∀ b o,w.heap[b]? = some o→w'.heap[b]? = some o:=fun b o hb =>
    (zw.1 (q5.k b o (zw.2 ⟨fun g hg=>by simp at hg,hb⟩))).2
  have hρ:∀ g,g < nx'→ρ' g=ρ g:=fun g hg=>(q5.agree g hg).1
  have hK:∀ b o,Kof ρ H w b=some o→Kof ρ' H w' b=some o:=fun b o hb=>by
    obtain ⟨h1,h2⟩:=zw.1 hb
    refine zw.2 ⟨fun g hg => ?_,keep b o h2⟩
    obtain ⟨o',ho'⟩:=Option.isSome_iff_exists.1 hg
    rw [hρ g (s.live g o' ho')]
    exact h1 g hg
  refine ⟨r',H,nx',ρ',⟨rfl,rfl,rfl⟩,⟨s.live,fun g o ho => ?_,fun x y hx hy hb => ?_,s.lay.mono hK⟩,q4.flat hr,⟨fun g hg=>⟨hρ g hg,hg⟩,hK,q5.os,q5.tape,q5.output,q5.size⟩⟩
  · rw [hρ g (s.live g o ho)]
    have ho':=s.obj g o ho
    obtain ⟨ob,hob⟩:∃ ob,w.heap[(ρ g).block]? = some ob:=⟨_,Array.getElem?_eq_getElem ho'.block_lt⟩
    exact ho'.mono (by rw [keep _ _ hob,hob]) hK fun g hg=>⟨hρ g hg,hg⟩
  · obtain ⟨o1,ho1⟩:=Option.isSome_iff_exists.1 hx
    obtain ⟨o2,ho2⟩:=Option.isSome_iff_exists.1 hy
    rw [hρ x (s.live x o1 ho1),hρ y (s.live y o2 ho2)] at hb
    exact s.inj x y hx hy hb
theorem QC.readsC {P:Program} {f:FuncId} {args args':List AV} {r:AV} (h:QC P f args r) (hr:flat r=true) {H:Heap} {nx:Nat} (hf:LFrz H args' args) {kk:AV→Heap→Nat→Prop} (hk:kk r H nx):za P f args' H nx kk :=
  (h.reads hr hf).mono fun v H' nx' ⟨h1,h2,h3⟩=>by subst h1; subst h2; subst h3; exact hk
theorem QC.gives {P:Program} {f:FuncId} {args args':List AV} {r:AV} (h:QC P f args r) {H:Heap} {nx:Nat} (hf:LFrz H args' args) {kk:AV→Heap→Nat→Prop} (hk:kk r (fun _=>none) nx):za P f args' H nx kk:=by
  intro ρ w cargs s ha
  obtain ⟨s0,f0⟩:=s.drop (H':=fun _=>none) (fun g o ho=>by cases ho)
  refine zae (h (fun _=>none) nx ρ w cargs s0 (hf.rel s ha _)) fun cv w' ⟨r',H',nx',ρ',⟨q0,q1,q2⟩,q3,q4,q5⟩ => ?_
  subst q0; subst q1; subst q2
  exact ⟨r',fun _=>none,nx',ρ',hk,q3,q4,f0.trans q5⟩
end Go.Proofs.YtpllgpgdcbgalaaDoor
set_option maxRecDepth 8000
namespace Go.Proofs.YtpllgpgdcbgalaaDoor
open Go Go.RowKit
inductive FrzP (H:Heap) (G:Nat→Prop):AV→AV→Prop
  | same (v:AV):FrzP H G v v
  | nils:FrzP H G .nils (.ro [])
  | zs:FrzP H G .zs (.ro [])
  | slc (g off len sz:Nat) (cells:List AV) (xs:List (List AV)):G g→H g=some (.row sz cells)→off+len*sz≤cells.length→xs.length=len→(∀ x∈xs,x.length=sz) →
      (U:Nat→Nat→AV)→(∀ (i:Nat) (x:List AV) (j:Nat) (v:AV),xs[i]? = some x→x[j]? = some v→cells[off+i*sz+j]? = some (U i j)) →
      (∀ (i:Nat) (x:List AV) (j:Nat) (v:AV),xs[i]? = some x→x[j]? = some v→FrzP H G (U i j) v)→FrzP H G (.slc g off len) (.ro xs)
  | agg (xs ys:List AV):ys.length=xs.length→(∀ (j:Nat) (v u:AV),xs[j]? = some v→ys[j]? = some u→FrzP H G v u)→FrzP H G (.agg xs) (.agg ys)
theorem FrzP.rel {A:Nat→Prop} {ρ:Nat→Loc} {H H0:Heap} {w:World} {G:Nat→Prop} (s:Sim A ρ H w) (h0:∀ g o,H0 g=some o→¬ G g∧H g=some o) {v u:AV} (h:FrzP H G v u) :
    ∀ (c:Value),VRel (Kof ρ H w) ρ A v c→VRel (Kof ρ H0 w) ρ A u c:=by
  have hK:∀ b o,Kof ρ H w b=some o→Kof ρ H0 w b=some o:=fun b o hb=>by
    obtain ⟨h1,h2⟩:=zw.1 hb
    refine zw.2 ⟨fun g hg => ?_,h2⟩
    obtain ⟨o',ho'⟩:=Option.isSome_iff_exists.1 hg
    exact h1 g (by rw [(h0 g o' ho').2]; rfl)
  induction h with
  | same v=>exact fun c hc=>hc.mono hK (fun _ h=>⟨rfl,h⟩)
  | nils =>
    intro c hc
    cases hc
    exact .ro [] none 0 0 0 0 0 (fun _ _=>undef) rfl (Nat.le_refl _) (fun h=>absurd rfl h) (fun x hx=>by cases hx) (fun i x j v hx=>by simp at hx) (fun i x j v hx=>by simp at hx)
  | zs =>
    intro c hc
    cases hc with
    | zs a=>exact .ro [] a 0 0 0 0 0 (fun _ _=>undef) rfl (Nat.le_refl _) (fun h=>absurd rfl h) (fun x hx=>by cases hx) (fun i x j v hx=>by simp at hx) (fun i x j v hx=>by simp at hx)
  | slc g off len sz cells xs hg hH hle hl hsz U hU _ ih =>
    intro c hc
    cases hc with
    | slc _ _ _ cap a hA hcl hcap =>
      obtain ⟨cc,el,lo,hi,q1,q2,q3,q4,q5,q6⟩:=s.obj g _ hH
      have hKb:Kof ρ H0 w (ρ g).block=some (.cells cc el (lo,hi)):=by
        refine zw.2 ⟨fun x hx e => ?_,q1⟩
        obtain ⟨o',ho'⟩:=Option.isSome_iff_exists.1 hx
        obtain ⟨h1,h2⟩:=h0 x o' ho'
        have:=s.inj x g (by rw [h2]; rfl) (by rw [hH]; rfl) e
        subst this
        exact h1 hg
      have hex:∀ (i:Nat) (x:List AV) (j:Nat) (v:AV),xs[i]? = some x→x[j]? = some v→∃ cv,cc[(ρ g).base+(off+i*sz+j)]? = some cv∧VRel (Kof ρ H w) ρ A (U i j) cv:=fun i x j v hx hv=>q6 _ _ (hU i x j v hx hv)
      refine .ro xs a len cap sz (ρ g).block ((ρ g).base+off) (fun i j=>(cc[(ρ g).base+(off+i*sz+j)]?).getD undef) hl.symm hcl (fun hne => ?_) hsz (fun i x j v hx hv => ?_) (fun i x j v hx hv => ?_)
      · have hpos:0 < xs.length:=List.length_pos_iff.2 hne
        exact (hcap (by omega)).2
      · obtain ⟨cv,h1,h2⟩:=hex i x j v hx hv
        unfold zjf
        rw [hKb]
        simp only [h1,Option.getD_some]
        rw [← h1]; congr 1; omega
      · obtain ⟨cv,h1,h2⟩:=hex i x j v hx hv
        rw [h1]
        exact ih i x j v hx hv cv h2
  | agg xs ys hl _ ih =>
    intro c hc
    cases hc with
    | agg _ cs h1 h2 =>
    exact .agg ys cs (by omega) fun j v c hv hc=>by
        have hlt:=(List.getElem?_eq_some_iff.1 hv).1
        have hx:xs[j]? = some (xs[j]'(by omega)):=List.getElem?_eq_getElem (by omega)
        exact ih j _ v hx hv c (h2 j _ c hx hc)
theorem za.freeze {P:Program} {f:FuncId} {args:List AV} {H:Heap} {nx:Nat} {Q R:AV→Heap→Nat→Prop} (h:za P f args H nx Q)
    (hq:∀ v H' nx',Q v H' nx'→∃ (r:AV) (H0:Heap) (G:Nat→Prop),R r H0 nx'∧FrzP H' G v r∧(∀ g o,H0 g=some o→¬ G g∧H' g=some o)):za P f args H nx R:=by
  intro ρ w cargs s ha
  refine zae (h ρ w cargs s ha) fun cv w' ⟨v,H',nx',ρ',q1,q2,q3,q4⟩ => ?_
  obtain ⟨r,H0,G,hR,hF,h0⟩:=hq v H' nx' q1
  obtain ⟨s0,f0⟩:=q2.drop (H':=H0) fun g o ho=>(h0 g o ho).2
  exact ⟨r,H0,nx',ρ',hR,s0,hF.rel q2 h0 cv q3,q4.trans f0⟩
theorem FrzP.row {H:Heap} {G:Nat→Prop} {g sz len:Nat} {cells:List AV} {xs:List (List AV)} (hg:G g) (hH:H g=some (.row sz cells)) (hl:xs.length=len) (hs:∀ x∈xs,x.length=sz) (hc:∀ (i:Nat) (x:List AV) (j:Nat) (v:AV),xs[i]? = some x→x[j]? = some v→∃ u,cells[i*sz+j]? = some u∧FrzP H G u v) (hle:len*sz≤cells.length):FrzP H G (.slc g 0 len) (.ro xs):=by
  refine .slc g 0 len sz cells xs hg hH (by omega) hl hs (fun i j=>(cells[i*sz+j]?).getD .junk) (fun i x j v hx hv => ?_) fun i x j v hx hv => ?_
  · obtain ⟨u,h1,h2⟩:=hc i x j v hx hv
    rw [Nat.zero_add,h1]; rfl
  · obtain ⟨u,h1,h2⟩:=hc i x j v hx hv
    rw [h1]; exact h2
end Go.Proofs.YtpllgpgdcbgalaaDoor
set_option maxRecDepth 8000
namespace Go.Proofs.YtpllgpgdcbgalaaDoor
open Go Go.RowKit
inductive FP (H:Heap) (G:Nat→Prop):List AV→List AV→Prop
  | nil:FP H G [] []
  | cons {u v:AV} {us vs:List AV}:FrzP H G u v→FP H G us vs→FP H G (u :: us) (v :: vs)
section
variable {H:Heap} {G:Nat→Prop}
theorem FP.append:∀ {us vs us' vs':List AV},FP H G us vs→FP H G us' vs'→FP H G (us ++ us') (vs ++ vs')
  | _,_,_,_,.nil,k=>k
  | _,_,_,_,.cons a b,k=>.cons a (b.append k)
theorem FP.same:∀ (l:List AV),FP H G l l
  | []=>.nil
  | _ :: r=>.cons (.same _) (FP.same r)
theorem FP.get:∀ {us vs:List AV},FP H G us vs→∀ {j:Nat} {v:AV},vs[j]? = some v→∃ u,us[j]? = some u∧FrzP H G u v
  | _,_,.nil,j,v,h=>by simp at h
  | _,_,.cons a b,0,v,h=>by simp at h; subst h; exact ⟨_,rfl,a⟩
  | _,_,.cons a b,j+1,v,h=>by simpa using b.get (j:=j) (by simpa using h)
theorem FP.len:∀ {us vs:List AV},FP H G us vs→us.length=vs.length
  | _,_,.nil=>rfl
  | _,_,.cons a b=>by simp [b.len]
theorem FP.agg {us vs:List AV} (h:FP H G us vs):FrzP H G (.agg us) (.agg vs):=by
  refine .agg _ _ h.len.symm fun j v u hv hu => ?_
  obtain ⟨w,q1,q2⟩:=h.get hu
  rw [hv] at q1; cases q1; exact q2
theorem FrzP.rowW {g len sz:Nat} {cells:List AV} {xs:List (List AV)} (hg:G g) (hH:H g=some (.row sz cells)) (hl:xs.length=len) (hs:∀ x∈xs,x.length=sz) (hc:FP H G cells xs.flatten):FrzP H G (.slc g 0 len) (.ro xs):=by
  have e:cells.length=len*sz:=by
    rw [hc.len]
    have:∀ (ys:List (List AV)),(∀ y∈ys,y.length=sz)→ys.flatten.length=ys.length*sz:=by
      intro ys
      induction ys with
      | nil=>intro _; simp
      | cons y r ih=>intro h; rw [List.flatten_cons,List.length_append,ih fun z hz=>h z (by simp [hz]),h y (by simp),List.length_cons,Nat.succ_mul,Nat.add_comm]
    rw [this xs hs,hl]
  refine FrzP.row hg hH hl hs (fun i x j v hx hv => ?_) (by omega)
  have hat:∀ (ys:List (List AV)),(∀ y∈ys,y.length=sz)→∀ (i:Nat) (x:List AV),ys[i]? = some x→∀ (j:Nat) (v:AV),x[j]? = some v→ys.flatten[i*sz+j]? = some v:=by
    intro ys
    induction ys with
    | nil=>intro _ i x hx; simp at hx
    | cons y r ih =>
      intro h i x hx j v hv
      have hy:=h y (by simp)
      cases i with
      | zero =>
        simp at hx; subst hx
        rw [List.flatten_cons,Nat.zero_mul,Nat.zero_add,List.getElem?_append_left (by exact (List.getElem?_eq_some_iff.1 hv).1)]; exact hv
      | succ i =>
        have:=ih (fun z hz=>h z (by simp [hz])) i x (by simpa using hx) j v hv
        rw [List.flatten_cons,List.getElem?_append_right (by rw [hy,Nat.succ_mul]; omega),hy,show (i+1)*sz+j - sz=i*sz+j by rw [Nat.succ_mul]; omega]
        exact this
  exact hc.get (hat xs hs i x hx j v hv)
end
mutual
def Ex.avs:Ex→List AV
  | .mk k n t ar=>[.int .i64 k,.int .i64 n,.str t,.ro (Ex.avsL ar)]
def Ex.avsL:List Ex→List (List AV)
  | []=>[]
  | x :: r=>Ex.avs x :: Ex.avsL r
end
theorem zvy:∀ l:List Ex,Ex.avsL l=l.map Ex.avs
  | []=>by simp [Ex.avsL]
  | x :: r=>by simp [Ex.avsL,zvy r]
mutual
def Sm.avs:Sm→List AV
  | .mk k nm ar t e=>[.int .i64 k,.str nm,.ro (ar.map Ex.avs),.ro (Sm.avsL t),.ro (Sm.avsL e)]
def Sm.avsL:List Sm→List (List AV)
  | []=>[]
  | x :: r=>Sm.avs x :: Sm.avsL r
end
theorem zrp:∀ l:List Sm,Sm.avsL l=l.map Sm.avs
  | []=>by simp [Sm.avsL]
  | x :: r=>by simp [Sm.avsL,zrp r]
theorem zho (k n:Int) (t:Str) (ar:List Ex):Ex.avs (.mk k n t ar)=[.int .i64 k,.int .i64 n,.str t,.ro (ar.map Ex.avs)]:=by rw [Ex.avs,zvy]
theorem zay (k:Int) (nm:Str) (ar:List Ex) (t e:List Sm):Sm.avs (.mk k nm ar t e)=[.int .i64 k,.str nm,.ro (ar.map Ex.avs),.ro (t.map Sm.avs),.ro (e.map Sm.avs)]:=by rw [Sm.avs,zrp,zrp]
theorem zbs (x:Ex):x.avs.length=4:=by cases x; rw [zho]; rfl
theorem zly (x:Sm):x.avs.length=5:=by cases x; rw [zay]; rfl
def Fnc.avs (f:Fnc):List AV:=[.str f.name,.ro (f.params.map fun w=>[.str w]),.ro (f.body.map Sm.avs)]
namespace VM
def badF (e:Int) (st:St):St:=(st.1,if st.2=0 then e else st.2)
def mustF (c:Int) (st:St):St:=if nxt st.1=c then ((trim st.1).drop 1,st.2) else badF (if nxt st.1=0 then 8 else 2) (trim st.1,st.2)
def wF (st:St):Str×St:=((trim st.1).takeWhile wordC,if (trim st.1).takeWhile wordC=[] then badF (if trim st.1=[] then 8 else 2) (trim st.1,st.2) else ((trim st.1).dropWhile wordC,st.2))
def nF (st:St):Str×St:=((wF st).1,if name (wF st).1 then (wF st).2 else badF 7 (wF st).2)
theorem goes_must (c:Int) (st:St):Goes (mustR c) st () (mustF c st):=by
  unfold mustF mustR
  refine ⟨fun h => ?_,fun h x r hr => ?_,fun h e hr => ?_⟩
  · split
    · rfl
    · unfold badF; rw [if_neg h]
  · try simp only at hr
    split at hr
    · rename_i h1
      cases hr
      rw [if_pos h1,h]; exact ⟨rfl,rfl⟩
    · split at hr <;> cases hr
  · try simp only at hr
    split at hr
    · cases hr
    · rename_i h1
      rw [if_neg h1]
      unfold badF
      simp only [h,if_true]
      split at hr
      · rename_i h2; cases hr; rw [if_pos h2]; simp
      · rename_i h2; cases hr; rw [if_neg h2]; simp
def Eats {α:Type} (m:Rd α):Prop:=∀ b a r,m b=.ok a r→r.length < b.length
def NoMore {α:Type} (m:Rd α):Prop:=∀ b a r,m b=.ok a r→r.length≤b.length
theorem Eats.more {α:Type} {m:Rd α} (h:Eats m):NoMore m:=fun b a r e=>Nat.le_of_lt (h b a r e)
theorem NoMore.pure {α:Type} (a:α):NoMore (Rd.pure a):=fun b x r h=>by cases h; exact Nat.le_refl _
theorem NoMore.err {α:Type} (e:Int):NoMore (errR e:Rd α):=fun b x r h=>by cases h
theorem NoMore.bind {α β:Type} {m:Rd α} {k:α→Rd β} (h:NoMore m) (h2:∀ a,NoMore (k a)):NoMore (m.bind k):=fun b x r hx=>by
  unfold Rd.bind at hx
  split at hx
  · rename_i a r' hm
    exact Nat.le_trans (h2 a _ _ _ hx) (h _ _ _ hm)
  · cases hx
theorem Eats.bind {α β:Type} {m:Rd α} {k:α→Rd β} (h:Eats m) (h2:∀ a,NoMore (k a)):Eats (m.bind k):=fun b x r hx=>by
  unfold Rd.bind at hx
  split at hx
  · rename_i a r' hm
    exact Nat.lt_of_le_of_lt (h2 a _ _ _ hx) (h _ _ _ hm)
  · cases hx
theorem trim_le (b:Str):(trim b).length≤b.length:=(List.dropWhile_sublist _).length_le
end VM
end Go.Proofs.YtpllgpgdcbgalaaDoor
