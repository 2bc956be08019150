/- What is to be shown of each function, written out. The plain law of wire: numbers as bytes, and back; no program in sight. Bits of bytes and of 64 bits, as sums. The machine: an agent's steps, as a plain function (chapter 7). Plain laws of what is wrong with programs. Heights hold together: as many values lie ahead of an instruction as were reckoned, on whichever way it is come to. What is right never gets stuck: an agent's steps keep it right. What is right never gets stuck: the agent behind a step is right. Programs, and agents, as they lie in memory. Which kinds of things are compared whole. A call that changes what it is handed by address, where the order is drawn. -/
import Derived.Test.YtpbnaaoilgohkaaGreatDoorG7
import Derived.Test.YtpbnaaoilgohkaaGreatDoorG6
import Derived.WalkKit
import Derived.WalkSmall
set_option linter.unusedSimpArgs false
set_option linter.unusedVariables false
set_option maxRecDepth 8000
namespace Go.Proofs.YtpbnaaoilgohkaaGreatDoor
open Go Go.RowKit
def zgt (Q : QT) (K5 : J3) (xs6 : List AV) (H7 : Heap) (nx8 : Nat) : Prop :=
 BI .geq (nth xs6 1) (.int .u64 128) fun v9 =>
 CNDC v9
 (CV .u8 (nth xs6 1) fun v10 =>
 BI .or v10 (.int .u8 128) fun v11 =>
 BSL 1 1 [.int .u8 0] [(0, v11)] fun cells12 =>
 PUTH H7 nx8 (.row 1 cells12) fun H13 =>
 APP 1 1 (nth xs6 0) (.slc nx8 0 1) H13 (nx8 + 1) fun v14 H15 nx16 =>
 BI .shr (nth xs6 1) (.int .u64 7) fun v17 =>
 K5 [v14, v17] H15 nx16)
 (CV .u8 (nth xs6 1) fun v18 =>
 BSL 1 1 [.int .u8 0] [(0, v18)] fun cells19 =>
 PUTH H7 nx8 (.row 1 cells19) fun H20 =>
 APP 1 1 (nth xs6 0) (.slc nx8 0 1) H20 (nx8 + 1) fun v21 H22 nx23 =>
 Q v21 H22 nx23)
def zpa (a0 a1 : AV) (H : Heap) (nx : Nat) (Q : QT) : Prop :=
 CV .u64 a1 fun v1 =>
 BI .shl v1 (.int .u64 1) fun v2 =>
 BI .lss a1 (.int .i64 0) fun v3 =>
 CNDC v3
 (UO .xor v2 fun v4 =>
 LP (zgt Q) [a0, v4] H nx)
 (LP (zgt Q) [a0, v2] H nx)
theorem zxx (a0 a1 : AV) (H : Heap) (nx : Nat) (Q : QT) : zpa a0 a1 H nx Q → za Tryz.prog 55 [a0, a1] H nx Q :=
  zd (lv := lvOf [(2, 4, [0, 5])]) (c := zl Tryz.f55) zp zq mixed Tryz.func55 (by kernel_rfl) (by kernel_rfl) (by kernel_rfl) (by kernel_rfl) (by kernel_rfl)
def zjb (xs3 : List AV) (K2 : J3) (v12 : AV) (H13 : Heap) (nx14 : Nat) : Prop :=
 NC (nth xs3 0) fun v15 =>
 FA 0 v15 fun v16 =>
 ST 1 v16 v12 H13 fun H17 =>
 BI .add (nth xs3 3) (.int .i64 1) fun v18 =>
 K2 [nth xs3 0, nth xs3 1, nth xs3 2, v18] H17 nx14
def zdx (Q : QT) (K2 : J3) (xs3 : List AV) (H4 : Heap) (nx5 : Nat) : Prop :=
 BI .lss (nth xs3 3) (nth xs3 2) fun v6 =>
 CNDC v6
 (IA 1 (nth xs3 1) (nth xs3 3) fun v7 =>
 LD false 1 v7 H4 fun v8 =>
 NC (nth xs3 0) fun v9 =>
 FA 0 v9 fun v10 =>
 LD false 1 v10 H4 fun v11 =>
 za Tryz.prog 55 [v11, v8] H4 nx5 (zjb xs3 K2))
 (Q (.tup []) H4 nx5)
def zja (a0 a1 : AV) (H : Heap) (nx : Nat) (Q : QT) : Prop :=
 LNL a1 fun v1 =>
 LP (zdx Q) [a0, a1, v1, .int .i64 0] H nx
theorem znf (a0 a1 : AV) (H : Heap) (nx : Nat) (Q : QT) : zja a0 a1 H nx Q → za Tryz.prog 28 [a0, a1] H nx Q :=
  zd (lv := lvOf [(2, 1, [0, 6, 7, 8])]) (c := zl Tryz.f28) zp zq mixed Tryz.func28 (by kernel_rfl) (by kernel_rfl) (by kernel_rfl) (by kernel_rfl) (by kernel_rfl)
def zta (a1 : AV) (Q : QT) (v2 : AV) (H3 : Heap) (nx4 : Nat) : Prop :=
 APP 1 1 v2 a1 H3 nx4 fun v5 H6 nx7 =>
 Q v5 H6 nx7
def zsz (a0 a1 : AV) (H : Heap) (nx : Nat) (Q : QT) : Prop :=
 LNS a1 fun v1 =>
 za Tryz.prog 55 [a0, v1] H nx (zta a1 Q)
theorem zwl (a0 a1 : AV) (H : Heap) (nx : Nat) (Q : QT) : zsz a0 a1 H nx Q → za Tryz.prog 56 [a0, a1] H nx Q :=
  zd (lv := lvOf []) (c := zl Tryz.f56) zp zq mixed Tryz.func56 (by kernel_rfl) (by kernel_rfl) (by kernel_rfl) (by kernel_rfl) (by kernel_rfl)
def zfz (xs15 : List AV) (K14 : J3) (v24 : AV) (H25 : Heap) (nx26 : Nat) : Prop :=
 NC (nth xs15 0) fun v27 =>
 FA 0 v27 fun v28 =>
 ST 1 v28 v24 H25 fun H29 =>
 BI .add (nth xs15 4) (.int .i64 1) fun v30 =>
 K14 [nth xs15 0, nth xs15 1, nth xs15 2, nth xs15 3, v30] H29 nx26
def zfy (xs65 : List AV) (K64 : J3) (_ : AV) (H79 : Heap) (nx80 : Nat) : Prop :=
 BI .add (nth xs65 6) (.int .i64 1) fun v81 =>
 K64 [nth xs65 0, nth xs65 1, nth xs65 2, nth xs65 3, nth xs65 4, nth xs65 5, v81] H79 nx80
def zdb (K44 : J3) (K64 : J3) (xs65 : List AV) (H66 : Heap) (nx67 : Nat) : Prop :=
 BI .lss (nth xs65 6) (nth xs65 5) fun v68 =>
 CNDC v68
 (IA 3 (nth xs65 4) (nth xs65 6) fun v69 =>
 LD true 3 v69 H66 fun v70 =>
 PUTH H66 nx67 (.row 3 [.int .i64 0, .int .i64 0, .int .i64 0]) fun H71 =>
 ST 3 (.ptr nx67 0) v70 H71 fun H72 =>
 LD false 1 (.ptr nx67 0) H72 fun v73 =>
 LD false 1 (.ptr nx67 1) H72 fun v74 =>
 LD false 1 (.ptr nx67 2) H72 fun v75 =>
 BSL 3 1 [.int .i64 0] [(0, v73), (1, v74), (2, v75)] fun cells76 =>
 PUTH H72 (nx67 + 1) (.row 1 cells76) fun H77 =>
 za Tryz.prog 28 [nth xs65 0, .slc (nx67 + 1) 0 3] H77 (nx67 + 2) (zfy xs65 K64))
 (BI .add (nth xs65 3) (.int .i64 1) fun v82 =>
 K44 [nth xs65 0, nth xs65 1, nth xs65 2, v82] H66 nx67)
def zfx (nx47 : Nat) (K44 : J3) (xs45 : List AV) (_ : AV) (H60 : Heap) (nx61 : Nat) : Prop :=
 LD false 1 (.ptr nx47 2) H60 fun v62 =>
 LNL v62 fun v63 =>
 LP (zdb K44) [nth xs45 0, nth xs45 1, nth xs45 2, nth xs45 3, v62, v63, .int .i64 0] H60 nx61
def zbw (Q : QT) (K44 : J3) (xs45 : List AV) (H46 : Heap) (nx47 : Nat) : Prop :=
 BI .lss (nth xs45 3) (nth xs45 2) fun v48 =>
 CNDC v48
 (IA 3 (nth xs45 1) (nth xs45 3) fun v49 =>
 LD true 3 v49 H46 fun v50 =>
 PUTH H46 nx47 (.row 3 [.int .i64 0, .int .i64 0, .nils]) fun H51 =>
 ST 3 (.ptr nx47 0) v50 H51 fun H52 =>
 LD false 1 (.ptr nx47 0) H52 fun v53 =>
 LD false 1 (.ptr nx47 1) H52 fun v54 =>
 LD false 1 (.ptr nx47 2) H52 fun v55 =>
 LNL v55 fun v56 =>
 BSL 3 1 [.int .i64 0] [(0, v53), (1, v54), (2, v56)] fun cells57 =>
 PUTH H52 (nx47 + 1) (.row 1 cells57) fun H58 =>
 za Tryz.prog 28 [nth xs45 0, .slc (nx47 + 1) 0 3] H58 (nx47 + 2) (zfx nx47 K44 xs45))
 (Q (.tup []) H46 nx47)
def zfw (xs15 : List AV) (Q : QT) (_ : AV) (H38 : Heap) (nx39 : Nat) : Prop :=
 NC (nth xs15 1) fun v40 =>
 FA 0 v40 fun v41 =>
 LD false 1 v41 H38 fun v42 =>
 LNL v42 fun v43 =>
 LP (zbw Q) [nth xs15 0, v42, v43, .int .i64 0] H38 nx39
def zda (Q : QT) (K14 : J3) (xs15 : List AV) (H16 : Heap) (nx17 : Nat) : Prop :=
 BI .lss (nth xs15 4) (nth xs15 3) fun v18 =>
 CNDC v18
 (IA 1 (nth xs15 2) (nth xs15 4) fun v19 =>
 LD false 1 v19 H16 fun v20 =>
 NC (nth xs15 0) fun v21 =>
 FA 0 v21 fun v22 =>
 LD false 1 v22 H16 fun v23 =>
 za Tryz.prog 56 [v23, v20] H16 nx17 (zfz xs15 K14))
 (NC (nth xs15 1) fun v31 =>
 FA 0 v31 fun v32 =>
 LD false 1 v32 H16 fun v33 =>
 LNL v33 fun v34 =>
 BSL 1 1 [.int .i64 0] [(0, v34)] fun cells35 =>
 PUTH H16 nx17 (.row 1 cells35) fun H36 =>
 za Tryz.prog 28 [nth xs15 0, .slc nx17 0 1] H36 (nx17 + 1) (zfw xs15 Q))
def zfv (a1 : AV) (Q : QT) (a0 : AV) (_ : AV) (H8 : Heap) (nx9 : Nat) : Prop :=
 NC a1 fun v10 =>
 FA 1 v10 fun v11 =>
 LD false 1 v11 H8 fun v12 =>
 LNL v12 fun v13 =>
 LP (zda Q) [a0, a1, v12, v13, .int .i64 0] H8 nx9
def zfu (a0 a1 : AV) (H : Heap) (nx : Nat) (Q : QT) : Prop :=
 NC a1 fun v1 =>
 FA 1 v1 fun v2 =>
 LD false 1 v2 H fun v3 =>
 LNL v3 fun v4 =>
 BSL 1 1 [.int .i64 0] [(0, v4)] fun cells5 =>
 PUTH H nx (.row 1 cells5) fun H6 =>
 za Tryz.prog 28 [a0, .slc nx 0 1] H6 (nx + 1) (zfv a1 Q a0)
theorem zkx (a0 a1 : AV) (H : Heap) (nx : Nat) (Q : QT) : zfu a0 a1 H nx Q → za Tryz.prog 29 [a0, a1] H nx Q :=
  zd (lv := lvOf [(2, 2, [0, 1, 21, 22, 23]), (2, 8, [0, 48, 49, 50]), (2, 12, [0, 48, 49, 50, 65, 66, 67])]) (c := zl Tryz.f29) zp zq mixed Tryz.func29 (by kernel_rfl) (by kernel_rfl) (by kernel_rfl) (by kernel_rfl) (by kernel_rfl)
def zhy (a0 : AV) (H6 : Heap) (Q : QT) (nx7 : Nat) (v16 : AV) (_ : List Nat) (fr18 : List Nat) (D19 : zg) : Prop :=
 NC a0 fun v20 =>
 FA 0 v20 fun v21 =>
 zbd 1 v21 v16 (H6.apply D19) fun _ _ fr24 D25 =>
 zm (domD D19) [] (
 Q (.tup []) ((H6.apply D19).apply D25) ((nx7 + fr18.length) + fr24.length))
def zhx (Q : QT) (v29 : AV) (H30 : Heap) (nx31 : Nat) : Prop :=
 Q (AV.tup []) H30 nx31
def zdq (nx : Nat) (a0 : AV) (Q : QT) (_ : AV) (H6 : Heap) (nx7 : Nat) : Prop :=
 LD false 1 (.ptr nx 0) H6 fun v8 =>
 BI .eql v8 (.int .i64 1) fun v9 =>
 CNDC v9
 (NC a0 fun v10 =>
 FA 0 v10 fun v11 =>
 LDR false 1 v11 H6 fun v12 _ =>
 LDR false 1 (.ptr nx 2) H6 fun v14 _ =>
 zt Tryz.prog (.clo 56 []) [v12, v14] H6 nx7 (zhy a0 H6 Q nx7))
 (LD false 1 (.ptr nx 1) H6 fun v26 =>
 BSL 1 1 [.int .i64 0] [(0, v26)] fun cells27 =>
 PUTH H6 nx7 (.row 1 cells27) fun H28 =>
 za Tryz.prog 28 [a0, .slc nx7 0 1] H28 (nx7 + 1) (zhx Q))
def zhw (a0 a1 : AV) (H : Heap) (nx : Nat) (Q : QT) : Prop :=
 a1.sure = true ∧
 PUTH H nx (.row a1.cells.length a1.cells) fun H1 =>
 LD false 1 (.ptr nx 0) H1 fun v2 =>
 BSL 1 1 [.int .i64 0] [(0, v2)] fun cells3 =>
 PUTH H1 (nx + 1) (.row 1 cells3) fun H4 =>
 za Tryz.prog 28 [a0, .slc (nx + 1) 0 1] H4 (nx + 2) (zdq nx a0 Q)
theorem zms (a0 a1 : AV) (H : Heap) (nx : Nat) (Q : QT) : zhw a0 a1 H nx Q → za Tryz.prog 31 [a0, a1] H nx Q :=
  zd (lv := lvOf []) (c := zl Tryz.f31) zp zq mixed Tryz.func31 (by kernel_rfl) (by kernel_rfl) (by kernel_rfl) (by kernel_rfl) (by kernel_rfl)
def zhb (xs9 : List AV) (K8 : J3) (_ : AV) (H19 : Heap) (nx20 : Nat) : Prop :=
 BI .add (nth xs9 3) (.int .i64 1) fun v21 =>
 K8 [nth xs9 0, nth xs9 1, nth xs9 2, v21] H19 nx20
def zdk (Q : QT) (K8 : J3) (xs9 : List AV) (H10 : Heap) (nx11 : Nat) : Prop :=
 BI .lss (nth xs9 3) (nth xs9 2) fun v12 =>
 CNDC v12
 (IA 3 (nth xs9 1) (nth xs9 3) fun v13 =>
 LD true 3 v13 H10 fun v14 =>
 PUTH H10 nx11 (.row 3 [.int .i64 0, .int .i64 0, .str []]) fun H15 =>
 ST 3 (.ptr nx11 0) v14 H15 fun H16 =>
 LD true 3 (.ptr nx11 0) H16 fun v17 =>
 za Tryz.prog 31 [nth xs9 0, v17] H16 (nx11 + 1) (zhb xs9 K8))
 (Q (.tup []) H10 nx11)
def zha (a1 : AV) (Q : QT) (a0 : AV) (_ : AV) (H5 : Heap) (nx6 : Nat) : Prop :=
 LNL a1 fun v7 =>
 LP (zdk Q) [a0, a1, v7, .int .i64 0] H5 nx6
def zgz (a0 a1 : AV) (H : Heap) (nx : Nat) (Q : QT) : Prop :=
 LNL a1 fun v1 =>
 BSL 1 1 [.int .i64 0] [(0, v1)] fun cells2 =>
 PUTH H nx (.row 1 cells2) fun H3 =>
 za Tryz.prog 28 [a0, .slc nx 0 1] H3 (nx + 1) (zha a1 Q a0)
theorem zlv (a0 a1 : AV) (H : Heap) (nx : Nat) (Q : QT) : zgz a0 a1 H nx Q → za Tryz.prog 30 [a0, a1] H nx Q :=
  zd (lv := lvOf [(2, 2, [0, 11, 12, 13])]) (c := zl Tryz.f30) zp zq mixed Tryz.func30 (by kernel_rfl) (by kernel_rfl) (by kernel_rfl) (by kernel_rfl) (by kernel_rfl)
def zvc (xs3 : List AV) (K2 : J3) (v11 : AV) (H12 : Heap) (nx13 : Nat) : Prop :=
 BI .mul v11 (.int .u32 16777619) fun v14 =>
 BI .add (nth xs3 3) (.int .i64 1) fun v15 =>
 K2 [v14, nth xs3 1, nth xs3 2, v15] H12 nx13
def zoz (Q : QT) (K2 : J3) (xs3 : List AV) (H4 : Heap) (nx5 : Nat) : Prop :=
 BI .lss (nth xs3 3) (nth xs3 2) fun v6 =>
 CNDC v6
 (IA 1 (nth xs3 1) (nth xs3 3) fun v7 =>
 LD false 1 v7 H4 fun v8 =>
 CV .u32 v8 fun v9 =>
 BI .xor (nth xs3 0) v9 fun v10 =>
 za Tryz.prog 57 [v10, .int .i64 5] H4 nx5 (zvc xs3 K2))
 (CV .i64 (nth xs3 0) fun v16 =>
 Q v16 H4 nx5)
def zvb (a0 : AV) (H : Heap) (nx : Nat) (Q : QT) : Prop :=
 LNL a0 fun v1 =>
 LP (zoz Q) [.int .u32 2166136261, a0, v1, .int .i64 0] H nx
theorem zxw (a0 : AV) (H : Heap) (nx : Nat) (Q : QT) : zvb a0 H nx Q → za Tryz.prog 32 [a0] H nx Q :=
  zd (lv := lvOf [(2, 3, [3, 6, 7, 8])]) (c := zl Tryz.f32) zp zq mixed Tryz.func32 (by kernel_rfl) (by kernel_rfl) (by kernel_rfl) (by kernel_rfl) (by kernel_rfl)
def zql (xs32 : List AV) (K31 : J3) (_ : AV) (H53 : Heap) (nx54 : Nat) : Prop :=
 BI .add (nth xs32 4) (.int .i64 1) fun v55 =>
 K31 [nth xs32 0, nth xs32 1, nth xs32 2, nth xs32 3, v55] H53 nx54
def zqk (nx34 : Nat) (xs32 : List AV) (K31 : J3) (_ : AV) (H49 : Heap) (nx50 : Nat) : Prop :=
 LD false 1 (.ptr nx34 3) H49 fun v51 =>
 za Tryz.prog 30 [nth xs32 1, v51] H49 nx50 (zql xs32 K31)
def zqj (nx34 : Nat) (xs32 : List AV) (K31 : J3) (_ : AV) (H45 : Heap) (nx46 : Nat) : Prop :=
 LD false 1 (.ptr nx34 2) H45 fun v47 =>
 za Tryz.prog 30 [nth xs32 1, v47] H45 nx46 (zqk nx34 xs32 K31)
def zqi (xs68 : List AV) (K67 : J3) (_ : AV) (H82 : Heap) (nx83 : Nat) : Prop :=
 BI .add (nth xs68 3) (.int .i64 1) fun v84 =>
 K67 [nth xs68 0, nth xs68 1, nth xs68 2, v84] H82 nx83
def zqh (nx70 : Nat) (xs68 : List AV) (K67 : J3) (_ : AV) (H78 : Heap) (nx79 : Nat) : Prop :=
 LD true 3 (.ptr nx70 3) H78 fun v80 =>
 za Tryz.prog 31 [nth xs68 0, v80] H78 nx79 (zqi xs68 K67)
def zqg (xs68 : List AV) (Q : QT) (_ : AV) (H94 : Heap) (nx95 : Nat) : Prop :=
 NC (nth xs68 0) fun v96 =>
 FA 0 v96 fun v97 =>
 LD false 1 v97 H94 fun v98 =>
 Q v98 H94 nx95
def zqf (xs68 : List AV) (Q : QT) (v88 : AV) (H89 : Heap) (nx90 : Nat) : Prop :=
 BSL 1 1 [.int .i64 0] [(0, v88)] fun cells91 =>
 PUTH H89 nx90 (.row 1 cells91) fun H92 =>
 za Tryz.prog 28 [nth xs68 0, .slc nx90 0 1] H92 (nx90 + 1) (zqg xs68 Q)
def zjw (Q : QT) (K67 : J3) (xs68 : List AV) (H69 : Heap) (nx70 : Nat) : Prop :=
 BI .lss (nth xs68 3) (nth xs68 2) fun v71 =>
 CNDC v71
 (IA 6 (nth xs68 1) (nth xs68 3) fun v72 =>
 LD true 6 v72 H69 fun v73 =>
 PUTH H69 nx70 (.row 6 [.int .i64 0, .int .i64 0, .str [], .int .i64 0, .int .i64 0, .str []]) fun H74 =>
 ST 6 (.ptr nx70 0) v73 H74 fun H75 =>
 LD true 3 (.ptr nx70 0) H75 fun v76 =>
 za Tryz.prog 31 [nth xs68 0, v76] H75 (nx70 + 1) (zqh nx70 xs68 K67))
 (NC (nth xs68 0) fun v85 =>
 FA 0 v85 fun v86 =>
 LD false 1 v86 H69 fun v87 =>
 za Tryz.prog 32 [v87] H69 nx70 (zqf xs68 Q))
def zqe (xs32 : List AV) (Q : QT) (_ : AV) (H62 : Heap) (nx63 : Nat) : Prop :=
 FA 5 (nth xs32 0) fun v64 =>
 LD false 1 v64 H62 fun v65 =>
 LNL v65 fun v66 =>
 LP (zjw Q) [nth xs32 1, v65, v66, .int .i64 0] H62 nx63
def zjv (Q : QT) (K31 : J3) (xs32 : List AV) (H33 : Heap) (nx34 : Nat) : Prop :=
 BI .lss (nth xs32 4) (nth xs32 3) fun v35 =>
 CNDC v35
 (IA 4 (nth xs32 2) (nth xs32 4) fun v36 =>
 LD true 4 v36 H33 fun v37 =>
 PUTH H33 nx34 (.row 4 [.int .i64 0, .int .i64 0, .nils, .nils]) fun H38 =>
 ST 4 (.ptr nx34 0) v37 H38 fun H39 =>
 LD false 1 (.ptr nx34 0) H39 fun v40 =>
 LD false 1 (.ptr nx34 1) H39 fun v41 =>
 BSL 2 1 [.int .i64 0] [(0, v40), (1, v41)] fun cells42 =>
 PUTH H39 (nx34 + 1) (.row 1 cells42) fun H43 =>
 za Tryz.prog 28 [nth xs32 1, .slc (nx34 + 1) 0 2] H43 (nx34 + 2) (zqj nx34 xs32 K31))
 (FA 5 (nth xs32 0) fun v56 =>
 LD false 1 v56 H33 fun v57 =>
 LNL v57 fun v58 =>
 BSL 1 1 [.int .i64 0] [(0, v58)] fun cells59 =>
 PUTH H33 nx34 (.row 1 cells59) fun H60 =>
 za Tryz.prog 28 [nth xs32 1, .slc nx34 0 1] H60 (nx34 + 1) (zqe xs32 Q))
def zqd (nx5 : Nat) (Q : QT) (_ : AV) (H27 : Heap) (nx28 : Nat) : Prop :=
 LD false 1 (.ptr nx5 4) H27 fun v29 =>
 LNL v29 fun v30 =>
 LP (zjv Q) [.ptr nx5 0, .ptr (nx5 + 1) 0, v29, v30, .int .i64 0] H27 nx28
def zor (nx5 : Nat) (Q : QT) (_ : AV) (H20 : Heap) (nx21 : Nat) : Prop :=
 LD false 1 (.ptr nx5 4) H20 fun v22 =>
 LNL v22 fun v23 =>
 BSL 1 1 [.int .i64 0] [(0, v23)] fun cells24 =>
 PUTH H20 nx21 (.row 1 cells24) fun H25 =>
 za Tryz.prog 28 [.ptr (nx5 + 1) 0, .slc nx21 0 1] H25 (nx21 + 1) (zqd nx5 Q)
def zoq (nx5 : Nat) (Q : QT) (v16 : AV) (H17 : Heap) (nx18 : Nat) : Prop :=
 za Tryz.prog 29 [AV.ptr (nx5 + 1) 0, AV.ptr nx5 2] H17 nx18 (zor nx5 Q)
def zop (Q : QT) (v3 : AV) (H4 : Heap) (nx5 : Nat) : Prop :=
 PUTH H4 nx5 (.row 9 [.int .i64 0, .int .i64 0, .nils, .nils, .nils, .nils, .int .i64 0, .int .i64 0, .int .i64 0]) fun H6 =>
 ST 9 (.ptr nx5 0) v3 H6 fun H7 =>
 true = true ∧
 PUTH H7 (nx5 + 1) (.row 1 [.nils]) fun H8 =>
 LD false 1 (.ptr nx5 0) H8 fun v9 =>
 LD false 1 (.ptr nx5 1) H8 fun v10 =>
 LD false 1 (.ptr nx5 6) H8 fun v11 =>
 LD false 1 (.ptr nx5 7) H8 fun v12 =>
 LD false 1 (.ptr nx5 8) H8 fun v13 =>
 BSL 5 1 [.int .i64 0] [(0, v9), (1, v10), (2, v11), (3, v12), (4, v13)] fun cells14 =>
 PUTH H8 (nx5 + 2) (.row 1 cells14) fun H15 =>
 za Tryz.prog 28 [.ptr (nx5 + 1) 0, .slc (nx5 + 2) 0 5] H15 (nx5 + 3) (zoq nx5 Q)
def zqc (a0 : AV) (H : Heap) (nx : Nat) (Q : QT) : Prop :=
 a0.sure = true ∧
 PUTH H nx (.row a0.cells.length a0.cells) fun H1 =>
 LD true 9 (.ptr nx 0) H1 fun v2 =>
 za Tryz.prog 27 [v2] H1 (nx + 1) (zop Q)
theorem zuy (a0 : AV) (H : Heap) (nx : Nat) (Q : QT) : zqc a0 H nx Q → za Tryz.prog 9 [a0] H nx Q :=
  zd (lv := lvOf [(2, 7, [3, 4, 39, 40, 41]), (2, 15, [4, 68, 69, 70])]) (c := zl Tryz.f9) zp zq mixed Tryz.func9 (by kernel_rfl) (by kernel_rfl) (by kernel_rfl) (by kernel_rfl) (by kernel_rfl)
def zea (a0 a1 : AV) (H : Heap) (nx : Nat) (Q : QT) : Prop :=
 NC a0 fun v1 =>
 FA 1 v1 fun v2 =>
 LD false 1 v2 H fun v3 =>
 BI .eql v3 (.int .i64 0) fun v4 =>
 CNDC v4
 (NC a0 fun v5 =>
 FA 1 v5 fun v6 =>
 ST 1 v6 a1 H fun H7 =>
 Q (.tup []) H7 nx)
 (Q (.tup []) H nx)
theorem znh (a0 a1 : AV) (H : Heap) (nx : Nat) (Q : QT) : zea a0 a1 H nx Q → za Tryz.prog 24 [a0, a1] H nx Q :=
  zd (lv := lvOf []) (c := zl Tryz.f24) zp zq mixed Tryz.func24 (by kernel_rfl) (by kernel_rfl) (by kernel_rfl) (by kernel_rfl) (by kernel_rfl)
def zaz (Q : QT) (K2 : J3) (xs3 : List AV) (H4 : Heap) (nx5 : Nat) : Prop :=
 BI .lss (nth xs3 3) (nth xs3 2) fun v6 =>
 CNDC v6
 (IA 1 (nth xs3 1) (nth xs3 3) fun v7 =>
 LD false 1 v7 H4 fun v8 =>
 BI .gtr (nth xs3 3) (.int .i64 9) fun v9 =>
 CND v9
 (Q (.tup [.int .i64 0, .int .i64 0, .int .i64 3]) H4 nx5)
 (BI .eql (nth xs3 3) (.int .i64 9) fun v10 =>
 CND v10
 (BI .gtr v8 (.int .u8 1) fun v11 =>
 CNDC v11
 (Q (.tup [.int .i64 0, .int .i64 0, .int .i64 3]) H4 nx5)
 (BI .and v8 (.int .u8 127) fun v12 =>
 CV .u64 v12 fun v13 =>
 BI .mul (.int .i64 7) (nth xs3 3) fun v14 =>
 BI .shl v13 v14 fun v15 =>
 BI .or (nth xs3 0) v15 fun v16 =>
 BI .geq v8 (.int .u8 128) fun v17 =>
 CNDC v17
 (BI .add (nth xs3 3) (.int .i64 1) fun v18 =>
 K2 [v16, nth xs3 1, nth xs3 2, v18] H4 nx5)
 (BI .eql v8 (.int .u8 0) fun v19 =>
 CND v19
 (BI .gtr (nth xs3 3) (.int .i64 0) fun v20 =>
 CNDC v20
 (Q (.tup [.int .i64 0, .int .i64 0, .int .i64 2]) H4 nx5)
 (BI .shr v16 (.int .u64 1) fun v21 =>
 CV .i64 v21 fun v22 =>
 BI .and v16 (.int .u64 1) fun v23 =>
 BI .eql v23 (.int .u64 1) fun v24 =>
 CNDC v24
 (UO .xor v22 fun v25 =>
 BI .add (nth xs3 3) (.int .i64 1) fun v26 =>
 Q (.tup [v25, v26, .int .i64 0]) H4 nx5)
 (BI .add (nth xs3 3) (.int .i64 1) fun v27 =>
 Q (.tup [v22, v27, .int .i64 0]) H4 nx5)))
 (BI .shr v16 (.int .u64 1) fun v28 =>
 CV .i64 v28 fun v29 =>
 BI .and v16 (.int .u64 1) fun v30 =>
 BI .eql v30 (.int .u64 1) fun v31 =>
 CNDC v31
 (UO .xor v29 fun v32 =>
 BI .add (nth xs3 3) (.int .i64 1) fun v33 =>
 Q (.tup [v32, v33, .int .i64 0]) H4 nx5)
 (BI .add (nth xs3 3) (.int .i64 1) fun v34 =>
 Q (.tup [v29, v34, .int .i64 0]) H4 nx5)))))
 (BI .and v8 (.int .u8 127) fun v35 =>
 CV .u64 v35 fun v36 =>
 BI .mul (.int .i64 7) (nth xs3 3) fun v37 =>
 BI .shl v36 v37 fun v38 =>
 BI .or (nth xs3 0) v38 fun v39 =>
 BI .geq v8 (.int .u8 128) fun v40 =>
 CNDC v40
 (BI .add (nth xs3 3) (.int .i64 1) fun v41 =>
 K2 [v39, nth xs3 1, nth xs3 2, v41] H4 nx5)
 (BI .eql v8 (.int .u8 0) fun v42 =>
 CND v42
 (BI .gtr (nth xs3 3) (.int .i64 0) fun v43 =>
 CNDC v43
 (Q (.tup [.int .i64 0, .int .i64 0, .int .i64 2]) H4 nx5)
 (BI .shr v39 (.int .u64 1) fun v44 =>
 CV .i64 v44 fun v45 =>
 BI .and v39 (.int .u64 1) fun v46 =>
 BI .eql v46 (.int .u64 1) fun v47 =>
 CNDC v47
 (UO .xor v45 fun v48 =>
 BI .add (nth xs3 3) (.int .i64 1) fun v49 =>
 Q (.tup [v48, v49, .int .i64 0]) H4 nx5)
 (BI .add (nth xs3 3) (.int .i64 1) fun v50 =>
 Q (.tup [v45, v50, .int .i64 0]) H4 nx5)))
 (BI .shr v39 (.int .u64 1) fun v51 =>
 CV .i64 v51 fun v52 =>
 BI .and v39 (.int .u64 1) fun v53 =>
 BI .eql v53 (.int .u64 1) fun v54 =>
 CNDC v54
 (UO .xor v52 fun v55 =>
 BI .add (nth xs3 3) (.int .i64 1) fun v56 =>
 Q (.tup [v55, v56, .int .i64 0]) H4 nx5)
 (BI .add (nth xs3 3) (.int .i64 1) fun v57 =>
 Q (.tup [v52, v57, .int .i64 0]) H4 nx5))))))
 (Q (.tup [.int .i64 0, .int .i64 0, .int .i64 8]) H4 nx5)
def zpo (a0 : AV) (H : Heap) (nx : Nat) (Q : QT) : Prop :=
 LNL a0 fun v1 =>
 LP (zaz Q) [.int .u64 0, a0, v1, .int .i64 0] H nx
theorem zuv (a0 : AV) (H : Heap) (nx : Nat) (Q : QT) : zpo a0 H nx Q → za Tryz.prog 48 [a0] H nx Q :=
  zd (lv := lvOf [(2, 3, [5, 9, 10, 11])]) (c := zl Tryz.f48) zp zq mixed Tryz.func48 (by kernel_rfl) (by kernel_rfl) (by kernel_rfl) (by kernel_rfl) (by kernel_rfl)
def zjk (Q : QT) (v15 : AV) (H16 : Heap) (nx17 : Nat) : Prop :=
 Q (AV.int IntKind.i64 0) H16 nx17
def zek (a0 : AV) (Q : QT) (v8 : AV) (H9 : Heap) (nx10 : Nat) : Prop :=
 EX v8 0 fun v11 =>
 EX v8 1 fun v12 =>
 EX v8 2 fun v13 =>
 BI .neq v13 (.int .i64 0) fun v14 =>
 CNDC v14
 (za Tryz.prog 24 [a0, v13] H9 nx10 (zjk Q))
 (NC a0 fun v18 =>
 FA 0 v18 fun v19 =>
 LD false 1 v19 H9 fun v20 =>
 SL 1 v20 (some v12) none H9 fun v21 =>
 NC a0 fun v22 =>
 FA 0 v22 fun v23 =>
 ST 1 v23 v21 H9 fun H24 =>
 Q v11 H24 nx10)
def zej (a0 : AV) (H : Heap) (nx : Nat) (Q : QT) : Prop :=
 NC a0 fun v1 =>
 FA 1 v1 fun v2 =>
 LD false 1 v2 H fun v3 =>
 BI .neq v3 (.int .i64 0) fun v4 =>
 CNDC v4
 (Q (.int .i64 0) H nx)
 (NC a0 fun v5 =>
 FA 0 v5 fun v6 =>
 LD false 1 v6 H fun v7 =>
 za Tryz.prog 48 [v7] H nx (zek a0 Q))
theorem zpe (a0 : AV) (H : Heap) (nx : Nat) (Q : QT) : zej a0 H nx Q → za Tryz.prog 19 [a0] H nx Q :=
  zd (lv := lvOf []) (c := zl Tryz.f19) zp zq mixed Tryz.func19 (by kernel_rfl) (by kernel_rfl) (by kernel_rfl) (by kernel_rfl) (by kernel_rfl)
def zcn (Q : QT) (v5 : AV) (H6 : Heap) (nx7 : Nat) : Prop :=
 Q (AV.int IntKind.i64 0) H6 nx7
def zcm (a0 : AV) (Q : QT) (a1 : AV) (v1 : AV) (H2 : Heap) (nx3 : Nat) : Prop :=
 BI .lss v1 (.int .i64 0) fun v4 =>
 CND v4
 (za Tryz.prog 24 [a0, .int .i64 4] H2 nx3 (zcn Q))
 (BI .gtr v1 a1 fun v8 =>
 CNDC v8
 (za Tryz.prog 24 [a0, .int .i64 4] H2 nx3 (zcn Q))
 (Q v1 H2 nx3))
def zic (a0 a1 : AV) (H : Heap) (nx : Nat) (Q : QT) : Prop :=
 za Tryz.prog 19 [a0] H nx (zcm a0 Q a1)
theorem zmu (a0 a1 : AV) (H : Heap) (nx : Nat) (Q : QT) : zic a0 a1 H nx Q → za Tryz.prog 21 [a0, a1] H nx Q :=
  zd (lv := lvOf []) (c := zl Tryz.f21) zp zq mixed Tryz.func21 (by kernel_rfl) (by kernel_rfl) (by kernel_rfl) (by kernel_rfl) (by kernel_rfl)
def zck (Q : QT) (a1 : AV) (a0 : AV) (v1 : AV) (H2 : Heap) (nx3 : Nat) : Prop :=
 EX v1 0 fun v4 =>
 EX v1 1 fun v5 =>
 EX v1 2 fun v6 =>
 BI .neq v6 (.int .i64 0) fun v7 =>
 CNDC v7
 (Q (.tup [.str [], .int .i64 0, v6]) H2 nx3)
 (BI .lss v4 (.int .i64 0) fun v8 =>
 CND v8
 (Q (.tup [.str [], .int .i64 0, .int .i64 4]) H2 nx3)
 (BI .gtr v4 a1 fun v9 =>
 CNDC v9
 (Q (.tup [.str [], .int .i64 0, .int .i64 4]) H2 nx3)
 (LNL a0 fun v10 =>
 BI .sub v10 v5 fun v11 =>
 BI .gtr v4 v11 fun v12 =>
 CNDC v12
 (Q (.tup [.str [], .int .i64 0, .int .i64 8]) H2 nx3)
 (BI .add v5 v4 fun v13 =>
 SL 1 a0 (some v5) (some v13) H2 fun v14 =>
 CBS v14 H2 fun v15 =>
 BI .add v5 v4 fun v16 =>
 Q (.tup [v15, v16, .int .i64 0]) H2 nx3))))
def znq (a0 a1 : AV) (H : Heap) (nx : Nat) (Q : QT) : Prop :=
 za Tryz.prog 48 [a0] H nx (zck Q a1 a0)
theorem ztb (a0 a1 : AV) (H : Heap) (nx : Nat) (Q : QT) : znq a0 a1 H nx Q → za Tryz.prog 75 [a0, a1] H nx Q :=
  zd (lv := lvOf []) (c := zl Tryz.f75) zp zq mixed Tryz.func75 (by kernel_rfl) (by kernel_rfl) (by kernel_rfl) (by kernel_rfl) (by kernel_rfl)
def zjc (Q : QT) (v15 : AV) (H16 : Heap) (nx17 : Nat) : Prop :=
 Q (AV.str []) H16 nx17
def zdz (a0 : AV) (Q : QT) (v8 : AV) (H9 : Heap) (nx10 : Nat) : Prop :=
 EX v8 0 fun v11 =>
 EX v8 1 fun v12 =>
 EX v8 2 fun v13 =>
 BI .neq v13 (.int .i64 0) fun v14 =>
 CNDC v14
 (za Tryz.prog 24 [a0, v13] H9 nx10 (zjc Q))
 (NC a0 fun v18 =>
 FA 0 v18 fun v19 =>
 LD false 1 v19 H9 fun v20 =>
 SL 1 v20 (some v12) none H9 fun v21 =>
 NC a0 fun v22 =>
 FA 0 v22 fun v23 =>
 ST 1 v23 v21 H9 fun H24 =>
 Q v11 H24 nx10)
def zdy (a0 a1 : AV) (H : Heap) (nx : Nat) (Q : QT) : Prop :=
 NC a0 fun v1 =>
 FA 1 v1 fun v2 =>
 LD false 1 v2 H fun v3 =>
 BI .neq v3 (.int .i64 0) fun v4 =>
 CNDC v4
 (Q (.str []) H nx)
 (NC a0 fun v5 =>
 FA 0 v5 fun v6 =>
 LD false 1 v6 H fun v7 =>
 za Tryz.prog 75 [v7, a1] H nx (zdz a0 Q))
theorem zng (a0 a1 : AV) (H : Heap) (nx : Nat) (Q : QT) : zdy a0 a1 H nx Q → za Tryz.prog 49 [a0, a1] H nx Q :=
  zd (lv := lvOf []) (c := zl Tryz.f49) zp zq mixed Tryz.func49 (by kernel_rfl) (by kernel_rfl) (by kernel_rfl) (by kernel_rfl) (by kernel_rfl)
def zgi (H8 : Heap) (nx9 : Nat) (v12 : AV) (xs7 : List AV) (v11 : AV) (rd13 : List Nat) (K6 : J3) (v14 : AV) (_ : List Nat) (fr16 : List Nat) (D17 : zg) : Prop :=
 BSL 1 1 [.str []] [(0, v14)] fun cells18 =>
 PUTH (H8.apply D17) (nx9 + fr16.length) (.row 1 cells18) fun H19 =>
 zx 1 16 v12 (.slc (nx9 + fr16.length) 0 1) H19 ((nx9 + fr16.length) + 1) fun v20 _ fr22 D23 =>
 FA 1 (nth xs7 2) fun v24 =>
 zbd 1 v24 v20 (H19.apply D23) fun _ _ fr27 D28 =>
 zm (domD D17) [] (
 SOFT v11 v12 D17 rd13 (
 (nx9 + fr16.length) ∉ [] ∧
 (nx9 + fr16.length) ∉ rd13 ∧
 BI .add (nth xs7 4) (.int .i64 1) fun v29 =>
 K6 [nth xs7 0, nth xs7 1, nth xs7 2, nth xs7 3, v29] ((H19.apply D23).apply D28) ((((nx9 + fr16.length) + 1) + fr22.length) + fr27.length)))
def zgh (v58 : AV) (v62 : AV) (H52 : Heap) (D61 : zg) (D65 : zg) (nx53 : Nat) (fr60 : List Nat) (fr64 : List Nat) (v56 : AV) (xs51 : List AV) (v55 : AV) (rd57 : List Nat) (K50 : J3) (v66 : AV) (_ : List Nat) (fr68 : List Nat) (D69 : zg) : Prop :=
 BD (zz tab [(3, 0), (3, 1), (3, 2)]) [.int .i64 0, .int .i64 0, .int .i64 0] [(0, v58), (1, v62), (2, v66)] fun v70 =>
 BSL 1 3 [.int .i64 0, .int .i64 0, .int .i64 0] [(0, v70)] fun cells71 =>
 PUTH (((H52.apply D61).apply D65).apply D69) (((nx53 + fr60.length) + fr64.length) + fr68.length) (.row 3 cells71) fun H72 =>
 zx 3 24 v56 (.slc (((nx53 + fr60.length) + fr64.length) + fr68.length) 0 1) H72 ((((nx53 + fr60.length) + fr64.length) + fr68.length) + 1) fun v73 _ fr75 D76 =>
 FA 2 (nth xs51 3) fun v77 =>
 zbd 1 v77 v73 (H72.apply D76) fun _ _ fr80 D81 =>
 zm (domD D61) [] (
 SOFT v55 v56 D61 rd57 (
 zm (domD D61) [] (
 zm (domD D61) [] (
 zm (domD D65) [] (
 SOFT v55 v56 D65 rd57 (
 zm (domD D61) [] (
 zm (domD D61) [] (
 zm (domD D65) [] (
 zm (domD D65) [] (
 zm (domD D69) [] (
 SOFT v55 v56 D69 rd57 (
 (((nx53 + fr60.length) + fr64.length) + fr68.length) ∉ [] ∧
 (((nx53 + fr60.length) + fr64.length) + fr68.length) ∉ rd57 ∧
 BI .add (nth xs51 7) (.int .i64 1) fun v82 =>
 K50 [nth xs51 0, nth xs51 1, nth xs51 2, nth xs51 3, nth xs51 4, nth xs51 5, nth xs51 6, v82] ((H72.apply D76).apply D81) ((((((nx53 + fr60.length) + fr64.length) + fr68.length) + 1) + fr75.length) + fr80.length)))))))))))))
def zgg (xs51 : List AV) (H52 : Heap) (D61 : zg) (nx53 : Nat) (fr60 : List Nat) (v58 : AV) (v56 : AV) (v55 : AV) (rd57 : List Nat) (K50 : J3) (v62 : AV) (rd63 : List Nat) (fr64 : List Nat) (D65 : zg) : Prop :=
 zt Tryz.prog (AV.clo 19 []) [nth xs51 0] ((H52.apply D61).apply D65) ((nx53 + fr60.length) + fr64.length) (zgh v58 v62 H52 D61 D65 nx53 fr60 fr64 v56 xs51 v55 rd57 K50)
def zgf (xs51 : List AV) (H52 : Heap) (nx53 : Nat) (v56 : AV) (v55 : AV) (rd57 : List Nat) (K50 : J3) (v58 : AV) (rd59 : List Nat) (fr60 : List Nat) (D61 : zg) : Prop :=
 zt Tryz.prog (AV.clo 19 []) [nth xs51 0] (H52.apply D61) (nx53 + fr60.length) (zgg xs51 H52 D61 nx53 fr60 v58 v56 v55 rd57 K50)
def zas (K33 : J3) (K50 : J3) (xs51 : List AV) (H52 : Heap) (nx53 : Nat) : Prop :=
 BI .lss (nth xs51 7) (nth xs51 6) fun v54 =>
 CNDC v54
 (FA 2 (nth xs51 3) fun v55 =>
 LDR false 1 v55 H52 fun v56 rd57 =>
 zt Tryz.prog (.clo 19 []) [nth xs51 0] H52 nx53 (zgf xs51 H52 nx53 v56 v55 rd57 K50))
 (FA 0 (nth xs51 2) fun v83 =>
 LD false 1 v83 H52 fun v84 =>
 LD true 3 (nth xs51 3) H52 fun v85 =>
 BSL 1 3 [.int .i64 0, .int .i64 0, .nils] [(0, v85)] fun cells86 =>
 PUTH H52 nx53 (.row 3 cells86) fun H87 =>
 APP 3 40 v84 (.slc nx53 0 1) H87 (nx53 + 1) fun v88 H89 nx90 =>
 FA 0 (nth xs51 2) fun v91 =>
 ST 1 v91 v88 H89 fun H92 =>
 BI .add (nth xs51 5) (.int .i64 1) fun v93 =>
 K33 [nth xs51 0, nth xs51 1, nth xs51 2, nth xs51 4, v93] H92 nx90)
def zge (K33 : J3) (xs34 : List AV) (nx43 : Nat) (v47 : AV) (H48 : Heap) (nx49 : Nat) : Prop :=
 LP (zas K33) [nth xs34 0, nth xs34 1, nth xs34 2, AV.ptr nx43 0, nth xs34 3, nth xs34 4, v47, AV.int IntKind.i64 0] H48 nx49
def zgd (v38 : AV) (xs34 : List AV) (K33 : J3) (v41 : AV) (H42 : Heap) (nx43 : Nat) : Prop :=
 BD (zz tab [(3, 0), (3, 1), (67, 2)]) [.int .i64 0, .int .i64 0, .nils] [(0, v38), (1, v41)] fun v44 =>
 PUTH H42 nx43 (.row 3 [.int .i64 0, .int .i64 0, .nils]) fun H45 =>
 ST 3 (.ptr nx43 0) v44 H45 fun H46 =>
 za Tryz.prog 21 [nth xs34 0, .int .i64 200] H46 (nx43 + 1) (zge K33 xs34 nx43)
def zgc (xs34 : List AV) (K33 : J3) (v38 : AV) (H39 : Heap) (nx40 : Nat) : Prop :=
 za Tryz.prog 19 [nth xs34 0] H39 nx40 (zgd v38 xs34 K33)
def zar (Q : QT) (K33 : J3) (xs34 : List AV) (H35 : Heap) (nx36 : Nat) : Prop :=
 BI .lss (nth xs34 4) (nth xs34 3) fun v37 =>
 CNDC v37
 (za Tryz.prog 19 [nth xs34 0] H35 nx36 (zgc xs34 K33))
 (LD true 2 (nth xs34 2) H35 fun v94 =>
 ST 2 (nth xs34 1) v94 H35 fun H95 =>
 LD true 2 (nth xs34 1) H95 fun v96 =>
 Q v96 H95 nx36)
def zdc (Q : QT) (xs7 : List AV) (v30 : AV) (H31 : Heap) (nx32 : Nat) : Prop :=
 LP (zar Q) [nth xs7 0, nth xs7 1, nth xs7 2, v30, AV.int IntKind.i64 0] H31 nx32
def zbx (Q : QT) (K6 : J3) (xs7 : List AV) (H8 : Heap) (nx9 : Nat) : Prop :=
 BI .lss (nth xs7 4) (nth xs7 3) fun v10 =>
 CNDC v10
 (FA 1 (nth xs7 2) fun v11 =>
 LDR false 1 v11 H8 fun v12 rd13 =>
 zt Tryz.prog (.clo 49 []) [nth xs7 0, .int .i64 12] H8 nx9 (zgi H8 nx9 v12 xs7 v11 rd13 K6))
 (za Tryz.prog 21 [nth xs7 0, .int .i64 5] H8 nx9 (zdc Q xs7))
def zgb (Q : QT) (a0 : AV) (nx : Nat) (v3 : AV) (H4 : Heap) (nx5 : Nat) : Prop :=
 LP (zbx Q) [a0, AV.ptr nx 0, AV.ptr (nx + 1) 0, v3, AV.int IntKind.i64 0] H4 nx5
def zga (a0 : AV) (H : Heap) (nx : Nat) (Q : QT) : Prop :=
 PUTH H nx (.row 2 [.nils, .nils]) fun H1 =>
 PUTH H1 (nx + 1) (.row 2 [.nils, .nils]) fun H2 =>
 za Tryz.prog 21 [a0, .int .i64 16] H2 (nx + 2) (zgb Q a0 nx)
theorem zky (a0 : AV) (H : Heap) (nx : Nat) (Q : QT) : zga a0 H nx Q → za Tryz.prog 20 [a0] H nx Q :=
  zd (lv := lvOf [(2, 3, [0, 2, 3, 6, 7]), (2, 7, [0, 2, 3, 18, 19]), (2, 10, [0, 2, 3, 4, 18, 19, 27, 28])]) (c := zl Tryz.f20) zp zq mixed Tryz.func20 (by kernel_rfl) (by kernel_rfl) (by kernel_rfl) (by kernel_rfl) (by kernel_rfl)
def zib (nx4 : Nat) (nx : Nat) (Q : QT) (v10 : AV) (H11 : Heap) (nx12 : Nat) : Prop :=
 ST 1 (.ptr nx4 2) v10 H11 fun H13 =>
 LD true 3 (.ptr nx4 0) H13 fun v14 =>
 ST 3 (.ptr nx 0) v14 H13 fun H15 =>
 LD true 3 (.ptr nx 0) H15 fun v16 =>
 Q v16 H15 nx12
def zia (nx4 : Nat) (nx : Nat) (Q : QT) (v17 : AV) (H18 : Heap) (nx19 : Nat) : Prop :=
 ST 1 (.ptr nx4 1) v17 H18 fun H20 =>
 LD true 3 (.ptr nx4 0) H20 fun v21 =>
 ST 3 (.ptr nx 0) v21 H20 fun H22 =>
 LD true 3 (.ptr nx 0) H22 fun v23 =>
 Q v23 H22 nx19
def zdr (a0 : AV) (nx : Nat) (Q : QT) (v2 : AV) (H3 : Heap) (nx4 : Nat) : Prop :=
 BD (zz tab [(3, 0), (3, 1), (9, 2)]) [.int .i64 0, .int .i64 0, .str []] [(0, v2)] fun v5 =>
 PUTH H3 nx4 (.row 3 [.int .i64 0, .int .i64 0, .str []]) fun H6 =>
 ST 3 (.ptr nx4 0) v5 H6 fun H7 =>
 LD false 1 (.ptr nx4 0) H7 fun v8 =>
 BI .eql v8 (.int .i64 1) fun v9 =>
 CNDC v9
 (za Tryz.prog 49 [a0, .int .i64 60] H7 (nx4 + 1) (zib nx4 nx Q))
 (za Tryz.prog 19 [a0] H7 (nx4 + 1) (zia nx4 nx Q))
def zhz (a0 : AV) (H : Heap) (nx : Nat) (Q : QT) : Prop :=
 PUTH H nx (.row 3 [.int .i64 0, .int .i64 0, .str []]) fun H1 =>
 za Tryz.prog 19 [a0] H1 (nx + 1) (zdr a0 nx Q)
theorem zmt (a0 : AV) (H : Heap) (nx : Nat) (Q : QT) : zhz a0 H nx Q → za Tryz.prog 23 [a0] H nx Q :=
  zd (lv := lvOf []) (c := zl Tryz.f23) zp zq mixed Tryz.func23 (by kernel_rfl) (by kernel_rfl) (by kernel_rfl) (by kernel_rfl) (by kernel_rfl)
def zhe (xs5 : List AV) (K4 : J3) (v9 : AV) (H10 : Heap) (nx11 : Nat) : Prop :=
 BSL 1 3 [.int .i64 0, .int .i64 0, .str []] [(0, v9)] fun cells12 =>
 PUTH H10 nx11 (.row 3 cells12) fun H13 =>
 APP 3 32 (nth xs5 1) (.slc nx11 0 1) H13 (nx11 + 1) fun v14 H15 nx16 =>
 BI .add (nth xs5 3) (.int .i64 1) fun v17 =>
 K4 [nth xs5 0, v14, nth xs5 2, v17] H15 nx16
def zdl (Q : QT) (K4 : J3) (xs5 : List AV) (H6 : Heap) (nx7 : Nat) : Prop :=
 BI .lss (nth xs5 3) (nth xs5 2) fun v8 =>
 CNDC v8
 (za Tryz.prog 23 [nth xs5 0] H6 nx7 (zhe xs5 K4))
 (Q (nth xs5 1) H6 nx7)
def zhd (Q : QT) (a0 : AV) (v1 : AV) (H2 : Heap) (nx3 : Nat) : Prop :=
 LP (zdl Q) [a0, AV.nils, v1, AV.int IntKind.i64 0] H2 nx3
def zhc (a0 a1 : AV) (H : Heap) (nx : Nat) (Q : QT) : Prop :=
 za Tryz.prog 21 [a0, a1] H nx (zhd Q a0)
theorem zlw (a0 a1 : AV) (H : Heap) (nx : Nat) (Q : QT) : zhc a0 a1 H nx Q → za Tryz.prog 22 [a0, a1] H nx Q :=
  zd (lv := lvOf [(2, 3, [0, 5, 8, 9])]) (c := zl Tryz.f22) zp zq mixed Tryz.func22 (by kernel_rfl) (by kernel_rfl) (by kernel_rfl) (by kernel_rfl) (by kernel_rfl)
def zqo (a0 a1 : AV) (H : Heap) (nx : Nat) (Q : QT) : Prop :=
 CBS a0 H fun v1 =>
 CBS a1 H fun v2 =>
 BS .eql v1 v2 fun v3 =>
 Q v3 H nx
theorem zuz (a0 a1 : AV) (H : Heap) (nx : Nat) (Q : QT) : zqo a0 a1 H nx Q → za Tryz.prog 26 [a0, a1] H nx Q :=
  zd (lv := lvOf []) (c := zl Tryz.f26) zp zq mixed Tryz.func26 (by kernel_rfl) (by kernel_rfl) (by kernel_rfl) (by kernel_rfl) (by kernel_rfl)
def zqb (nx41 : Nat) (xs32 : List AV) (K31 : J3) (v49 : AV) (H50 : Heap) (nx51 : Nat) : Prop :=
 ST 1 (.ptr nx41 3) v49 H50 fun H52 =>
 FA 4 (nth xs32 3) fun v53 =>
 LD false 1 v53 H52 fun v54 =>
 LD true 4 (.ptr nx41 0) H52 fun v55 =>
 BSL 1 4 [.int .i64 0, .int .i64 0, .nils, .nils] [(0, v55)] fun cells56 =>
 PUTH H52 nx51 (.row 4 cells56) fun H57 =>
 APP 4 64 v54 (.slc nx51 0 1) H57 (nx51 + 1) fun v58 H59 nx60 =>
 FA 4 (nth xs32 3) fun v61 =>
 ST 1 v61 v58 H59 fun H62 =>
 BI .add (nth xs32 5) (.int .i64 1) fun v63 =>
 K31 [nth xs32 0, nth xs32 1, nth xs32 2, nth xs32 3, nth xs32 4, v63] H62 nx60
def zqa (nx41 : Nat) (xs32 : List AV) (K31 : J3) (v45 : AV) (H46 : Heap) (nx47 : Nat) : Prop :=
 ST 1 (.ptr nx41 2) v45 H46 fun H48 =>
 za Tryz.prog 22 [nth xs32 2, .int .i64 16] H48 nx47 (zqb nx41 xs32 K31)
def zpz (v36 : AV) (xs32 : List AV) (K31 : J3) (v39 : AV) (H40 : Heap) (nx41 : Nat) : Prop :=
 BD (zz tab [(3, 0), (3, 1), (64, 2), (64, 3)]) [.int .i64 0, .int .i64 0, .nils, .nils] [(0, v36), (1, v39)] fun v42 =>
 PUTH H40 nx41 (.row 4 [.int .i64 0, .int .i64 0, .nils, .nils]) fun H43 =>
 ST 4 (.ptr nx41 0) v42 H43 fun H44 =>
 za Tryz.prog 22 [nth xs32 2, .int .i64 8] H44 (nx41 + 1) (zqa nx41 xs32 K31)
def zpy (xs32 : List AV) (K31 : J3) (v36 : AV) (H37 : Heap) (nx38 : Nat) : Prop :=
 za Tryz.prog 19 [nth xs32 2] H37 nx38 (zpz v36 xs32 K31)
def zpx (v80 : AV) (H76 : Heap) (nx74 : Nat) (v78 : AV) (xs68 : List AV) (v77 : AV) (rd79 : List Nat) (rd81 : List Nat) (K67 : J3) (v82 : AV) (_ : List Nat) (fr84 : List Nat) (D85 : zg) : Prop :=
 BD (zz tab [(43, 0), (43, 3)]) [.int .i64 0, .int .i64 0, .str [], .int .i64 0, .int .i64 0, .str []] [(0, v80), (1, v82)] fun v86 =>
 BSL 1 6 [.int .i64 0, .int .i64 0, .str [], .int .i64 0, .int .i64 0, .str []] [(0, v86)] fun cells87 =>
 PUTH (H76.apply D85) ((nx74 + 1) + fr84.length) (.row 6 cells87) fun H88 =>
 zx 6 64 v78 (.slc ((nx74 + 1) + fr84.length) 0 1) H88 (((nx74 + 1) + fr84.length) + 1) fun v89 _ fr91 D92 =>
 FA 5 (nth xs68 3) fun v93 =>
 zbd 1 v93 v89 (H88.apply D92) fun _ _ fr96 D97 =>
 zm (domD D85) [] (
 SOFT v77 v78 D85 rd79 (
 zm (domD D85) rd81 (
 ((nx74 + 1) + fr84.length) ∉ [] ∧
 ((nx74 + 1) + fr84.length) ∉ rd79 ∧
 BI .add (nth xs68 5) (.int .i64 1) fun v98 =>
 K67 [nth xs68 0, nth xs68 1, nth xs68 2, nth xs68 3, nth xs68 4, v98] ((H88.apply D92).apply D97) (((((nx74 + 1) + fr84.length) + 1) + fr91.length) + fr96.length))))
def zpw (xs68 : List AV) (K67 : J3) (v72 : AV) (H73 : Heap) (nx74 : Nat) : Prop :=
 PUTH H73 nx74 (.row 3 [.int .i64 0, .int .i64 0, .str []]) fun H75 =>
 ST 3 (.ptr nx74 0) v72 H75 fun H76 =>
 FA 5 (nth xs68 3) fun v77 =>
 LDR false 1 v77 H76 fun v78 rd79 =>
 LDR true 3 (.ptr nx74 0) H76 fun v80 rd81 =>
 zt Tryz.prog (.clo 23 []) [nth xs68 2] H76 (nx74 + 1) (zpx v80 H76 nx74 v78 xs68 v77 rd79 rd81 K67)
def zpv (xs106 : List AV) (Q : QT) (_ : AV) (H123 : Heap) (nx124 : Nat) : Prop :=
 NC (nth xs106 2) fun v125 =>
 FA 1 v125 fun v126 =>
 LD false 1 v126 H123 fun v127 =>
 BI .neq v127 (.int .i64 0) fun v128 =>
 CNDC v128
 (NC (nth xs106 2) fun v129 =>
 FA 1 v129 fun v130 =>
 LDR false 1 v130 H123 fun v131 rd132 =>
 zbd 9 (nth xs106 1) (.agg [.int .i64 0, .int .i64 0, .nils, .nils, .nils, .nils, .int .i64 0, .int .i64 0, .int .i64 0]) H123 fun _ _ fr135 D136 =>
 zm (domD D136) [] (
 zm (domD D136) [] (
 zm (domD D136) [] (
 zm (domD D136) rd132 (
 LD true 9 (nth xs106 1) (H123.apply D136) fun v137 =>
 Q (.tup [v137, v131]) (H123.apply D136) (nx124 + fr135.length))))))
 (LD true 9 (nth xs106 3) H123 fun v138 =>
 ST 9 (nth xs106 1) v138 H123 fun H139 =>
 LD true 9 (nth xs106 1) H139 fun v140 =>
 Q (.tup [v140, .int .i64 0]) H139 nx124)
def zjt (xs106 : List AV) (Q : QT) (v118 : AV) (H119 : Heap) (nx120 : Nat) : Prop :=
 UO .not v118 fun v121 =>
 CNDC v121
 (za Tryz.prog 24 [nth xs106 2, .int .i64 2] H119 nx120 (zpv xs106 Q))
 (NC (nth xs106 2) fun v141 =>
 FA 1 v141 fun v142 =>
 LD false 1 v142 H119 fun v143 =>
 BI .neq v143 (.int .i64 0) fun v144 =>
 CNDC v144
 (NC (nth xs106 2) fun v145 =>
 FA 1 v145 fun v146 =>
 LDR false 1 v146 H119 fun v147 rd148 =>
 zbd 9 (nth xs106 1) (.agg [.int .i64 0, .int .i64 0, .nils, .nils, .nils, .nils, .int .i64 0, .int .i64 0, .int .i64 0]) H119 fun _ _ fr151 D152 =>
 zm (domD D152) [] (
 zm (domD D152) [] (
 zm (domD D152) [] (
 zm (domD D152) rd148 (
 LD true 9 (nth xs106 1) (H119.apply D152) fun v153 =>
 Q (.tup [v153, v147]) (H119.apply D152) (nx120 + fr151.length))))))
 (LD true 9 (nth xs106 3) H119 fun v154 =>
 ST 9 (nth xs106 1) v154 H119 fun H155 =>
 LD true 9 (nth xs106 1) H155 fun v156 =>
 Q (.tup [v156, .int .i64 0]) H155 nx120))
def zpu (xs106 : List AV) (Q : QT) (v115 : AV) (H116 : Heap) (nx117 : Nat) : Prop :=
 za Tryz.prog 26 [v115, nth xs106 0] H116 nx117 (zjt xs106 Q)
def zeq (j109 : J3) (xs102 : List AV) (v181 : AV) (H182 : Heap) (nx183 : Nat) : Prop :=
 j109 [nth xs102 0, nth xs102 1, nth xs102 2, nth xs102 3] H182 nx183
def zoo (xs102 : List AV) (j109 : J3) (v178 : AV) (H179 : Heap) (nx180 : Nat) : Prop :=
 za Tryz.prog 24 [nth xs102 2, v178] H179 nx180 (zeq j109 xs102)
def zfm (Q : QT) (xs106 : List AV) (H107 : Heap) (nx108 : Nat) : Prop :=
 NC (nth xs106 2) fun v110 =>
 FA 1 v110 fun v111 =>
 LD false 1 v111 H107 fun v112 =>
 BI .eql v112 (.int .i64 0) fun v113 =>
 CND v113
 (LD true 9 (nth xs106 3) H107 fun v114 =>
 za Tryz.prog 9 [v114] H107 nx108 (zpu xs106 Q))
 (NC (nth xs106 2) fun v157 =>
 FA 1 v157 fun v158 =>
 LD false 1 v158 H107 fun v159 =>
 BI .neq v159 (.int .i64 0) fun v160 =>
 CNDC v160
 (NC (nth xs106 2) fun v161 =>
 FA 1 v161 fun v162 =>
 LDR false 1 v162 H107 fun v163 rd164 =>
 zbd 9 (nth xs106 1) (.agg [.int .i64 0, .int .i64 0, .nils, .nils, .nils, .nils, .int .i64 0, .int .i64 0, .int .i64 0]) H107 fun _ _ fr167 D168 =>
 zm (domD D168) [] (
 zm (domD D168) [] (
 zm (domD D168) [] (
 zm (domD D168) rd164 (
 LD true 9 (nth xs106 1) (H107.apply D168) fun v169 =>
 Q (.tup [v169, v163]) (H107.apply D168) (nx108 + fr167.length))))))
 (LD true 9 (nth xs106 3) H107 fun v170 =>
 ST 9 (nth xs106 1) v170 H107 fun H171 =>
 LD true 9 (nth xs106 1) H171 fun v172 =>
 Q (.tup [v172, .int .i64 0]) H171 nx108))
def zju (xs102 : List AV) (H103 : Heap) (nx104 : Nat) (j109 : J3) : Prop :=
 NC (nth xs102 2) fun v173 =>
 FA 1 v173 fun v174 =>
 LD false 1 v174 H103 fun v175 =>
 BI .eql v175 (.int .i64 0) fun v176 =>
 CNDC v176
 (LD true 9 (nth xs102 3) H103 fun v177 =>
 za Tryz.prog 25 [v177, .bool true] H103 nx104 (zoo xs102 j109))
 (j109 [nth xs102 0, nth xs102 1, nth xs102 2, nth xs102 3] H103 nx104)
def zfl (Q : QT) (xs102 : List AV) (H103 : Heap) (nx104 : Nat) : Prop :=
 JN (zfm Q) (zju xs102 H103 nx104)
def zfn (xs68 : List AV) (H100 : Heap) (nx101 : Nat) (j105 : J3) : Prop :=
 NC (nth xs68 2) fun v184 =>
 FA 1 v184 fun v185 =>
 LD false 1 v185 H100 fun v186 =>
 BI .eql v186 (.int .i64 0) fun v187 =>
 CND v187
 (NC (nth xs68 2) fun v188 =>
 FA 0 v188 fun v189 =>
 LD false 1 v189 H100 fun v190 =>
 LNL v190 fun v191 =>
 BI .gtr v191 (.int .i64 0) fun v192 =>
 CNDC v192
 (za Tryz.prog 24 [nth xs68 2, .int .i64 2] H100 nx101 (zeq j105 xs68))
 (j105 [nth xs68 0, nth xs68 1, nth xs68 2, nth xs68 3] H100 nx101))
 (j105 [nth xs68 0, nth xs68 1, nth xs68 2, nth xs68 3] H100 nx101)
def zdg (Q : QT) (xs68 : List AV) (v99 : AV) (H100 : Heap) (nx101 : Nat) : Prop :=
 JN (zfl Q) (zfn xs68 H100 nx101)
def zfk (Q : QT) (K67 : J3) (xs68 : List AV) (H69 : Heap) (nx70 : Nat) : Prop :=
 BI .lss (nth xs68 5) (nth xs68 4) fun v71 =>
 CNDC v71
 (za Tryz.prog 23 [nth xs68 2] H69 nx70 (zpw xs68 K67))
 (za Tryz.prog 19 [nth xs68 2] H69 nx70 (zdg Q xs68))
def zjd (Q : QT) (xs32 : List AV) (v64 : AV) (H65 : Heap) (nx66 : Nat) : Prop :=
 LP (zfk Q) [nth xs32 0, nth xs32 1, nth xs32 2, nth xs32 3, v64, AV.int IntKind.i64 0] H65 nx66
def zfj (Q : QT) (K31 : J3) (xs32 : List AV) (H33 : Heap) (nx34 : Nat) : Prop :=
 BI .lss (nth xs32 5) (nth xs32 4) fun v35 =>
 CNDC v35
 (za Tryz.prog 19 [nth xs32 2] H33 nx34 (zpy xs32 K31))
 (za Tryz.prog 21 [nth xs32 2, .int .i64 60] H33 nx34 (zjd Q xs32))
def zon (Q : QT) (a0 : AV) (nx : Nat) (nx9 : Nat) (v28 : AV) (H29 : Heap) (nx30 : Nat) : Prop :=
 LP (zfj Q) [a0, AV.ptr nx 0, AV.ptr (nx + 1) 0, AV.ptr nx9 0, v28, AV.int IntKind.i64 0] H29 nx30
def zom (nx9 : Nat) (nx : Nat) (Q : QT) (a0 : AV) (v24 : AV) (H25 : Heap) (nx26 : Nat) : Prop :=
 ST 2 (.ptr nx9 2) v24 H25 fun H27 =>
 za Tryz.prog 21 [.ptr (nx + 1) 0, .int .i64 12] H27 nx26 (zon Q a0 nx nx9)
def zol (v13 : AV) (v16 : AV) (nx9 : Nat) (nx : Nat) (Q : QT) (a0 : AV) (v19 : AV) (H20 : Heap) (nx21 : Nat) : Prop :=
 BD (zz tab [(3, 0), (3, 1), (3, 2)]) [.int .i64 0, .int .i64 0, .int .i64 0] [(0, v13), (1, v16), (2, v19)] fun v22 =>
 ST 3 (.ptr nx9 6) v22 H20 fun H23 =>
 za Tryz.prog 20 [.ptr (nx + 1) 0] H23 nx21 (zom nx9 nx Q a0)
def zok (nx : Nat) (v13 : AV) (nx9 : Nat) (Q : QT) (a0 : AV) (v16 : AV) (H17 : Heap) (nx18 : Nat) : Prop :=
 za Tryz.prog 19 [AV.ptr (nx + 1) 0] H17 nx18 (zol v13 v16 nx9 nx Q a0)
def zoj (nx : Nat) (nx9 : Nat) (Q : QT) (a0 : AV) (v13 : AV) (H14 : Heap) (nx15 : Nat) : Prop :=
 za Tryz.prog 19 [AV.ptr (nx + 1) 0] H14 nx15 (zok nx v13 nx9 Q a0)
def zoi (v4 : AV) (nx : Nat) (Q : QT) (a0 : AV) (v7 : AV) (H8 : Heap) (nx9 : Nat) : Prop :=
 BD (zz tab [(3, 0), (3, 1), (25, 2), (26, 4), (27, 5), (29, 6)]) [.int .i64 0, .int .i64 0, .nils, .nils, .nils, .nils, .int .i64 0, .int .i64 0, .int .i64 0] [(0, v4), (1, v7)] fun v10 =>
 PUTH H8 nx9 (.row 9 [.int .i64 0, .int .i64 0, .nils, .nils, .nils, .nils, .int .i64 0, .int .i64 0, .int .i64 0]) fun H11 =>
 ST 9 (.ptr nx9 0) v10 H11 fun H12 =>
 za Tryz.prog 19 [.ptr (nx + 1) 0] H12 (nx9 + 1) (zoj nx nx9 Q a0)
def zoh (nx : Nat) (Q : QT) (a0 : AV) (v4 : AV) (H5 : Heap) (nx6 : Nat) : Prop :=
 za Tryz.prog 19 [AV.ptr (nx + 1) 0] H5 nx6 (zoi v4 nx Q a0)
def zjs (a0 : AV) (H : Heap) (nx : Nat) (Q : QT) : Prop :=
 PUTH H nx (.row 9 [.int .i64 0, .int .i64 0, .nils, .nils, .nils, .nils, .int .i64 0, .int .i64 0, .int .i64 0]) fun H1 =>
 BD (zz tab [(32, 0), (34, 1)]) [.nils, .int .i64 0] [(0, a0)] fun v2 =>
 v2.sure = true ∧
 PUTH H1 (nx + 1) (.row v2.cells.length v2.cells) fun H3 =>
 za Tryz.prog 19 [.ptr (nx + 1) 0] H3 (nx + 2) (zoh nx Q a0)
theorem zux (a0 : AV) (H : Heap) (nx : Nat) (Q : QT) : zjs a0 H nx Q → za Tryz.prog 8 [a0] H nx Q :=
  zd (lv := lvOf [(2, 6, [0, 2, 4, 5, 28, 29]), (2, 13, [0, 2, 4, 5, 50, 51]), (3, 20, [0, 2, 4, 5]), (3, 22, [0, 2, 4, 5])]) (c := zl Tryz.f8) zp zq mixed Tryz.func8 (by kernel_rfl) (by kernel_rfl) (by kernel_rfl) (by kernel_rfl) (by kernel_rfl)
def zeo (a0 a1 : AV) (H : Heap) (nx : Nat) (Q : QT) : Prop :=
 CV .u64 a1 fun v1 =>
 BI .and v1 (.int .u64 31) fun v2 =>
 BI .shl a0 v2 fun v3 =>
 BI .sub (.int .u64 32) v2 fun v4 =>
 BI .shr a0 v4 fun v5 =>
 BI .or v3 v5 fun v6 =>
 Q v6 H nx
theorem zjp (a0 a1 : AV) (H : Heap) (nx : Nat) (Q : QT) : zeo a0 a1 H nx Q → za Tryz.prog 57 [a0, a1] H nx Q :=
  zd (lv := lvOf []) (c := zl Tryz.f57) zp zq mixed Tryz.func57 (by kernel_rfl) (by kernel_rfl) (by kernel_rfl) (by kernel_rfl) (by kernel_rfl)
def zce (Q : QT) (v36 : AV) (H37 : Heap) (nx38 : Nat) : Prop :=
 EX v36 0 fun v39 =>
 EX v36 1 fun v40 =>
 PUTH H37 nx38 (.row 9 [.int .i64 0, .int .i64 0, .nils, .nils, .nils, .nils, .int .i64 0, .int .i64 0, .int .i64 0]) fun H41 =>
 ST 9 (.ptr nx38 0) v39 H41 fun H42 =>
 BI .neq v40 (.int .i64 0) fun v43 =>
 Q v43 H42 (nx38 + 1)
def zkd (Q : QT) (a1 : AV) (v12 : AV) (v24 : AV) (H25 : Heap) (nx26 : Nat) : Prop :=
 EX v24 0 fun v27 =>
 EX v24 1 fun v28 =>
 PUTH H25 nx26 (.row 9 [.int .i64 0, .int .i64 0, .nils, .nils, .nils, .nils, .int .i64 0, .int .i64 0, .int .i64 0]) fun H29 =>
 ST 9 (.ptr nx26 0) v27 H29 fun H30 =>
 BI .neq v28 (.int .i64 2) fun v31 =>
 CNDC v31
 (Q (.bool false) H30 (nx26 + 1))
 (BI .lss a1 (.int .i64 0) fun v32 =>
 CND v32
 (Q (.bool true) H30 (nx26 + 1))
 (LNL v12 fun v33 =>
 BI .geq a1 v33 fun v34 =>
 CNDC v34
 (Q (.bool true) H30 (nx26 + 1))
 (SL 1 v12 none (some a1) H30 fun v35 =>
 za Tryz.prog 8 [v35] H30 (nx26 + 1) (zce Q))))
def zev (a2 : AV) (Q : QT) (a1 : AV) (v12 : AV) (H13 : Heap) (nx14 : Nat) : Prop :=
 LNL a2 fun v15 =>
 BI .gtr v15 (.int .i64 0) fun v16 =>
 CNDC v16
 (PUTH H13 nx14 (.row 1 []) fun H17 =>
 APP 1 1 (.slc nx14 0 0) v12 H17 (nx14 + 1) fun v18 H19 nx20 =>
 APP 1 1 v18 a2 H19 nx20 fun v21 H22 nx23 =>
 za Tryz.prog 8 [v21] H22 nx23 (zkd Q a1 v12))
 (BI .lss a1 (.int .i64 0) fun v44 =>
 CND v44
 (Q (.bool true) H13 nx14)
 (LNL v12 fun v45 =>
 BI .geq a1 v45 fun v46 =>
 CNDC v46
 (Q (.bool true) H13 nx14)
 (SL 1 v12 none (some a1) H13 fun v47 =>
 za Tryz.prog 8 [v47] H13 nx14 (zce Q))))
def zeu (Q : QT) (nx : Nat) (a2 : AV) (a1 : AV) (v7 : AV) (H8 : Heap) (nx9 : Nat) : Prop :=
 BI .neq v7 (.int .i64 0) fun v10 =>
 CNDC v10
 (Q (.bool true) H8 nx9)
 (LD true 9 (.ptr nx 0) H8 fun v11 =>
 za Tryz.prog 9 [v11] H8 nx9 (zev a2 Q a1))
def zkc (Q : QT) (nx : Nat) (a2 : AV) (a1 : AV) (v2 : AV) (H3 : Heap) (nx4 : Nat) : Prop :=
 UO .not v2 fun v5 =>
 CNDC v5
 (Q (.bool false) H3 nx4)
 (LD true 9 (.ptr nx 0) H3 fun v6 =>
 za Tryz.prog 7 [v6, .bool true] H3 nx4 (zeu Q nx a2 a1))
def zkb (a0 a1 a2 : AV) (H : Heap) (nx : Nat) (Q : QT) : Prop :=
 a0.sure = true ∧
 PUTH H nx (.row a0.cells.length a0.cells) fun H1 =>
 za Tryz.prog 6 [] H1 (nx + 1) (zkc Q nx a2 a1)
theorem zpm (a0 a1 a2 : AV) (H : Heap) (nx : Nat) (Q : QT) : zkb a0 a1 a2 H nx Q → za Tryz.prog 5 [a0, a1, a2] H nx Q :=
  zd (lv := lvOf []) (c := zl Tryz.f5) zp zq mixed Tryz.func5 (by kernel_rfl) (by kernel_rfl) (by kernel_rfl) (by kernel_rfl) (by kernel_rfl)
end Go.Proofs.YtpbnaaoilgohkaaGreatDoor
set_option maxRecDepth 8000
namespace Go.Proofs.YtpbnaaoilgohkaaGreatDoor
namespace WM
abbrev Bytes := List UInt8
def zig (n : Int) : Nat := if n < 0 then (-(2 * n) - 1).toNat else (2 * n).toNat
def zag (u : Nat) : Int := if u % 2 = 1 then -((u / 2 : Nat) : Int) - 1 else ((u / 2 : Nat) : Int)
def enc : Nat → Nat → Bytes
  | 0, u => [UInt8.ofNat u]
  | f + 1, u => if 128 ≤ u then UInt8.ofNat (u % 128 + 128) :: enc f (u / 128) else [UInt8.ofNat u]
def num (n : Int) : Bytes := enc 9 (zig n)
def getFrom : Nat → Nat → Bytes → Int × Int × Int
  | _, _, [] => (0, 0, 8)
  | i, u, c :: r =>
    if 9 < i ∨ (i = 9 ∧ 1 < c.toNat) then (0, 0, 3)
    else if 128 ≤ c.toNat then getFrom (i + 1) (u + c.toNat % 128 * 2 ^ (7 * i)) r
    else if c.toNat = 0 ∧ 0 < i then (0, 0, 2)
    else (zag (u + c.toNat % 128 * 2 ^ (7 * i)), (i : Int) + 1, 0)
def getNum (b : Bytes) : Int × Int × Int := getFrom 0 0 b
theorem zag_zig (n : Int) : zag (zig n) = n := by
  unfold zag zig
  split <;> split <;> omega
theorem zig_zag (u : Nat) : zig (zag u) = u := by
  unfold zag zig
  split <;> split <;> omega
theorem zig_lt (n : Int) (h : -9223372036854775808 ≤ n) (h' : n ≤ 9223372036854775807) : zig n < 2 ^ 64 := by
  unfold zig
  split <;> omega
theorem enc_length (f u : Nat) : (enc f u).length ≤ f + 1 := by
  induction f generalizing u with
  | zero => simp [enc]
  | succ f ih =>
    simp only [enc]
    split
    · simp; exact ih _
    · simp
theorem toNat_ofNat_lt {n : Nat} (h : n < 256) : (UInt8.ofNat n).toNat = n := by
  simp [UInt8.toNat_ofNat']; omega
theorem getFrom_enc (f : Nat) : ∀ (i acc u : Nat) (r : Bytes), i + f = 9 → u < 2 ^ (64 - 7 * i) → (i = 0 ∨ u ≠ 0) →
    getFrom i acc (enc f u ++ r) = (zag (acc + u * 2 ^ (7 * i)), ((i + (enc f u).length : Nat) : Int), 0) := by
  induction f with
  | zero =>
    intro i acc u r hi hu h0
    have hi9 : i = 9 := by omega
    subst hi9
    have hu2 : u < 2 := by simpa using hu
    have hb : (UInt8.ofNat u).toNat = u := toNat_ofNat_lt (by omega)
    simp only [enc, List.cons_append, List.nil_append, getFrom, hb]
    rw [if_neg (by omega), if_neg (by omega), if_neg (by omega)]
    have hm : u % 128 = u := Nat.mod_eq_of_lt (by omega)
    rw [hm]
    simp
  | succ f ih =>
    intro i acc u r hi hu h0
    simp only [enc]
    split
    · rename_i hge
      have hb : (UInt8.ofNat (u % 128 + 128)).toNat = u % 128 + 128 := toNat_ofNat_lt (by omega)
      simp only [List.cons_append, getFrom, hb]
      rw [if_neg (by omega), if_pos (by omega)]
      have hm : (u % 128 + 128) % 128 = u % 128 := by omega
      rw [hm]
      have hpow : (2 : Nat) ^ (64 - 7 * i) = 2 ^ (64 - 7 * (i + 1)) * 128 := by
        rw [show (128 : Nat) = 2 ^ 7 from rfl, ← Nat.pow_add]
        congr 1
        omega
      rw [ih (i + 1) _ (u / 128) r (by omega) (by rw [hpow] at hu; exact Nat.div_lt_of_lt_mul (by rw [Nat.mul_comm]; exact hu)) (.inr (by omega))]
      have hsum : acc + u % 128 * 2 ^ (7 * i) + u / 128 * 2 ^ (7 * (i + 1)) = acc + u * 2 ^ (7 * i) := by
        have e7 : (2 : Nat) ^ (7 * (i + 1)) = 128 * 2 ^ (7 * i) := by
          rw [show 7 * (i + 1) = 7 + 7 * i by omega, Nat.pow_add]
        rw [e7, Nat.add_assoc, ← Nat.mul_assoc, ← Nat.add_mul]
        congr 2
        omega
      rw [hsum]
      simp only [List.length_cons]
      congr 2
      congr 1
      omega
    · rename_i hlt
      have hb : (UInt8.ofNat u).toNat = u := toNat_ofNat_lt (by omega)
      simp only [List.cons_append, List.nil_append, getFrom, hb]
      rw [if_neg (by omega), if_neg (by omega), if_neg (by omega)]
      have hm : u % 128 = u := Nat.mod_eq_of_lt (by omega)
      rw [hm]
      simp
theorem getNum_num (n : Int) (h : -9223372036854775808 ≤ n) (h' : n ≤ 9223372036854775807) (r : Bytes) :
    getNum (num n ++ r) = (n, ((num n).length : Int), 0) := by
  unfold getNum num
  rw [getFrom_enc 9 0 0 (zig n) r rfl (by simpa using zig_lt n h h') (.inl rfl)]
  simp [zag_zig]
theorem getFrom_ok : ∀ (b : Bytes) (i acc : Nat), i ≤ 9 → acc < 2 ^ (7 * i) → (getFrom i acc b).2.2 = 0 →
    ∃ (k v : Nat), k ≤ b.length ∧ 1 ≤ k ∧ (getFrom i acc b).2.1 = ((i + k : Nat) : Int) ∧ v < 2 ^ (64 - 7 * i) ∧ (0 < i → v ≠ 0) ∧
      (getFrom i acc b).1 = zag (acc + v * 2 ^ (7 * i)) ∧ enc (9 - i) v = b.take k := by
  intro b
  induction b with
  | nil => intro i acc _ _ h; simp [getFrom] at h
  | cons c r ih =>
    intro i acc hi ha h
    have hc : c.toNat < 256 := c.toNat_lt
    simp only [getFrom] at h ⊢
    split at h
    · simp at h
    · rename_i h1
      rw [if_neg h1]
      split at h
      · rename_i h2
        rw [if_pos h2]
        have hi8 : i ≤ 8 := by omega
        have e7 : (2 : Nat) ^ (7 * (i + 1)) = 128 * 2 ^ (7 * i) := by
          rw [show 7 * (i + 1) = 7 + 7 * i by omega, Nat.pow_add]
        have hpos : 0 < (2 : Nat) ^ (7 * i) := Nat.pow_pos (by omega)
        obtain ⟨k, v, hk, hk1, hn, hv, hv0, hz, he⟩ := ih (i + 1) (acc + c.toNat % 128 * 2 ^ (7 * i)) (by omega) (by
          rw [e7]
          have : c.toNat % 128 * 2 ^ (7 * i) ≤ 127 * 2 ^ (7 * i) := Nat.mul_le_mul_right _ (by omega)
          omega) h
        have hv1 := hv0 (by omega)
        refine ⟨k + 1, v * 128 + c.toNat % 128, by simp; omega, by omega, by rw [hn]; congr 1; omega, ?_, by omega, ?_, ?_⟩
        · have hpow : (2 : Nat) ^ (64 - 7 * i) = 2 ^ (64 - 7 * (i + 1)) * 128 := by
            rw [show (128 : Nat) = 2 ^ 7 from rfl, ← Nat.pow_add]
            congr 1
            omega
          rw [hpow]
          omega
        · rw [hz]
          congr 1
          rw [e7, Nat.add_mul, ← Nat.mul_assoc]
          omega
        · rw [show 9 - i = (9 - (i + 1)) + 1 by omega]
          simp only [enc]
          rw [if_pos (by omega), show (v * 128 + c.toNat % 128) / 128 = v by omega, he, show (v * 128 + c.toNat % 128) % 128 + 128 = c.toNat by omega]
          simp
      · rename_i h2
        rw [if_neg h2]
        split at h
        · simp at h
        · rename_i h3
          rw [if_neg h3]
          have hm : c.toNat % 128 = c.toNat := Nat.mod_eq_of_lt (by omega)
          refine ⟨1, c.toNat, by simp, by omega, by simp, ?_, by omega, by rw [hm], ?_⟩
          · by_cases h9 : i = 9
            · subst h9; simp; omega
            · have h128 : (2 : Nat) ^ 7 ≤ 2 ^ (64 - 7 * i) := Nat.pow_le_pow_right (by omega) (by omega)
              omega
          · have hofn : UInt8.ofNat c.toNat = c := by simp
            cases hh : 9 - i with
            | zero => simp [enc]
            | succ f => simp only [enc]; rw [if_neg (by omega)]; simp
theorem getNum_ok (b : Bytes) (h : (getNum b).2.2 = 0) : ∃ k : Nat, k ≤ b.length ∧ 1 ≤ k ∧ (getNum b).2.1 = (k : Int) ∧ num (getNum b).1 = b.take k := by
  obtain ⟨k, v, hk, hk1, hn, hv, _, hz, he⟩ := getFrom_ok b 0 0 (by omega) (by simp) h
  refine ⟨k, hk, hk1, by simpa [getNum] using hn, ?_⟩
  unfold num getNum
  rw [hz, zig_zag]
  simpa using he
def getText (b : Bytes) (most : Int) : Bytes × Int × Int :=
  if (getNum b).2.2 ≠ 0 then ([], 0, (getNum b).2.2)
  else if (getNum b).1 < 0 ∨ most < (getNum b).1 then ([], 0, 4)
  else if (b.length : Int) - (getNum b).2.1 < (getNum b).1 then ([], 0, 8)
  else ((b.drop (getNum b).2.1.toNat).take (getNum b).1.toNat, (getNum b).2.1 + (getNum b).1, 0)
def rot5 (u : Nat) : Nat := (u * 32 % 4294967296) ||| (u / 134217728)
def sumStep (s : Nat) (c : UInt8) : Nat := rot5 (s ^^^ c.toNat) * 16777619 % 4294967296
def sum (b : Bytes) : Nat := b.foldl sumStep 2166136261
end WM
end Go.Proofs.YtpbnaaoilgohkaaGreatDoor
set_option maxRecDepth 8000
namespace Go.Proofs.YtpbnaaoilgohkaaGreatDoor
open Go Go.RowKit
theorem zahu (n : Int) (h₀ : 0 ≤ n) (h₁ : n < 2 ^ 64) : IntKind.u64.wrap n = n := by rw [IntKind.wrap_u64]; omega
theorem zahv (c : Nat) (h : c < 256) : bits .and .u8 (c : Int) 127 = ((c % 128 : Nat) : Int) := by
  have := bits_mask .u8 8 (by decide) wraps_u8 7 (by decide) (c : Int) (by omega) (by omega)
  simpa using this
theorem zaks (c : Nat) (h : c < 256) : bits .or .u8 (c : Int) 128 = ((c % 128 + 128 : Nat) : Int) := by
  have h1 := u8_or_nat c 128 h (by omega)
  rw [show ((128 : Nat) : Int) = 128 from rfl] at h1
  rw [h1]
  congr 1
  have hd : c = 128 * (c / 128) + c % 128 := by omega
  have hc2 : c / 128 = 0 ∨ c / 128 = 1 := by omega
  have e : (2 : Nat) ^ 7 = 128 := rfl
  have hlow : c % 128 ||| 128 = c % 128 + 128 := by
    have := Nat.two_pow_add_eq_or_of_lt (i := 7) (b := c % 128) (by omega) 1
    rw [Nat.or_comm]
    simp at this
    omega
  rcases hc2 with h0 | h0
  · have : c = c % 128 := by omega
    rw [← this] at hlow ⊢
    exact hlow
  · have h2 := Nat.two_pow_add_eq_or_of_lt (i := 7) (b := c % 128) (by omega) 1
    have h3 : c = 128 ||| c % 128 := by simp at h2; omega
    have h4 : c ||| 128 = c % 128 ||| 128 := by
      conv => lhs; rw [h3]
      rw [Nat.or_comm 128, Nat.or_assoc, Nat.or_self]
    rw [h4, hlow]
theorem zafr (q x k : Nat) (hq : q < 2 ^ k) (hx : q + x * 2 ^ k < 18446744073709551616) : bits .or .u64 (q : Int) ((x * 2 ^ k : Nat) : Int) = ((q + x * 2 ^ k : Nat) : Int) := by
  have h1 := bits_nat .u64 64 (by decide) zahu q (x * 2 ^ k) (by omega) (by omega)
  rw [h1.2]
  congr 1
  have := Nat.two_pow_add_eq_or_of_lt (i := k) (b := q) hq x
  rw [Nat.or_comm, Nat.mul_comm, ← this]
  omega
theorem zalj (k q c : Nat) (hk : k ≤ 9) (hq : q < 2 ^ (7 * k)) (hc : c < 256) (h9 : k = 9 → c ≤ 1) :
    bits .or .u64 (q : Int) (IntKind.u64.wrap (IntKind.u64.wrap (bits .and .u8 (c : Int) 127) * 2 ^ (7 * k))) = ((q + c % 128 * 2 ^ (7 * k) : Nat) : Int) := by
  rw [zahv c hc, IntKind.wrap_u64, IntKind.wrap_u64]
  have h1 : (((c % 128 : Nat) : Int) % 18446744073709551616) = ((c % 128 : Nat) : Int) := by omega
  rw [h1]
  have hb : q + c % 128 * 2 ^ (7 * k) < 18446744073709551616 := by
    by_cases h : k = 9
    · subst h
      have := h9 rfl
      have : c % 128 ≤ 1 := by omega
      simp at hq ⊢
      omega
    · have hp : (2 : Nat) ^ (7 * k) ≤ 2 ^ 56 := Nat.pow_le_pow_right (by omega) (by omega)
      have : c % 128 * 2 ^ (7 * k) ≤ 127 * 2 ^ 56 := Nat.mul_le_mul (by omega) hp
      omega
  have h2 : (((c % 128 : Nat) : Int) * 2 ^ (7 * k)) % 18446744073709551616 = ((c % 128 * 2 ^ (7 * k) : Nat) : Int) := by
    rw [show (((c % 128 : Nat) : Int) * 2 ^ (7 * k)) = ((c % 128 * 2 ^ (7 * k) : Nat) : Int) by push_cast; rfl]
    omega
  rw [h2]
  exact zafr q (c % 128) (7 * k) hq hb
theorem zana (n : Int) (h0 : 0 ≤ n) (h1 : n ≤ 9223372036854775807) : bits .xor .i64 (-1) n = -n - 1 := by
  obtain ⟨a, rfl⟩ := Int.eq_ofNat_of_zero_le h0
  have e : bits .xor .i64 (-1) (a : Int) = IntKind.i64.wrap ((BitVec.ofInt 64 (-1) ^^^ BitVec.ofInt 64 (a : Int)).toNat : Int) := rfl
  have e1 : (BitVec.ofInt 64 (-1)) = BitVec.allOnes 64 := by decide
  rw [e, e1, BitVec.ofInt_natCast, BitVec.allOnes_xor, BitVec.toNat_not, BitVec.toNat_ofNat, IntKind.wrap_i64]
  omega
theorem zanx (u : Nat) (hu : u < 18446744073709551616) (h : u % 2 = 1) : bits .xor .i64 (-1) (wrap64 ((u : Int) / 2)) = WM.zag u := by
  have e : wrap64 ((u : Int) / 2) = ((u / 2 : Nat) : Int) := by unfold wrap64; omega
  rw [e, zana _ (by omega) (by omega)]
  unfold WM.zag
  rw [if_pos h]
theorem zaka (u : Nat) (hu : u < 18446744073709551616) (h : u % 2 ≠ 1) : wrap64 ((u : Int) / 2) = WM.zag u := by
  unfold wrap64 WM.zag
  rw [if_neg h]
  omega
theorem zang (u : Nat) (hu : u < 18446744073709551616) (h : u % 2 = 1) : (bits BinOp.and IntKind.u64 (u : Int) 1 == 1) = true := by
  rw [and_one_u64 _ (by omega) (by omega)]
  simp; omega
theorem zajw (u : Nat) (hu : u < 18446744073709551616) (h : u % 2 ≠ 1) : (bits BinOp.and IntKind.u64 (u : Int) 1 == 1) = false := by
  rw [and_one_u64 _ (by omega) (by omega)]
  simp; omega
theorem zadj (k q c : Nat) (hk : k ≤ 9) (hq : q < 2 ^ (7 * k)) (hc : c < 256) (h9 : k = 9 → c ≤ 1) : q + c % 128 * 2 ^ (7 * k) < 18446744073709551616 := by
  by_cases h : k = 9
  · subst h
    have := h9 rfl
    have : c % 128 ≤ 1 := by omega
    simp at hq ⊢
    omega
  · have hp : (2 : Nat) ^ (7 * k) ≤ 2 ^ 56 := Nat.pow_le_pow_right (by omega) (by omega)
    have : c % 128 * 2 ^ (7 * k) ≤ 127 * 2 ^ 56 := Nat.mul_le_mul (by omega) hp
    omega
theorem zaaa (k q c : Nat) (hq : q < 2 ^ (7 * k)) : q + c % 128 * 2 ^ (7 * k) < 2 ^ (7 * (k + 1)) := by
  have e7 : (2 : Nat) ^ (7 * (k + 1)) = 128 * 2 ^ (7 * k) := by rw [show 7 * (k + 1) = 7 + 7 * k by omega, Nat.pow_add]
  have : c % 128 * 2 ^ (7 * k) ≤ 127 * 2 ^ (7 * k) := Nat.mul_le_mul_right _ (by omega)
  omega
end Go.Proofs.YtpbnaaoilgohkaaGreatDoor
set_option maxRecDepth 8000
namespace Go.Proofs.YtpbnaaoilgohkaaGreatDoor
structure Fct where
  key : Str
  val : Val
structure Spt where
  name : Str
  facts : List Fct
  fuel : Int
  cells : Int
structure Evt where
  kind : Int
  text : Str
  err : Int
namespace VM
def ev0 : Evt := ⟨0, [], 0⟩
def dead (e : Int) : Evt := ⟨5, [], e⟩
def ask (l : List Fct) (k : Str) : Val := match l.find? (fun f => decide (f.key = k)) with
  | some f => f.val
  | none => vzero
def cl0 : Cl := ⟨vzero, vzero⟩
def toF (a : Agt) (fs : List Frm) (f : Frm) : Agt := { a with frames := fs ++ [f] }
def top1 (st : List Val) : Val := st.getD (st.length - 1) vzero
def top2 (st : List Val) : Val := st.getD (st.length - 2) vzero
def low (k : Nat) (st : List Val) : List Val := st.take (st.length - k)
def push (a : Agt) (fs : List Frm) (f : Frm) (st : List Val) (v : Val) : Agt × Evt := (toF a fs { f with stack := st ++ [v] }, ev0)
def codeAt (p : Prg) (n : Int) : Cod := p.codes.getD n.toNat ⟨0, 0, []⟩
def opDo (a : Agt) (s : Spt) (fs : List Frm) (f : Frm) (i : Ins) : Agt × Evt :=
  if i.op = 1 then push a fs f f.stack ⟨0, i.a, []⟩
  else if i.op = 2 then push a fs f f.stack (cText (a.prog.words.getD i.a.toNat []))
  else if i.op = 3 then push a fs f f.stack (f.vars.getD i.a.toNat vzero)
  else if i.op = 4 then (toF a fs { f with stack := low 1 f.stack, vars := f.vars.set i.a.toNat (top1 f.stack) }, ev0)
  else if i.op = 5 then (if (two i.a (top2 f.stack) (top1 f.stack)).2 = 0 then push a fs f (low 2 f.stack) (two i.a (top2 f.stack) (top1 f.stack)).1 else (toF a fs { f with stack := low 2 f.stack }, dead (two i.a (top2 f.stack) (top1 f.stack)).2))
  else if i.op = 6 then (if a.permit.room = 0 then (toF a fs { f with stack := low 2 f.stack }, dead 13)
    else push { a with heap := a.heap ++ [⟨top2 f.stack, top1 f.stack⟩], permit := { a.permit with room := a.permit.room - 1 } } fs f (low 2 f.stack) ⟨2, a.heap.length, []⟩)
  else if i.op = 7 then (if (top1 f.stack).kind ≠ 2 then (toF a fs { f with stack := low 1 f.stack }, dead 11) else push a fs f (low 1 f.stack) (a.heap.getD (top1 f.stack).n.toNat cl0).left)
  else if i.op = 8 then (if (top1 f.stack).kind ≠ 2 then (toF a fs { f with stack := low 1 f.stack }, dead 11) else push a fs f (low 1 f.stack) (a.heap.getD (top1 f.stack).n.toNat cl0).right)
  else if i.op = 9 then (if (top2 f.stack).kind ≠ 2 then (toF a fs { f with stack := low 2 f.stack }, dead 11) else (toF { a with heap := a.heap.set (top2 f.stack).n.toNat { a.heap.getD (top2 f.stack).n.toNat cl0 with left := top1 f.stack } } fs { f with stack := low 2 f.stack }, ev0))
  else if i.op = 10 then (if (top2 f.stack).kind ≠ 2 then (toF a fs { f with stack := low 2 f.stack }, dead 11) else (toF { a with heap := a.heap.set (top2 f.stack).n.toNat { a.heap.getD (top2 f.stack).n.toNat cl0 with right := top1 f.stack } } fs { f with stack := low 2 f.stack }, ev0))
  else if i.op = 11 then (if (top1 f.stack).kind ≠ 1 then (toF a fs { f with stack := low 1 f.stack }, dead 11) else push a fs f (low 1 f.stack) (ask s.facts (top1 f.stack).text))
  else if i.op = 12 then push a fs f f.stack (cText s.name)
  else if i.op = 13 then (if (top1 f.stack).kind ≠ 1 then (toF a fs { f with stack := low 1 f.stack }, dead 11) else if a.permit.hops = 0 then push a fs f (low 1 f.stack) vzero
    else (toF { a with permit := { a.permit with hops := a.permit.hops - 1 } } fs { f with stack := low 1 f.stack }, ⟨3, (top1 f.stack).text, 0⟩))
  else if i.op = 14 then (toF a fs { f with stack := low 1 f.stack }, ⟨2, vshow a.heap 4 (top1 f.stack), 0⟩)
  else if i.op = 15 then (toF a fs { f with at_ := i.a }, ev0)
  else if i.op = 16 then (toF a fs { f with stack := low 1 f.stack, at_ := if (top1 f.stack).kind = 0 ∧ (top1 f.stack).n = 0 then i.a else f.at_ }, ev0)
  else if i.op = 17 then (if 12 ≤ fs.length + 1 then (toF a fs f, dead 9)
    else (toF a (fs ++ [{ f with stack := low i.b.toNat f.stack }]) ⟨i.a, 0, f.stack.drop (f.stack.length - i.b.toNat) ++ List.replicate ((codeAt a.prog i.a).vars - i.b).toNat vzero, []⟩, ev0))
  else if i.op = 18 then (match fs.getLast? with
    | none => ({ a with frames := [] }, ⟨4, vshow a.heap 4 (top1 f.stack), 0⟩)
    | some g => push a fs.dropLast g g.stack (top1 f.stack))
  else (toF a fs { f with stack := low 1 f.stack }, ev0)
def insAt (p : Prg) (f : Frm) : Ins := (codeAt p f.fn).ins.getD f.at_.toNat ⟨0, 0, 0⟩
def step (a : Agt) (s : Spt) : Agt × Evt :=
  if a.permit.fuel = 0 then (a, dead 12)
  else match a.frames.getLast? with
    | none => (a, ev0)
    | some f => opDo { a with permit := { a.permit with fuel := a.permit.fuel - 1 } } s a.frames.dropLast { f with at_ := f.at_ + 1 } (insAt a.prog f)
def run (s : Spt) : Nat → Agt → Agt × Evt
  | 0, a => (a, ⟨1, [], 0⟩)
  | n + 1, a => if (step a s).2.kind ≠ 0 then step a s else run s n (step a s).1
def roots (a : Agt) : List Val := a.frames.flatMap fun f => f.vars ++ f.stack
def pack (a : Agt) : Agt := { a with frames := a.frames.map (fun f => { f with vars := f.vars.map (put (order a.heap (roots a))), stack := f.stack.map (put (order a.heap (roots a))) }), heap := canonC a.heap (roots a) }
end VM
end Go.Proofs.YtpbnaaoilgohkaaGreatDoor
set_option maxRecDepth 8000
namespace Go.Proofs.YtpbnaaoilgohkaaGreatDoor
open Go Go.RowKit
def ziv (out : List Int) : Nat := out.countP (· < 0)
theorem zoc {out : List Int} {k : Nat} {h : Int} (hk : k < out.length) (h0 : out.getD k 0 < 0) (h1 : 0 ≤ h) : ziv (out.set k h) + 1 = ziv out := by
  unfold ziv
  have hg : out[k] < 0 := by simpa [List.getD, hk] using h0
  have hpos : 0 < out.countP (· < 0) := List.countP_pos_iff.2 ⟨out[k], List.getElem_mem hk, by simpa using hg⟩
  rw [List.countP_set hk]
  have hnl : ¬ h < 0 := by omega
  simp [hg, hnl]
  omega
theorem zkk (i : Ins) (h : i.op = 17 → 0 ≤ i.b ∧ i.b ≤ 16) : 0 ≤ (VM.effect i).1 ∧ (VM.effect i).1 ≤ 16 ∧ 0 ≤ (VM.effect i).2 ∧ (VM.effect i).2 ≤ 1 := by
  unfold VM.effect
  (repeat' split) <;> simp_all
def Calm (ins : List Ins) : Prop := ∀ i ∈ ins, i.op = 17 → 0 ≤ i.b ∧ i.b ≤ 16
theorem zay {α : Type} (f : α → Int) (l : List α) (k : Nat) (x : α) (hk : l[k]? = some x) : VM.firstErr f (l.drop k) = if f x ≠ 0 then f x else VM.firstErr f (l.drop (k + 1)) := by
  obtain ⟨hlt, rfl⟩ := List.getElem?_eq_some_iff.1 hk
  rw [List.drop_eq_getElem_cons hlt]
  rfl
theorem zacn {α : Type} (f : α → Bool) (l : List α) (k : Nat) (x : α) (hk : l[k]? = some x) : (l.drop k).any f = (f x || (l.drop (k + 1)).any f) := by
  obtain ⟨hlt, rfl⟩ := List.getElem?_eq_some_iff.1 hk
  rw [List.drop_eq_getElem_cons hlt]
  rfl
theorem zacp {α : Type} (f : α → Bool) (l : List α) (k : Nat) (x : α) (hk : l[k]? = some x) : (l.drop k).all f = (f x && (l.drop (k + 1)).all f) := by
  obtain ⟨hlt, rfl⟩ := List.getElem?_eq_some_iff.1 hk
  rw [List.drop_eq_getElem_cons hlt]
  rfl
theorem zax {α : Type} {f : α → Int} {l : List α} (h : VM.firstErr f l = 0) : ∀ x ∈ l, f x = 0 := by
  induction l with
  | nil => intro x hx; simp at hx
  | cons a r ih =>
    unfold VM.firstErr at h
    by_cases h0 : f a ≠ 0
    · rw [if_pos h0] at h; exact absurd h h0
    · rw [if_neg h0] at h
      intro x hx
      rcases List.mem_cons.1 hx with rfl | hx
      · omega
      · exact ih h x hx
theorem zyd {p : Prg} {c : Cod} (hr : ∀ x ∈ p.codes, VM.codeRange x = false) (hn : ∀ i ∈ c.ins, VM.numbers p c i = 0) : Calm c.ins := by
  intro i hi h17
  have h := hn i hi
  unfold VM.numbers at h
  rw [if_neg (by omega)] at h
  by_cases hok : VM.numOk p c i = false ∨ (i.op ≠ 17 ∧ i.b ≠ 0)
  · rw [if_pos hok] at h; omega
  · have h2 : VM.numOk p c i = true := by
      cases hq : VM.numOk p c i with
      | true => rfl
      | false => exact absurd (Or.inl hq) hok
    unfold VM.numOk at h2
    simp [h17] at h2
    obtain ⟨_, h3⟩ := h2
    cases hx : p.codes[i.a.toNat]? with
    | none => rw [hx] at h3; simp at h3
    | some x =>
      rw [hx] at h3
      have h4 := hr x (List.mem_of_getElem? hx)
      unfold VM.codeRange at h4
      rw [decide_eq_false_iff_not] at h4
      simp at h3
      omega
theorem zkz (ins : List Ins) (hc : Calm ins) : ∀ (fuel : Nat) (q : List (Int × Int)) (out : List Int), q.length + 2 * ziv out < fuel → (∀ x ∈ q, 0 ≤ x.2 ∧ x.2 ≤ 16) → out.length = ins.length →
    (∀ x ∈ out, -1 ≤ x ∧ x ≤ 16) → (VM.heightsGo ins fuel q out).2 = 0 → (VM.heightsGo ins fuel q out).1.length = ins.length ∧ ∀ x ∈ (VM.heightsGo ins fuel q out).1, -1 ≤ x ∧ x ≤ 16
  | 0, q, out, h, _, _, _, _ => by omega
  | f + 1, [], out, _, _, hl, ho, _ => ⟨hl, ho⟩
  | f + 1, (at_, h) :: q, out, hp, hq, hl, ho, he => by
    unfold VM.heightsGo at he ⊢
    have hh := hq (at_, h) (by simp)
    simp only at hh
    have hq' : ∀ x ∈ q, 0 ≤ x.2 ∧ x.2 ≤ 16 := fun x hx => hq x (by simp [hx])
    simp only [List.length_cons] at hp
    generalize hm : (if 0 ≤ at_ then ins[at_.toNat]? else none) = m at *
    cases m with
    | none => simp at he
    | some i =>
      have hi : ins[at_.toNat]? = some i := by
        by_cases h0 : 0 ≤ at_
        · rwa [if_pos h0] at hm
        · rw [if_neg h0] at hm; cases hm
      have hlt : at_.toNat < out.length := by rw [hl]; exact (List.getElem?_eq_some_iff.1 hi).1
      simp only at he ⊢
      by_cases hs : 0 ≤ out.getD at_.toNat 0
      · rw [if_pos hs] at he ⊢
        by_cases hne : out.getD at_.toNat 0 ≠ h
        · rw [if_pos hne] at he; simp at he
        · rw [if_neg hne] at he ⊢
          exact zkz ins hc f q out (by omega) hq' hl ho he
      · rw [if_neg hs] at he ⊢
        have hb := zkk i (hc i (List.mem_of_getElem? hi))
        by_cases h1 : h < (VM.effect i).1 ∨ (i.op = 18 ∧ h ≠ 1)
        · rw [if_pos h1] at he; simp at he
        · rw [if_neg h1] at he ⊢
          by_cases h2 : 16 < h + (VM.effect i).2 - (VM.effect i).1
          · rw [if_pos h2] at he; simp at he
          · rw [if_neg h2] at he ⊢
            have hu := zoc (out := out) (k := at_.toNat) (h := h) hlt (by omega) hh.1
            refine zkz ins hc f _ _ ?_ ?_ (by simpa using hl) ?_ he
            · simp only [List.length_append]
              have l1 : (if i.op ≠ 15 ∧ i.op ≠ 18 then [(at_ + 1, h + (VM.effect i).2 - (VM.effect i).1)] else []).length ≤ 1 := by split <;> simp
              have l2 : (if i.op = 15 ∨ i.op = 16 then [(i.a, h + (VM.effect i).2 - (VM.effect i).1)] else []).length ≤ 1 := by split <;> simp
              omega
            · intro x hx
              simp only [List.mem_append] at hx
              rcases hx with (hx | hx) | hx
              · exact hq' x hx
              · split at hx
                · simp at hx; subst hx; constructor <;> simp only <;> omega
                · simp at hx
              · split at hx
                · simp at hx; subst hx; constructor <;> simp only <;> omega
                · simp at hx
            · intro x hx
              rcases List.mem_or_eq_of_mem_set hx with h9 | h9
              · exact ho x h9
              · omega
theorem zeh {ins : List Ins} (hc : Calm ins) (h : (VM.heights ins).2 = 0) : (VM.heights ins).1.length = ins.length ∧ ∀ x ∈ (VM.heights ins).1, -1 ≤ x ∧ x ≤ 16 := by
  refine zkz ins hc _ _ _ ?_ ?_ (by simp) ?_ h
  · unfold ziv; simp [List.countP_replicate]; omega
  · intro x hx; simp at hx; subst hx; simp
  · intro x hx; have := List.eq_of_mem_replicate hx; omega
theorem zbv {p : Prg} (h : VM.program p = 0) : (∀ c ∈ p.codes, VM.codeRange c = false ∧ Calm c.ins ∧ (VM.heights c.ins).2 = 0) ∧ p.codes.length ≤ 5 ∧ p.words.length ≤ 16 := by
  unfold VM.program at h
  by_cases h1 : p.codes.length < 1 ∨ 5 < p.codes.length
  · rw [if_pos h1] at h; omega
  rw [if_neg h1] at h
  by_cases h2 : 16 < p.words.length
  · rw [if_pos h2] at h; omega
  rw [if_neg h2] at h
  split at h
  · omega
  split at h
  · omega
  by_cases h5 : p.codes.any VM.codeRange = true
  · rw [if_pos h5] at h; omega
  rw [if_neg h5] at h
  have hr : ∀ x ∈ p.codes, VM.codeRange x = false := by simpa using h5
  refine ⟨fun c hc => ?_, by omega, by omega⟩
  have he := zax h c hc
  unfold VM.codeErr at he
  by_cases hn : VM.firstErr (VM.numbers p c) c.ins ≠ 0
  · rw [if_pos hn] at he; exact absurd he hn
  · rw [if_neg hn] at he
    exact ⟨hr c hc, zyd hr (zax (by omega)), he⟩
def zam (a : Agt) (vs st : List Val) (h : Int) : Int :=
  if h < 0 ∨ (st.length : Int) ≠ h then 10 else VM.firstErr (fun v => VM.wrong v a.heap.length) (vs ++ st)
def zft (a : Agt) (k : Nat) (c : Cod) (hs : List Int) (m : Nat) : Bool :=
  (!decide (k + 1 = a.frames.length) && (decide ((c.ins.getD (m - 1) ⟨0, 0, 0⟩).op ≠ 17) || decide ((c.ins.getD (m - 1) ⟨0, 0, 0⟩).a ≠ ((a.frames[k + 1]?).map (·.fn)).getD 0))) ||
    (decide (k + 1 = a.frames.length) && decide ((c.ins.getD (m - 1) ⟨0, 0, 0⟩).op ≠ 13)) || decide (hs.getD (m - 1) 0 < 0)
theorem zabs {a : Agt} {k n m : Nat} {away : Bool} {vs st : List Val} {c : Cod} {hs : List Int} {h : Int} (hf : a.frames[k]? = some ⟨(n : Int), (m : Int), vs, st⟩) (hc : a.prog.codes[n]? = some c)
    (hm : m < c.ins.length) (hvs : (vs.length : Int) = c.vars) (hhs : hs = (VM.heights c.ins).1) (hh : hs[m]? = some h) :
    VM.frame a k away = if (!decide (k + 1 = a.frames.length) || away) && (decide ((m : Int) = 0) || zft a k c hs m) then 10
      else zam a vs st (if (!decide (k + 1 = a.frames.length) || away) = true then h - 1 else h) := by
  have e1 : (VM.heights c.ins).1.getD m 0 = h := by rw [← hhs, List.getD_eq_getElem?_getD, hh]; rfl
  unfold VM.frame
  rw [hf]
  simp only [Int.toNat_natCast]
  rw [if_pos (by omega), hc]
  simp only
  rw [if_pos (by omega), List.getElem?_eq_getElem hm]
  simp only
  rw [if_neg (by omega), e1, ← hhs]
  rfl
end Go.Proofs.YtpbnaaoilgohkaaGreatDoor
set_option maxRecDepth 8000
namespace Go.Proofs.YtpbnaaoilgohkaaGreatDoor
namespace VM
def after (i : Ins) (h : Int) : Int := h + (effect i).2 - (effect i).1
def succs (at_ : Int) (i : Ins) (h : Int) : List (Int × Int) := (if i.op ≠ 15 ∧ i.op ≠ 18 then [(at_ + 1, after i h)] else []) ++ (if i.op = 15 ∨ i.op = 16 then [(i.a, after i h)] else [])
def there (hs : List Int) (x : Int × Int) : Prop := 0 ≤ x.1 ∧ hs[x.1.toNat]? = some x.2
structure HeiOk (ins : List Ins) (hs : List Int) : Prop where
  len : hs.length = ins.length
  start : there hs (0, 0)
  at_ : ∀ (m : Nat) (i : Ins) (h : Int), ins[m]? = some i → hs[m]? = some h → 0 ≤ h → (effect i).1 ≤ h ∧ (i.op = 18 → h = 1) ∧ after i h ≤ 16 ∧ ∀ x ∈ succs m i h, there hs x
structure HeiInv (ins : List Ins) (q : List (Int × Int)) (out : List Int) : Prop where
  len : out.length = ins.length
  start : (0, 0) ∈ q ∨ there out (0, 0)
  at_ : ∀ (m : Nat) (i : Ins) (h : Int), ins[m]? = some i → out[m]? = some h → 0 ≤ h → (effect i).1 ≤ h ∧ (i.op = 18 → h = 1) ∧ after i h ≤ 16 ∧ ∀ x ∈ succs m i h, x ∈ q ∨ there out x
theorem there_set {out : List Int} {k : Nat} {h : Int} {x : Int × Int} (hx : there out x) (hk : out.getD k 0 < 0) (h0 : 0 ≤ x.2) : there (out.set k h) x := by
  refine ⟨hx.1, ?_⟩
  by_cases e : x.1.toNat = k
  · subst e
    have := hx.2
    rw [List.getD_eq_getElem?_getD, this] at hk
    simp at hk; omega
  · rw [List.getElem?_set_ne (fun h => e h.symm)]; exact hx.2
theorem heightsGo_ok (ins : List Ins) (hc : Calm ins) : ∀ (fuel : Nat) (q : List (Int × Int)) (out : List Int), q.length + 2 * ziv out < fuel → (∀ x ∈ q, 0 ≤ x.2 ∧ x.2 ≤ 16) → HeiInv ins q out → (heightsGo ins fuel q out).2 = 0 → HeiOk ins (heightsGo ins fuel q out).1
  | 0, q, out, h, _, _, _ => by omega
  | f + 1, [], out, _, _, iv, _ => ⟨iv.len, by rcases iv.start with h | h; simp at h; exact h, fun m i h h1 h2 h3 => by
      obtain ⟨a, b, c, d⟩ := iv.at_ m i h h1 h2 h3
      exact ⟨a, b, c, fun x hx => (d x hx).resolve_left (by simp)⟩⟩
  | f + 1, (at_, h) :: q, out, hp, hq, iv, he => by
    unfold heightsGo at he ⊢
    have hh := hq (at_, h) (by simp)
    simp only at hh
    have hq' : ∀ x ∈ q, 0 ≤ x.2 ∧ x.2 ≤ 16 := fun x hx => hq x (by simp [hx])
    simp only [List.length_cons] at hp
    generalize hm : (if 0 ≤ at_ then ins[at_.toNat]? else none) = m at *
    cases m with
    | none => simp at he
    | some i =>
      obtain ⟨h0, hi⟩ : 0 ≤ at_ ∧ ins[at_.toNat]? = some i := by
        by_cases h0 : 0 ≤ at_
        · rw [if_pos h0] at hm; exact ⟨h0, hm⟩
        · rw [if_neg h0] at hm; cases hm
      have hl := iv.len
      have hlt : at_.toNat < out.length := by rw [hl]; exact (List.getElem?_eq_some_iff.1 hi).1
      have hget : out[at_.toNat]? = some out[at_.toNat] := List.getElem?_eq_getElem hlt
      have hgd : out.getD at_.toNat 0 = out[at_.toNat] := by rw [List.getD_eq_getElem?_getD, hget]; rfl
      simp only at he ⊢
      by_cases hs : 0 ≤ out.getD at_.toNat 0
      · rw [if_pos hs] at he ⊢
        by_cases hne : out.getD at_.toNat 0 ≠ h
        · rw [if_pos hne] at he; simp at he
        · rw [if_neg hne] at he ⊢
          have hth : there out (at_, h) := ⟨h0, by rw [hget, ← hgd]; simp only; rw [Classical.not_not.1 hne]⟩
          refine heightsGo_ok ins hc f q out (by omega) hq' ⟨hl, ?_, fun m j k h1 h2 h3 => ?_⟩ he
          · rcases iv.start with h | h
            · rcases List.mem_cons.1 h with h | h
              · rw [h]; exact .inr hth
              · exact .inl h
            · exact .inr h
          · obtain ⟨a, b, c, d⟩ := iv.at_ m j k h1 h2 h3
            refine ⟨a, b, c, fun x hx => ?_⟩
            rcases d x hx with h | h
            · rcases List.mem_cons.1 h with h | h
              · rw [h]; exact .inr hth
              · exact .inl h
            · exact .inr h
      · rw [if_neg hs] at he ⊢
        have hb := zkk i (hc i (List.mem_of_getElem? hi))
        by_cases h1 : h < (effect i).1 ∨ (i.op = 18 ∧ h ≠ 1)
        · rw [if_pos h1] at he; simp at he
        · rw [if_neg h1] at he ⊢
          by_cases h2 : 16 < h + (effect i).2 - (effect i).1
          · rw [if_pos h2] at he; simp at he
          · rw [if_neg h2] at he ⊢
            have hu := zoc (out := out) (k := at_.toNat) (h := h) hlt (by omega) hh.1
            have hth : there (out.set at_.toNat h) (at_, h) := ⟨h0, List.getElem?_set_self hlt⟩
            refine heightsGo_ok ins hc f _ _ ?_ ?_ ⟨by simpa using hl, ?_, ?_⟩ he
            · simp only [List.length_append]
              have l1 : (if i.op ≠ 15 ∧ i.op ≠ 18 then [(at_ + 1, h + (effect i).2 - (effect i).1)] else []).length ≤ 1 := by split <;> simp
              have l2 : (if i.op = 15 ∨ i.op = 16 then [(i.a, h + (effect i).2 - (effect i).1)] else []).length ≤ 1 := by split <;> simp
              omega
            · intro x hx
              simp only [List.mem_append] at hx
              rcases hx with (hx | hx) | hx
              · exact hq' x hx
              · split at hx
                · simp at hx; subst hx; constructor <;> simp only <;> omega
                · simp at hx
              · split at hx
                · simp at hx; subst hx; constructor <;> simp only <;> omega
                · simp at hx
            · rcases iv.start with h9 | h9
              · rcases List.mem_cons.1 h9 with h9 | h9
                · rw [h9]; exact .inr hth
                · exact .inl (by simp [h9])
              · exact .inr (there_set h9 (by omega) (Int.le_refl _))
            · intro m j k m1 m2 m3
              by_cases e : m = at_.toNat
              · subst e
                rw [hi] at m1
                cases m1
                rw [List.getElem?_set_self hlt] at m2
                cases m2
                have ea : ((at_.toNat : Nat) : Int) = at_ := Int.toNat_of_nonneg h0
                refine ⟨by omega, fun h18 => by omega, by unfold after; omega, fun x hx => .inl ?_⟩
                unfold succs after at hx
                rw [ea] at hx
                rw [List.append_assoc]
                exact List.mem_append_right _ hx
              · rw [List.getElem?_set_ne (fun h => e h.symm)] at m2
                obtain ⟨a, b, c, d⟩ := iv.at_ m j k m1 m2 m3
                have hbj := zkk j (hc j (List.mem_of_getElem? m1))
                refine ⟨a, b, c, fun x hx => ?_⟩
                have hx2 : 0 ≤ x.2 := by
                  have : x.2 = after j k := by
                    unfold succs at hx
                    rcases List.mem_append.1 hx with h | h
                    · split at h
                      · simp at h; rw [h]
                      · simp at h
                    · split at h
                      · simp at h; rw [h]
                      · simp at h
                  rw [this]; unfold after; omega
                rcases d x hx with h | h
                · rcases List.mem_cons.1 h with h | h
                  · rw [h]; exact .inr hth
                  · exact .inl (by simp [h])
                · exact .inr (there_set h (by omega) hx2)
theorem heights_ok {ins : List Ins} (hc : Calm ins) (h : (heights ins).2 = 0) : HeiOk ins (heights ins).1 := by
  refine heightsGo_ok ins hc _ _ _ ?_ ?_ ⟨by simp, .inl (by simp), fun m i k h1 h2 h3 => ?_⟩ h
  · unfold ziv; simp [List.countP_replicate]; omega
  · intro x hx; simp at hx; subst hx; simp
  · have := List.mem_of_getElem? h2
    have := List.eq_of_mem_replicate this
    omega
end VM
end Go.Proofs.YtpbnaaoilgohkaaGreatDoor
set_option maxRecDepth 8000
namespace Go.Proofs.YtpbnaaoilgohkaaGreatDoor
namespace VM
theorem WrongOk.mono {v : Val} {N M : Int} (h : WrongOk v N) (hn : N ≤ M) : WrongOk v M := ⟨h.kind, h.int, h.len, fun k => by have := h.cell k; omega, h.txt, h.non⟩
structure FrOk (p : Prg) (N : Nat) (f : Frm) : Prop where
  fn0 : 0 ≤ f.fn
  at0 : 0 ≤ f.at_
  code : f.fn.toNat < p.codes.length
  ins : f.at_.toNat < (codeAt p f.fn).ins.length
  vars : (f.vars.length : Int) = (codeAt p f.fn).vars
  vv : ∀ v ∈ f.vars, WrongOk v N
  sv : ∀ v ∈ f.stack, WrongOk v N
def hts (p : Prg) (f : Frm) : List Int := (heights (codeAt p f.fn).ins).1
def Still (p : Prg) (f : Frm) : Prop := (hts p f)[f.at_.toNat]? = some (f.stack.length : Int)
structure Waits (p : Prg) (f : Frm) (fn : Int) : Prop where
  pos : 0 < f.at_
  op : ((codeAt p f.fn).ins.getD (f.at_.toNat - 1) ⟨0, 0, 0⟩).op = 17
  to : ((codeAt p f.fn).ins.getD (f.at_.toNat - 1) ⟨0, 0, 0⟩).a = fn
  seen : 0 ≤ (hts p f).getD (f.at_.toNat - 1) 0
  hei : (hts p f)[f.at_.toNat]? = some ((f.stack.length : Int) + 1)
inductive WChain (p : Prg) : List Frm → Int → Prop
  | nil (fn : Int) : WChain p [] fn
  | snoc (gs : List Frm) (g : Frm) (fn : Int) : WChain p gs g.fn → Waits p g fn → WChain p (gs ++ [g]) fn
structure Live (a : Agt) (fs : List Frm) (f : Frm) : Prop where
  fr : a.frames = fs ++ [f]
  prog : program a.prog = 0
  id : 0 ≤ a.id ∧ a.id ≤ 1073741824
  trip : 0 ≤ a.trip ∧ a.trip ≤ 1073741824
  fuel : 0 ≤ a.permit.fuel ∧ a.permit.fuel ≤ 2000
  room : 0 ≤ a.permit.room
  hops : 0 ≤ a.permit.hops ∧ a.permit.hops ≤ 12
  flen : fs.length < 12
  hlen : (a.heap.length : Int) + a.permit.room ≤ 60
  ok : ∀ g ∈ fs ++ [f], FrOk a.prog a.heap.length g
  chain : WChain a.prog fs f.fn
  still : Still a.prog f
  cells : ∀ c ∈ a.heap, WrongOk c.left a.heap.length ∧ WrongOk c.right a.heap.length
structure Now (p : Prg) (f : Frm) (i : Ins) : Prop where
  at_ : (codeAt p f.fn).ins[f.at_.toNat]? = some i
  num : numbers p (codeAt p f.fn) i = 0
  pops : (effect i).1 ≤ f.stack.length
  ret : i.op = 18 → f.stack.length = 1
  most : after i f.stack.length ≤ 16
  next : ∀ x ∈ succs f.at_ i f.stack.length, there (hts p f) x
theorem code_mem {p : Prg} {n : Int} (h : n.toNat < p.codes.length) : codeAt p n ∈ p.codes := by
  unfold codeAt
  rw [List.getD_eq_getElem?_getD, List.getElem?_eq_getElem h]
  exact List.getElem_mem h
theorem program_nums {p : Prg} (h : program p = 0) : ∀ c ∈ p.codes, ∀ i ∈ c.ins, numbers p c i = 0 := by
  unfold program at h
  split at h
  · omega
  split at h
  · omega
  split at h
  · omega
  split at h
  · omega
  split at h
  · omega
  intro c hc i hi
  have he := zax h c hc
  unfold codeErr at he
  by_cases hn : firstErr (numbers p c) c.ins ≠ 0
  · rw [if_pos hn] at he; exact absurd he hn
  · exact zax (by omega) i hi
theorem Live.now {a : Agt} {fs : List Frm} {f : Frm} (l : Live a fs f) : Now a.prog f (insAt a.prog f) := by
  have ok := l.ok f (by simp)
  obtain ⟨pr, _⟩ := zbv l.prog
  obtain ⟨_, calm, hz⟩ := pr _ (code_mem ok.code)
  have hk := heights_ok calm hz
  have hi : (codeAt a.prog f.fn).ins[f.at_.toNat]? = some (insAt a.prog f) := by
    unfold insAt
    rw [List.getD_eq_getElem?_getD, List.getElem?_eq_getElem ok.ins]; rfl
  have ea : ((f.at_.toNat : Nat) : Int) = f.at_ := Int.toNat_of_nonneg ok.at0
  obtain ⟨h1, h2, h3, h4⟩ := hk.at_ _ _ _ hi l.still (by omega)
  rw [ea] at h4
  exact ⟨hi, program_nums l.prog _ (code_mem ok.code) _ (List.mem_of_getElem? hi), h1, fun h => by have := h2 h; omega, h3, h4⟩
theorem numbers_ok {p : Prg} {c : Cod} {i : Ins} (h : numbers p c i = 0) : 1 ≤ i.op ∧ i.op ≤ 19 ∧ numOk p c i = true ∧ (i.op ≠ 17 → i.b = 0) := by
  unfold numbers at h
  split at h
  · omega
  split at h
  · omega
  rename_i h1 h2
  refine ⟨by omega, by omega, ?_, fun hb => ?_⟩
  · cases hn : numOk p c i with
    | true => rfl
    | false => exact absurd (.inl hn) h2
  · exact Classical.byContradiction fun hx => h2 (.inr ⟨hb, hx⟩)
theorem firstErr_app {α : Type} {f : α → Int} {l m : List α} (h : firstErr f (l ++ m) = 0) : (∀ x ∈ l, f x = 0) ∧ ∀ x ∈ m, f x = 0 := by
  have := zax h
  exact ⟨fun x hx => this x (by simp [hx]), fun x hx => this x (by simp [hx])⟩
theorem chain_of {p : Prg} {l : List Frm} : ∀ (k : Nat) (f : Frm), l[k]? = some f → (∀ (j : Nat) (g : Frm), j < k → l[j]? = some g → Waits p g (((l[j + 1]?).map (·.fn)).getD 0)) → WChain p (l.take k) f.fn
  | 0, f, _, _ => by rw [List.take_zero]; exact .nil _
  | k + 1, f, hf, hw => by
    have hk : k < l.length := by have := (List.getElem?_eq_some_iff.1 hf).1; omega
    have hg : l[k]? = some l[k] := List.getElem?_eq_getElem hk
    have ih := chain_of (p := p) k l[k] hg fun j g hj hjg => hw j g (by omega) hjg
    have w := hw k _ (by omega) hg
    rw [hf] at w
    have e : l.take (k + 1) = l.take k ++ [l[k]] := by rw [List.take_add_one, hg]; rfl
    rw [e]
    exact .snoc _ _ _ ih w
end VM
end Go.Proofs.YtpbnaaoilgohkaaGreatDoor
set_option maxRecDepth 8000
namespace Go.Proofs.YtpbnaaoilgohkaaGreatDoor
namespace VM
theorem hts_len {p : Prg} {f : Frm} (hp : program p = 0) (hc : f.fn.toNat < p.codes.length) : (hts p f).length = (codeAt p f.fn).ins.length := by
  obtain ⟨pr, _⟩ := zbv hp
  obtain ⟨_, calm, hz⟩ := pr _ (code_mem hc)
  exact (zeh calm hz).1
theorem FrOk.mono {p : Prg} {N M : Nat} {f : Frm} (h : FrOk p N f) (hn : N ≤ M) : FrOk p M f :=
  ⟨h.fn0, h.at0, h.code, h.ins, h.vars, fun v hv => (h.vv v hv).mono (by omega), fun v hv => (h.sv v hv).mono (by omega)⟩
theorem Live.on {a : Agt} {fs : List Frm} {f : Frm} (l : Live a fs f) {k : Int} {vs st : List Val} {h : List Cl} {m : Pmt} (hk : there (hts a.prog f) (k, st.length)) (hvl : vs.length = f.vars.length) (hv : ∀ v ∈ vs, WrongOk v h.length) (hs : ∀ v ∈ st, WrongOk v h.length)
    (hh : a.heap.length ≤ h.length) (hc : ∀ c ∈ h, WrongOk c.left h.length ∧ WrongOk c.right h.length) (m1 : 0 ≤ m.fuel ∧ m.fuel ≤ 2000) (m2 : 0 ≤ m.room) (m3 : 0 ≤ m.hops ∧ m.hops ≤ 12) (hl : (h.length : Int) + m.room ≤ 60) :
    Live { a with frames := fs ++ [⟨f.fn, k, vs, st⟩], heap := h, permit := m } fs ⟨f.fn, k, vs, st⟩ := by
  have ok := l.ok f (by simp)
  obtain ⟨k0, k1⟩ := hk
  have klt := (List.getElem?_eq_some_iff.1 k1).1
  rw [hts_len l.prog ok.code] at klt
  refine ⟨rfl, l.prog, l.id, l.trip, m1, m2, m3, l.flen, hl, fun g hg => ?_, l.chain, k1, hc⟩
  rcases List.mem_append.1 hg with hg | hg
  · exact (l.ok g (by simp [hg])).mono hh
  · simp only [List.mem_singleton] at hg
    subst hg
    exact ⟨ok.fn0, k0, ok.code, klt, by have := ok.vars; simp only; omega, hv, hs⟩
theorem WChain.last {p : Prg} {gs : List Frm} {g : Frm} {fn : Int} (h : WChain p (gs ++ [g]) fn) : WChain p gs g.fn ∧ Waits p g fn := by
  generalize hl : gs ++ [g] = l at h
  cases h with
  | nil => simp at hl
  | snoc gs' g' _ h1 h2 =>
    obtain ⟨rfl, h⟩ := List.append_inj' hl rfl
    cases h
    exact ⟨h1, h2⟩
theorem Now.go {p : Prg} {f : Frm} {i : Ins} (n : Now p f i) (h1 : i.op ≠ 15) (h2 : i.op ≠ 18) : there (hts p f) (f.at_ + 1, after i f.stack.length) :=
  n.next _ (by unfold succs; simp [h1, h2])
end VM
end Go.Proofs.YtpbnaaoilgohkaaGreatDoor
set_option maxRecDepth 8000
namespace Go.Proofs.YtpbnaaoilgohkaaGreatDoor
open Go Go.RowKit
end Go.Proofs.YtpbnaaoilgohkaaGreatDoor
set_option maxRecDepth 8000
namespace Go.Proofs.YtpbnaaoilgohkaaGreatDoor
open Go Go.RowKit
@[simp] theorem zatr : eqsT 43 = true := by kernel_rfl
@[simp] theorem zasc : eqsT 45 = true := by kernel_rfl
end Go.Proofs.YtpbnaaoilgohkaaGreatDoor
set_option maxRecDepth 8000
namespace Go.Proofs.YtpbnaaoilgohkaaGreatDoor
open Go Go.RowKit
inductive Rn (R : Nat → Prop) (gn g0 : Nat) : AV → AV → Prop
  | same (v : AV) : Bel R v → Rn R gn g0 v v
  | slc (off len : Nat) : Rn R gn g0 (.slc gn off len) (.slc g0 off len)
  | ptr (off : Nat) : Rn R gn g0 (.ptr gn off) (.ptr g0 off)
  | amap : Rn R gn g0 (.amap gn) (.amap g0)
  | agg (xs ys : List AV) : ys.length = xs.length → (∀ (j : Nat) (v u : AV), xs[j]? = some v → ys[j]? = some u → Rn R gn g0 v u) → Rn R gn g0 (.agg xs) (.agg ys)
def RnO (R : Nat → Prop) (gn g0 : Nat) : AObj → AObj → Prop
  | .row s cs, .row s' ds => s' = s ∧ ds.length = cs.length ∧ ∀ (j : Nat) (v u : AV), cs[j]? = some v → ds[j]? = some u → Rn R gn g0 v u
  | .mp es, .mp fs => fs.length = es.length ∧ ∀ (j : Nat) (v u : AV × AV), es[j]? = some v → fs[j]? = some u → Rn R gn g0 v.1 u.1 ∧ Rn R gn g0 v.2 u.2
  | _, _ => False
theorem VRel.rn {K : zh} {ρ ρ2 : Nat → Loc} {A A2 R : Nat → Prop} {gn g0 : Nat} {v u : AV} {c : Value} (h : VRel K ρ A v c) (hr : Rn R gn g0 v u) (hR : ∀ g, R g → A g → ρ2 g = ρ g ∧ A2 g) (hA : ∀ g, R g → A g) (hg : ρ2 g0 = ρ gn ∧ A2 g0) : VRel K ρ2 A2 u c := by
  induction hr generalizing c with
  | same _ hb => exact (h.restrict hb).mono (fun _ _ h => h) fun g hg => hR g hg (hA g hg)
  | slc off len =>
    cases h with
    | slc _ _ _ cap a h1 h2 h3 => exact .slc g0 off len cap a hg.2 h2 (by rw [hg.1]; exact h3)
  | ptr off =>
    cases h with
    | ptr _ _ a h1 h2 => exact .ptr g0 off a hg.2 (by rw [hg.1]; exact h2)
  | amap =>
    cases h with
    | amap _ r h1 h2 => exact .amap g0 r hg.2 (by rw [hg.1]; exact h2)
  | agg xs ys hl _ ih =>
    cases h with
    | agg _ cs h1 h2 =>
      exact .agg ys cs (by omega) fun j u c hu hc => by
        have hlt := (List.getElem?_eq_some_iff.1 hu).1
        have hx : xs[j]? = some (xs[j]'(by omega)) := List.getElem?_eq_getElem (by omega)
        exact ih j _ u hx hu (h2 j _ c hx hc)
theorem zah.rn {K : zh} {ρ ρ2 : Nat → Loc} {A A2 R : Nat → Prop} {gn g0 : Nat} {o o' : AObj} {w : World} {l : Loc} (h : zah K ρ A w l o) (hr : RnO R gn g0 o o') (hR : ∀ g, R g → A g → ρ2 g = ρ g ∧ A2 g) (hA : ∀ g, R g → A g) (hg : ρ2 g0 = ρ gn ∧ A2 g0) : zah K ρ2 A2 w l o' := by
  cases o with
  | row s cs =>
    cases o' with
    | mp fs | it _ _ _ => exact hr.elim
    | row s' ds =>
      obtain ⟨rfl, hl, hc⟩ := hr
      obtain ⟨c, e, lo, hi, h1, h0, h2, h3, h4, h5⟩ := h
      refine ⟨c, e, lo, hi, h1, h0, h2, h3, by rw [hl]; exact h4, fun j u hu => ?_⟩
      have hj : j < cs.length := by have := (List.getElem?_eq_some_iff.1 hu).1; omega
      have hv : cs[j]? = some cs[j] := List.getElem?_eq_getElem hj
      obtain ⟨cv, a1, a2⟩ := h5 j _ hv
      exact ⟨cv, a1, a2.rn (hc j _ u hv hu) hR hA hg⟩
  | mp es =>
    cases o' with
    | row s' ds | it _ _ _ => exact hr.elim
    | mp fs =>
      obtain ⟨hl, hc⟩ := hr
      obtain ⟨en, cl, h1, h2, h3, h4⟩ := h
      refine ⟨en, cl, h1, by rw [hl]; exact h2, fun j u e hu he => ?_, h4⟩
      have hj : j < es.length := by have := (List.getElem?_eq_some_iff.1 hu).1; omega
      have hv : es[j]? = some es[j] := List.getElem?_eq_getElem hj
      obtain ⟨a1, a2⟩ := h3 j _ e hv he
      obtain ⟨b1, b2⟩ := hc j _ u hv hu
      exact ⟨a1.rn b1 hR hA hg, a2.rn b2 hR hA hg⟩
  | it _ _ _ => exact hr.elim
theorem zkp {D : zg} : ∀ {H : Heap} {g : Nat}, g ∉ domD D → (H.apply D) g = H g := by
  induction D with
  | nil => intros; rfl
  | cons d r ih =>
    obtain ⟨g', o⟩ := d
    intro H g hg
    simp only [domD, List.map_cons, List.mem_cons, not_or] at hg
    show ((H.put g' o).apply r) g = H g
    rw [ih (by simpa [domD] using hg.2), Heap.put_ne _ _ hg.1]
theorem LC.of_calls1 {P : Program} {f : FuncId} {args : List AV} {r : AV} {H0 : Heap} {rd : List Nat} {D : zg} {g0 : Nat} (hrd : ∀ g ∈ rd, (H0 g).isSome = true) (hdom : ∀ g ∈ domD D, g ∈ rd ∨ g = g0)
    (h : ∀ H nx, (∀ g ∈ rd, H g = H0 g ∧ g < nx) → za P f args H nx fun v H' nx' => ∃ gn, nx ≤ gn ∧ gn < nx' ∧ Rn (fun x => x ∈ rd) gn g0 v r ∧ (∀ g, g < nx → g ∉ domD D → H' g = H g) ∧
      (∀ g o, g ∈ domD D → g ≠ g0 → (H.apply D) g = some o → ∃ o', H' g = some o' ∧ RnO (fun x => x ∈ rd) gn g0 o' o) ∧ (∃ o o', (H.apply D) g0 = some o ∧ H' gn = some o' ∧ RnO (fun x => x ∈ rd) gn g0 o' o)) : LC P f args H0 rd [g0] D r := by
  intro A ρ H w cargs ⟨N0, hN0⟩ s ha hag hfresh
  obtain ⟨N, hN, hg0N⟩ : ∃ N, (∀ g, A g → g < N) ∧ g0 < N := ⟨max N0 (g0 + 1), fun g hg => by have := hN0 g hg; omega, by omega⟩
  have hg0 : ¬ A g0 := hfresh g0 (by simp)
  have sN : Sim (· < N) ρ H w := ⟨fun g o ho => hN g (s.live g o ho), fun g o ho => (s.obj g o ho).mono rfl (fun _ _ h => h) (fun g hg => ⟨rfl, hN g hg⟩), s.inj, s.lay⟩
  have aN : LRel (Kof ρ H w) ρ (· < N) args cargs.toList := ⟨ha.1, fun j v c hv hc => (ha.2 j v c hv hc).mono (fun _ _ h => h) (fun g hg => ⟨rfl, hN g hg⟩)⟩
  have hrdA : ∀ g ∈ rd, A g := fun g hg => by
    obtain ⟨o, ho⟩ := Option.isSome_iff_exists.1 (hrd g hg)
    exact s.live g o ((hag g hg).trans ho)
  refine zj (h H N (fun g hg => ⟨hag g hg, hN g (hrdA g hg)⟩) ρ w cargs sN aN) fun cv w' ⟨v, H', nx', ρ', ⟨gn, hgN, hgn, hv, hsame, hchg, onew, onew', hn1, hn2, hn3⟩, q3, q4, q5⟩ => ?_
  have hρ : ∀ g, g < N → ρ' g = ρ g := fun g hg => (q5.agree g hg).1
  let ρ2 : Nat → Loc := fun g => if g = g0 then ρ' gn else ρ' g
  have h20 : ρ2 g0 = ρ' gn := if_pos rfl
  have h2 : ∀ g, g ≠ g0 → ρ2 g = ρ' g := fun g hg => if_neg hg
  have hAne : ∀ g, A g → g ≠ g0 := fun g hg e => hg0 (e ▸ hg)
  have hR : ∀ g, g ∈ rd → g < nx' → ρ2 g = ρ' g ∧ (A g ∨ g ∈ [g0]) := fun g hg _ => ⟨h2 g (hAne g (hrdA g hg)), .inl (hrdA g hg)⟩
  have hRA : ∀ g, g ∈ rd → g < nx' := fun g hg => by have := hN g (hrdA g hg); omega
  have hG : ρ2 g0 = ρ' gn ∧ (A g0 ∨ g0 ∈ [g0]) := ⟨h20, .inr (by simp)⟩
  -- who stands for whom
  have lv : ∀ g o, (H.apply D) g = some o → (A g ∨ g ∈ [g0]) ∧ ∃ g' o', H' g' = some o' ∧ ρ2 g = ρ' g' ∧ (g = g0 → g' = gn) ∧ (g ≠ g0 → g' = g ∧ A g) ∧
      (∀ K, zah K ρ' (· < nx') w' (ρ' g') o' → zah K ρ2 (fun x => A x ∨ x ∈ [g0]) w' (ρ2 g) o) := fun g o ho => by
    by_cases hgg : g = g0
    · subst hgg
      rw [hn1] at ho
      obtain rfl := Option.some.inj ho
      exact ⟨.inr (by simp), gn, onew', hn2, h20, fun _ => rfl, fun h => absurd rfl h, fun K hk => by rw [h20]; exact hk.rn hn3 hR hRA hG⟩
    · by_cases hg : g ∈ domD D
      · obtain ⟨o', h1, h3⟩ := hchg g o hg hgg ho
        have hA : A g := by
          rcases hdom g hg with h | h
          · exact hrdA g h
          · exact absurd h hgg
        exact ⟨.inl hA, g, o', h1, h2 g hgg, fun h => absurd h hgg, fun _ => ⟨rfl, hA⟩, fun K hk => by rw [h2 g hgg]; exact hk.rn h3 hR hRA hG⟩
      · rw [zkp hg] at ho
        have hA := s.live g o ho
        refine ⟨.inl hA, g, o, by rw [hsame g (hN g hA) hg]; exact ho, h2 g hgg, fun h => absurd h hgg, fun _ => ⟨rfl, hA⟩, fun K hk => ?_⟩
        rw [h2 g hgg]
        exact (hk.restrict (s.obj g o ho).bel).mono rfl (fun _ _ h => h) (fun x hx => ⟨h2 x (hAne x hx), .inl hx⟩)
  have hK : ∀ b o, Kof ρ' H' w' b = some o → Kof ρ2 (H.apply D) w' b = some o := fun b o hb => by
    obtain ⟨k1, k2⟩ := zo.1 hb
    refine zo.2 ⟨fun g hg => ?_, k2⟩
    obtain ⟨o1, ho1⟩ := Option.isSome_iff_exists.1 hg
    obtain ⟨_, g', o', e1, e2, _⟩ := lv g o1 ho1
    rw [e2]
    exact k1 g' (by rw [e1]; rfl)
  refine ⟨ρ2, ⟨fun g o ho => (lv g o ho).1, fun g o ho => ?_, fun x y hx hy hxy => ?_, q3.lay.mono hK⟩, ?_, ⟨fun g hg => ⟨(h2 g (hAne g hg)).trans (hρ g (hN g hg)), .inl hg⟩, fun b o hb => hK b o (q5.k b o hb), q5.os, q5.tape, q5.output, q5.size⟩⟩
  · obtain ⟨_, g', o', e1, _, _, _, e4⟩ := lv g o ho
    exact (e4 _ (q3.obj g' o' e1)).mono rfl hK (fun _ h => ⟨rfl, h⟩)
  · obtain ⟨o1, ho1⟩ := Option.isSome_iff_exists.1 hx
    obtain ⟨o2, ho2⟩ := Option.isSome_iff_exists.1 hy
    obtain ⟨_, x', p1, e1, e2, e3, e4, _⟩ := lv x o1 ho1
    obtain ⟨_, y', p2, f1, f2, f3, f4, _⟩ := lv y o2 ho2
    rw [e2, f2] at hxy
    have hxy' := q3.inj x' y' (by rw [e1]; rfl) (by rw [f1]; rfl) hxy
    by_cases hx0 : x = g0
    · by_cases hy0 : y = g0
      · rw [hx0, hy0]
      · have := (f4 hy0).1
        have hAy := hN y (f4 hy0).2
        have := e3 hx0
        omega
    · by_cases hy0 : y = g0
      · have := (e4 hx0).1
        have hAx := hN x (e4 hx0).2
        have := f3 hy0
        omega
      · rw [← (e4 hx0).1, ← (f4 hy0).1]; exact hxy'
  · exact (q4.rn hv hR hRA hG).mono hK (fun g hg => ⟨rfl, hg⟩)
end Go.Proofs.YtpbnaaoilgohkaaGreatDoor
