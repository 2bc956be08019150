/- What is to be shown of each function, written out. -/
import Derived.Test.YtpbnaaoilgohkaaG7
import Derived.Test.YtpbnaaoilgohkaaG6
set_option linter.unusedSimpArgs false
set_option linter.unusedVariables false
set_option maxRecDepth 8000
namespace Go.Proofs.Ytpbnaaoilgohkaa
open Go Go.RowKit
def zie (Q : QT) (K5 : J3) (xs6 : List AV) (H7 : Heap) (nx8 : Nat) : Prop :=
 BI .geq (nth xs6 1) (.int .u64 128) fun v9 =>
 CNDC v9
 (CV .u8 (nth xs6 1) fun v10 =>
 BI .or v10 (.int .u8 128) fun v11 =>
 BSL 1 1 [.int .u8 0] [(0, v11)] fun cells12 =>
 PUTH H7 nx8 (.row 1 cells12) fun H13 =>
 APP 1 1 (nth xs6 0) (.slc nx8 0 1) H13 (nx8 + 1) fun v14 H15 nx16 =>
 BI .shr (nth xs6 1) (.int .u64 7) fun v17 =>
 K5 [v14, v17] H15 nx16)
 (CV .u8 (nth xs6 1) fun v18 =>
 BSL 1 1 [.int .u8 0] [(0, v18)] fun cells19 =>
 PUTH H7 nx8 (.row 1 cells19) fun H20 =>
 APP 1 1 (nth xs6 0) (.slc nx8 0 1) H20 (nx8 + 1) fun v21 H22 nx23 =>
 Q v21 H22 nx23)
def zsr (a0 a1 : AV) (H : Heap) (nx : Nat) (Q : QT) : Prop :=
 CV .u64 a1 fun v1 =>
 BI .shl v1 (.int .u64 1) fun v2 =>
 BI .lss a1 (.int .i64 0) fun v3 =>
 CNDC v3
 (UO .xor v2 fun v4 =>
 LP (zie Q) [a0, v4] H nx)
 (LP (zie Q) [a0, v2] H nx)
theorem zabt (a0 a1 : AV) (H : Heap) (nx : Nat) (Q : QT) : zsr a0 a1 H nx Q → za Try.prog 43 [a0, a1] H nx Q :=
  zc (lv := lvOf [(2, 4, [0, 5])]) (c := zi Try.f43) zn zp zo Try.func43 (by kernel_rfl) (by kernel_rfl) (by kernel_rfl) (by kernel_rfl) (by kernel_rfl)
def zkz (xs3 : List AV) (K2 : J3) (v12 : AV) (H13 : Heap) (nx14 : Nat) : Prop :=
 NC (nth xs3 0) fun v15 =>
 FA 0 v15 fun v16 =>
 ST 1 v16 v12 H13 fun H17 =>
 BI .add (nth xs3 3) (.int .i64 1) fun v18 =>
 K2 [nth xs3 0, nth xs3 1, nth xs3 2, v18] H17 nx14
def zfd (Q : QT) (K2 : J3) (xs3 : List AV) (H4 : Heap) (nx5 : Nat) : Prop :=
 BI .lss (nth xs3 3) (nth xs3 2) fun v6 =>
 CNDC v6
 (IA 1 (nth xs3 1) (nth xs3 3) fun v7 =>
 LD false 1 v7 H4 fun v8 =>
 NC (nth xs3 0) fun v9 =>
 FA 0 v9 fun v10 =>
 LD false 1 v10 H4 fun v11 =>
 za Try.prog 43 [v11, v8] H4 nx5 (zkz xs3 K2))
 (Q (.tup []) H4 nx5)
def zky (a0 a1 : AV) (H : Heap) (nx : Nat) (Q : QT) : Prop :=
 LNL a1 fun v1 =>
 LP (zfd Q) [a0, a1, v1, .int .i64 0] H nx
theorem zpz (a0 a1 : AV) (H : Heap) (nx : Nat) (Q : QT) : zky a0 a1 H nx Q → za Try.prog 14 [a0, a1] H nx Q :=
  zc (lv := lvOf [(2, 1, [0, 6, 7, 8])]) (c := zi Try.f14) zn zp zo Try.func14 (by kernel_rfl) (by kernel_rfl) (by kernel_rfl) (by kernel_rfl) (by kernel_rfl)
def zwn (a1 : AV) (Q : QT) (v2 : AV) (H3 : Heap) (nx4 : Nat) : Prop :=
 APP 1 1 v2 a1 H3 nx4 fun v5 H6 nx7 =>
 Q v5 H6 nx7
def zwm (a0 a1 : AV) (H : Heap) (nx : Nat) (Q : QT) : Prop :=
 LNS a1 fun v1 =>
 za Try.prog 43 [a0, v1] H nx (zwn a1 Q)
theorem zaag (a0 a1 : AV) (H : Heap) (nx : Nat) (Q : QT) : zwm a0 a1 H nx Q → za Try.prog 44 [a0, a1] H nx Q :=
  zc (lv := lvOf []) (c := zi Try.f44) zn zp zo Try.func44 (by kernel_rfl) (by kernel_rfl) (by kernel_rfl) (by kernel_rfl) (by kernel_rfl)
def zhh (xs15 : List AV) (K14 : J3) (v24 : AV) (H25 : Heap) (nx26 : Nat) : Prop :=
 NC (nth xs15 0) fun v27 =>
 FA 0 v27 fun v28 =>
 ST 1 v28 v24 H25 fun H29 =>
 BI .add (nth xs15 4) (.int .i64 1) fun v30 =>
 K14 [nth xs15 0, nth xs15 1, nth xs15 2, nth xs15 3, v30] H29 nx26
def zhg (xs65 : List AV) (K64 : J3) (_ : AV) (H79 : Heap) (nx80 : Nat) : Prop :=
 BI .add (nth xs65 6) (.int .i64 1) fun v81 =>
 K64 [nth xs65 0, nth xs65 1, nth xs65 2, nth xs65 3, nth xs65 4, nth xs65 5, v81] H79 nx80
def zdq (K44 : J3) (K64 : J3) (xs65 : List AV) (H66 : Heap) (nx67 : Nat) : Prop :=
 BI .lss (nth xs65 6) (nth xs65 5) fun v68 =>
 CNDC v68
 (IA 3 (nth xs65 4) (nth xs65 6) fun v69 =>
 LD true 3 v69 H66 fun v70 =>
 PUTH H66 nx67 (.row 3 [.int .i64 0, .int .i64 0, .int .i64 0]) fun H71 =>
 ST 3 (.ptr nx67 0) v70 H71 fun H72 =>
 LD false 1 (.ptr nx67 0) H72 fun v73 =>
 LD false 1 (.ptr nx67 1) H72 fun v74 =>
 LD false 1 (.ptr nx67 2) H72 fun v75 =>
 BSL 3 1 [.int .i64 0] [(0, v73), (1, v74), (2, v75)] fun cells76 =>
 PUTH H72 (nx67 + 1) (.row 1 cells76) fun H77 =>
 za Try.prog 14 [nth xs65 0, .slc (nx67 + 1) 0 3] H77 (nx67 + 2) (zhg xs65 K64))
 (BI .add (nth xs65 3) (.int .i64 1) fun v82 =>
 K44 [nth xs65 0, nth xs65 1, nth xs65 2, v82] H66 nx67)
def zhf (nx47 : Nat) (K44 : J3) (xs45 : List AV) (_ : AV) (H60 : Heap) (nx61 : Nat) : Prop :=
 LD false 1 (.ptr nx47 2) H60 fun v62 =>
 LNL v62 fun v63 =>
 LP (zdq K44) [nth xs45 0, nth xs45 1, nth xs45 2, nth xs45 3, v62, v63, .int .i64 0] H60 nx61
def zci (Q : QT) (K44 : J3) (xs45 : List AV) (H46 : Heap) (nx47 : Nat) : Prop :=
 BI .lss (nth xs45 3) (nth xs45 2) fun v48 =>
 CNDC v48
 (IA 3 (nth xs45 1) (nth xs45 3) fun v49 =>
 LD true 3 v49 H46 fun v50 =>
 PUTH H46 nx47 (.row 3 [.int .i64 0, .int .i64 0, .nils]) fun H51 =>
 ST 3 (.ptr nx47 0) v50 H51 fun H52 =>
 LD false 1 (.ptr nx47 0) H52 fun v53 =>
 LD false 1 (.ptr nx47 1) H52 fun v54 =>
 LD false 1 (.ptr nx47 2) H52 fun v55 =>
 LNL v55 fun v56 =>
 BSL 3 1 [.int .i64 0] [(0, v53), (1, v54), (2, v56)] fun cells57 =>
 PUTH H52 (nx47 + 1) (.row 1 cells57) fun H58 =>
 za Try.prog 14 [nth xs45 0, .slc (nx47 + 1) 0 3] H58 (nx47 + 2) (zhf nx47 K44 xs45))
 (Q (.tup []) H46 nx47)
def zhe (xs15 : List AV) (Q : QT) (_ : AV) (H38 : Heap) (nx39 : Nat) : Prop :=
 NC (nth xs15 1) fun v40 =>
 FA 0 v40 fun v41 =>
 LD false 1 v41 H38 fun v42 =>
 LNL v42 fun v43 =>
 LP (zci Q) [nth xs15 0, v42, v43, .int .i64 0] H38 nx39
def zdp (Q : QT) (K14 : J3) (xs15 : List AV) (H16 : Heap) (nx17 : Nat) : Prop :=
 BI .lss (nth xs15 4) (nth xs15 3) fun v18 =>
 CNDC v18
 (IA 1 (nth xs15 2) (nth xs15 4) fun v19 =>
 LD false 1 v19 H16 fun v20 =>
 NC (nth xs15 0) fun v21 =>
 FA 0 v21 fun v22 =>
 LD false 1 v22 H16 fun v23 =>
 za Try.prog 44 [v23, v20] H16 nx17 (zhh xs15 K14))
 (NC (nth xs15 1) fun v31 =>
 FA 0 v31 fun v32 =>
 LD false 1 v32 H16 fun v33 =>
 LNL v33 fun v34 =>
 BSL 1 1 [.int .i64 0] [(0, v34)] fun cells35 =>
 PUTH H16 nx17 (.row 1 cells35) fun H36 =>
 za Try.prog 14 [nth xs15 0, .slc nx17 0 1] H36 (nx17 + 1) (zhe xs15 Q))
def zhd (a1 : AV) (Q : QT) (a0 : AV) (_ : AV) (H8 : Heap) (nx9 : Nat) : Prop :=
 NC a1 fun v10 =>
 FA 1 v10 fun v11 =>
 LD false 1 v11 H8 fun v12 =>
 LNL v12 fun v13 =>
 LP (zdp Q) [a0, a1, v12, v13, .int .i64 0] H8 nx9
def zhc (a0 a1 : AV) (H : Heap) (nx : Nat) (Q : QT) : Prop :=
 NC a1 fun v1 =>
 FA 1 v1 fun v2 =>
 LD false 1 v2 H fun v3 =>
 LNL v3 fun v4 =>
 BSL 1 1 [.int .i64 0] [(0, v4)] fun cells5 =>
 PUTH H nx (.row 1 cells5) fun H6 =>
 za Try.prog 14 [a0, .slc nx 0 1] H6 (nx + 1) (zhd a1 Q a0)
theorem zne (a0 a1 : AV) (H : Heap) (nx : Nat) (Q : QT) : zhc a0 a1 H nx Q → za Try.prog 15 [a0, a1] H nx Q :=
  zc (lv := lvOf [(2, 2, [0, 1, 21, 22, 23]), (2, 8, [0, 48, 49, 50]), (2, 12, [0, 48, 49, 50, 65, 66, 67])]) (c := zi Try.f15) zn zp zo Try.func15 (by kernel_rfl) (by kernel_rfl) (by kernel_rfl) (by kernel_rfl) (by kernel_rfl)
def zjr (a0 : AV) (H6 : Heap) (Q : QT) (nx7 : Nat) (v16 : AV) (_ : List Nat) (fr18 : List Nat) (D19 : zl) : Prop :=
 NC a0 fun v20 =>
 FA 0 v20 fun v21 =>
 zar 1 v21 v16 (H6.apply D19) fun _ _ fr24 D25 =>
 zb (domD D19) [] (
 Q (.tup []) ((H6.apply D19).apply D25) ((nx7 + fr18.length) + fr24.length))
def zjq (Q : QT) (v29 : AV) (H30 : Heap) (nx31 : Nat) : Prop :=
 Q (AV.tup []) H30 nx31
def zer (nx : Nat) (a0 : AV) (Q : QT) (_ : AV) (H6 : Heap) (nx7 : Nat) : Prop :=
 LD false 1 (.ptr nx 0) H6 fun v8 =>
 BI .eql v8 (.int .i64 1) fun v9 =>
 CNDC v9
 (NC a0 fun v10 =>
 FA 0 v10 fun v11 =>
 LDR false 1 v11 H6 fun v12 _ =>
 LDR false 1 (.ptr nx 2) H6 fun v14 _ =>
 zj Try.prog (.clo 44 []) [v12, v14] H6 nx7 (zjr a0 H6 Q nx7))
 (LD false 1 (.ptr nx 1) H6 fun v26 =>
 BSL 1 1 [.int .i64 0] [(0, v26)] fun cells27 =>
 PUTH H6 nx7 (.row 1 cells27) fun H28 =>
 za Try.prog 14 [a0, .slc nx7 0 1] H28 (nx7 + 1) (zjq Q))
def zjp (a0 a1 : AV) (H : Heap) (nx : Nat) (Q : QT) : Prop :=
 a1.sure = true ∧
 PUTH H nx (.row a1.cells.length a1.cells) fun H1 =>
 LD false 1 (.ptr nx 0) H1 fun v2 =>
 BSL 1 1 [.int .i64 0] [(0, v2)] fun cells3 =>
 PUTH H1 (nx + 1) (.row 1 cells3) fun H4 =>
 za Try.prog 14 [a0, .slc (nx + 1) 0 1] H4 (nx + 2) (zer nx a0 Q)
theorem zpo (a0 a1 : AV) (H : Heap) (nx : Nat) (Q : QT) : zjp a0 a1 H nx Q → za Try.prog 17 [a0, a1] H nx Q :=
  zc (lv := lvOf []) (c := zi Try.f17) zn zp zo Try.func17 (by kernel_rfl) (by kernel_rfl) (by kernel_rfl) (by kernel_rfl) (by kernel_rfl)
def zim (xs9 : List AV) (K8 : J3) (_ : AV) (H19 : Heap) (nx20 : Nat) : Prop :=
 BI .add (nth xs9 3) (.int .i64 1) fun v21 =>
 K8 [nth xs9 0, nth xs9 1, nth xs9 2, v21] H19 nx20
def zeh (Q : QT) (K8 : J3) (xs9 : List AV) (H10 : Heap) (nx11 : Nat) : Prop :=
 BI .lss (nth xs9 3) (nth xs9 2) fun v12 =>
 CNDC v12
 (IA 3 (nth xs9 1) (nth xs9 3) fun v13 =>
 LD true 3 v13 H10 fun v14 =>
 PUTH H10 nx11 (.row 3 [.int .i64 0, .int .i64 0, .str []]) fun H15 =>
 ST 3 (.ptr nx11 0) v14 H15 fun H16 =>
 LD true 3 (.ptr nx11 0) H16 fun v17 =>
 za Try.prog 17 [nth xs9 0, v17] H16 (nx11 + 1) (zim xs9 K8))
 (Q (.tup []) H10 nx11)
def zil (a1 : AV) (Q : QT) (a0 : AV) (_ : AV) (H5 : Heap) (nx6 : Nat) : Prop :=
 LNL a1 fun v7 =>
 LP (zeh Q) [a0, a1, v7, .int .i64 0] H5 nx6
def zik (a0 a1 : AV) (H : Heap) (nx : Nat) (Q : QT) : Prop :=
 LNL a1 fun v1 =>
 BSL 1 1 [.int .i64 0] [(0, v1)] fun cells2 =>
 PUTH H nx (.row 1 cells2) fun H3 =>
 za Try.prog 14 [a0, .slc nx 0 1] H3 (nx + 1) (zil a1 Q a0)
theorem zod (a0 a1 : AV) (H : Heap) (nx : Nat) (Q : QT) : zik a0 a1 H nx Q → za Try.prog 16 [a0, a1] H nx Q :=
  zc (lv := lvOf [(2, 2, [0, 11, 12, 13])]) (c := zi Try.f16) zn zp zo Try.func16 (by kernel_rfl) (by kernel_rfl) (by kernel_rfl) (by kernel_rfl) (by kernel_rfl)
def zza (xs3 : List AV) (K2 : J3) (v11 : AV) (H12 : Heap) (nx13 : Nat) : Prop :=
 BI .mul v11 (.int .u32 16777619) fun v14 =>
 BI .add (nth xs3 3) (.int .i64 1) fun v15 =>
 K2 [v14, nth xs3 1, nth xs3 2, v15] H12 nx13
def zsq (Q : QT) (K2 : J3) (xs3 : List AV) (H4 : Heap) (nx5 : Nat) : Prop :=
 BI .lss (nth xs3 3) (nth xs3 2) fun v6 =>
 CNDC v6
 (IA 1 (nth xs3 1) (nth xs3 3) fun v7 =>
 LD false 1 v7 H4 fun v8 =>
 CV .u32 v8 fun v9 =>
 BI .xor (nth xs3 0) v9 fun v10 =>
 za Try.prog 45 [v10, .int .i64 5] H4 nx5 (zza xs3 K2))
 (CV .i64 (nth xs3 0) fun v16 =>
 Q v16 H4 nx5)
def zyz (a0 : AV) (H : Heap) (nx : Nat) (Q : QT) : Prop :=
 LNL a0 fun v1 =>
 LP (zsq Q) [.int .u32 2166136261, a0, v1, .int .i64 0] H nx
theorem zabs (a0 : AV) (H : Heap) (nx : Nat) (Q : QT) : zyz a0 H nx Q → za Try.prog 18 [a0] H nx Q :=
  zc (lv := lvOf [(2, 3, [3, 6, 7, 8])]) (c := zi Try.f18) zn zp zo Try.func18 (by kernel_rfl) (by kernel_rfl) (by kernel_rfl) (by kernel_rfl) (by kernel_rfl)
def zud (xs32 : List AV) (K31 : J3) (_ : AV) (H53 : Heap) (nx54 : Nat) : Prop :=
 BI .add (nth xs32 4) (.int .i64 1) fun v55 =>
 K31 [nth xs32 0, nth xs32 1, nth xs32 2, nth xs32 3, v55] H53 nx54
def zuc (nx34 : Nat) (xs32 : List AV) (K31 : J3) (_ : AV) (H49 : Heap) (nx50 : Nat) : Prop :=
 LD false 1 (.ptr nx34 3) H49 fun v51 =>
 za Try.prog 16 [nth xs32 1, v51] H49 nx50 (zud xs32 K31)
def zub (nx34 : Nat) (xs32 : List AV) (K31 : J3) (_ : AV) (H45 : Heap) (nx46 : Nat) : Prop :=
 LD false 1 (.ptr nx34 2) H45 fun v47 =>
 za Try.prog 16 [nth xs32 1, v47] H45 nx46 (zuc nx34 xs32 K31)
def zua (xs68 : List AV) (K67 : J3) (_ : AV) (H82 : Heap) (nx83 : Nat) : Prop :=
 BI .add (nth xs68 3) (.int .i64 1) fun v84 =>
 K67 [nth xs68 0, nth xs68 1, nth xs68 2, v84] H82 nx83
def ztz (nx70 : Nat) (xs68 : List AV) (K67 : J3) (_ : AV) (H78 : Heap) (nx79 : Nat) : Prop :=
 LD true 3 (.ptr nx70 3) H78 fun v80 =>
 za Try.prog 17 [nth xs68 0, v80] H78 nx79 (zua xs68 K67)
def zty (xs68 : List AV) (Q : QT) (_ : AV) (H94 : Heap) (nx95 : Nat) : Prop :=
 NC (nth xs68 0) fun v96 =>
 FA 0 v96 fun v97 =>
 LD false 1 v97 H94 fun v98 =>
 Q v98 H94 nx95
def ztx (xs68 : List AV) (Q : QT) (v88 : AV) (H89 : Heap) (nx90 : Nat) : Prop :=
 BSL 1 1 [.int .i64 0] [(0, v88)] fun cells91 =>
 PUTH H89 nx90 (.row 1 cells91) fun H92 =>
 za Try.prog 14 [nth xs68 0, .slc nx90 0 1] H92 (nx90 + 1) (zty xs68 Q)
def zmc (Q : QT) (K67 : J3) (xs68 : List AV) (H69 : Heap) (nx70 : Nat) : Prop :=
 BI .lss (nth xs68 3) (nth xs68 2) fun v71 =>
 CNDC v71
 (IA 6 (nth xs68 1) (nth xs68 3) fun v72 =>
 LD true 6 v72 H69 fun v73 =>
 PUTH H69 nx70 (.row 6 [.int .i64 0, .int .i64 0, .str [], .int .i64 0, .int .i64 0, .str []]) fun H74 =>
 ST 6 (.ptr nx70 0) v73 H74 fun H75 =>
 LD true 3 (.ptr nx70 0) H75 fun v76 =>
 za Try.prog 17 [nth xs68 0, v76] H75 (nx70 + 1) (ztz nx70 xs68 K67))
 (NC (nth xs68 0) fun v85 =>
 FA 0 v85 fun v86 =>
 LD false 1 v86 H69 fun v87 =>
 za Try.prog 18 [v87] H69 nx70 (ztx xs68 Q))
def ztw (xs32 : List AV) (Q : QT) (_ : AV) (H62 : Heap) (nx63 : Nat) : Prop :=
 FA 5 (nth xs32 0) fun v64 =>
 LD false 1 v64 H62 fun v65 =>
 LNL v65 fun v66 =>
 LP (zmc Q) [nth xs32 1, v65, v66, .int .i64 0] H62 nx63
def zmb (Q : QT) (K31 : J3) (xs32 : List AV) (H33 : Heap) (nx34 : Nat) : Prop :=
 BI .lss (nth xs32 4) (nth xs32 3) fun v35 =>
 CNDC v35
 (IA 4 (nth xs32 2) (nth xs32 4) fun v36 =>
 LD true 4 v36 H33 fun v37 =>
 PUTH H33 nx34 (.row 4 [.int .i64 0, .int .i64 0, .nils, .nils]) fun H38 =>
 ST 4 (.ptr nx34 0) v37 H38 fun H39 =>
 LD false 1 (.ptr nx34 0) H39 fun v40 =>
 LD false 1 (.ptr nx34 1) H39 fun v41 =>
 BSL 2 1 [.int .i64 0] [(0, v40), (1, v41)] fun cells42 =>
 PUTH H39 (nx34 + 1) (.row 1 cells42) fun H43 =>
 za Try.prog 14 [nth xs32 1, .slc (nx34 + 1) 0 2] H43 (nx34 + 2) (zub nx34 xs32 K31))
 (FA 5 (nth xs32 0) fun v56 =>
 LD false 1 v56 H33 fun v57 =>
 LNL v57 fun v58 =>
 BSL 1 1 [.int .i64 0] [(0, v58)] fun cells59 =>
 PUTH H33 nx34 (.row 1 cells59) fun H60 =>
 za Try.prog 14 [nth xs32 1, .slc nx34 0 1] H60 (nx34 + 1) (ztw xs32 Q))
def ztv (nx5 : Nat) (Q : QT) (_ : AV) (H27 : Heap) (nx28 : Nat) : Prop :=
 LD false 1 (.ptr nx5 4) H27 fun v29 =>
 LNL v29 fun v30 =>
 LP (zmb Q) [.ptr nx5 0, .ptr (nx5 + 1) 0, v29, v30, .int .i64 0] H27 nx28
def zsh (nx5 : Nat) (Q : QT) (_ : AV) (H20 : Heap) (nx21 : Nat) : Prop :=
 LD false 1 (.ptr nx5 4) H20 fun v22 =>
 LNL v22 fun v23 =>
 BSL 1 1 [.int .i64 0] [(0, v23)] fun cells24 =>
 PUTH H20 nx21 (.row 1 cells24) fun H25 =>
 za Try.prog 14 [.ptr (nx5 + 1) 0, .slc nx21 0 1] H25 (nx21 + 1) (ztv nx5 Q)
def zsg (nx5 : Nat) (Q : QT) (v16 : AV) (H17 : Heap) (nx18 : Nat) : Prop :=
 za Try.prog 15 [AV.ptr (nx5 + 1) 0, AV.ptr nx5 2] H17 nx18 (zsh nx5 Q)
def zsf (Q : QT) (v3 : AV) (H4 : Heap) (nx5 : Nat) : Prop :=
 PUTH H4 nx5 (.row 9 [.int .i64 0, .int .i64 0, .nils, .nils, .nils, .nils, .int .i64 0, .int .i64 0, .int .i64 0]) fun H6 =>
 ST 9 (.ptr nx5 0) v3 H6 fun H7 =>
 true = true ∧
 PUTH H7 (nx5 + 1) (.row 1 [.nils]) fun H8 =>
 LD false 1 (.ptr nx5 0) H8 fun v9 =>
 LD false 1 (.ptr nx5 1) H8 fun v10 =>
 LD false 1 (.ptr nx5 6) H8 fun v11 =>
 LD false 1 (.ptr nx5 7) H8 fun v12 =>
 LD false 1 (.ptr nx5 8) H8 fun v13 =>
 BSL 5 1 [.int .i64 0] [(0, v9), (1, v10), (2, v11), (3, v12), (4, v13)] fun cells14 =>
 PUTH H8 (nx5 + 2) (.row 1 cells14) fun H15 =>
 za Try.prog 14 [.ptr (nx5 + 1) 0, .slc (nx5 + 2) 0 5] H15 (nx5 + 3) (zsg nx5 Q)
def ztu (a0 : AV) (H : Heap) (nx : Nat) (Q : QT) : Prop :=
 a0.sure = true ∧
 PUTH H nx (.row a0.cells.length a0.cells) fun H1 =>
 LD true 9 (.ptr nx 0) H1 fun v2 =>
 za Try.prog 13 [v2] H1 (nx + 1) (zsf Q)
theorem zyx (a0 : AV) (H : Heap) (nx : Nat) (Q : QT) : ztu a0 H nx Q → za Try.prog 5 [a0] H nx Q :=
  zc (lv := lvOf [(2, 7, [3, 4, 39, 40, 41]), (2, 15, [4, 68, 69, 70])]) (c := zi Try.f5) zn zp zo Try.func5 (by kernel_rfl) (by kernel_rfl) (by kernel_rfl) (by kernel_rfl) (by kernel_rfl)
def zfg (a0 a1 : AV) (H : Heap) (nx : Nat) (Q : QT) : Prop :=
 NC a0 fun v1 =>
 FA 1 v1 fun v2 =>
 LD false 1 v2 H fun v3 =>
 BI .eql v3 (.int .i64 0) fun v4 =>
 CNDC v4
 (NC a0 fun v5 =>
 FA 1 v5 fun v6 =>
 ST 1 v6 a1 H fun H7 =>
 Q (.tup []) H7 nx)
 (Q (.tup []) H nx)
theorem zqb (a0 a1 : AV) (H : Heap) (nx : Nat) (Q : QT) : zfg a0 a1 H nx Q → za Try.prog 30 [a0, a1] H nx Q :=
  zc (lv := lvOf []) (c := zi Try.f30) zn zp zo Try.func30 (by kernel_rfl) (by kernel_rfl) (by kernel_rfl) (by kernel_rfl) (by kernel_rfl)
def zbi (Q : QT) (K2 : J3) (xs3 : List AV) (H4 : Heap) (nx5 : Nat) : Prop :=
 BI .lss (nth xs3 3) (nth xs3 2) fun v6 =>
 CNDC v6
 (IA 1 (nth xs3 1) (nth xs3 3) fun v7 =>
 LD false 1 v7 H4 fun v8 =>
 BI .gtr (nth xs3 3) (.int .i64 9) fun v9 =>
 CND v9
 (Q (.tup [.int .i64 0, .int .i64 0, .int .i64 3]) H4 nx5)
 (BI .eql (nth xs3 3) (.int .i64 9) fun v10 =>
 CND v10
 (BI .gtr v8 (.int .u8 1) fun v11 =>
 CNDC v11
 (Q (.tup [.int .i64 0, .int .i64 0, .int .i64 3]) H4 nx5)
 (BI .and v8 (.int .u8 127) fun v12 =>
 CV .u64 v12 fun v13 =>
 BI .mul (.int .i64 7) (nth xs3 3) fun v14 =>
 BI .shl v13 v14 fun v15 =>
 BI .or (nth xs3 0) v15 fun v16 =>
 BI .geq v8 (.int .u8 128) fun v17 =>
 CNDC v17
 (BI .add (nth xs3 3) (.int .i64 1) fun v18 =>
 K2 [v16, nth xs3 1, nth xs3 2, v18] H4 nx5)
 (BI .eql v8 (.int .u8 0) fun v19 =>
 CND v19
 (BI .gtr (nth xs3 3) (.int .i64 0) fun v20 =>
 CNDC v20
 (Q (.tup [.int .i64 0, .int .i64 0, .int .i64 2]) H4 nx5)
 (BI .shr v16 (.int .u64 1) fun v21 =>
 CV .i64 v21 fun v22 =>
 BI .and v16 (.int .u64 1) fun v23 =>
 BI .eql v23 (.int .u64 1) fun v24 =>
 CNDC v24
 (UO .xor v22 fun v25 =>
 BI .add (nth xs3 3) (.int .i64 1) fun v26 =>
 Q (.tup [v25, v26, .int .i64 0]) H4 nx5)
 (BI .add (nth xs3 3) (.int .i64 1) fun v27 =>
 Q (.tup [v22, v27, .int .i64 0]) H4 nx5)))
 (BI .shr v16 (.int .u64 1) fun v28 =>
 CV .i64 v28 fun v29 =>
 BI .and v16 (.int .u64 1) fun v30 =>
 BI .eql v30 (.int .u64 1) fun v31 =>
 CNDC v31
 (UO .xor v29 fun v32 =>
 BI .add (nth xs3 3) (.int .i64 1) fun v33 =>
 Q (.tup [v32, v33, .int .i64 0]) H4 nx5)
 (BI .add (nth xs3 3) (.int .i64 1) fun v34 =>
 Q (.tup [v29, v34, .int .i64 0]) H4 nx5)))))
 (BI .and v8 (.int .u8 127) fun v35 =>
 CV .u64 v35 fun v36 =>
 BI .mul (.int .i64 7) (nth xs3 3) fun v37 =>
 BI .shl v36 v37 fun v38 =>
 BI .or (nth xs3 0) v38 fun v39 =>
 BI .geq v8 (.int .u8 128) fun v40 =>
 CNDC v40
 (BI .add (nth xs3 3) (.int .i64 1) fun v41 =>
 K2 [v39, nth xs3 1, nth xs3 2, v41] H4 nx5)
 (BI .eql v8 (.int .u8 0) fun v42 =>
 CND v42
 (BI .gtr (nth xs3 3) (.int .i64 0) fun v43 =>
 CNDC v43
 (Q (.tup [.int .i64 0, .int .i64 0, .int .i64 2]) H4 nx5)
 (BI .shr v39 (.int .u64 1) fun v44 =>
 CV .i64 v44 fun v45 =>
 BI .and v39 (.int .u64 1) fun v46 =>
 BI .eql v46 (.int .u64 1) fun v47 =>
 CNDC v47
 (UO .xor v45 fun v48 =>
 BI .add (nth xs3 3) (.int .i64 1) fun v49 =>
 Q (.tup [v48, v49, .int .i64 0]) H4 nx5)
 (BI .add (nth xs3 3) (.int .i64 1) fun v50 =>
 Q (.tup [v45, v50, .int .i64 0]) H4 nx5)))
 (BI .shr v39 (.int .u64 1) fun v51 =>
 CV .i64 v51 fun v52 =>
 BI .and v39 (.int .u64 1) fun v53 =>
 BI .eql v53 (.int .u64 1) fun v54 =>
 CNDC v54
 (UO .xor v52 fun v55 =>
 BI .add (nth xs3 3) (.int .i64 1) fun v56 =>
 Q (.tup [v55, v56, .int .i64 0]) H4 nx5)
 (BI .add (nth xs3 3) (.int .i64 1) fun v57 =>
 Q (.tup [v52, v57, .int .i64 0]) H4 nx5))))))
 (Q (.tup [.int .i64 0, .int .i64 0, .int .i64 8]) H4 nx5)
def zth (a0 : AV) (H : Heap) (nx : Nat) (Q : QT) : Prop :=
 LNL a0 fun v1 =>
 LP (zbi Q) [.int .u64 0, a0, v1, .int .i64 0] H nx
theorem zyu (a0 : AV) (H : Heap) (nx : Nat) (Q : QT) : zth a0 H nx Q → za Try.prog 47 [a0] H nx Q :=
  zc (lv := lvOf [(2, 3, [5, 9, 10, 11])]) (c := zi Try.f47) zn zp zo Try.func47 (by kernel_rfl) (by kernel_rfl) (by kernel_rfl) (by kernel_rfl) (by kernel_rfl)
def zlm (Q : QT) (v15 : AV) (H16 : Heap) (nx17 : Nat) : Prop :=
 Q (AV.int IntKind.i64 0) H16 nx17
def zfv (a0 : AV) (Q : QT) (v8 : AV) (H9 : Heap) (nx10 : Nat) : Prop :=
 EX v8 0 fun v11 =>
 EX v8 1 fun v12 =>
 EX v8 2 fun v13 =>
 BI .neq v13 (.int .i64 0) fun v14 =>
 CNDC v14
 (za Try.prog 30 [a0, v13] H9 nx10 (zlm Q))
 (NC a0 fun v18 =>
 FA 0 v18 fun v19 =>
 LD false 1 v19 H9 fun v20 =>
 SL 1 v20 (some v12) none H9 fun v21 =>
 NC a0 fun v22 =>
 FA 0 v22 fun v23 =>
 ST 1 v23 v21 H9 fun H24 =>
 Q v11 H24 nx10)
def zfu (a0 : AV) (H : Heap) (nx : Nat) (Q : QT) : Prop :=
 NC a0 fun v1 =>
 FA 1 v1 fun v2 =>
 LD false 1 v2 H fun v3 =>
 BI .neq v3 (.int .i64 0) fun v4 =>
 CNDC v4
 (Q (.int .i64 0) H nx)
 (NC a0 fun v5 =>
 FA 0 v5 fun v6 =>
 LD false 1 v6 H fun v7 =>
 za Try.prog 47 [v7] H nx (zfv a0 Q))
theorem zsv (a0 : AV) (H : Heap) (nx : Nat) (Q : QT) : zfu a0 H nx Q → za Try.prog 25 [a0] H nx Q :=
  zc (lv := lvOf []) (c := zi Try.f25) zn zp zo Try.func25 (by kernel_rfl) (by kernel_rfl) (by kernel_rfl) (by kernel_rfl) (by kernel_rfl)
def zcy (Q : QT) (v5 : AV) (H6 : Heap) (nx7 : Nat) : Prop :=
 Q (AV.int IntKind.i64 0) H6 nx7
def zcx (a0 : AV) (Q : QT) (a1 : AV) (v1 : AV) (H2 : Heap) (nx3 : Nat) : Prop :=
 BI .lss v1 (.int .i64 0) fun v4 =>
 CND v4
 (za Try.prog 30 [a0, .int .i64 4] H2 nx3 (zcy Q))
 (BI .gtr v1 a1 fun v8 =>
 CNDC v8
 (za Try.prog 30 [a0, .int .i64 4] H2 nx3 (zcy Q))
 (Q v1 H2 nx3))
def zjv (a0 a1 : AV) (H : Heap) (nx : Nat) (Q : QT) : Prop :=
 za Try.prog 25 [a0] H nx (zcx a0 Q a1)
theorem zpq (a0 a1 : AV) (H : Heap) (nx : Nat) (Q : QT) : zjv a0 a1 H nx Q → za Try.prog 27 [a0, a1] H nx Q :=
  zc (lv := lvOf []) (c := zi Try.f27) zn zp zo Try.func27 (by kernel_rfl) (by kernel_rfl) (by kernel_rfl) (by kernel_rfl) (by kernel_rfl)
def zcv (Q : QT) (a1 : AV) (a0 : AV) (v1 : AV) (H2 : Heap) (nx3 : Nat) : Prop :=
 EX v1 0 fun v4 =>
 EX v1 1 fun v5 =>
 EX v1 2 fun v6 =>
 BI .neq v6 (.int .i64 0) fun v7 =>
 CNDC v7
 (Q (.tup [.str [], .int .i64 0, v6]) H2 nx3)
 (BI .lss v4 (.int .i64 0) fun v8 =>
 CND v8
 (Q (.tup [.str [], .int .i64 0, .int .i64 4]) H2 nx3)
 (BI .gtr v4 a1 fun v9 =>
 CNDC v9
 (Q (.tup [.str [], .int .i64 0, .int .i64 4]) H2 nx3)
 (LNL a0 fun v10 =>
 BI .sub v10 v5 fun v11 =>
 BI .gtr v4 v11 fun v12 =>
 CNDC v12
 (Q (.tup [.str [], .int .i64 0, .int .i64 8]) H2 nx3)
 (BI .add v5 v4 fun v13 =>
 SL 1 a0 (some v5) (some v13) H2 fun v14 =>
 CBS v14 H2 fun v15 =>
 BI .add v5 v4 fun v16 =>
 Q (.tup [v15, v16, .int .i64 0]) H2 nx3))))
def zri (a0 a1 : AV) (H : Heap) (nx : Nat) (Q : QT) : Prop :=
 za Try.prog 47 [a0] H nx (zcv Q a1 a0)
theorem zwo (a0 a1 : AV) (H : Heap) (nx : Nat) (Q : QT) : zri a0 a1 H nx Q → za Try.prog 61 [a0, a1] H nx Q :=
  zc (lv := lvOf []) (c := zi Try.f61) zn zp zo Try.func61 (by kernel_rfl) (by kernel_rfl) (by kernel_rfl) (by kernel_rfl) (by kernel_rfl)
def zla (Q : QT) (v15 : AV) (H16 : Heap) (nx17 : Nat) : Prop :=
 Q (AV.str []) H16 nx17
def zff (a0 : AV) (Q : QT) (v8 : AV) (H9 : Heap) (nx10 : Nat) : Prop :=
 EX v8 0 fun v11 =>
 EX v8 1 fun v12 =>
 EX v8 2 fun v13 =>
 BI .neq v13 (.int .i64 0) fun v14 =>
 CNDC v14
 (za Try.prog 30 [a0, v13] H9 nx10 (zla Q))
 (NC a0 fun v18 =>
 FA 0 v18 fun v19 =>
 LD false 1 v19 H9 fun v20 =>
 SL 1 v20 (some v12) none H9 fun v21 =>
 NC a0 fun v22 =>
 FA 0 v22 fun v23 =>
 ST 1 v23 v21 H9 fun H24 =>
 Q v11 H24 nx10)
def zfe (a0 a1 : AV) (H : Heap) (nx : Nat) (Q : QT) : Prop :=
 NC a0 fun v1 =>
 FA 1 v1 fun v2 =>
 LD false 1 v2 H fun v3 =>
 BI .neq v3 (.int .i64 0) fun v4 =>
 CNDC v4
 (Q (.str []) H nx)
 (NC a0 fun v5 =>
 FA 0 v5 fun v6 =>
 LD false 1 v6 H fun v7 =>
 za Try.prog 61 [v7, a1] H nx (zff a0 Q))
theorem zqa (a0 a1 : AV) (H : Heap) (nx : Nat) (Q : QT) : zfe a0 a1 H nx Q → za Try.prog 48 [a0, a1] H nx Q :=
  zc (lv := lvOf []) (c := zi Try.f48) zn zp zo Try.func48 (by kernel_rfl) (by kernel_rfl) (by kernel_rfl) (by kernel_rfl) (by kernel_rfl)
def zhq (H8 : Heap) (nx9 : Nat) (v12 : AV) (xs7 : List AV) (v11 : AV) (rd13 : List Nat) (K6 : J3) (v14 : AV) (_ : List Nat) (fr16 : List Nat) (D17 : zl) : Prop :=
 BSL 1 1 [.str []] [(0, v14)] fun cells18 =>
 PUTH (H8.apply D17) (nx9 + fr16.length) (.row 1 cells18) fun H19 =>
 zy 1 16 v12 (.slc (nx9 + fr16.length) 0 1) H19 ((nx9 + fr16.length) + 1) fun v20 _ fr22 D23 =>
 FA 1 (nth xs7 2) fun v24 =>
 zar 1 v24 v20 (H19.apply D23) fun _ _ fr27 D28 =>
 zb (domD D17) [] (
 SOFT v11 v12 D17 rd13 (
 (nx9 + fr16.length) ∉ [] ∧
 (nx9 + fr16.length) ∉ rd13 ∧
 BI .add (nth xs7 4) (.int .i64 1) fun v29 =>
 K6 [nth xs7 0, nth xs7 1, nth xs7 2, nth xs7 3, v29] ((H19.apply D23).apply D28) ((((nx9 + fr16.length) + 1) + fr22.length) + fr27.length)))
def zhp (v58 : AV) (v62 : AV) (H52 : Heap) (D61 : zl) (D65 : zl) (nx53 : Nat) (fr60 : List Nat) (fr64 : List Nat) (v56 : AV) (xs51 : List AV) (v55 : AV) (rd57 : List Nat) (K50 : J3) (v66 : AV) (_ : List Nat) (fr68 : List Nat) (D69 : zl) : Prop :=
 BD (zz tab [(3, 0), (3, 1), (3, 2)]) [.int .i64 0, .int .i64 0, .int .i64 0] [(0, v58), (1, v62), (2, v66)] fun v70 =>
 BSL 1 3 [.int .i64 0, .int .i64 0, .int .i64 0] [(0, v70)] fun cells71 =>
 PUTH (((H52.apply D61).apply D65).apply D69) (((nx53 + fr60.length) + fr64.length) + fr68.length) (.row 3 cells71) fun H72 =>
 zy 3 24 v56 (.slc (((nx53 + fr60.length) + fr64.length) + fr68.length) 0 1) H72 ((((nx53 + fr60.length) + fr64.length) + fr68.length) + 1) fun v73 _ fr75 D76 =>
 FA 2 (nth xs51 3) fun v77 =>
 zar 1 v77 v73 (H72.apply D76) fun _ _ fr80 D81 =>
 zb (domD D61) [] (
 SOFT v55 v56 D61 rd57 (
 zb (domD D61) [] (
 zb (domD D61) [] (
 zb (domD D65) [] (
 SOFT v55 v56 D65 rd57 (
 zb (domD D61) [] (
 zb (domD D61) [] (
 zb (domD D65) [] (
 zb (domD D65) [] (
 zb (domD D69) [] (
 SOFT v55 v56 D69 rd57 (
 (((nx53 + fr60.length) + fr64.length) + fr68.length) ∉ [] ∧
 (((nx53 + fr60.length) + fr64.length) + fr68.length) ∉ rd57 ∧
 BI .add (nth xs51 7) (.int .i64 1) fun v82 =>
 K50 [nth xs51 0, nth xs51 1, nth xs51 2, nth xs51 3, nth xs51 4, nth xs51 5, nth xs51 6, v82] ((H72.apply D76).apply D81) ((((((nx53 + fr60.length) + fr64.length) + fr68.length) + 1) + fr75.length) + fr80.length)))))))))))))
def zho (xs51 : List AV) (H52 : Heap) (D61 : zl) (nx53 : Nat) (fr60 : List Nat) (v58 : AV) (v56 : AV) (v55 : AV) (rd57 : List Nat) (K50 : J3) (v62 : AV) (rd63 : List Nat) (fr64 : List Nat) (D65 : zl) : Prop :=
 zj Try.prog (AV.clo 25 []) [nth xs51 0] ((H52.apply D61).apply D65) ((nx53 + fr60.length) + fr64.length) (zhp v58 v62 H52 D61 D65 nx53 fr60 fr64 v56 xs51 v55 rd57 K50)
def zhn (xs51 : List AV) (H52 : Heap) (nx53 : Nat) (v56 : AV) (v55 : AV) (rd57 : List Nat) (K50 : J3) (v58 : AV) (rd59 : List Nat) (fr60 : List Nat) (D61 : zl) : Prop :=
 zj Try.prog (AV.clo 25 []) [nth xs51 0] (H52.apply D61) (nx53 + fr60.length) (zho xs51 H52 D61 nx53 fr60 v58 v56 v55 rd57 K50)
def zay (K33 : J3) (K50 : J3) (xs51 : List AV) (H52 : Heap) (nx53 : Nat) : Prop :=
 BI .lss (nth xs51 7) (nth xs51 6) fun v54 =>
 CNDC v54
 (FA 2 (nth xs51 3) fun v55 =>
 LDR false 1 v55 H52 fun v56 rd57 =>
 zj Try.prog (.clo 25 []) [nth xs51 0] H52 nx53 (zhn xs51 H52 nx53 v56 v55 rd57 K50))
 (FA 0 (nth xs51 2) fun v83 =>
 LD false 1 v83 H52 fun v84 =>
 LD true 3 (nth xs51 3) H52 fun v85 =>
 BSL 1 3 [.int .i64 0, .int .i64 0, .nils] [(0, v85)] fun cells86 =>
 PUTH H52 nx53 (.row 3 cells86) fun H87 =>
 APP 3 40 v84 (.slc nx53 0 1) H87 (nx53 + 1) fun v88 H89 nx90 =>
 FA 0 (nth xs51 2) fun v91 =>
 ST 1 v91 v88 H89 fun H92 =>
 BI .add (nth xs51 5) (.int .i64 1) fun v93 =>
 K33 [nth xs51 0, nth xs51 1, nth xs51 2, nth xs51 4, v93] H92 nx90)
def zhm (K33 : J3) (xs34 : List AV) (nx43 : Nat) (v47 : AV) (H48 : Heap) (nx49 : Nat) : Prop :=
 LP (zay K33) [nth xs34 0, nth xs34 1, nth xs34 2, AV.ptr nx43 0, nth xs34 3, nth xs34 4, v47, AV.int IntKind.i64 0] H48 nx49
def zhl (v38 : AV) (xs34 : List AV) (K33 : J3) (v41 : AV) (H42 : Heap) (nx43 : Nat) : Prop :=
 BD (zz tab [(3, 0), (3, 1), (46, 2)]) [.int .i64 0, .int .i64 0, .nils] [(0, v38), (1, v41)] fun v44 =>
 PUTH H42 nx43 (.row 3 [.int .i64 0, .int .i64 0, .nils]) fun H45 =>
 ST 3 (.ptr nx43 0) v44 H45 fun H46 =>
 za Try.prog 27 [nth xs34 0, .int .i64 200] H46 (nx43 + 1) (zhm K33 xs34 nx43)
def zhk (xs34 : List AV) (K33 : J3) (v38 : AV) (H39 : Heap) (nx40 : Nat) : Prop :=
 za Try.prog 25 [nth xs34 0] H39 nx40 (zhl v38 xs34 K33)
def zax (Q : QT) (K33 : J3) (xs34 : List AV) (H35 : Heap) (nx36 : Nat) : Prop :=
 BI .lss (nth xs34 4) (nth xs34 3) fun v37 =>
 CNDC v37
 (za Try.prog 25 [nth xs34 0] H35 nx36 (zhk xs34 K33))
 (LD true 2 (nth xs34 2) H35 fun v94 =>
 ST 2 (nth xs34 1) v94 H35 fun H95 =>
 LD true 2 (nth xs34 1) H95 fun v96 =>
 Q v96 H95 nx36)
def zdr (Q : QT) (xs7 : List AV) (v30 : AV) (H31 : Heap) (nx32 : Nat) : Prop :=
 LP (zax Q) [nth xs7 0, nth xs7 1, nth xs7 2, v30, AV.int IntKind.i64 0] H31 nx32
def zcj (Q : QT) (K6 : J3) (xs7 : List AV) (H8 : Heap) (nx9 : Nat) : Prop :=
 BI .lss (nth xs7 4) (nth xs7 3) fun v10 =>
 CNDC v10
 (FA 1 (nth xs7 2) fun v11 =>
 LDR false 1 v11 H8 fun v12 rd13 =>
 zj Try.prog (.clo 48 []) [nth xs7 0, .int .i64 12] H8 nx9 (zhq H8 nx9 v12 xs7 v11 rd13 K6))
 (za Try.prog 27 [nth xs7 0, .int .i64 5] H8 nx9 (zdr Q xs7))
def zhj (Q : QT) (a0 : AV) (nx : Nat) (v3 : AV) (H4 : Heap) (nx5 : Nat) : Prop :=
 LP (zcj Q) [a0, AV.ptr nx 0, AV.ptr (nx + 1) 0, v3, AV.int IntKind.i64 0] H4 nx5
def zhi (a0 : AV) (H : Heap) (nx : Nat) (Q : QT) : Prop :=
 PUTH H nx (.row 2 [.nils, .nils]) fun H1 =>
 PUTH H1 (nx + 1) (.row 2 [.nils, .nils]) fun H2 =>
 za Try.prog 27 [a0, .int .i64 16] H2 (nx + 2) (zhj Q a0 nx)
theorem znf (a0 : AV) (H : Heap) (nx : Nat) (Q : QT) : zhi a0 H nx Q → za Try.prog 26 [a0] H nx Q :=
  zc (lv := lvOf [(2, 3, [0, 2, 3, 6, 7]), (2, 7, [0, 2, 3, 18, 19]), (2, 10, [0, 2, 3, 4, 18, 19, 27, 28])]) (c := zi Try.f26) zn zp zo Try.func26 (by kernel_rfl) (by kernel_rfl) (by kernel_rfl) (by kernel_rfl) (by kernel_rfl)
def zju (nx4 : Nat) (nx : Nat) (Q : QT) (v10 : AV) (H11 : Heap) (nx12 : Nat) : Prop :=
 ST 1 (.ptr nx4 2) v10 H11 fun H13 =>
 LD true 3 (.ptr nx4 0) H13 fun v14 =>
 ST 3 (.ptr nx 0) v14 H13 fun H15 =>
 LD true 3 (.ptr nx 0) H15 fun v16 =>
 Q v16 H15 nx12
def zjt (nx4 : Nat) (nx : Nat) (Q : QT) (v17 : AV) (H18 : Heap) (nx19 : Nat) : Prop :=
 ST 1 (.ptr nx4 1) v17 H18 fun H20 =>
 LD true 3 (.ptr nx4 0) H20 fun v21 =>
 ST 3 (.ptr nx 0) v21 H20 fun H22 =>
 LD true 3 (.ptr nx 0) H22 fun v23 =>
 Q v23 H22 nx19
def zes (a0 : AV) (nx : Nat) (Q : QT) (v2 : AV) (H3 : Heap) (nx4 : Nat) : Prop :=
 BD (zz tab [(3, 0), (3, 1), (9, 2)]) [.int .i64 0, .int .i64 0, .str []] [(0, v2)] fun v5 =>
 PUTH H3 nx4 (.row 3 [.int .i64 0, .int .i64 0, .str []]) fun H6 =>
 ST 3 (.ptr nx4 0) v5 H6 fun H7 =>
 LD false 1 (.ptr nx4 0) H7 fun v8 =>
 BI .eql v8 (.int .i64 1) fun v9 =>
 CNDC v9
 (za Try.prog 48 [a0, .int .i64 60] H7 (nx4 + 1) (zju nx4 nx Q))
 (za Try.prog 25 [a0] H7 (nx4 + 1) (zjt nx4 nx Q))
def zjs (a0 : AV) (H : Heap) (nx : Nat) (Q : QT) : Prop :=
 PUTH H nx (.row 3 [.int .i64 0, .int .i64 0, .str []]) fun H1 =>
 za Try.prog 25 [a0] H1 (nx + 1) (zes a0 nx Q)
theorem zpp (a0 : AV) (H : Heap) (nx : Nat) (Q : QT) : zjs a0 H nx Q → za Try.prog 29 [a0] H nx Q :=
  zc (lv := lvOf []) (c := zi Try.f29) zn zp zo Try.func29 (by kernel_rfl) (by kernel_rfl) (by kernel_rfl) (by kernel_rfl) (by kernel_rfl)
def zip (xs5 : List AV) (K4 : J3) (v9 : AV) (H10 : Heap) (nx11 : Nat) : Prop :=
 BSL 1 3 [.int .i64 0, .int .i64 0, .str []] [(0, v9)] fun cells12 =>
 PUTH H10 nx11 (.row 3 cells12) fun H13 =>
 APP 3 32 (nth xs5 1) (.slc nx11 0 1) H13 (nx11 + 1) fun v14 H15 nx16 =>
 BI .add (nth xs5 3) (.int .i64 1) fun v17 =>
 K4 [nth xs5 0, v14, nth xs5 2, v17] H15 nx16
def zei (Q : QT) (K4 : J3) (xs5 : List AV) (H6 : Heap) (nx7 : Nat) : Prop :=
 BI .lss (nth xs5 3) (nth xs5 2) fun v8 =>
 CNDC v8
 (za Try.prog 29 [nth xs5 0] H6 nx7 (zip xs5 K4))
 (Q (nth xs5 1) H6 nx7)
def zio (Q : QT) (a0 : AV) (v1 : AV) (H2 : Heap) (nx3 : Nat) : Prop :=
 LP (zei Q) [a0, AV.nils, v1, AV.int IntKind.i64 0] H2 nx3
def zin (a0 a1 : AV) (H : Heap) (nx : Nat) (Q : QT) : Prop :=
 za Try.prog 27 [a0, a1] H nx (zio Q a0)
theorem zoe (a0 a1 : AV) (H : Heap) (nx : Nat) (Q : QT) : zin a0 a1 H nx Q → za Try.prog 28 [a0, a1] H nx Q :=
  zc (lv := lvOf [(2, 3, [0, 5, 8, 9])]) (c := zi Try.f28) zn zp zo Try.func28 (by kernel_rfl) (by kernel_rfl) (by kernel_rfl) (by kernel_rfl) (by kernel_rfl)
def zug (a0 a1 : AV) (H : Heap) (nx : Nat) (Q : QT) : Prop :=
 CBS a0 H fun v1 =>
 CBS a1 H fun v2 =>
 BS .eql v1 v2 fun v3 =>
 Q v3 H nx
theorem zyy (a0 a1 : AV) (H : Heap) (nx : Nat) (Q : QT) : zug a0 a1 H nx Q → za Try.prog 32 [a0, a1] H nx Q :=
  zc (lv := lvOf []) (c := zi Try.f32) zn zp zo Try.func32 (by kernel_rfl) (by kernel_rfl) (by kernel_rfl) (by kernel_rfl) (by kernel_rfl)
def ztt (nx41 : Nat) (xs32 : List AV) (K31 : J3) (v49 : AV) (H50 : Heap) (nx51 : Nat) : Prop :=
 ST 1 (.ptr nx41 3) v49 H50 fun H52 =>
 FA 4 (nth xs32 3) fun v53 =>
 LD false 1 v53 H52 fun v54 =>
 LD true 4 (.ptr nx41 0) H52 fun v55 =>
 BSL 1 4 [.int .i64 0, .int .i64 0, .nils, .nils] [(0, v55)] fun cells56 =>
 PUTH H52 nx51 (.row 4 cells56) fun H57 =>
 APP 4 64 v54 (.slc nx51 0 1) H57 (nx51 + 1) fun v58 H59 nx60 =>
 FA 4 (nth xs32 3) fun v61 =>
 ST 1 v61 v58 H59 fun H62 =>
 BI .add (nth xs32 5) (.int .i64 1) fun v63 =>
 K31 [nth xs32 0, nth xs32 1, nth xs32 2, nth xs32 3, nth xs32 4, v63] H62 nx60
def zts (nx41 : Nat) (xs32 : List AV) (K31 : J3) (v45 : AV) (H46 : Heap) (nx47 : Nat) : Prop :=
 ST 1 (.ptr nx41 2) v45 H46 fun H48 =>
 za Try.prog 28 [nth xs32 2, .int .i64 16] H48 nx47 (ztt nx41 xs32 K31)
def ztr (v36 : AV) (xs32 : List AV) (K31 : J3) (v39 : AV) (H40 : Heap) (nx41 : Nat) : Prop :=
 BD (zz tab [(3, 0), (3, 1), (43, 2), (43, 3)]) [.int .i64 0, .int .i64 0, .nils, .nils] [(0, v36), (1, v39)] fun v42 =>
 PUTH H40 nx41 (.row 4 [.int .i64 0, .int .i64 0, .nils, .nils]) fun H43 =>
 ST 4 (.ptr nx41 0) v42 H43 fun H44 =>
 za Try.prog 28 [nth xs32 2, .int .i64 8] H44 (nx41 + 1) (zts nx41 xs32 K31)
def ztq (xs32 : List AV) (K31 : J3) (v36 : AV) (H37 : Heap) (nx38 : Nat) : Prop :=
 za Try.prog 25 [nth xs32 2] H37 nx38 (ztr v36 xs32 K31)
def ztp (v80 : AV) (H76 : Heap) (nx74 : Nat) (v78 : AV) (xs68 : List AV) (v77 : AV) (rd79 : List Nat) (rd81 : List Nat) (K67 : J3) (v82 : AV) (_ : List Nat) (fr84 : List Nat) (D85 : zl) : Prop :=
 BD (zz tab [(55, 0), (55, 3)]) [.int .i64 0, .int .i64 0, .str [], .int .i64 0, .int .i64 0, .str []] [(0, v80), (1, v82)] fun v86 =>
 BSL 1 6 [.int .i64 0, .int .i64 0, .str [], .int .i64 0, .int .i64 0, .str []] [(0, v86)] fun cells87 =>
 PUTH (H76.apply D85) ((nx74 + 1) + fr84.length) (.row 6 cells87) fun H88 =>
 zy 6 64 v78 (.slc ((nx74 + 1) + fr84.length) 0 1) H88 (((nx74 + 1) + fr84.length) + 1) fun v89 _ fr91 D92 =>
 FA 5 (nth xs68 3) fun v93 =>
 zar 1 v93 v89 (H88.apply D92) fun _ _ fr96 D97 =>
 zb (domD D85) [] (
 SOFT v77 v78 D85 rd79 (
 zb (domD D85) rd81 (
 ((nx74 + 1) + fr84.length) ∉ [] ∧
 ((nx74 + 1) + fr84.length) ∉ rd79 ∧
 BI .add (nth xs68 5) (.int .i64 1) fun v98 =>
 K67 [nth xs68 0, nth xs68 1, nth xs68 2, nth xs68 3, nth xs68 4, v98] ((H88.apply D92).apply D97) (((((nx74 + 1) + fr84.length) + 1) + fr91.length) + fr96.length))))
def zto (xs68 : List AV) (K67 : J3) (v72 : AV) (H73 : Heap) (nx74 : Nat) : Prop :=
 PUTH H73 nx74 (.row 3 [.int .i64 0, .int .i64 0, .str []]) fun H75 =>
 ST 3 (.ptr nx74 0) v72 H75 fun H76 =>
 FA 5 (nth xs68 3) fun v77 =>
 LDR false 1 v77 H76 fun v78 rd79 =>
 LDR true 3 (.ptr nx74 0) H76 fun v80 rd81 =>
 zj Try.prog (.clo 29 []) [nth xs68 2] H76 (nx74 + 1) (ztp v80 H76 nx74 v78 xs68 v77 rd79 rd81 K67)
def ztn (xs106 : List AV) (Q : QT) (_ : AV) (H123 : Heap) (nx124 : Nat) : Prop :=
 NC (nth xs106 2) fun v125 =>
 FA 1 v125 fun v126 =>
 LD false 1 v126 H123 fun v127 =>
 BI .neq v127 (.int .i64 0) fun v128 =>
 CNDC v128
 (NC (nth xs106 2) fun v129 =>
 FA 1 v129 fun v130 =>
 LDR false 1 v130 H123 fun v131 rd132 =>
 zar 9 (nth xs106 1) (.agg [.int .i64 0, .int .i64 0, .nils, .nils, .nils, .nils, .int .i64 0, .int .i64 0, .int .i64 0]) H123 fun _ _ fr135 D136 =>
 zb (domD D136) [] (
 zb (domD D136) [] (
 zb (domD D136) [] (
 zb (domD D136) rd132 (
 LD true 9 (nth xs106 1) (H123.apply D136) fun v137 =>
 Q (.tup [v137, v131]) (H123.apply D136) (nx124 + fr135.length))))))
 (LD true 9 (nth xs106 3) H123 fun v138 =>
 ST 9 (nth xs106 1) v138 H123 fun H139 =>
 LD true 9 (nth xs106 1) H139 fun v140 =>
 Q (.tup [v140, .int .i64 0]) H139 nx124)
def zlz (xs106 : List AV) (Q : QT) (v118 : AV) (H119 : Heap) (nx120 : Nat) : Prop :=
 UO .not v118 fun v121 =>
 CNDC v121
 (za Try.prog 30 [nth xs106 2, .int .i64 2] H119 nx120 (ztn xs106 Q))
 (NC (nth xs106 2) fun v141 =>
 FA 1 v141 fun v142 =>
 LD false 1 v142 H119 fun v143 =>
 BI .neq v143 (.int .i64 0) fun v144 =>
 CNDC v144
 (NC (nth xs106 2) fun v145 =>
 FA 1 v145 fun v146 =>
 LDR false 1 v146 H119 fun v147 rd148 =>
 zar 9 (nth xs106 1) (.agg [.int .i64 0, .int .i64 0, .nils, .nils, .nils, .nils, .int .i64 0, .int .i64 0, .int .i64 0]) H119 fun _ _ fr151 D152 =>
 zb (domD D152) [] (
 zb (domD D152) [] (
 zb (domD D152) [] (
 zb (domD D152) rd148 (
 LD true 9 (nth xs106 1) (H119.apply D152) fun v153 =>
 Q (.tup [v153, v147]) (H119.apply D152) (nx120 + fr151.length))))))
 (LD true 9 (nth xs106 3) H119 fun v154 =>
 ST 9 (nth xs106 1) v154 H119 fun H155 =>
 LD true 9 (nth xs106 1) H155 fun v156 =>
 Q (.tup [v156, .int .i64 0]) H155 nx120))
def ztm (xs106 : List AV) (Q : QT) (v115 : AV) (H116 : Heap) (nx117 : Nat) : Prop :=
 za Try.prog 32 [v115, nth xs106 0] H116 nx117 (zlz xs106 Q)
def zgl (j109 : J3) (xs102 : List AV) (v181 : AV) (H182 : Heap) (nx183 : Nat) : Prop :=
 j109 [nth xs102 0, nth xs102 1, nth xs102 2, nth xs102 3] H182 nx183
def zse (xs102 : List AV) (j109 : J3) (v178 : AV) (H179 : Heap) (nx180 : Nat) : Prop :=
 za Try.prog 30 [nth xs102 2, v178] H179 nx180 (zgl j109 xs102)
def zha (Q : QT) (xs106 : List AV) (H107 : Heap) (nx108 : Nat) : Prop :=
 NC (nth xs106 2) fun v110 =>
 FA 1 v110 fun v111 =>
 LD false 1 v111 H107 fun v112 =>
 BI .eql v112 (.int .i64 0) fun v113 =>
 CND v113
 (LD true 9 (nth xs106 3) H107 fun v114 =>
 za Try.prog 5 [v114] H107 nx108 (ztm xs106 Q))
 (NC (nth xs106 2) fun v157 =>
 FA 1 v157 fun v158 =>
 LD false 1 v158 H107 fun v159 =>
 BI .neq v159 (.int .i64 0) fun v160 =>
 CNDC v160
 (NC (nth xs106 2) fun v161 =>
 FA 1 v161 fun v162 =>
 LDR false 1 v162 H107 fun v163 rd164 =>
 zar 9 (nth xs106 1) (.agg [.int .i64 0, .int .i64 0, .nils, .nils, .nils, .nils, .int .i64 0, .int .i64 0, .int .i64 0]) H107 fun _ _ fr167 D168 =>
 zb (domD D168) [] (
 zb (domD D168) [] (
 zb (domD D168) [] (
 zb (domD D168) rd164 (
 LD true 9 (nth xs106 1) (H107.apply D168) fun v169 =>
 Q (.tup [v169, v163]) (H107.apply D168) (nx108 + fr167.length))))))
 (LD true 9 (nth xs106 3) H107 fun v170 =>
 ST 9 (nth xs106 1) v170 H107 fun H171 =>
 LD true 9 (nth xs106 1) H171 fun v172 =>
 Q (.tup [v172, .int .i64 0]) H171 nx108))
def zma (xs102 : List AV) (H103 : Heap) (nx104 : Nat) (j109 : J3) : Prop :=
 NC (nth xs102 2) fun v173 =>
 FA 1 v173 fun v174 =>
 LD false 1 v174 H103 fun v175 =>
 BI .eql v175 (.int .i64 0) fun v176 =>
 CNDC v176
 (LD true 9 (nth xs102 3) H103 fun v177 =>
 za Try.prog 31 [v177, .bool true] H103 nx104 (zse xs102 j109))
 (j109 [nth xs102 0, nth xs102 1, nth xs102 2, nth xs102 3] H103 nx104)
def zgz (Q : QT) (xs102 : List AV) (H103 : Heap) (nx104 : Nat) : Prop :=
 JN (zha Q) (zma xs102 H103 nx104)
def zhb (xs68 : List AV) (H100 : Heap) (nx101 : Nat) (j105 : J3) : Prop :=
 NC (nth xs68 2) fun v184 =>
 FA 1 v184 fun v185 =>
 LD false 1 v185 H100 fun v186 =>
 BI .eql v186 (.int .i64 0) fun v187 =>
 CND v187
 (NC (nth xs68 2) fun v188 =>
 FA 0 v188 fun v189 =>
 LD false 1 v189 H100 fun v190 =>
 LNL v190 fun v191 =>
 BI .gtr v191 (.int .i64 0) fun v192 =>
 CNDC v192
 (za Try.prog 30 [nth xs68 2, .int .i64 2] H100 nx101 (zgl j105 xs68))
 (j105 [nth xs68 0, nth xs68 1, nth xs68 2, nth xs68 3] H100 nx101))
 (j105 [nth xs68 0, nth xs68 1, nth xs68 2, nth xs68 3] H100 nx101)
def zec (Q : QT) (xs68 : List AV) (v99 : AV) (H100 : Heap) (nx101 : Nat) : Prop :=
 JN (zgz Q) (zhb xs68 H100 nx101)
def zgy (Q : QT) (K67 : J3) (xs68 : List AV) (H69 : Heap) (nx70 : Nat) : Prop :=
 BI .lss (nth xs68 5) (nth xs68 4) fun v71 =>
 CNDC v71
 (za Try.prog 29 [nth xs68 2] H69 nx70 (zto xs68 K67))
 (za Try.prog 25 [nth xs68 2] H69 nx70 (zec Q xs68))
def zlb (Q : QT) (xs32 : List AV) (v64 : AV) (H65 : Heap) (nx66 : Nat) : Prop :=
 LP (zgy Q) [nth xs32 0, nth xs32 1, nth xs32 2, nth xs32 3, v64, AV.int IntKind.i64 0] H65 nx66
def zgx (Q : QT) (K31 : J3) (xs32 : List AV) (H33 : Heap) (nx34 : Nat) : Prop :=
 BI .lss (nth xs32 5) (nth xs32 4) fun v35 =>
 CNDC v35
 (za Try.prog 25 [nth xs32 2] H33 nx34 (ztq xs32 K31))
 (za Try.prog 27 [nth xs32 2, .int .i64 60] H33 nx34 (zlb Q xs32))
def zsd (Q : QT) (a0 : AV) (nx : Nat) (nx9 : Nat) (v28 : AV) (H29 : Heap) (nx30 : Nat) : Prop :=
 LP (zgx Q) [a0, AV.ptr nx 0, AV.ptr (nx + 1) 0, AV.ptr nx9 0, v28, AV.int IntKind.i64 0] H29 nx30
def zsc (nx9 : Nat) (nx : Nat) (Q : QT) (a0 : AV) (v24 : AV) (H25 : Heap) (nx26 : Nat) : Prop :=
 ST 2 (.ptr nx9 2) v24 H25 fun H27 =>
 za Try.prog 27 [.ptr (nx + 1) 0, .int .i64 12] H27 nx26 (zsd Q a0 nx nx9)
def zsb (v13 : AV) (v16 : AV) (nx9 : Nat) (nx : Nat) (Q : QT) (a0 : AV) (v19 : AV) (H20 : Heap) (nx21 : Nat) : Prop :=
 BD (zz tab [(3, 0), (3, 1), (3, 2)]) [.int .i64 0, .int .i64 0, .int .i64 0] [(0, v13), (1, v16), (2, v19)] fun v22 =>
 ST 3 (.ptr nx9 6) v22 H20 fun H23 =>
 za Try.prog 26 [.ptr (nx + 1) 0] H23 nx21 (zsc nx9 nx Q a0)
def zsa (nx : Nat) (v13 : AV) (nx9 : Nat) (Q : QT) (a0 : AV) (v16 : AV) (H17 : Heap) (nx18 : Nat) : Prop :=
 za Try.prog 25 [AV.ptr (nx + 1) 0] H17 nx18 (zsb v13 v16 nx9 nx Q a0)
def zrz (nx : Nat) (nx9 : Nat) (Q : QT) (a0 : AV) (v13 : AV) (H14 : Heap) (nx15 : Nat) : Prop :=
 za Try.prog 25 [AV.ptr (nx + 1) 0] H14 nx15 (zsa nx v13 nx9 Q a0)
def zry (v4 : AV) (nx : Nat) (Q : QT) (a0 : AV) (v7 : AV) (H8 : Heap) (nx9 : Nat) : Prop :=
 BD (zz tab [(3, 0), (3, 1), (25, 2), (26, 4), (27, 5), (29, 6)]) [.int .i64 0, .int .i64 0, .nils, .nils, .nils, .nils, .int .i64 0, .int .i64 0, .int .i64 0] [(0, v4), (1, v7)] fun v10 =>
 PUTH H8 nx9 (.row 9 [.int .i64 0, .int .i64 0, .nils, .nils, .nils, .nils, .int .i64 0, .int .i64 0, .int .i64 0]) fun H11 =>
 ST 9 (.ptr nx9 0) v10 H11 fun H12 =>
 za Try.prog 25 [.ptr (nx + 1) 0] H12 (nx9 + 1) (zrz nx nx9 Q a0)
def zrx (nx : Nat) (Q : QT) (a0 : AV) (v4 : AV) (H5 : Heap) (nx6 : Nat) : Prop :=
 za Try.prog 25 [AV.ptr (nx + 1) 0] H5 nx6 (zry v4 nx Q a0)
def zly (a0 : AV) (H : Heap) (nx : Nat) (Q : QT) : Prop :=
 PUTH H nx (.row 9 [.int .i64 0, .int .i64 0, .nils, .nils, .nils, .nils, .int .i64 0, .int .i64 0, .int .i64 0]) fun H1 =>
 BD (zz tab [(32, 0), (33, 1)]) [.nils, .int .i64 0] [(0, a0)] fun v2 =>
 v2.sure = true ∧
 PUTH H1 (nx + 1) (.row v2.cells.length v2.cells) fun H3 =>
 za Try.prog 25 [.ptr (nx + 1) 0] H3 (nx + 2) (zrx nx Q a0)
theorem zyw (a0 : AV) (H : Heap) (nx : Nat) (Q : QT) : zly a0 H nx Q → za Try.prog 7 [a0] H nx Q :=
  zc (lv := lvOf [(2, 6, [0, 2, 4, 5, 28, 29]), (2, 13, [0, 2, 4, 5, 50, 51]), (3, 20, [0, 2, 4, 5]), (3, 22, [0, 2, 4, 5])]) (c := zi Try.f7) zn zp zo Try.func7 (by kernel_rfl) (by kernel_rfl) (by kernel_rfl) (by kernel_rfl) (by kernel_rfl)
def zmz (Q : QT) (K2 : J3) (xs3 : List AV) (H4 : Heap) (nx5 : Nat) : Prop :=
 BI .lss (nth xs3 3) (nth xs3 2) fun v6 =>
 CNDC v6
 (IA 1 (nth xs3 1) (nth xs3 3) fun v7 =>
 LD false 1 v7 H4 fun v8 =>
 CV .u32 v8 fun v9 =>
 BI .xor (nth xs3 0) v9 fun v10 =>
 BI .shl v10 (.int .u64 5) fun v11 =>
 BI .shr v10 (.int .u64 27) fun v12 =>
 BI .or v11 v12 fun v13 =>
 BI .mul v13 (.int .u32 16777619) fun v14 =>
 BI .add (nth xs3 3) (.int .i64 1) fun v15 =>
 K2 [v14, nth xs3 1, nth xs3 2, v15] H4 nx5)
 (CV .i64 (nth xs3 0) fun v16 =>
 Q v16 H4 nx5)
def zvq (a0 : AV) (H : Heap) (nx : Nat) (Q : QT) : Prop :=
 LNL a0 fun v1 =>
 LP (zmz Q) [.int .u32 2166136261, a0, v1, .int .i64 0] H nx
theorem zzo (a0 : AV) (H : Heap) (nx : Nat) (Q : QT) : zvq a0 H nx Q → za Try.prog 24 [a0] H nx Q :=
  zc (lv := lvOf [(2, 3, [3, 6, 7, 8])]) (c := zi Try.f24) zn zp zo Try.func24 (by kernel_rfl) (by kernel_rfl) (by kernel_rfl) (by kernel_rfl) (by kernel_rfl)
def zqu (xs29 : List AV) (K28 : J3) (_ : AV) (H37 : Heap) (nx38 : Nat) : Prop :=
 BI .add (nth xs29 7) (.int .i64 1) fun v39 =>
 K28 [nth xs29 0, nth xs29 1, nth xs29 2, nth xs29 3, nth xs29 4, nth xs29 5, nth xs29 6, v39] H37 nx38
def zge (xs76 : List AV) (K75 : J3) (_ : AV) (H91 : Heap) (nx92 : Nat) : Prop :=
 BI .add (nth xs76 9) (.int .i64 1) fun v93 =>
 K75 [nth xs76 0, nth xs76 1, nth xs76 2, nth xs76 3, nth xs76 4, nth xs76 5, nth xs76 6, nth xs76 7, nth xs76 8, v93] H91 nx92
def zgd (K54 : J3) (K75 : J3) (xs76 : List AV) (H77 : Heap) (nx78 : Nat) : Prop :=
 BI .lss (nth xs76 9) (nth xs76 8) fun v79 =>
 CNDC v79
 (IA 3 (nth xs76 7) (nth xs76 9) fun v80 =>
 LD true 3 v80 H77 fun v81 =>
 PUTH H77 nx78 (.row 3 [.int .i64 0, .int .i64 0, .int .i64 0]) fun H82 =>
 ST 3 (.ptr nx78 0) v81 H82 fun H83 =>
 LD false 1 (nth xs76 2) H83 fun v84 =>
 LD false 1 (.ptr nx78 0) H83 fun v85 =>
 LD false 1 (.ptr nx78 1) H83 fun v86 =>
 LD false 1 (.ptr nx78 2) H83 fun v87 =>
 BSL 3 1 [.int .i64 0] [(0, v85), (1, v86), (2, v87)] fun cells88 =>
 PUTH H83 (nx78 + 1) (.row 1 cells88) fun H89 =>
 CALL Try.prog v84 [.slc (nx78 + 1) 0 3] H89 (nx78 + 2) (zge xs76 K75))
 (BI .add (nth xs76 6) (.int .i64 1) fun v94 =>
 K54 [nth xs76 0, nth xs76 1, nth xs76 2, nth xs76 3, nth xs76 4, nth xs76 5, v94] H77 nx78)
def zqt (nx57 : Nat) (K54 : J3) (xs55 : List AV) (_ : AV) (H71 : Heap) (nx72 : Nat) : Prop :=
 LD false 1 (.ptr nx57 2) H71 fun v73 =>
 LNL v73 fun v74 =>
 LP (zgd K54) [nth xs55 0, nth xs55 1, nth xs55 2, nth xs55 3, nth xs55 4, nth xs55 5, nth xs55 6, v73, v74, .int .i64 0] H71 nx72
def zqs (xs129 : List AV) (K128 : J3) (_ : AV) (H139 : Heap) (nx140 : Nat) : Prop :=
 BI .add (nth xs129 10) (.int .i64 1) fun v141 =>
 K128 [nth xs129 0, nth xs129 1, nth xs129 2, nth xs129 3, nth xs129 4, nth xs129 5, nth xs129 6, nth xs129 7, nth xs129 8, nth xs129 9, v141] H139 nx140
def zgc (K107 : J3) (K154 : J3) (xs155 : List AV) (H156 : Heap) (nx157 : Nat) : Prop :=
 BI .lss (nth xs155 9) (nth xs155 8) fun v158 =>
 CNDC v158
 (IA 3 (nth xs155 7) (nth xs155 9) fun v159 =>
 LD true 3 v159 H156 fun v160 =>
 PUTH H156 nx157 (.row 3 [.int .i64 0, .int .i64 0, .str []]) fun H161 =>
 ST 3 (.ptr nx157 0) v160 H161 fun H162 =>
 LD true 3 (.ptr nx157 0) H162 fun v163 =>
 CALL Try.prog (nth xs155 3) [v163] H162 (nx157 + 1) (zge xs155 K154))
 (BI .add (nth xs155 6) (.int .i64 1) fun v168 =>
 K107 [nth xs155 0, nth xs155 1, nth xs155 2, nth xs155 3, nth xs155 4, nth xs155 5, v168] H156 nx157)
def zqr (xs129 : List AV) (K107 : J3) (_ : AV) (H149 : Heap) (nx150 : Nat) : Prop :=
 FA 3 (nth xs129 4) fun v151 =>
 LD false 1 v151 H149 fun v152 =>
 LNL v152 fun v153 =>
 LP (zgc K107) [nth xs129 0, nth xs129 1, nth xs129 2, nth xs129 3, nth xs129 5, nth xs129 6, nth xs129 7, v152, v153, .int .i64 0] H149 nx150
def zgb (K107 : J3) (K128 : J3) (xs129 : List AV) (H130 : Heap) (nx131 : Nat) : Prop :=
 BI .lss (nth xs129 10) (nth xs129 9) fun v132 =>
 CNDC v132
 (IA 3 (nth xs129 8) (nth xs129 10) fun v133 =>
 LD true 3 v133 H130 fun v134 =>
 PUTH H130 nx131 (.row 3 [.int .i64 0, .int .i64 0, .str []]) fun H135 =>
 ST 3 (.ptr nx131 0) v134 H135 fun H136 =>
 LD true 3 (.ptr nx131 0) H136 fun v137 =>
 CALL Try.prog (nth xs129 3) [v137] H136 (nx131 + 1) (zqs xs129 K128))
 (LD false 1 (nth xs129 2) H130 fun v142 =>
 FA 3 (nth xs129 4) fun v143 =>
 LD false 1 v143 H130 fun v144 =>
 LNL v144 fun v145 =>
 BSL 1 1 [.int .i64 0] [(0, v145)] fun cells146 =>
 PUTH H130 nx131 (.row 1 cells146) fun H147 =>
 CALL Try.prog v142 [.slc nx131 0 1] H147 (nx131 + 1) (zqr xs129 K107))
def zqq (nx110 : Nat) (K107 : J3) (xs108 : List AV) (_ : AV) (H124 : Heap) (nx125 : Nat) : Prop :=
 LD false 1 (.ptr nx110 2) H124 fun v126 =>
 LNL v126 fun v127 =>
 LP (zgb K107) [nth xs108 0, nth xs108 1, nth xs108 2, nth xs108 3, .ptr nx110 0, nth xs108 4, nth xs108 5, nth xs108 6, v126, v127, .int .i64 0] H124 nx125
def zqp (xs182 : List AV) (K181 : J3) (_ : AV) (H196 : Heap) (nx197 : Nat) : Prop :=
 BI .add (nth xs182 5) (.int .i64 1) fun v198 =>
 K181 [nth xs182 0, nth xs182 1, nth xs182 2, nth xs182 3, nth xs182 4, v198] H196 nx197
def zqo (nx184 : Nat) (xs182 : List AV) (K181 : J3) (_ : AV) (H192 : Heap) (nx193 : Nat) : Prop :=
 LD true 3 (.ptr nx184 3) H192 fun v194 =>
 CALL Try.prog (nth xs182 2) [v194] H192 nx193 (zqp xs182 K181)
def zqn (xs182 : List AV) (v199 : AV) (D206 : zl) (rd200 : List Nat) (nx184 : Nat) (fr205 : List Nat) (H208 : Heap) (Q : QT) (_ : AV) (_ : List Nat) (fr211 : List Nat) (D212 : zl) : Prop :=
 SOFT (nth xs182 1) v199 D206 rd200 (
 (nx184 + fr205.length) ∉ rd200 ∧
 LD false 1 (nth xs182 0) (H208.apply D212) fun v213 =>
 Q v213 (H208.apply D212) (((nx184 + fr205.length) + 1) + fr211.length))
def zoz (H183 : Heap) (nx184 : Nat) (v199 : AV) (xs182 : List AV) (rd200 : List Nat) (Q : QT) (v203 : AV) (_ : List Nat) (fr205 : List Nat) (D206 : zl) : Prop :=
 BSL 1 1 [.int .i64 0] [(0, v203)] fun cells207 =>
 PUTH (H183.apply D206) (nx184 + fr205.length) (.row 1 cells207) fun H208 =>
 zj Try.prog v199 [.slc (nx184 + fr205.length) 0 1] H208 ((nx184 + fr205.length) + 1) (zqn xs182 v199 D206 rd200 nx184 fr205 H208 Q)
def zga (Q : QT) (K181 : J3) (xs182 : List AV) (H183 : Heap) (nx184 : Nat) : Prop :=
 BI .lss (nth xs182 5) (nth xs182 4) fun v185 =>
 CNDC v185
 (IA 6 (nth xs182 3) (nth xs182 5) fun v186 =>
 LD true 6 v186 H183 fun v187 =>
 PUTH H183 nx184 (.row 6 [.int .i64 0, .int .i64 0, .str [], .int .i64 0, .int .i64 0, .str []]) fun H188 =>
 ST 6 (.ptr nx184 0) v187 H188 fun H189 =>
 LD true 3 (.ptr nx184 0) H189 fun v190 =>
 CALL Try.prog (nth xs182 2) [v190] H189 (nx184 + 1) (zqo nx184 xs182 K181))
 (LDR false 1 (nth xs182 1) H183 fun v199 rd200 =>
 LDR false 1 (nth xs182 0) H183 fun v201 _ =>
 zj Try.prog (.clo 24 []) [v201] H183 nx184 (zoz H183 nx184 v199 xs182 rd200 Q))
def zjh (xs108 : List AV) (Q : QT) (_ : AV) (H176 : Heap) (nx177 : Nat) : Prop :=
 FA 5 (nth xs108 0) fun v178 =>
 LD false 1 v178 H176 fun v179 =>
 LNL v179 fun v180 =>
 LP (zga Q) [nth xs108 1, nth xs108 2, nth xs108 3, v179, v180, .int .i64 0] H176 nx177
def zdx (Q : QT) (K107 : J3) (xs108 : List AV) (H109 : Heap) (nx110 : Nat) : Prop :=
 BI .lss (nth xs108 6) (nth xs108 5) fun v111 =>
 CNDC v111
 (IA 4 (nth xs108 4) (nth xs108 6) fun v112 =>
 LD true 4 v112 H109 fun v113 =>
 PUTH H109 nx110 (.row 4 [.int .i64 0, .int .i64 0, .nils, .nils]) fun H114 =>
 ST 4 (.ptr nx110 0) v113 H114 fun H115 =>
 LD false 1 (nth xs108 2) H115 fun v116 =>
 LD false 1 (.ptr nx110 0) H115 fun v117 =>
 LD false 1 (.ptr nx110 1) H115 fun v118 =>
 LD false 1 (.ptr nx110 2) H115 fun v119 =>
 LNL v119 fun v120 =>
 BSL 3 1 [.int .i64 0] [(0, v117), (1, v118), (2, v120)] fun cells121 =>
 PUTH H115 (nx110 + 1) (.row 1 cells121) fun H122 =>
 CALL Try.prog v116 [.slc (nx110 + 1) 0 3] H122 (nx110 + 2) (zqq nx110 K107 xs108))
 (LD false 1 (nth xs108 2) H109 fun v169 =>
 FA 5 (nth xs108 0) fun v170 =>
 LD false 1 v170 H109 fun v171 =>
 LNL v171 fun v172 =>
 BSL 1 1 [.int .i64 0] [(0, v172)] fun cells173 =>
 PUTH H109 nx110 (.row 1 cells173) fun H174 =>
 CALL Try.prog v169 [.slc nx110 0 1] H174 (nx110 + 1) (zjh xs108 Q))
def zjg (xs55 : List AV) (Q : QT) (_ : AV) (H102 : Heap) (nx103 : Nat) : Prop :=
 FA 4 (nth xs55 0) fun v104 =>
 LD false 1 v104 H102 fun v105 =>
 LNL v105 fun v106 =>
 LP (zdx Q) [nth xs55 0, nth xs55 1, nth xs55 2, nth xs55 3, v105, v106, .int .i64 0] H102 nx103
def zdw (Q : QT) (K54 : J3) (xs55 : List AV) (H56 : Heap) (nx57 : Nat) : Prop :=
 BI .lss (nth xs55 6) (nth xs55 5) fun v58 =>
 CNDC v58
 (IA 3 (nth xs55 4) (nth xs55 6) fun v59 =>
 LD true 3 v59 H56 fun v60 =>
 PUTH H56 nx57 (.row 3 [.int .i64 0, .int .i64 0, .nils]) fun H61 =>
 ST 3 (.ptr nx57 0) v60 H61 fun H62 =>
 LD false 1 (nth xs55 2) H62 fun v63 =>
 LD false 1 (.ptr nx57 0) H62 fun v64 =>
 LD false 1 (.ptr nx57 1) H62 fun v65 =>
 LD false 1 (.ptr nx57 2) H62 fun v66 =>
 LNL v66 fun v67 =>
 BSL 3 1 [.int .i64 0] [(0, v64), (1, v65), (2, v67)] fun cells68 =>
 PUTH H62 (nx57 + 1) (.row 1 cells68) fun H69 =>
 CALL Try.prog v63 [.slc (nx57 + 1) 0 3] H69 (nx57 + 2) (zqt nx57 K54 xs55))
 (LD false 1 (nth xs55 2) H56 fun v95 =>
 FA 4 (nth xs55 0) fun v96 =>
 LD false 1 v96 H56 fun v97 =>
 LNL v97 fun v98 =>
 BSL 1 1 [.int .i64 0] [(0, v98)] fun cells99 =>
 PUTH H56 nx57 (.row 1 cells99) fun H100 =>
 CALL Try.prog v95 [.slc nx57 0 1] H100 (nx57 + 1) (zjg xs55 Q))
def zjf (xs29 : List AV) (Q : QT) (_ : AV) (H48 : Heap) (nx49 : Nat) : Prop :=
 FA 2 (nth xs29 0) fun v50 =>
 FA 0 v50 fun v51 =>
 LD false 1 v51 H48 fun v52 =>
 LNL v52 fun v53 =>
 LP (zdw Q) [nth xs29 0, nth xs29 1, nth xs29 2, nth xs29 4, v52, v53, .int .i64 0] H48 nx49
def zfz (Q : QT) (K28 : J3) (xs29 : List AV) (H30 : Heap) (nx31 : Nat) : Prop :=
 BI .lss (nth xs29 7) (nth xs29 6) fun v32 =>
 CNDC v32
 (IA 1 (nth xs29 5) (nth xs29 7) fun v33 =>
 LD false 1 v33 H30 fun v34 =>
 LD false 1 (nth xs29 3) H30 fun v35 =>
 CALL Try.prog v35 [v34] H30 nx31 (zqu xs29 K28))
 (LD false 1 (nth xs29 2) H30 fun v40 =>
 FA 2 (nth xs29 0) fun v41 =>
 FA 0 v41 fun v42 =>
 LD false 1 v42 H30 fun v43 =>
 LNL v43 fun v44 =>
 BSL 1 1 [.int .i64 0] [(0, v44)] fun cells45 =>
 PUTH H30 nx31 (.row 1 cells45) fun H46 =>
 CALL Try.prog v40 [.slc nx31 0 1] H46 (nx31 + 1) (zjf xs29 Q))
def zoy (nx5 : Nat) (Q : QT) (_ : AV) (H24 : Heap) (nx25 : Nat) : Prop :=
 LD false 1 (.ptr nx5 3) H24 fun v26 =>
 LNL v26 fun v27 =>
 LP (zfz Q) [.ptr nx5 0, .ptr (nx5 + 1) 0, .ptr (nx5 + 2) 0, .ptr (nx5 + 3) 0, .clo 23 [.ptr (nx5 + 2) 0, .ptr (nx5 + 3) 0], v26, v27, .int .i64 0] H24 nx25
def zox (Q : QT) (v3 : AV) (H4 : Heap) (nx5 : Nat) : Prop :=
 PUTH H4 nx5 (.row 9 [.int .i64 0, .int .i64 0, .nils, .nils, .nils, .nils, .int .i64 0, .int .i64 0, .int .i64 0]) fun H6 =>
 ST 9 (.ptr nx5 0) v3 H6 fun H7 =>
 PUTH H7 (nx5 + 1) (.row 1 [.nils]) fun H8 =>
 PUTH H8 (nx5 + 2) (.row 1 [.nilf]) fun H9 =>
 ST 1 (.ptr (nx5 + 2) 0) (.clo 20 [.ptr (nx5 + 1) 0]) H9 fun H10 =>
 PUTH H10 (nx5 + 3) (.row 1 [.nilf]) fun H11 =>
 ST 1 (.ptr (nx5 + 3) 0) (.clo 22 [.ptr (nx5 + 2) 0, .ptr (nx5 + 1) 0]) H11 fun H12 =>
 LD false 1 (.ptr (nx5 + 2) 0) H12 fun v13 =>
 LD false 1 (.ptr nx5 0) H12 fun v14 =>
 LD false 1 (.ptr nx5 1) H12 fun v15 =>
 LD false 1 (.ptr nx5 6) H12 fun v16 =>
 LD false 1 (.ptr nx5 7) H12 fun v17 =>
 LD false 1 (.ptr nx5 8) H12 fun v18 =>
 LD false 1 (.ptr nx5 3) H12 fun v19 =>
 LNL v19 fun v20 =>
 BSL 6 1 [.int .i64 0] [(0, v14), (1, v15), (2, v16), (3, v17), (4, v18), (5, v20)] fun cells21 =>
 PUTH H12 (nx5 + 4) (.row 1 cells21) fun H22 =>
 CALL Try.prog v13 [.slc (nx5 + 4) 0 6] H22 (nx5 + 5) (zoy nx5 Q)
def zqm (a0 : AV) (H : Heap) (nx : Nat) (Q : QT) : Prop :=
 a0.sure = true ∧
 PUTH H nx (.row a0.cells.length a0.cells) fun H1 =>
 LD true 9 (.ptr nx 0) H1 fun v2 =>
 za Try.prog 19 [v2] H1 (nx + 1) (zox Q)
theorem zwh (a0 : AV) (H : Heap) (nx : Nat) (Q : QT) : zqm a0 H nx Q → za Try.prog 6 [a0] H nx Q :=
  zc (lv := lvOf [(2, 8, [3, 4, 5, 6, 7, 49, 50, 51]), (2, 14, [3, 4, 5, 7, 68, 69, 70]), (2, 18, [3, 4, 5, 7, 68, 69, 70, 85, 86, 87]), (2, 25, [3, 4, 5, 7, 109, 110, 111]), (2, 29, [3, 4, 5, 7, 15, 109, 110, 111, 126, 127, 128]), (2, 35, [3, 4, 5, 7, 109, 110, 111, 143, 144, 145]), (2, 42, [4, 5, 7, 161, 162, 163])]) (c := zi Try.f6) zn zp zo Try.func6 (by kernel_rfl) (by kernel_rfl) (by kernel_rfl) (by kernel_rfl) (by kernel_rfl)
def zdh (Q : QT) (K21 : J3) (xs22 : List AV) (H23 : Heap) (nx24 : Nat) : Prop :=
 BI .geq (nth xs22 3) (.int .i64 0) fun v25 =>
 CNDC v25
 (BI .mul (nth xs22 2) (.int .u64 128) fun v26 =>
 IA 1 (nth xs22 0) (nth xs22 3) fun v27 =>
 LD false 1 v27 H23 fun v28 =>
 BI .rem v28 (.int .u8 128) fun v29 =>
 CV .u64 v29 fun v30 =>
 BI .add v26 v30 fun v31 =>
 BI .sub (nth xs22 3) (.int .i64 1) fun v32 =>
 K21 [nth xs22 0, nth xs22 1, v31, v32] H23 nx24)
 (BI .rem (nth xs22 2) (.int .u64 2) fun v33 =>
 BI .eql v33 (.int .u64 1) fun v34 =>
 CNDC v34
 (BI .quo (nth xs22 2) (.int .u64 2) fun v35 =>
 CV .i64 v35 fun v36 =>
 UO .neg v36 fun v37 =>
 BI .sub v37 (.int .i64 1) fun v38 =>
 BI .add (nth xs22 1) (.int .i64 1) fun v39 =>
 Q (.tup [v38, v39, .int .i64 0]) H23 nx24)
 (BI .quo (nth xs22 2) (.int .u64 2) fun v40 =>
 CV .i64 v40 fun v41 =>
 BI .add (nth xs22 1) (.int .i64 1) fun v42 =>
 Q (.tup [v41, v42, .int .i64 0]) H23 nx24))
def zpc (Q : QT) (xs17 : List AV) (H18 : Heap) (nx19 : Nat) : Prop :=
 CNDC (nth xs17 2)
 (Q (AV.tup [AV.int IntKind.i64 0, AV.int IntKind.i64 0, AV.int IntKind.i64 2]) H18 nx19)
 (LP (zdh Q) [nth xs17 0, nth xs17 1, AV.int IntKind.u64 0, nth xs17 1] H18 nx19)
def zpd (xs11 : List AV) (H12 : Heap) (nx13 : Nat) (j20 : J3) : Prop :=
 IA 1 (nth xs11 0) (nth xs11 1) fun v43 =>
 LD false 1 v43 H12 fun v44 =>
 BI .eql v44 (.int .u8 0) fun v45 =>
 CND v45
 (BI .gtr (nth xs11 1) (.int .i64 0) fun v46 =>
 j20 [nth xs11 0, nth xs11 1, v46] H12 nx13)
 (j20 [nth xs11 0, nth xs11 1, .bool false] H12 nx13)
def zdj (Q : QT) (xs11 : List AV) (H12 : Heap) (nx13 : Nat) : Prop :=
 CNDC (nth xs11 2)
 (Q (.tup [.int .i64 0, .int .i64 0, .int .i64 3]) H12 nx13)
 (LNL (nth xs11 0) fun v15 =>
 BI .geq (nth xs11 1) v15 fun v16 =>
 CNDC v16
 (Q (.tup [.int .i64 0, .int .i64 0, .int .i64 8]) H12 nx13)
 (JN (zpc Q) (zpd xs11 H12 nx13)))
def zfb (xs5 : List AV) (H6 : Heap) (nx7 : Nat) (j14 : J3) : Prop :=
 BI .eql (nth xs5 1) (.int .i64 10) fun v47 =>
 CND v47
 (j14 [nth xs5 0, nth xs5 1, .bool true] H6 nx7)
 (LNL (nth xs5 0) fun v48 =>
 BI .lss (nth xs5 1) v48 fun v49 =>
 CND v49
 (BI .eql (nth xs5 1) (.int .i64 9) fun v50 =>
 CND v50
 (IA 1 (nth xs5 0) (.int .i64 9) fun v51 =>
 LD false 1 v51 H6 fun v52 =>
 BI .gtr v52 (.int .u8 1) fun v53 =>
 j14 [nth xs5 0, nth xs5 1, v53] H6 nx7)
 (j14 [nth xs5 0, nth xs5 1, .bool false] H6 nx7))
 (j14 [nth xs5 0, nth xs5 1, .bool false] H6 nx7))
def zdi (Q : QT) (K1 : J3) (xs5 : List AV) (H6 : Heap) (nx7 : Nat) : Prop :=
 CNDC (nth xs5 2)
 (BI .eql (nth xs5 1) (.int .i64 9) fun v9 =>
 CNDC v9
 (Q (.tup [.int .i64 0, .int .i64 0, .int .i64 3]) H6 nx7)
 (BI .add (nth xs5 1) (.int .i64 1) fun v10 =>
 K1 [nth xs5 0, v10] H6 nx7))
 (JN (zdj Q) (zfb xs5 H6 nx7))
def zdk (xs2 : List AV) (H3 : Heap) (nx4 : Nat) (j8 : J3) : Prop :=
 LNL (nth xs2 0) fun v54 =>
 BI .lss (nth xs2 1) v54 fun v55 =>
 CND v55
 (IA 1 (nth xs2 0) (nth xs2 1) fun v56 =>
 LD false 1 v56 H3 fun v57 =>
 BI .geq v57 (.int .u8 128) fun v58 =>
 CND v58
 (BI .lss (nth xs2 1) (.int .i64 10) fun v59 =>
 j8 [nth xs2 0, nth xs2 1, v59] H3 nx4)
 (j8 [nth xs2 0, nth xs2 1, .bool false] H3 nx4))
 (j8 [nth xs2 0, nth xs2 1, .bool false] H3 nx4)
def zji (Q : QT) (K1 : J3) (xs2 : List AV) (H3 : Heap) (nx4 : Nat) : Prop :=
 JN (zdi Q K1) (zdk xs2 H3 nx4)
def zpb (a0 : AV) (H : Heap) (nx : Nat) (Q : QT) : Prop :=
 LP (zji Q) [a0, AV.int IntKind.i64 0] H nx
theorem zwd (a0 : AV) (H : Heap) (nx : Nat) (Q : QT) : zpb a0 H nx Q → za Try.prog 52 [a0] H nx Q :=
  zc (lv := lvOf [(0, 2, [0, 5, 22]), (0, 6, [0, 5, 44]), (0, 10, [0, 5, 57]), (2, 2, [0, 5]), (2, 14, [0, 5, 6, 7])]) (c := zi Try.f52) zn zp zo Try.func52 (by kernel_rfl) (by kernel_rfl) (by kernel_rfl) (by kernel_rfl) (by kernel_rfl)
def zdf (a1 : AV) (a0 : AV) (Q : QT) (v8 : AV) (H9 : Heap) (nx10 : Nat) : Prop :=
 EX v8 0 fun v11 =>
 EX v8 1 fun v12 =>
 EX v8 2 fun v13 =>
 BI .eql v13 (.int .i64 0) fun v14 =>
 CND v14
 (BI .geq a1 (.int .i64 0) fun v15 =>
 CND v15
 (BI .lss v11 (.int .i64 0) fun v16 =>
 CND v16
 (BI .neq (.int .i64 4) (.int .i64 0) fun v17 =>
 CNDC v17
 (NC a0 fun v18 =>
 FA 1 v18 fun v19 =>
 ST 1 v19 (.int .i64 4) H9 fun H20 =>
 Q (.int .i64 0) H20 nx10)
 (NC a0 fun v21 =>
 FA 0 v21 fun v22 =>
 LD false 1 v22 H9 fun v23 =>
 SL 1 v23 (some v12) none H9 fun v24 =>
 NC a0 fun v25 =>
 FA 0 v25 fun v26 =>
 ST 1 v26 v24 H9 fun H27 =>
 Q v11 H27 nx10))
 (BI .gtr v11 a1 fun v28 =>
 CNDC v28
 (BI .neq (.int .i64 4) (.int .i64 0) fun v29 =>
 CNDC v29
 (NC a0 fun v30 =>
 FA 1 v30 fun v31 =>
 ST 1 v31 (.int .i64 4) H9 fun H32 =>
 Q (.int .i64 0) H32 nx10)
 (NC a0 fun v33 =>
 FA 0 v33 fun v34 =>
 LD false 1 v34 H9 fun v35 =>
 SL 1 v35 (some v12) none H9 fun v36 =>
 NC a0 fun v37 =>
 FA 0 v37 fun v38 =>
 ST 1 v38 v36 H9 fun H39 =>
 Q v11 H39 nx10))
 (BI .neq v13 (.int .i64 0) fun v40 =>
 CNDC v40
 (NC a0 fun v41 =>
 FA 1 v41 fun v42 =>
 ST 1 v42 v13 H9 fun H43 =>
 Q (.int .i64 0) H43 nx10)
 (NC a0 fun v44 =>
 FA 0 v44 fun v45 =>
 LD false 1 v45 H9 fun v46 =>
 SL 1 v46 (some v12) none H9 fun v47 =>
 NC a0 fun v48 =>
 FA 0 v48 fun v49 =>
 ST 1 v49 v47 H9 fun H50 =>
 Q v11 H50 nx10))))
 (BI .neq v13 (.int .i64 0) fun v51 =>
 CNDC v51
 (NC a0 fun v52 =>
 FA 1 v52 fun v53 =>
 ST 1 v53 v13 H9 fun H54 =>
 Q (.int .i64 0) H54 nx10)
 (NC a0 fun v55 =>
 FA 0 v55 fun v56 =>
 LD false 1 v56 H9 fun v57 =>
 SL 1 v57 (some v12) none H9 fun v58 =>
 NC a0 fun v59 =>
 FA 0 v59 fun v60 =>
 ST 1 v60 v58 H9 fun H61 =>
 Q v11 H61 nx10)))
 (BI .neq v13 (.int .i64 0) fun v62 =>
 CNDC v62
 (NC a0 fun v63 =>
 FA 1 v63 fun v64 =>
 ST 1 v64 v13 H9 fun H65 =>
 Q (.int .i64 0) H65 nx10)
 (NC a0 fun v66 =>
 FA 0 v66 fun v67 =>
 LD false 1 v67 H9 fun v68 =>
 SL 1 v68 (some v12) none H9 fun v69 =>
 NC a0 fun v70 =>
 FA 0 v70 fun v71 =>
 ST 1 v71 v69 H9 fun H72 =>
 Q v11 H72 nx10))
def zlq (a0 a1 : AV) (H : Heap) (nx : Nat) (Q : QT) : Prop :=
 NC a0 fun v1 =>
 FA 1 v1 fun v2 =>
 LD false 1 v2 H fun v3 =>
 BI .neq v3 (.int .i64 0) fun v4 =>
 CNDC v4
 (Q (.int .i64 0) H nx)
 (NC a0 fun v5 =>
 FA 0 v5 fun v6 =>
 LD false 1 v6 H fun v7 =>
 za Try.prog 52 [v7] H nx (zdf a1 a0 Q))
theorem zyq (a0 a1 : AV) (H : Heap) (nx : Nat) (Q : QT) : zlq a0 a1 H nx Q → za Try.prog 33 [a0, a1] H nx Q :=
  zc (lv := lvOf []) (c := zi Try.f33) zn zp zo Try.func33 (by kernel_rfl) (by kernel_rfl) (by kernel_rfl) (by kernel_rfl) (by kernel_rfl)
def zbv (Q : QT) (a1 : AV) (a0 : AV) (v1 : AV) (H2 : Heap) (nx3 : Nat) : Prop :=
 EX v1 0 fun v4 =>
 EX v1 1 fun v5 =>
 EX v1 2 fun v6 =>
 BI .neq v6 (.int .i64 0) fun v7 =>
 CNDC v7
 (Q (.tup [.str [], .int .i64 0, v6]) H2 nx3)
 (BI .lss v4 (.int .i64 0) fun v8 =>
 CND v8
 (Q (.tup [.str [], .int .i64 0, .int .i64 4]) H2 nx3)
 (BI .gtr v4 a1 fun v9 =>
 CNDC v9
 (Q (.tup [.str [], .int .i64 0, .int .i64 4]) H2 nx3)
 (LNL a0 fun v10 =>
 BI .sub v10 v5 fun v11 =>
 BI .lss v11 v4 fun v12 =>
 CNDC v12
 (Q (.tup [.str [], .int .i64 0, .int .i64 8]) H2 nx3)
 (BI .add v5 v4 fun v13 =>
 SL 1 a0 (some v5) (some v13) H2 fun v14 =>
 CBS v14 H2 fun v15 =>
 BI .add v5 v4 fun v16 =>
 Q (.tup [v15, v16, .int .i64 0]) H2 nx3))))
def zns (a0 a1 : AV) (H : Heap) (nx : Nat) (Q : QT) : Prop :=
 za Try.prog 52 [a0] H nx (zbv Q a1 a0)
theorem zuq (a0 a1 : AV) (H : Heap) (nx : Nat) (Q : QT) : zns a0 a1 H nx Q → za Try.prog 53 [a0, a1] H nx Q :=
  zc (lv := lvOf []) (c := zi Try.f53) zn zp zo Try.func53 (by kernel_rfl) (by kernel_rfl) (by kernel_rfl) (by kernel_rfl) (by kernel_rfl)
def zlp (a0 : AV) (Q : QT) (v8 : AV) (H9 : Heap) (nx10 : Nat) : Prop :=
 EX v8 0 fun v11 =>
 EX v8 1 fun v12 =>
 EX v8 2 fun v13 =>
 BI .neq v13 (.int .i64 0) fun v14 =>
 CNDC v14
 (NC a0 fun v15 =>
 FA 1 v15 fun v16 =>
 ST 1 v16 v13 H9 fun H17 =>
 Q (.str []) H17 nx10)
 (NC a0 fun v18 =>
 FA 0 v18 fun v19 =>
 LD false 1 v19 H9 fun v20 =>
 SL 1 v20 (some v12) none H9 fun v21 =>
 NC a0 fun v22 =>
 FA 0 v22 fun v23 =>
 ST 1 v23 v21 H9 fun H24 =>
 Q v11 H24 nx10)
def zlo (a0 a1 : AV) (H : Heap) (nx : Nat) (Q : QT) : Prop :=
 NC a0 fun v1 =>
 FA 1 v1 fun v2 =>
 LD false 1 v2 H fun v3 =>
 BI .neq v3 (.int .i64 0) fun v4 =>
 CNDC v4
 (Q (.str []) H nx)
 (NC a0 fun v5 =>
 FA 0 v5 fun v6 =>
 LD false 1 v6 H fun v7 =>
 za Try.prog 53 [v7, a1] H nx (zlp a0 Q))
theorem zyp (a0 a1 : AV) (H : Heap) (nx : Nat) (Q : QT) : zlo a0 a1 H nx Q → za Try.prog 34 [a0, a1] H nx Q :=
  zc (lv := lvOf []) (c := zi Try.f34) zn zp zo Try.func34 (by kernel_rfl) (by kernel_rfl) (by kernel_rfl) (by kernel_rfl) (by kernel_rfl)
def ztd (nx : Nat) (Q : QT) (v6 : AV) (H7 : Heap) (nx8 : Nat) : Prop :=
 BD (zz tab [(3, 0), (3, 1), (9, 2)]) [.int .i64 0, .int .i64 0, .str []] [(0, .int .i64 1), (2, v6)] fun v9 =>
 ST 3 (.ptr nx 0) v9 H7 fun H10 =>
 LD true 3 (.ptr nx 0) H10 fun v11 =>
 Q v11 H10 nx8
def ztc (v2 : AV) (nx : Nat) (Q : QT) (v12 : AV) (H13 : Heap) (nx14 : Nat) : Prop :=
 BD (zz tab [(3, 0), (3, 1), (9, 2)]) [.int .i64 0, .int .i64 0, .str []] [(0, v2), (1, v12)] fun v15 =>
 ST 3 (.ptr nx 0) v15 H13 fun H16 =>
 LD true 3 (.ptr nx 0) H16 fun v17 =>
 Q v17 H16 nx14
def zln (a0 : AV) (nx : Nat) (Q : QT) (v2 : AV) (H3 : Heap) (nx4 : Nat) : Prop :=
 BI .eql v2 (.int .i64 1) fun v5 =>
 CNDC v5
 (za Try.prog 34 [a0, .int .i64 60] H3 nx4 (ztd nx Q))
 (za Try.prog 33 [a0, .int .i64 (-1)] H3 nx4 (ztc v2 nx Q))
def ztb (a0 : AV) (H : Heap) (nx : Nat) (Q : QT) : Prop :=
 PUTH H nx (.row 3 [.int .i64 0, .int .i64 0, .str []]) fun H1 =>
 za Try.prog 33 [a0, .int .i64 (-1)] H1 (nx + 1) (zln a0 nx Q)
theorem zyo (a0 : AV) (H : Heap) (nx : Nat) (Q : QT) : ztb a0 H nx Q → za Try.prog 35 [a0] H nx Q :=
  zc (lv := lvOf []) (c := zi Try.f35) zn zp zo Try.func35 (by kernel_rfl) (by kernel_rfl) (by kernel_rfl) (by kernel_rfl) (by kernel_rfl)
def zql (H30 : Heap) (nx31 : Nat) (v35 : AV) (xs29 : List AV) (v34 : AV) (rd36 : List Nat) (K28 : J3) (v37 : AV) (_ : List Nat) (fr39 : List Nat) (D40 : zl) : Prop :=
 BSL 1 1 [.str []] [(0, v37)] fun cells41 =>
 PUTH (H30.apply D40) (nx31 + fr39.length) (.row 1 cells41) fun H42 =>
 zy 1 16 v35 (.slc (nx31 + fr39.length) 0 1) H42 ((nx31 + fr39.length) + 1) fun v43 _ fr45 D46 =>
 FA 2 (nth xs29 3) fun v47 =>
 FA 1 v47 fun v48 =>
 zar 1 v48 v43 (H42.apply D46) fun _ _ fr51 D52 =>
 zb (domD D40) [] (
 zb (domD D40) [] (
 SOFT v34 v35 D40 rd36 (
 (nx31 + fr39.length) ∉ [] ∧
 (nx31 + fr39.length) ∉ [] ∧
 (nx31 + fr39.length) ∉ rd36 ∧
 BI .add (nth xs29 5) (.int .i64 1) fun v53 =>
 K28 [nth xs29 0, nth xs29 1, nth xs29 2, nth xs29 3, nth xs29 4, v53] ((H42.apply D46).apply D52) ((((nx31 + fr39.length) + 1) + fr45.length) + fr51.length))))
def zqk (nx81 : Nat) (xs75 : List AV) (K74 : J3) (v89 : AV) (H90 : Heap) (nx91 : Nat) : Prop :=
 ST 1 (.ptr nx81 2) v89 H90 fun H92 =>
 FA 2 (nth xs75 4) fun v93 =>
 LD false 1 v93 H92 fun v94 =>
 LD true 3 (.ptr nx81 0) H92 fun v95 =>
 BSL 1 3 [.int .i64 0, .int .i64 0, .int .i64 0] [(0, v95)] fun cells96 =>
 PUTH H92 nx91 (.row 3 cells96) fun H97 =>
 APP 3 24 v94 (.slc nx91 0 1) H97 (nx91 + 1) fun v98 H99 nx100 =>
 FA 2 (nth xs75 4) fun v101 =>
 ST 1 v101 v98 H99 fun H102 =>
 BI .add (nth xs75 8) (.int .i64 1) fun v103 =>
 K74 [nth xs75 0, nth xs75 1, nth xs75 2, nth xs75 3, nth xs75 4, nth xs75 5, nth xs75 6, nth xs75 7, v103] H102 nx100
def zqj (nx81 : Nat) (xs75 : List AV) (K74 : J3) (v85 : AV) (H86 : Heap) (nx87 : Nat) : Prop :=
 ST 1 (.ptr nx81 1) v85 H86 fun H88 =>
 za Try.prog 33 [nth xs75 2, .int .i64 (-1)] H88 nx87 (zqk nx81 xs75 K74)
def zqi (xs75 : List AV) (K74 : J3) (v79 : AV) (H80 : Heap) (nx81 : Nat) : Prop :=
 BD (zz tab [(3, 0), (3, 1), (3, 2)]) [.int .i64 0, .int .i64 0, .int .i64 0] [(0, v79)] fun v82 =>
 PUTH H80 nx81 (.row 3 [.int .i64 0, .int .i64 0, .int .i64 0]) fun H83 =>
 ST 3 (.ptr nx81 0) v82 H83 fun H84 =>
 za Try.prog 33 [nth xs75 2, .int .i64 (-1)] H84 (nx81 + 1) (zqj nx81 xs75 K74)
def zdv (K57 : J3) (K74 : J3) (xs75 : List AV) (H76 : Heap) (nx77 : Nat) : Prop :=
 BI .lss (nth xs75 8) (nth xs75 7) fun v78 =>
 CNDC v78
 (za Try.prog 33 [nth xs75 2, .int .i64 (-1)] H76 nx77 (zqi xs75 K74))
 (FA 2 (nth xs75 3) fun v104 =>
 FA 0 v104 fun v105 =>
 LD false 1 v105 H76 fun v106 =>
 LD true 3 (nth xs75 4) H76 fun v107 =>
 BSL 1 3 [.int .i64 0, .int .i64 0, .nils] [(0, v107)] fun cells108 =>
 PUTH H76 nx77 (.row 3 cells108) fun H109 =>
 APP 3 40 v106 (.slc nx77 0 1) H109 (nx77 + 1) fun v110 H111 nx112 =>
 FA 2 (nth xs75 3) fun v113 =>
 FA 0 v113 fun v114 =>
 ST 1 v114 v110 H111 fun H115 =>
 BI .add (nth xs75 6) (.int .i64 1) fun v116 =>
 K57 [nth xs75 0, nth xs75 1, nth xs75 2, nth xs75 3, nth xs75 5, v116] H115 nx112)
def zqh (K57 : J3) (xs58 : List AV) (nx67 : Nat) (v71 : AV) (H72 : Heap) (nx73 : Nat) : Prop :=
 LP (zdv K57) [nth xs58 0, nth xs58 1, nth xs58 2, nth xs58 3, AV.ptr nx67 0, nth xs58 4, nth xs58 5, v71, AV.int IntKind.i64 0] H72 nx73
def zqg (v62 : AV) (xs58 : List AV) (K57 : J3) (v65 : AV) (H66 : Heap) (nx67 : Nat) : Prop :=
 BD (zz tab [(3, 0), (3, 1), (46, 2)]) [.int .i64 0, .int .i64 0, .nils] [(0, v62), (1, v65)] fun v68 =>
 PUTH H66 nx67 (.row 3 [.int .i64 0, .int .i64 0, .nils]) fun H69 =>
 ST 3 (.ptr nx67 0) v68 H69 fun H70 =>
 za Try.prog 33 [nth xs58 2, .int .i64 200] H70 (nx67 + 1) (zqh K57 xs58 nx67)
def zqf (xs58 : List AV) (K57 : J3) (v62 : AV) (H63 : Heap) (nx64 : Nat) : Prop :=
 za Try.prog 33 [nth xs58 2, AV.int IntKind.i64 (-1)] H63 nx64 (zqg v62 xs58 K57)
def zqe (H139 : Heap) (nx140 : Nat) (v143 : AV) (xs138 : List AV) (v142 : AV) (rd144 : List Nat) (K137 : J3) (v145 : AV) (_ : List Nat) (fr147 : List Nat) (D148 : zl) : Prop :=
 BSL 1 3 [.int .i64 0, .int .i64 0, .str []] [(0, v145)] fun cells149 =>
 PUTH (H139.apply D148) (nx140 + fr147.length) (.row 3 cells149) fun H150 =>
 zy 3 32 v143 (.slc (nx140 + fr147.length) 0 1) H150 ((nx140 + fr147.length) + 1) fun v151 _ fr153 D154 =>
 FA 2 (nth xs138 4) fun v155 =>
 zar 1 v155 v151 (H150.apply D154) fun _ _ fr158 D159 =>
 zb (domD D148) [] (
 SOFT v142 v143 D148 rd144 (
 (nx140 + fr147.length) ∉ [] ∧
 (nx140 + fr147.length) ∉ rd144 ∧
 BI .add (nth xs138 8) (.int .i64 1) fun v160 =>
 K137 [nth xs138 0, nth xs138 1, nth xs138 2, nth xs138 3, nth xs138 4, nth xs138 5, nth xs138 6, nth xs138 7, v160] ((H150.apply D154).apply D159) ((((nx140 + fr147.length) + 1) + fr153.length) + fr158.length)))
def zqd (H166 : Heap) (nx167 : Nat) (v170 : AV) (xs165 : List AV) (v169 : AV) (rd171 : List Nat) (K164 : J3) (v172 : AV) (_ : List Nat) (fr174 : List Nat) (D175 : zl) : Prop :=
 BSL 1 3 [.int .i64 0, .int .i64 0, .str []] [(0, v172)] fun cells176 =>
 PUTH (H166.apply D175) (nx167 + fr174.length) (.row 3 cells176) fun H177 =>
 zy 3 32 v170 (.slc (nx167 + fr174.length) 0 1) H177 ((nx167 + fr174.length) + 1) fun v178 _ fr180 D181 =>
 FA 3 (nth xs165 4) fun v182 =>
 zar 1 v182 v178 (H177.apply D181) fun _ _ fr185 D186 =>
 zb (domD D175) [] (
 SOFT v169 v170 D175 rd171 (
 (nx167 + fr174.length) ∉ [] ∧
 (nx167 + fr174.length) ∉ rd171 ∧
 BI .add (nth xs165 8) (.int .i64 1) fun v187 =>
 K164 [nth xs165 0, nth xs165 1, nth xs165 2, nth xs165 3, nth xs165 4, nth xs165 5, nth xs165 6, nth xs165 7, v187] ((H177.apply D181).apply D186) ((((nx167 + fr174.length) + 1) + fr180.length) + fr185.length)))
def zdu (K120 : J3) (K164 : J3) (xs165 : List AV) (H166 : Heap) (nx167 : Nat) : Prop :=
 BI .lss (nth xs165 8) (nth xs165 7) fun v168 =>
 CNDC v168
 (FA 3 (nth xs165 4) fun v169 =>
 LDR false 1 v169 H166 fun v170 rd171 =>
 zj Try.prog (.clo 35 []) [nth xs165 2] H166 nx167 (zqd H166 nx167 v170 xs165 v169 rd171 K164))
 (FA 4 (nth xs165 3) fun v188 =>
 LD false 1 v188 H166 fun v189 =>
 LD true 4 (nth xs165 4) H166 fun v190 =>
 BSL 1 4 [.int .i64 0, .int .i64 0, .nils, .nils] [(0, v190)] fun cells191 =>
 PUTH H166 nx167 (.row 4 cells191) fun H192 =>
 APP 4 64 v189 (.slc nx167 0 1) H192 (nx167 + 1) fun v193 H194 nx195 =>
 FA 4 (nth xs165 3) fun v196 =>
 ST 1 v196 v193 H194 fun H197 =>
 BI .add (nth xs165 6) (.int .i64 1) fun v198 =>
 K120 [nth xs165 0, nth xs165 1, nth xs165 2, nth xs165 3, nth xs165 5, v198] H197 nx195)
def zje (K120 : J3) (xs138 : List AV) (v161 : AV) (H162 : Heap) (nx163 : Nat) : Prop :=
 LP (zdu K120) [nth xs138 0, nth xs138 1, nth xs138 2, nth xs138 3, nth xs138 4, nth xs138 5, nth xs138 6, v161, AV.int IntKind.i64 0] H162 nx163
def zfy (K120 : J3) (K137 : J3) (xs138 : List AV) (H139 : Heap) (nx140 : Nat) : Prop :=
 BI .lss (nth xs138 8) (nth xs138 7) fun v141 =>
 CNDC v141
 (FA 2 (nth xs138 4) fun v142 =>
 LDR false 1 v142 H139 fun v143 rd144 =>
 zj Try.prog (.clo 35 []) [nth xs138 2] H139 nx140 (zqe H139 nx140 v143 xs138 v142 rd144 K137))
 (za Try.prog 33 [nth xs138 2, .int .i64 16] H139 nx140 (zje K120 xs138))
def zow (K120 : J3) (xs121 : List AV) (nx130 : Nat) (v134 : AV) (H135 : Heap) (nx136 : Nat) : Prop :=
 LP (zfy K120) [nth xs121 0, nth xs121 1, nth xs121 2, nth xs121 3, AV.ptr nx130 0, nth xs121 4, nth xs121 5, v134, AV.int IntKind.i64 0] H135 nx136
def zov (v125 : AV) (xs121 : List AV) (K120 : J3) (v128 : AV) (H129 : Heap) (nx130 : Nat) : Prop :=
 BD (zz tab [(3, 0), (3, 1), (43, 2), (43, 3)]) [.int .i64 0, .int .i64 0, .nils, .nils] [(0, v125), (1, v128)] fun v131 =>
 PUTH H129 nx130 (.row 4 [.int .i64 0, .int .i64 0, .nils, .nils]) fun H132 =>
 ST 4 (.ptr nx130 0) v131 H132 fun H133 =>
 za Try.prog 33 [nth xs121 2, .int .i64 8] H133 (nx130 + 1) (zow K120 xs121 nx130)
def zou (xs121 : List AV) (K120 : J3) (v125 : AV) (H126 : Heap) (nx127 : Nat) : Prop :=
 za Try.prog 33 [nth xs121 2, AV.int IntKind.i64 (-1)] H126 nx127 (zov v125 xs121 K120)
def zot (nx209 : Nat) (xs203 : List AV) (K202 : J3) (v213 : AV) (H214 : Heap) (nx215 : Nat) : Prop :=
 ST 3 (.ptr nx209 3) v213 H214 fun H216 =>
 FA 5 (nth xs203 3) fun v217 =>
 LD false 1 v217 H216 fun v218 =>
 LD true 6 (.ptr nx209 0) H216 fun v219 =>
 BSL 1 6 [.int .i64 0, .int .i64 0, .str [], .int .i64 0, .int .i64 0, .str []] [(0, v219)] fun cells220 =>
 PUTH H216 nx215 (.row 6 cells220) fun H221 =>
 APP 6 64 v218 (.slc nx215 0 1) H221 (nx215 + 1) fun v222 H223 nx224 =>
 FA 5 (nth xs203 3) fun v225 =>
 ST 1 v225 v222 H223 fun H226 =>
 BI .add (nth xs203 5) (.int .i64 1) fun v227 =>
 K202 [nth xs203 0, nth xs203 1, nth xs203 2, nth xs203 3, nth xs203 4, v227] H226 nx224
def zos (xs203 : List AV) (K202 : J3) (v207 : AV) (H208 : Heap) (nx209 : Nat) : Prop :=
 BD (zz tab [(55, 0), (55, 3)]) [.int .i64 0, .int .i64 0, .str [], .int .i64 0, .int .i64 0, .str []] [(0, v207)] fun v210 =>
 PUTH H208 nx209 (.row 6 [.int .i64 0, .int .i64 0, .str [], .int .i64 0, .int .i64 0, .str []]) fun H211 =>
 ST 6 (.ptr nx209 0) v210 H211 fun H212 =>
 za Try.prog 35 [nth xs203 2] H212 (nx209 + 1) (zot nx209 xs203 K202)
def zey (H243 : Heap) (xs203 : List AV) (rd247 : List Nat) (Q : QT) (nx244 : Nat) (v242 : AV) (v248 : AV) (rd249 : List Nat) (fr250 : List Nat) (D251 : zl) : Prop :=
 zeg v248 (H243.apply D251) fun v252 rd253 fr254 D255 =>
 zeg (nth xs203 0) ((H243.apply D251).apply D255) fun v256 rd257 fr258 D259 =>
 BS .neq v252 v256 fun v260 =>
 zb (domD D251) [] (
 zb (domD D251) [] (
 zb (domD D255) [] (
 zb (domD D255) [] (
 zb (domD D259) rd247 (
 zb (domD D251) rd257 (
 zb (domD D251) (domD D259) (
 zb (domD D259) rd249 (
 zb (domD D255) rd257 (
 zb (domD D255) (domD D259) (
 zb (domD D259) rd253 (
 CNDC v260
 (BI .neq (.int .i64 2) (.int .i64 0) fun v261 =>
 CNDC v261
 (ST 9 (nth xs203 1) (.agg [.int .i64 0, .int .i64 0, .nils, .nils, .nils, .nils, .int .i64 0, .int .i64 0, .int .i64 0]) (((H243.apply D251).apply D255).apply D259) fun H262 =>
 LD true 9 (nth xs203 1) H262 fun v263 =>
 Q (.tup [v263, .int .i64 2]) H262 (((nx244 + fr250.length) + fr254.length) + fr258.length))
 (LD true 9 (nth xs203 3) (((H243.apply D251).apply D255).apply D259) fun v264 =>
 ST 9 (nth xs203 1) v264 (((H243.apply D251).apply D255).apply D259) fun H265 =>
 LD true 9 (nth xs203 1) H265 fun v266 =>
 Q (.tup [v266, .int .i64 0]) H265 (((nx244 + fr250.length) + fr254.length) + fr258.length)))
 (BI .neq v242 (.int .i64 0) fun v267 =>
 CNDC v267
 (ST 9 (nth xs203 1) (.agg [.int .i64 0, .int .i64 0, .nils, .nils, .nils, .nils, .int .i64 0, .int .i64 0, .int .i64 0]) (((H243.apply D251).apply D255).apply D259) fun H268 =>
 LD true 9 (nth xs203 1) H268 fun v269 =>
 Q (.tup [v269, v242]) H268 (((nx244 + fr250.length) + fr254.length) + fr258.length))
 (LD true 9 (nth xs203 3) (((H243.apply D251).apply D255).apply D259) fun v270 =>
 ST 9 (nth xs203 1) v270 (((H243.apply D251).apply D255).apply D259) fun H271 =>
 LD true 9 (nth xs203 1) H271 fun v272 =>
 Q (.tup [v272, .int .i64 0]) H271 (((nx244 + fr250.length) + fr254.length) + fr258.length))))))))))))))
def zdg (xs203 : List AV) (Q : QT) (v242 : AV) (H243 : Heap) (nx244 : Nat) : Prop :=
 BI .eql v242 (.int .i64 0) fun v245 =>
 CND v245
 (LDR true 9 (nth xs203 3) H243 fun v246 rd247 =>
 zj Try.prog (.clo 6 []) [v246] H243 nx244 (zey H243 xs203 rd247 Q nx244 v242))
 (BI .neq v242 (.int .i64 0) fun v273 =>
 CNDC v273
 (ST 9 (nth xs203 1) (.agg [.int .i64 0, .int .i64 0, .nils, .nils, .nils, .nils, .int .i64 0, .int .i64 0, .int .i64 0]) H243 fun H274 =>
 LD true 9 (nth xs203 1) H274 fun v275 =>
 Q (.tup [v275, v242]) H274 nx244)
 (LD true 9 (nth xs203 3) H243 fun v276 =>
 ST 9 (nth xs203 1) v276 H243 fun H277 =>
 LD true 9 (nth xs203 1) H277 fun v278 =>
 Q (.tup [v278, .int .i64 0]) H277 nx244))
def zzn (H229 : Heap) (xs203 : List AV) (rd281 : List Nat) (Q : QT) (nx230 : Nat) (v282 : AV) (rd283 : List Nat) (fr284 : List Nat) (D285 : zl) : Prop :=
 zeg v282 (H229.apply D285) fun v286 rd287 fr288 D289 =>
 zeg (nth xs203 0) ((H229.apply D285).apply D289) fun v290 rd291 fr292 D293 =>
 BS .neq v286 v290 fun v294 =>
 zb (domD D285) [] (
 zb (domD D285) [] (
 zb (domD D289) [] (
 zb (domD D289) [] (
 zb (domD D293) rd281 (
 zb (domD D285) rd291 (
 zb (domD D285) (domD D293) (
 zb (domD D293) rd283 (
 zb (domD D289) rd291 (
 zb (domD D289) (domD D293) (
 zb (domD D293) rd287 (
 CNDC v294
 (BI .neq (.int .i64 2) (.int .i64 0) fun v295 =>
 CNDC v295
 (ST 9 (nth xs203 1) (.agg [.int .i64 0, .int .i64 0, .nils, .nils, .nils, .nils, .int .i64 0, .int .i64 0, .int .i64 0]) (((H229.apply D285).apply D289).apply D293) fun H296 =>
 LD true 9 (nth xs203 1) H296 fun v297 =>
 Q (.tup [v297, .int .i64 2]) H296 (((nx230 + fr284.length) + fr288.length) + fr292.length))
 (LD true 9 (nth xs203 3) (((H229.apply D285).apply D289).apply D293) fun v298 =>
 ST 9 (nth xs203 1) v298 (((H229.apply D285).apply D289).apply D293) fun H299 =>
 LD true 9 (nth xs203 1) H299 fun v300 =>
 Q (.tup [v300, .int .i64 0]) H299 (((nx230 + fr284.length) + fr288.length) + fr292.length)))
 (BI .neq (.int .i64 2) (.int .i64 0) fun v301 =>
 CNDC v301
 (ST 9 (nth xs203 1) (.agg [.int .i64 0, .int .i64 0, .nils, .nils, .nils, .nils, .int .i64 0, .int .i64 0, .int .i64 0]) (((H229.apply D285).apply D289).apply D293) fun H302 =>
 LD true 9 (nth xs203 1) H302 fun v303 =>
 Q (.tup [v303, .int .i64 2]) H302 (((nx230 + fr284.length) + fr288.length) + fr292.length))
 (LD true 9 (nth xs203 3) (((H229.apply D285).apply D289).apply D293) fun v304 =>
 ST 9 (nth xs203 1) v304 (((H229.apply D285).apply D289).apply D293) fun H305 =>
 LD true 9 (nth xs203 1) H305 fun v306 =>
 Q (.tup [v306, .int .i64 0]) H305 (((nx230 + fr284.length) + fr288.length) + fr292.length))))))))))))))
def zbh (xs203 : List AV) (Q : QT) (_ : AV) (H229 : Heap) (nx230 : Nat) : Prop :=
 NC (nth xs203 2) fun v231 =>
 FA 1 v231 fun v232 =>
 LD false 1 v232 H229 fun v233 =>
 BI .eql v233 (.int .i64 0) fun v234 =>
 CND v234
 (NC (nth xs203 2) fun v235 =>
 FA 0 v235 fun v236 =>
 LD false 1 v236 H229 fun v237 =>
 LNL v237 fun v238 =>
 BI .gtr v238 (.int .i64 0) fun v239 =>
 CNDC v239
 (BI .eql (.int .i64 2) (.int .i64 0) fun v240 =>
 CNDC v240
 (LD true 9 (nth xs203 3) H229 fun v241 =>
 za Try.prog 4 [v241, .bool true] H229 nx230 (zdg xs203 Q))
 (BI .eql (.int .i64 2) (.int .i64 0) fun v279 =>
 CND v279
 (LDR true 9 (nth xs203 3) H229 fun v280 rd281 =>
 zj Try.prog (.clo 6 []) [v280] H229 nx230 (zzn H229 xs203 rd281 Q nx230))
 (BI .neq (.int .i64 2) (.int .i64 0) fun v307 =>
 CNDC v307
 (ST 9 (nth xs203 1) (.agg [.int .i64 0, .int .i64 0, .nils, .nils, .nils, .nils, .int .i64 0, .int .i64 0, .int .i64 0]) H229 fun H308 =>
 LD true 9 (nth xs203 1) H308 fun v309 =>
 Q (.tup [v309, .int .i64 2]) H308 nx230)
 (LD true 9 (nth xs203 3) H229 fun v310 =>
 ST 9 (nth xs203 1) v310 H229 fun H311 =>
 LD true 9 (nth xs203 1) H311 fun v312 =>
 Q (.tup [v312, .int .i64 0]) H311 nx230))))
 (BI .eql v233 (.int .i64 0) fun v313 =>
 CNDC v313
 (LD true 9 (nth xs203 3) H229 fun v314 =>
 za Try.prog 4 [v314, .bool true] H229 nx230 (zdg xs203 Q))
 (BI .eql v233 (.int .i64 0) fun v352 =>
 CND v352
 (LDR true 9 (nth xs203 3) H229 fun v353 rd354 =>
 zj Try.prog (.clo 6 []) [v353] H229 nx230 (zey H229 xs203 rd354 Q nx230 v233))
 (BI .neq v233 (.int .i64 0) fun v380 =>
 CNDC v380
 (ST 9 (nth xs203 1) (.agg [.int .i64 0, .int .i64 0, .nils, .nils, .nils, .nils, .int .i64 0, .int .i64 0, .int .i64 0]) H229 fun H381 =>
 LD true 9 (nth xs203 1) H381 fun v382 =>
 Q (.tup [v382, v233]) H381 nx230)
 (LD true 9 (nth xs203 3) H229 fun v383 =>
 ST 9 (nth xs203 1) v383 H229 fun H384 =>
 LD true 9 (nth xs203 1) H384 fun v385 =>
 Q (.tup [v385, .int .i64 0]) H384 nx230)))))
 (BI .eql v233 (.int .i64 0) fun v386 =>
 CNDC v386
 (LD true 9 (nth xs203 3) H229 fun v387 =>
 za Try.prog 4 [v387, .bool true] H229 nx230 (zdg xs203 Q))
 (BI .eql v233 (.int .i64 0) fun v425 =>
 CND v425
 (LDR true 9 (nth xs203 3) H229 fun v426 rd427 =>
 zj Try.prog (.clo 6 []) [v426] H229 nx230 (zey H229 xs203 rd427 Q nx230 v233))
 (BI .neq v233 (.int .i64 0) fun v453 =>
 CNDC v453
 (ST 9 (nth xs203 1) (.agg [.int .i64 0, .int .i64 0, .nils, .nils, .nils, .nils, .int .i64 0, .int .i64 0, .int .i64 0]) H229 fun H454 =>
 LD true 9 (nth xs203 1) H454 fun v455 =>
 Q (.tup [v455, v233]) H454 nx230)
 (LD true 9 (nth xs203 3) H229 fun v456 =>
 ST 9 (nth xs203 1) v456 H229 fun H457 =>
 LD true 9 (nth xs203 1) H457 fun v458 =>
 Q (.tup [v458, .int .i64 0]) H457 nx230))))
def zfx (Q : QT) (K202 : J3) (xs203 : List AV) (H204 : Heap) (nx205 : Nat) : Prop :=
 BI .lss (nth xs203 5) (nth xs203 4) fun v206 =>
 CNDC v206
 (za Try.prog 35 [nth xs203 2] H204 nx205 (zos xs203 K202))
 (za Try.prog 33 [nth xs203 2, .int .i64 (-1)] H204 nx205 (zbh xs203 Q))
def zjd (Q : QT) (xs121 : List AV) (v199 : AV) (H200 : Heap) (nx201 : Nat) : Prop :=
 LP (zfx Q) [nth xs121 0, nth xs121 1, nth xs121 2, nth xs121 3, v199, AV.int IntKind.i64 0] H200 nx201
def zdt (Q : QT) (K120 : J3) (xs121 : List AV) (H122 : Heap) (nx123 : Nat) : Prop :=
 BI .lss (nth xs121 5) (nth xs121 4) fun v124 =>
 CNDC v124
 (za Try.prog 33 [nth xs121 2, .int .i64 (-1)] H122 nx123 (zou xs121 K120))
 (za Try.prog 33 [nth xs121 2, .int .i64 60] H122 nx123 (zjd Q xs121))
def zjc (Q : QT) (xs58 : List AV) (v117 : AV) (H118 : Heap) (nx119 : Nat) : Prop :=
 LP (zdt Q) [nth xs58 0, nth xs58 1, nth xs58 2, nth xs58 3, v117, AV.int IntKind.i64 0] H118 nx119
def zds (Q : QT) (K57 : J3) (xs58 : List AV) (H59 : Heap) (nx60 : Nat) : Prop :=
 BI .lss (nth xs58 5) (nth xs58 4) fun v61 =>
 CNDC v61
 (za Try.prog 33 [nth xs58 2, .int .i64 (-1)] H59 nx60 (zqf xs58 K57))
 (za Try.prog 33 [nth xs58 2, .int .i64 12] H59 nx60 (zjc Q xs58))
def zjb (Q : QT) (xs29 : List AV) (v54 : AV) (H55 : Heap) (nx56 : Nat) : Prop :=
 LP (zds Q) [nth xs29 0, nth xs29 1, nth xs29 2, nth xs29 3, v54, AV.int IntKind.i64 0] H55 nx56
def zfw (Q : QT) (K28 : J3) (xs29 : List AV) (H30 : Heap) (nx31 : Nat) : Prop :=
 BI .lss (nth xs29 5) (nth xs29 4) fun v32 =>
 CNDC v32
 (FA 2 (nth xs29 3) fun v33 =>
 FA 1 v33 fun v34 =>
 LDR false 1 v34 H30 fun v35 rd36 =>
 zj Try.prog (.clo 34 []) [nth xs29 2, .int .i64 12] H30 nx31 (zql H30 nx31 v35 xs29 v34 rd36 K28))
 (za Try.prog 33 [nth xs29 2, .int .i64 5] H30 nx31 (zjb Q xs29))
def zor (Q : QT) (a0 : AV) (nx : Nat) (nx9 : Nat) (v25 : AV) (H26 : Heap) (nx27 : Nat) : Prop :=
 LP (zfw Q) [a0, AV.ptr nx 0, AV.ptr (nx + 1) 0, AV.ptr nx9 0, v25, AV.int IntKind.i64 0] H26 nx27
def zoq (nx9 : Nat) (nx : Nat) (Q : QT) (a0 : AV) (v21 : AV) (H22 : Heap) (nx23 : Nat) : Prop :=
 ST 1 (.ptr nx9 8) v21 H22 fun H24 =>
 za Try.prog 33 [.ptr (nx + 1) 0, .int .i64 16] H24 nx23 (zor Q a0 nx nx9)
def zop (nx9 : Nat) (nx : Nat) (Q : QT) (a0 : AV) (v17 : AV) (H18 : Heap) (nx19 : Nat) : Prop :=
 ST 1 (.ptr nx9 7) v17 H18 fun H20 =>
 za Try.prog 33 [.ptr (nx + 1) 0, .int .i64 (-1)] H20 nx19 (zoq nx9 nx Q a0)
def zoo (nx9 : Nat) (nx : Nat) (Q : QT) (a0 : AV) (v13 : AV) (H14 : Heap) (nx15 : Nat) : Prop :=
 ST 1 (.ptr nx9 6) v13 H14 fun H16 =>
 za Try.prog 33 [.ptr (nx + 1) 0, .int .i64 (-1)] H16 nx15 (zop nx9 nx Q a0)
def zon (v4 : AV) (nx : Nat) (Q : QT) (a0 : AV) (v7 : AV) (H8 : Heap) (nx9 : Nat) : Prop :=
 BD (zz tab [(3, 0), (3, 1), (25, 2), (26, 4), (27, 5), (29, 6)]) [.int .i64 0, .int .i64 0, .nils, .nils, .nils, .nils, .int .i64 0, .int .i64 0, .int .i64 0] [(0, v4), (1, v7)] fun v10 =>
 PUTH H8 nx9 (.row 9 [.int .i64 0, .int .i64 0, .nils, .nils, .nils, .nils, .int .i64 0, .int .i64 0, .int .i64 0]) fun H11 =>
 ST 9 (.ptr nx9 0) v10 H11 fun H12 =>
 za Try.prog 33 [.ptr (nx + 1) 0, .int .i64 (-1)] H12 (nx9 + 1) (zoo nx9 nx Q a0)
def zom (nx : Nat) (Q : QT) (a0 : AV) (v4 : AV) (H5 : Heap) (nx6 : Nat) : Prop :=
 za Try.prog 33 [AV.ptr (nx + 1) 0, AV.int IntKind.i64 (-1)] H5 nx6 (zon v4 nx Q a0)
def zjz (a0 : AV) (H : Heap) (nx : Nat) (Q : QT) : Prop :=
 PUTH H nx (.row 9 [.int .i64 0, .int .i64 0, .nils, .nils, .nils, .nils, .int .i64 0, .int .i64 0, .int .i64 0]) fun H1 =>
 BD (zz tab [(32, 0), (33, 1)]) [.nils, .int .i64 0] [(0, a0)] fun v2 =>
 v2.sure = true ∧
 PUTH H1 (nx + 1) (.row v2.cells.length v2.cells) fun H3 =>
 za Try.prog 33 [.ptr (nx + 1) 0, .int .i64 (-1)] H3 (nx + 2) (zom nx Q a0)
theorem zwg (a0 : AV) (H : Heap) (nx : Nat) (Q : QT) : zjz a0 H nx Q → za Try.prog 8 [a0] H nx Q :=
  zc (lv := lvOf [(2, 7, [0, 2, 4, 5, 32, 33]), (2, 11, [0, 2, 4, 5, 46, 47]), (2, 14, [0, 2, 4, 5, 6, 46, 47, 55, 56]), (2, 23, [0, 2, 4, 5, 84, 85]), (2, 26, [0, 2, 4, 5, 8, 84, 85, 93, 94]), (2, 30, [0, 2, 4, 5, 8, 84, 85, 105, 106]), (2, 36, [0, 2, 4, 5, 124, 125])]) (c := zi Try.f8) zn zp zo Try.func8 (by kernel_rfl) (by kernel_rfl) (by kernel_rfl) (by kernel_rfl) (by kernel_rfl)
def zfj (Q : QT) (K9 : J3) (xs10 : List AV) (H11 : Heap) (nx12 : Nat) : Prop :=
 BI .lss (nth xs10 0) (.int .u64 128) fun v13 =>
 CNDC v13
 (CV .u8 (nth xs10 0) fun v14 =>
 BSL 1 1 [.int .u8 0] [(0, v14)] fun cells15 =>
 PUTH H11 nx12 (.row 1 cells15) fun H16 =>
 APP 1 1 (nth xs10 1) (.slc nx12 0 1) H16 (nx12 + 1) fun v17 H18 nx19 =>
 Q v17 H18 nx19)
 (BI .rem (nth xs10 0) (.int .u64 128) fun v20 =>
 BI .add v20 (.int .u64 128) fun v21 =>
 CV .u8 v21 fun v22 =>
 BSL 1 1 [.int .u8 0] [(0, v22)] fun cells23 =>
 PUTH H11 nx12 (.row 1 cells23) fun H24 =>
 APP 1 1 (nth xs10 1) (.slc nx12 0 1) H24 (nx12 + 1) fun v25 H26 nx27 =>
 BI .quo (nth xs10 0) (.int .u64 128) fun v28 =>
 K9 [v28, v25] H26 nx27)
def zna (a0 : AV) (H : Heap) (nx : Nat) (Q : QT) : Prop :=
 CV .u64 a0 fun v1 =>
 BI .mul v1 (.int .u64 2) fun v2 =>
 BI .lss a0 (.int .i64 0) fun v3 =>
 CNDC v3
 (BI .add a0 (.int .i64 1) fun v4 =>
 UO .neg v4 fun v5 =>
 CV .u64 v5 fun v6 =>
 BI .mul v6 (.int .u64 2) fun v7 =>
 BI .add v7 (.int .u64 1) fun v8 =>
 LP (zfj Q) [v8, .nils] H nx)
 (LP (zfj Q) [v2, .nils] H nx)
theorem zzp (a0 : AV) (H : Heap) (nx : Nat) (Q : QT) : zna a0 H nx Q → za Try.prog 21 [a0] H nx Q :=
  zc (lv := lvOf [(2, 5, [3, 4])]) (c := zi Try.f21) zn zp zo Try.func21 (by kernel_rfl) (by kernel_rfl) (by kernel_rfl) (by kernel_rfl) (by kernel_rfl)
def zhy (v9 : AV) (H4 : Heap) (nx5 : Nat) (xs3 : List AV) (rd10 : List Nat) (K2 : J3) (v11 : AV) (_ : List Nat) (fr13 : List Nat) (D14 : zl) : Prop :=
 zy 1 1 v9 v11 (H4.apply D14) (nx5 + fr13.length) fun v15 _ fr17 D18 =>
 zar 1 (nth xs3 0) v15 ((H4.apply D14).apply D18) fun _ _ fr21 D22 =>
 SOFT (nth xs3 0) v9 D14 rd10 (
 BI .add (nth xs3 3) (.int .i64 1) fun v23 =>
 K2 [nth xs3 0, nth xs3 1, nth xs3 2, v23] (((H4.apply D14).apply D18).apply D22) (((nx5 + fr13.length) + fr17.length) + fr21.length))
def zdb (Q : QT) (K2 : J3) (xs3 : List AV) (H4 : Heap) (nx5 : Nat) : Prop :=
 BI .lss (nth xs3 3) (nth xs3 2) fun v6 =>
 CNDC v6
 (IA 1 (nth xs3 1) (nth xs3 3) fun v7 =>
 LD false 1 v7 H4 fun v8 =>
 LDR false 1 (nth xs3 0) H4 fun v9 rd10 =>
 zj Try.prog (.clo 21 []) [v8] H4 nx5 (zhy v9 H4 nx5 xs3 rd10 K2))
 (Q (.tup []) H4 nx5)
def zhx (a0 a1 : AV) (H : Heap) (nx : Nat) (Q : QT) : Prop :=
 LNL a0 fun v1 =>
 LP (zdb Q) [a1, a0, v1, .int .i64 0] H nx
theorem zka (a0 a1 : AV) (H : Heap) (nx : Nat) (Q : QT) : zhx a0 a1 H nx Q → za Try.prog 20 [a0, a1] H nx Q :=
  zc (lv := lvOf [(2, 1, [1, 5, 6, 7])]) (c := zi Try.f20) zn zp zo Try.func20 (by kernel_rfl) (by kernel_rfl) (by kernel_rfl) (by kernel_rfl) (by kernel_rfl)
def znp (a2 : AV) (a0 : AV) (Q : QT) (_ : AV) (H6 : Heap) (nx7 : Nat) : Prop :=
 LD false 1 a2 H6 fun v8 =>
 CSB a0 fun s9 =>
 PUTH H6 nx7 (.row 1 (s9.map fun b => .int .u8 (b.toNat : Int))) fun H10 =>
 APP 1 1 v8 (.slc nx7 0 s9.length) H10 (nx7 + 1) fun v11 H12 nx13 =>
 ST 1 a2 v11 H12 fun H14 =>
 Q (.tup []) H14 nx13
def zno (a0 a1 a2 : AV) (H : Heap) (nx : Nat) (Q : QT) : Prop :=
 LD false 1 a1 H fun v1 =>
 LNS a0 fun v2 =>
 BSL 1 1 [.int .i64 0] [(0, v2)] fun cells3 =>
 PUTH H nx (.row 1 cells3) fun H4 =>
 CALL Try.prog v1 [.slc nx 0 1] H4 (nx + 1) (znp a2 a0 Q)
theorem zuo (a0 a1 a2 : AV) (H : Heap) (nx : Nat) (Q : QT) : zno a0 a1 a2 H nx Q → za Try.prog 22 [a0, a1, a2] H nx Q :=
  zc (lv := lvOf []) (c := zi Try.f22) zn zp zo Try.func22 (by kernel_rfl) (by kernel_rfl) (by kernel_rfl) (by kernel_rfl) (by kernel_rfl)
def zek (Q : QT) (v13 : AV) (H14 : Heap) (nx15 : Nat) : Prop :=
 Q (AV.tup []) H14 nx15
def zhw (nx : Nat) (a2 : AV) (Q : QT) (a1 : AV) (_ : AV) (H7 : Heap) (nx8 : Nat) : Prop :=
 LD false 1 (.ptr nx 0) H7 fun v9 =>
 BI .eql v9 (.int .i64 1) fun v10 =>
 CNDC v10
 (LD false 1 a2 H7 fun v11 =>
 LD false 1 (.ptr nx 2) H7 fun v12 =>
 CALL Try.prog v11 [v12] H7 nx8 (zek Q))
 (LD false 1 a1 H7 fun v16 =>
 LD false 1 (.ptr nx 1) H7 fun v17 =>
 BSL 1 1 [.int .i64 0] [(0, v17)] fun cells18 =>
 PUTH H7 nx8 (.row 1 cells18) fun H19 =>
 CALL Try.prog v16 [.slc nx8 0 1] H19 (nx8 + 1) (zek Q))
def znn (a0 a1 a2 : AV) (H : Heap) (nx : Nat) (Q : QT) : Prop :=
 a0.sure = true ∧
 PUTH H nx (.row a0.cells.length a0.cells) fun H1 =>
 LD false 1 a1 H1 fun v2 =>
 LD false 1 (.ptr nx 0) H1 fun v3 =>
 BSL 1 1 [.int .i64 0] [(0, v3)] fun cells4 =>
 PUTH H1 (nx + 1) (.row 1 cells4) fun H5 =>
 CALL Try.prog v2 [.slc (nx + 1) 0 1] H5 (nx + 2) (zhw nx a2 Q a1)
theorem zun (a0 a1 a2 : AV) (H : Heap) (nx : Nat) (Q : QT) : znn a0 a1 a2 H nx Q → za Try.prog 23 [a0, a1, a2] H nx Q :=
  zc (lv := lvOf []) (c := zi Try.f23) zn zp zo Try.func23 (by kernel_rfl) (by kernel_rfl) (by kernel_rfl) (by kernel_rfl) (by kernel_rfl)
def zgj (a0 a1 : AV) (H : Heap) (nx : Nat) (Q : QT) : Prop :=
 CV .u64 a1 fun v1 =>
 BI .and v1 (.int .u64 31) fun v2 =>
 BI .shl a0 v2 fun v3 =>
 BI .sub (.int .u64 32) v2 fun v4 =>
 BI .shr a0 v4 fun v5 =>
 BI .or v3 v5 fun v6 =>
 Q v6 H nx
theorem zlw (a0 a1 : AV) (H : Heap) (nx : Nat) (Q : QT) : zgj a0 a1 H nx Q → za Try.prog 45 [a0, a1] H nx Q :=
  zc (lv := lvOf []) (c := zi Try.f45) zn zp zo Try.func45 (by kernel_rfl) (by kernel_rfl) (by kernel_rfl) (by kernel_rfl) (by kernel_rfl)
def zkm (Q : QT) (v47 : AV) (H48 : Heap) (nx49 : Nat) : Prop :=
 Q v47 H48 nx49
def zkl (v34 : AV) (nx32 : Nat) (Q : QT) (v37 : AV) (H38 : Heap) (nx39 : Nat) : Prop :=
 EX v37 0 fun v40 =>
 EX v37 1 fun v41 =>
 PUTH H38 nx39 (.row 9 [.int .i64 0, .int .i64 0, .nils, .nils, .nils, .nils, .int .i64 0, .int .i64 0, .int .i64 0]) fun H42 =>
 ST 9 (.ptr nx39 0) v40 H42 fun H43 =>
 BI .eql v34 v41 fun v44 =>
 CND v44
 (LD true 9 (.ptr nx32 0) H43 fun v45 =>
 LD true 9 (.ptr nx39 0) H43 fun v46 =>
 za Try.prog 9 [v45, v46] H43 (nx39 + 1) (zkm Q))
 (Q (.bool false) H43 (nx39 + 1))
def zbn (a1 : AV) (Q : QT) (v30 : AV) (H31 : Heap) (nx32 : Nat) : Prop :=
 EX v30 0 fun v33 =>
 EX v30 1 fun v34 =>
 PUTH H31 nx32 (.row 9 [.int .i64 0, .int .i64 0, .nils, .nils, .nils, .nils, .int .i64 0, .int .i64 0, .int .i64 0]) fun H35 =>
 ST 9 (.ptr nx32 0) v33 H35 fun H36 =>
 za Try.prog 8 [a1] H36 (nx32 + 1) (zkl v34 nx32 Q)
def zkk (H1 : Heap) (D7 : zl) (D14 : zl) (D18 : zl) (v15 : AV) (rd20 : List Nat) (rd16 : List Nat) (Q : QT) (nx : Nat) (fr6 : List Nat) (fr13 : List Nat) (fr17 : List Nat) (a1 : AV) (v21 : AV) (rd22 : List Nat) (fr23 : List Nat) (D24 : zl) : Prop :=
 zeg v21 ((((H1.apply D7).apply D14).apply D18).apply D24) fun v25 rd26 fr27 D28 =>
 BS .neq v15 v25 fun v29 =>
 zb (domD D14) rd20 (
 zb (domD D14) [] (
 zb (domD D18) rd20 (
 zb (domD D18) [] (
 zb (domD D18) rd22 (
 zb (domD D18) (domD D24) (
 zb (domD D24) rd16 (
 zb (domD D18) rd26 (
 zb (domD D18) (domD D28) (
 zb (domD D28) rd16 (
 CNDC v29
 (Q (.bool false) (((((H1.apply D7).apply D14).apply D18).apply D24).apply D28) ((((((nx + 1) + fr6.length) + fr13.length) + fr17.length) + fr23.length) + fr27.length))
 (za Try.prog 7 [a1] (((((H1.apply D7).apply D14).apply D18).apply D24).apply D28) ((((((nx + 1) + fr6.length) + fr13.length) + fr17.length) + fr23.length) + fr27.length) (zbn a1 Q))))))))))))
def zkj (H1 : Heap) (D7 : zl) (nx : Nat) (fr6 : List Nat) (Q : QT) (a1 : AV) (v11 : AV) (_ : List Nat) (fr13 : List Nat) (D14 : zl) : Prop :=
 zeg v11 ((H1.apply D7).apply D14) fun v15 rd16 fr17 D18 =>
 LDR true 9 (.ptr nx 0) (((H1.apply D7).apply D14).apply D18) fun v19 rd20 =>
 zj Try.prog (.clo 6 []) [v19] (((H1.apply D7).apply D14).apply D18) ((((nx + 1) + fr6.length) + fr13.length) + fr17.length) (zkk H1 D7 D14 D18 v15 rd20 rd16 Q nx fr6 fr13 fr17 a1)
def zfc (nx : Nat) (H1 : Heap) (Q : QT) (a1 : AV) (v4 : AV) (_ : List Nat) (fr6 : List Nat) (D7 : zl) : Prop :=
 BI .eql v4 (.int .i64 0) fun v8 =>
 CND v8
 (LDR true 9 (.ptr nx 0) (H1.apply D7) fun v9 _ =>
 zj Try.prog (.clo 5 []) [v9] (H1.apply D7) ((nx + 1) + fr6.length) (zkj H1 D7 nx fr6 Q a1))
 (za Try.prog 7 [a1] (H1.apply D7) ((nx + 1) + fr6.length) (zbn a1 Q))
def zki (a0 a1 : AV) (H : Heap) (nx : Nat) (Q : QT) : Prop :=
 a0.sure = true ∧
 PUTH H nx (.row a0.cells.length a0.cells) fun H1 =>
 LDR true 9 (.ptr nx 0) H1 fun v2 _ =>
 zj Try.prog (.clo 4 []) [v2, .bool true] H1 (nx + 1) (zfc nx H1 Q a1)
theorem zpx (a0 a1 : AV) (H : Heap) (nx : Nat) (Q : QT) : zki a0 a1 H nx Q → za Try.prog 3 [a0, a1] H nx Q :=
  zc (lv := lvOf []) (c := zi Try.f3) zn zp zo Try.func3 (by kernel_rfl) (by kernel_rfl) (by kernel_rfl) (by kernel_rfl) (by kernel_rfl)
end Go.Proofs.Ytpbnaaoilgohkaa
