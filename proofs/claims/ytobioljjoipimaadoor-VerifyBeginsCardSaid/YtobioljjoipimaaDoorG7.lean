/- What is to be shown of each function, written out. Programs, and agents, as they lie in memory. A call that changes what it is handed by address, where the order is drawn. Cells numbered as they are come to: the program's closure. Rows that are read: by value, or owned. Rows copied. Cells numbered as they are come to: plain laws. Cells numbered as they are come to: the closure, where the order is drawn. Cells numbered as they are come to: the program's function. Cells numbered as they are come to: what holds between the closure's calls. Cells numbered anew: what stays. Cells numbered as they are come to: the program's function. Cells numbered as they are come to: the program's function, all of it. DERIVED: THE SHELF's CONTRACTS AT THIS DUMP, IN PLAIN WORDS (tools/lay-plain.mjs out of 'YtobioljjoipimaaDoorShelf0.lean', which tools/lay-shelf.mjs wrote): THE SAME DECLARATIONS UNDER THE SAME NAMES: 'import', 'namespace', 'open', 'def', 'theorem' AND NOTHING ELSE: no command of the shelf's: FOR A HAND-IN. Each laying: the table of numbers ('.._ren') and one theorem, a field a fact of the dump's own or the kernel's comparison; each contract: ONE APPLICATION. strconv.Itoa: a number's digits. A value as a text: the program's function, and the document's. -/
import Derived.Test.YtobioljjoipimaaDoorG5
import Derived.Test.YtobioljjoipimaaDoorG6
import Derived.Shelf.Strconv.Atoi
import Derived.Shelf.Strconv.Itoa0
import Derived.Shelf.Strconv.Itoa1
import Derived.Shelf.LaysM
import Derived.Shelf.Strconv.Itoa2
import Derived.Shelf.Strconv.Itoa3
import Derived.Shelf.Strconv.AtoiErrFast
import Derived.Shelf.Strconv.ParseIntEmpty
import Derived.Shelf.Strconv.AtoiFail
import Derived.Shelf.Strconv.Clone
import Derived.Shelf.Strconv.SyntaxError
import Derived.Shelf.LaysC
import Derived.Shelf.Strconv.ToError
import Derived.Shelf.Strconv.Lower
import Derived.Shelf.Strconv.ParseUint10
import Derived.Shelf.Strconv.ParseUint10Empty
import Derived.Shelf.Strconv.ParseUint10Any
import Derived.Shelf.Strconv.ParseInt10
import Derived.Shelf.Strconv.AtoiLong
import Derived.Shelf.Strconv.AtoiInnerAll
import Derived.Shelf.Strconv.RangeError
import Derived.Shelf.Strconv.ToErrorRange
import Derived.Shelf.Strconv.AtoiAll
import Derived.Shelf.Strconv.ErrVarAll
import Derived.Ground.Names2Prog
import Derived.Test.YtobioljjoipimaaDoorProg
import Derived.Lib.ItoaLen
set_option linter.unusedSimpArgs false
set_option linter.unusedVariables false
set_option maxRecDepth 8000
namespace Go.Proofs.YtobioljjoipimaaDoor
open Go Go.RowKit
def zgz (a0 a1 : AV) (H : Heap) (nx : Nat) (Q : QT) : Prop :=
 LD true 9 a1 ((H.put nx (some (AObj.row 9 [AV.int IntKind.i64 0, AV.int IntKind.i64 0, AV.nils, AV.nils, AV.nils, AV.nils, AV.int IntKind.i64 0, AV.int IntKind.i64 0, AV.int IntKind.i64 0]))).put ((nx + 1)) (some (AObj.row 3 [AV.int IntKind.i64 0, AV.str [], AV.int IntKind.i64 0]))) fun v1 =>
 BD (zat tab [(3, 0), (9, 1), (23, 2)]) [AV.int IntKind.i64 0, AV.str [], AV.int IntKind.i64 0] [(0, AV.int IntKind.i64 5), (2, a0)] fun v2 =>
 ST 9 (AV.ptr nx 0) v1 ((H.put nx (some (AObj.row 9 [AV.int IntKind.i64 0, AV.int IntKind.i64 0, AV.nils, AV.nils, AV.nils, AV.nils, AV.int IntKind.i64 0, AV.int IntKind.i64 0, AV.int IntKind.i64 0]))).put ((nx + 1)) (some (AObj.row 3 [AV.int IntKind.i64 0, AV.str [], AV.int IntKind.i64 0]))) fun H3 =>
 ST 3 (AV.ptr (nx + 1) 0) v2 H3 fun H4 =>
 LD true 9 (AV.ptr nx 0) H4 fun v5 =>
 LD true 3 (AV.ptr (nx + 1) 0) H4 fun v6 =>
 Q (AV.tup [v5, v6]) H4 (nx + 2)
theorem zkr (a0 a1 : AV) (H : Heap) (nx : Nat) (Q : QT) : zgz a0 a1 H nx Q → zb Tryd.prog 43 [a0, a1] H nx Q :=
  zm (lv := lvOf []) (c := zx Tryd.f43) zbf zbm mixed Tryd.func43 (by kernel_rfl) (by kernel_rfl) (by kernel_rfl) (by kernel_rfl) (by kernel_rfl)
def zgy (nx : Nat) (Q : QT) (v12 : AV) (H13 : Heap) (nx14 : Nat) : Prop :=
 ST 9 (AV.ptr (nx + 1) 0) v12 H13 fun H15 =>
 ST 3 (AV.ptr (nx + 2) 0) (AV.agg [AV.int IntKind.i64 0, AV.str [], AV.int IntKind.i64 0]) H15 fun H16 =>
 LD true 9 (AV.ptr (nx + 1) 0) H16 fun v17 =>
 LD true 3 (AV.ptr (nx + 2) 0) H16 fun v18 =>
 Q (AV.tup [v17, v18]) H16 nx14
def zgx (a0 a1 a2 : AV) (H : Heap) (nx : Nat) (Q : QT) : Prop :=
 a0.sure = true ∧
 FA 3 a1 fun v1 =>
 LD false 1 v1 (((H.put nx (some (AObj.row a0.cells.length a0.cells))).put ((nx + 1)) (some (AObj.row 9 [AV.int IntKind.i64 0, AV.int IntKind.i64 0, AV.nils, AV.nils, AV.nils, AV.nils, AV.int IntKind.i64 0, AV.int IntKind.i64 0, AV.int IntKind.i64 0]))).put ((nx + 2)) (some (AObj.row 3 [AV.int IntKind.i64 0, AV.str [], AV.int IntKind.i64 0]))) fun v2 =>
 LD true 3 (AV.ptr nx 0) (((H.put nx (some (AObj.row a0.cells.length a0.cells))).put ((nx + 1)) (some (AObj.row 9 [AV.int IntKind.i64 0, AV.int IntKind.i64 0, AV.nils, AV.nils, AV.nils, AV.nils, AV.int IntKind.i64 0, AV.int IntKind.i64 0, AV.int IntKind.i64 0]))).put ((nx + 2)) (some (AObj.row 3 [AV.int IntKind.i64 0, AV.str [], AV.int IntKind.i64 0]))) fun v3 =>
 BSL 1 3 [AV.int IntKind.i64 0, AV.int IntKind.i64 0, AV.str []] [(0, v3)] fun cells4 =>
 APP 3 32 v2 (AV.slc (nx + 3) 0 1) ((((H.put nx (some (AObj.row a0.cells.length a0.cells))).put ((nx + 1)) (some (AObj.row 9 [AV.int IntKind.i64 0, AV.int IntKind.i64 0, AV.nils, AV.nils, AV.nils, AV.nils, AV.int IntKind.i64 0, AV.int IntKind.i64 0, AV.int IntKind.i64 0]))).put ((nx + 2)) (some (AObj.row 3 [AV.int IntKind.i64 0, AV.str [], AV.int IntKind.i64 0]))).put ((nx + 3)) (some (AObj.row 3 cells4))) (nx + 4) fun v5 H6 nx7 =>
 FA 3 a1 fun v8 =>
 ST 1 v8 v5 H6 fun H9 =>
 LD true 9 a2 H9 fun v10 =>
 LD true 4 a1 H9 fun v11 =>
 zb Tryd.prog 45 [v10, v11] H9 nx7 (zgy nx Q)
theorem zkq (a0 a1 a2 : AV) (H : Heap) (nx : Nat) (Q : QT) : zgx a0 a1 a2 H nx Q → zb Tryd.prog 46 [a0, a1, a2] H nx Q :=
  zm (lv := lvOf []) (c := zx Tryd.f46) zbf zbm mixed Tryd.func46 (by kernel_rfl) (by kernel_rfl) (by kernel_rfl) (by kernel_rfl) (by kernel_rfl)
def zha (a0 : AV) (H : Heap) (nx : Nat) (Q : QT) : Prop :=
 NC a0 fun v1 =>
 FA 0 v1 fun v2 =>
 FA 4 v2 fun v3 =>
 LDR false 1 v3 H fun v4 _ =>
 NC a0 fun v6 =>
 FA 0 v6 fun v7 =>
 FA 4 v7 fun v8 =>
 LDR false 1 v8 H fun v9 _ =>
 LNL v9 fun v11 =>
 BI BinOp.sub v11 (AV.int IntKind.i64 1) fun v12 =>
 IA 4 v4 v12 fun v13 =>
 Q v13 H nx
theorem zks (a0 : AV) (H : Heap) (nx : Nat) (Q : QT) : zha a0 H nx Q → zb Tryd.prog 84 [a0] H nx Q :=
  zm (lv := lvOf []) (c := zx Tryd.f84) zbf zbm mixed Tryd.func84 (by kernel_rfl) (by kernel_rfl) (by kernel_rfl) (by kernel_rfl) (by kernel_rfl)
def zfw (nx : Nat) (Q : QT) (v1 : AV) (H2 : Heap) (nx3 : Nat) : Prop :=
 NC v1 fun v4 =>
 FA 3 v4 fun v5 =>
 LDR false 1 v5 H2 fun v6 rd7 =>
 LDR true 3 (AV.ptr nx 0) H2 fun v8 _ =>
 BSL 1 3 [AV.int IntKind.i64 0, AV.int IntKind.i64 0, AV.str []] [(0, v8)] fun cells10 =>
 zad 3 32 v6 (AV.slc nx3 0 1) (H2.put nx3 (some (AObj.row 3 cells10))) (nx3 + 1) fun v11 _ fr13 D14 =>
 NC v1 fun v15 =>
 FA 3 v15 fun v16 =>
 zbs 1 v16 v11 ((H2.put nx3 (some (AObj.row 3 cells10))).apply D14) fun _ _ fr19 D20 =>
 nx3 ∉ [] ∧
 nx3 ∉ [] ∧
 nx3 ∉ [] ∧
 nx3 ∉ [] ∧
 nx3 ∉ rd7 ∧
 zn (domD D14) [] (
 Q (AV.tup []) (((H2.put nx3 (some (AObj.row 3 cells10))).apply D14).apply D20) (((nx3 + 1) + fr13.length) + fr19.length))
def zfv (a0 a1 : AV) (H : Heap) (nx : Nat) (Q : QT) : Prop :=
 a1.sure = true ∧
 zb Tryd.prog 84 [a0] (H.put nx (some (AObj.row a1.cells.length a1.cells))) (nx + 1) (zfw nx Q)
theorem zji (a0 a1 : AV) (H : Heap) (nx : Nat) (Q : QT) : zfv a0 a1 H nx Q → zb Tryd.prog 85 [a0, a1] H nx Q :=
  zm (lv := lvOf []) (c := zx Tryd.f85) zbf zbm mixed Tryd.func85 (by kernel_rfl) (by kernel_rfl) (by kernel_rfl) (by kernel_rfl) (by kernel_rfl)
def zio (a0 a1 : AV) (H : Heap) (nx : Nat) (Q : QT) : Prop :=
 a0.sure = true ∧
 a1.sure = true ∧
 LD false 1 (AV.ptr nx 4) ((((H.put nx (some (AObj.row a0.cells.length a0.cells))).put ((nx + 1)) (some (AObj.row a1.cells.length a1.cells))).put ((nx + 2)) (some (AObj.row 9 [AV.int IntKind.i64 0, AV.int IntKind.i64 0, AV.nils, AV.nils, AV.nils, AV.nils, AV.int IntKind.i64 0, AV.int IntKind.i64 0, AV.int IntKind.i64 0]))).put ((nx + 3)) (some (AObj.row 4 []))) fun v1 =>
 APP 4 64 (AV.slc (nx + 3) 0 0) v1 ((((H.put nx (some (AObj.row a0.cells.length a0.cells))).put ((nx + 1)) (some (AObj.row a1.cells.length a1.cells))).put ((nx + 2)) (some (AObj.row 9 [AV.int IntKind.i64 0, AV.int IntKind.i64 0, AV.nils, AV.nils, AV.nils, AV.nils, AV.int IntKind.i64 0, AV.int IntKind.i64 0, AV.int IntKind.i64 0]))).put ((nx + 3)) (some (AObj.row 4 []))) (nx + 4) fun v2 H3 nx4 =>
 LNL v2 fun v5 =>
 BI BinOp.sub v5 (AV.int IntKind.i64 1) fun v6 =>
 LD true 4 (AV.ptr (nx + 1) 0) H3 fun v7 =>
 IA 4 v2 v6 fun v8 =>
 ST 4 v8 v7 H3 fun H9 =>
 ST 1 (AV.ptr nx 4) v2 H9 fun H10 =>
 LD true 9 (AV.ptr nx 0) H10 fun v11 =>
 ST 9 (AV.ptr (nx + 2) 0) v11 H10 fun H12 =>
 LD true 9 (AV.ptr (nx + 2) 0) H12 fun v13 =>
 Q v13 H12 nx4
theorem zmj (a0 a1 : AV) (H : Heap) (nx : Nat) (Q : QT) : zio a0 a1 H nx Q → zb Tryd.prog 45 [a0, a1] H nx Q :=
  zm (lv := lvOf []) (c := zx Tryd.f45) zbf zbm mixed Tryd.func45 (by kernel_rfl) (by kernel_rfl) (by kernel_rfl) (by kernel_rfl) (by kernel_rfl)
def zki (a0 a1 a2 : AV) (H : Heap) (nx : Nat) (Q : QT) : Prop :=
 a1.sure = true ∧
 a2.sure = true ∧
 LDR true 2 (AV.ptr nx 0) (((H.put nx (some (AObj.row a1.cells.length a1.cells))).put ((nx + 1)) (some (AObj.row a2.cells.length a2.cells))).put ((nx + 2)) (some (AObj.row 9 [AV.int IntKind.i64 0, AV.int IntKind.i64 0, AV.nils, AV.nils, AV.nils, AV.nils, AV.int IntKind.i64 0, AV.int IntKind.i64 0, AV.int IntKind.i64 0]))) fun v1 rd2 =>
 LDR true 3 (AV.ptr (nx + 1) 0) (((H.put nx (some (AObj.row a1.cells.length a1.cells))).put ((nx + 1)) (some (AObj.row a2.cells.length a2.cells))).put ((nx + 2)) (some (AObj.row 9 [AV.int IntKind.i64 0, AV.int IntKind.i64 0, AV.nils, AV.nils, AV.nils, AV.nils, AV.int IntKind.i64 0, AV.int IntKind.i64 0, AV.int IntKind.i64 0]))) fun v3 rd4 =>
 LDR false 1 (AV.ptr nx 0) (((H.put nx (some (AObj.row a1.cells.length a1.cells))).put ((nx + 1)) (some (AObj.row a2.cells.length a2.cells))).put ((nx + 2)) (some (AObj.row 9 [AV.int IntKind.i64 0, AV.int IntKind.i64 0, AV.nils, AV.nils, AV.nils, AV.nils, AV.int IntKind.i64 0, AV.int IntKind.i64 0, AV.int IntKind.i64 0]))) fun v5 _ =>
 IA 3 v5 (AV.int IntKind.i64 0) fun v7 =>
 FA 1 v7 fun v8 =>
 LDR false 1 v8 (((H.put nx (some (AObj.row a1.cells.length a1.cells))).put ((nx + 1)) (some (AObj.row a2.cells.length a2.cells))).put ((nx + 2)) (some (AObj.row 9 [AV.int IntKind.i64 0, AV.int IntKind.i64 0, AV.nils, AV.nils, AV.nils, AV.nils, AV.int IntKind.i64 0, AV.int IntKind.i64 0, AV.int IntKind.i64 0]))) fun v9 _ =>
 MK 32 v9 v9 fun n11 =>
 BD (zat tab [(3, 0), (3, 1), (30, 2), (35, 4), (36, 5), (38, 6)]) [AV.int IntKind.i64 0, AV.int IntKind.i64 0, AV.nils, AV.nils, AV.nils, AV.nils, AV.int IntKind.i64 0, AV.int IntKind.i64 0, AV.int IntKind.i64 0] [(0, a0), (2, v1), (5, v3), (3, AV.slc (nx + 4) 0 1)] fun v12 =>
 zbs 9 (AV.ptr (nx + 2) 0) v12 (((((H.put nx (some (AObj.row a1.cells.length a1.cells))).put ((nx + 1)) (some (AObj.row a2.cells.length a2.cells))).put ((nx + 2)) (some (AObj.row 9 [AV.int IntKind.i64 0, AV.int IntKind.i64 0, AV.nils, AV.nils, AV.nils, AV.nils, AV.int IntKind.i64 0, AV.int IntKind.i64 0, AV.int IntKind.i64 0]))).put ((nx + 3)) (some (AObj.row 3 (List.replicate n11 [AV.int IntKind.i64 0, AV.int IntKind.i64 0, AV.str []]).flatten))).put ((nx + 4)) (some (AObj.row 4 [AV.int IntKind.i64 0, AV.int IntKind.i64 0, AV.slc (nx + 3) 0 n11, AV.nils]))) fun _ _ fr15 D16 =>
 (nx + 3) ∉ [] ∧
 (nx + 3) ∉ rd2 ∧
 (nx + 3) ∉ rd4 ∧
 (nx + 4) ∉ [] ∧
 (nx + 4) ∉ rd2 ∧
 (nx + 4) ∉ rd4 ∧
 LD true 9 (AV.ptr (nx + 2) 0) ((((((H.put nx (some (AObj.row a1.cells.length a1.cells))).put ((nx + 1)) (some (AObj.row a2.cells.length a2.cells))).put ((nx + 2)) (some (AObj.row 9 [AV.int IntKind.i64 0, AV.int IntKind.i64 0, AV.nils, AV.nils, AV.nils, AV.nils, AV.int IntKind.i64 0, AV.int IntKind.i64 0, AV.int IntKind.i64 0]))).put ((nx + 3)) (some (AObj.row 3 (List.replicate n11 [AV.int IntKind.i64 0, AV.int IntKind.i64 0, AV.str []]).flatten))).put ((nx + 4)) (some (AObj.row 4 [AV.int IntKind.i64 0, AV.int IntKind.i64 0, AV.slc (nx + 3) 0 n11, AV.nils]))).apply D16) fun v17 =>
 Q v17 ((((((H.put nx (some (AObj.row a1.cells.length a1.cells))).put ((nx + 1)) (some (AObj.row a2.cells.length a2.cells))).put ((nx + 2)) (some (AObj.row 9 [AV.int IntKind.i64 0, AV.int IntKind.i64 0, AV.nils, AV.nils, AV.nils, AV.nils, AV.int IntKind.i64 0, AV.int IntKind.i64 0, AV.int IntKind.i64 0]))).put ((nx + 3)) (some (AObj.row 3 (List.replicate n11 [AV.int IntKind.i64 0, AV.int IntKind.i64 0, AV.str []]).flatten))).put ((nx + 4)) (some (AObj.row 4 [AV.int IntKind.i64 0, AV.int IntKind.i64 0, AV.slc (nx + 3) 0 n11, AV.nils]))).apply D16) ((nx + 5) + fr15.length)
theorem zmr (a0 a1 a2 : AV) (H : Heap) (nx : Nat) (Q : QT) : zki a0 a1 a2 H nx Q → zb Tryd.prog 20 [a0, a1, a2] H nx Q :=
  zm (lv := lvOf []) (c := zx Tryd.f20) zbf zbm mixed Tryd.func20 (by kernel_rfl) (by kernel_rfl) (by kernel_rfl) (by kernel_rfl) (by kernel_rfl)
def zhb (a0 : AV) (H : Heap) (nx : Nat) (Q : QT) : Prop :=
 a0.sure = true ∧
 LD false 1 (AV.ptr nx 0) (H.put nx (some (AObj.row a0.cells.length a0.cells))) fun v1 =>
 BI BinOp.eql v1 (AV.int IntKind.i64 1) fun v2 =>
 CNDC v2
 (Q (AV.tup [AV.int IntKind.i64 0, AV.int IntKind.i64 1]) (H.put nx (some (AObj.row a0.cells.length a0.cells))) (nx + 1))
 (BI BinOp.eql v1 (AV.int IntKind.i64 2) fun v3 =>
 CNDC v3
 (Q (AV.tup [AV.int IntKind.i64 0, AV.int IntKind.i64 1]) (H.put nx (some (AObj.row a0.cells.length a0.cells))) (nx + 1))
 (BI BinOp.eql v1 (AV.int IntKind.i64 3) fun v4 =>
 CNDC v4
 (Q (AV.tup [AV.int IntKind.i64 0, AV.int IntKind.i64 1]) (H.put nx (some (AObj.row a0.cells.length a0.cells))) (nx + 1))
 (BI BinOp.eql v1 (AV.int IntKind.i64 12) fun v5 =>
 CNDC v5
 (Q (AV.tup [AV.int IntKind.i64 0, AV.int IntKind.i64 1]) (H.put nx (some (AObj.row a0.cells.length a0.cells))) (nx + 1))
 (BI BinOp.eql v1 (AV.int IntKind.i64 4) fun v6 =>
 CNDC v6
 (Q (AV.tup [AV.int IntKind.i64 1, AV.int IntKind.i64 0]) (H.put nx (some (AObj.row a0.cells.length a0.cells))) (nx + 1))
 (BI BinOp.eql v1 (AV.int IntKind.i64 14) fun v7 =>
 CNDC v7
 (Q (AV.tup [AV.int IntKind.i64 1, AV.int IntKind.i64 0]) (H.put nx (some (AObj.row a0.cells.length a0.cells))) (nx + 1))
 (BI BinOp.eql v1 (AV.int IntKind.i64 16) fun v8 =>
 CNDC v8
 (Q (AV.tup [AV.int IntKind.i64 1, AV.int IntKind.i64 0]) (H.put nx (some (AObj.row a0.cells.length a0.cells))) (nx + 1))
 (BI BinOp.eql v1 (AV.int IntKind.i64 19) fun v9 =>
 CNDC v9
 (Q (AV.tup [AV.int IntKind.i64 1, AV.int IntKind.i64 0]) (H.put nx (some (AObj.row a0.cells.length a0.cells))) (nx + 1))
 (BI BinOp.eql v1 (AV.int IntKind.i64 18) fun v10 =>
 CNDC v10
 (Q (AV.tup [AV.int IntKind.i64 1, AV.int IntKind.i64 0]) (H.put nx (some (AObj.row a0.cells.length a0.cells))) (nx + 1))
 (BI BinOp.eql v1 (AV.int IntKind.i64 5) fun v11 =>
 CNDC v11
 (Q (AV.tup [AV.int IntKind.i64 2, AV.int IntKind.i64 1]) (H.put nx (some (AObj.row a0.cells.length a0.cells))) (nx + 1))
 (BI BinOp.eql v1 (AV.int IntKind.i64 6) fun v12 =>
 CNDC v12
 (Q (AV.tup [AV.int IntKind.i64 2, AV.int IntKind.i64 1]) (H.put nx (some (AObj.row a0.cells.length a0.cells))) (nx + 1))
 (BI BinOp.eql v1 (AV.int IntKind.i64 7) fun v13 =>
 CNDC v13
 (Q (AV.tup [AV.int IntKind.i64 1, AV.int IntKind.i64 1]) (H.put nx (some (AObj.row a0.cells.length a0.cells))) (nx + 1))
 (BI BinOp.eql v1 (AV.int IntKind.i64 8) fun v14 =>
 CNDC v14
 (Q (AV.tup [AV.int IntKind.i64 1, AV.int IntKind.i64 1]) (H.put nx (some (AObj.row a0.cells.length a0.cells))) (nx + 1))
 (BI BinOp.eql v1 (AV.int IntKind.i64 11) fun v15 =>
 CNDC v15
 (Q (AV.tup [AV.int IntKind.i64 1, AV.int IntKind.i64 1]) (H.put nx (some (AObj.row a0.cells.length a0.cells))) (nx + 1))
 (BI BinOp.eql v1 (AV.int IntKind.i64 13) fun v16 =>
 CNDC v16
 (Q (AV.tup [AV.int IntKind.i64 1, AV.int IntKind.i64 1]) (H.put nx (some (AObj.row a0.cells.length a0.cells))) (nx + 1))
 (BI BinOp.eql v1 (AV.int IntKind.i64 9) fun v17 =>
 CNDC v17
 (Q (AV.tup [AV.int IntKind.i64 2, AV.int IntKind.i64 0]) (H.put nx (some (AObj.row a0.cells.length a0.cells))) (nx + 1))
 (BI BinOp.eql v1 (AV.int IntKind.i64 10) fun v18 =>
 CNDC v18
 (Q (AV.tup [AV.int IntKind.i64 2, AV.int IntKind.i64 0]) (H.put nx (some (AObj.row a0.cells.length a0.cells))) (nx + 1))
 (BI BinOp.eql v1 (AV.int IntKind.i64 17) fun v19 =>
 CNDC v19
 (LD false 1 (AV.ptr nx 2) (H.put nx (some (AObj.row a0.cells.length a0.cells))) fun v20 =>
 Q (AV.tup [v20, AV.int IntKind.i64 1]) (H.put nx (some (AObj.row a0.cells.length a0.cells))) (nx + 1))
 (Q (AV.tup [AV.int IntKind.i64 0, AV.int IntKind.i64 0]) (H.put nx (some (AObj.row a0.cells.length a0.cells))) (nx + 1)))))))))))))))))))
theorem zkt (a0 : AV) (H : Heap) (nx : Nat) (Q : QT) : zhb a0 H nx Q → zb Tryd.prog 73 [a0] H nx Q :=
  zm (lv := lvOf []) (c := zx Tryd.f73) zbf zbm mixed Tryd.func73 (by kernel_rfl) (by kernel_rfl) (by kernel_rfl) (by kernel_rfl) (by kernel_rfl)
def zp (v25 : AV) (Q : QT) (nx16 : Nat) (v21 : AV) (v27 : AV) (K13 : J3) (xs14 : List AV) (v45 : AV) (H46 : Heap) (nx47 : Nat) : Prop :=
 EX v45 0 fun v48 =>
 EX v45 1 fun v49 =>
 BI BinOp.lss v25 v48 fun v50 =>
 CND v50
 (Q (AV.tup [AV.nils, AV.int IntKind.i64 10]) H46 nx47)
 (LD false 1 (AV.ptr nx16 0) H46 fun v51 =>
 BI BinOp.eql v51 (AV.int IntKind.i64 18) fun v52 =>
 CND v52
 (BI BinOp.neq v25 (AV.int IntKind.i64 1) fun v53 =>
 CNDC v53
 (Q (AV.tup [AV.nils, AV.int IntKind.i64 10]) H46 nx47)
 (BI BinOp.sub v49 v48 fun v54 =>
 BI BinOp.add v25 v54 fun v55 =>
 BI BinOp.gtr v55 (AV.int IntKind.i64 16) fun v56 =>
 CNDC v56
 (Q (AV.tup [AV.nils, AV.int IntKind.i64 4]) H46 nx47)
 (LD false 1 (AV.ptr nx16 0) H46 fun v57 =>
 BI BinOp.neq v57 (AV.int IntKind.i64 15) fun v58 =>
 CND v58
 (LD false 1 (AV.ptr nx16 0) H46 fun v59 =>
 BI BinOp.neq v59 (AV.int IntKind.i64 18) fun v60 =>
 CNDC v60
 (BI BinOp.add v21 (AV.int IntKind.i64 1) fun v61 =>
 BD (fun i => some (i * 1, 1)) [AV.int IntKind.i64 0, AV.int IntKind.i64 0] [(0, v61), (1, v55)] fun v62 =>
 BSL 1 2 [AV.int IntKind.i64 0, AV.int IntKind.i64 0] [(0, v62)] fun cells63 =>
 APP 2 16 v27 (AV.slc nx47 0 1) (H46.put nx47 (some (AObj.row 2 cells63))) (nx47 + 1) fun v64 H65 nx66 =>
 LD false 1 (AV.ptr nx16 0) H65 fun v67 =>
 BI BinOp.eql v67 (AV.int IntKind.i64 15) fun v68 =>
 CND v68
 (LD false 1 (AV.ptr nx16 1) H65 fun v69 =>
 BD (fun i => some (i * 1, 1)) [AV.int IntKind.i64 0, AV.int IntKind.i64 0] [(0, v69), (1, v55)] fun v70 =>
 BSL 1 2 [AV.int IntKind.i64 0, AV.int IntKind.i64 0] [(0, v70)] fun cells71 =>
 APP 2 16 v64 (AV.slc nx66 0 1) (H65.put nx66 (some (AObj.row 2 cells71))) (nx66 + 1) fun v72 H73 nx74 =>
 K13 [nth xs14 0, nth xs14 1, v72] H73 nx74)
 (LD false 1 (AV.ptr nx16 0) H65 fun v75 =>
 BI BinOp.eql v75 (AV.int IntKind.i64 16) fun v76 =>
 CNDC v76
 (LD false 1 (AV.ptr nx16 1) H65 fun v77 =>
 BD (fun i => some (i * 1, 1)) [AV.int IntKind.i64 0, AV.int IntKind.i64 0] [(0, v77), (1, v55)] fun v78 =>
 BSL 1 2 [AV.int IntKind.i64 0, AV.int IntKind.i64 0] [(0, v78)] fun cells79 =>
 APP 2 16 v64 (AV.slc nx66 0 1) (H65.put nx66 (some (AObj.row 2 cells79))) (nx66 + 1) fun v80 H81 nx82 =>
 K13 [nth xs14 0, nth xs14 1, v80] H81 nx82)
 (K13 [nth xs14 0, nth xs14 1, v64] H65 nx66)))
 (LD false 1 (AV.ptr nx16 0) H46 fun v83 =>
 BI BinOp.eql v83 (AV.int IntKind.i64 15) fun v84 =>
 CND v84
 (LD false 1 (AV.ptr nx16 1) H46 fun v85 =>
 BD (fun i => some (i * 1, 1)) [AV.int IntKind.i64 0, AV.int IntKind.i64 0] [(0, v85), (1, v55)] fun v86 =>
 BSL 1 2 [AV.int IntKind.i64 0, AV.int IntKind.i64 0] [(0, v86)] fun cells87 =>
 APP 2 16 v27 (AV.slc nx47 0 1) (H46.put nx47 (some (AObj.row 2 cells87))) (nx47 + 1) fun v88 H89 nx90 =>
 K13 [nth xs14 0, nth xs14 1, v88] H89 nx90)
 (LD false 1 (AV.ptr nx16 0) H46 fun v91 =>
 BI BinOp.eql v91 (AV.int IntKind.i64 16) fun v92 =>
 CNDC v92
 (LD false 1 (AV.ptr nx16 1) H46 fun v93 =>
 BD (fun i => some (i * 1, 1)) [AV.int IntKind.i64 0, AV.int IntKind.i64 0] [(0, v93), (1, v55)] fun v94 =>
 BSL 1 2 [AV.int IntKind.i64 0, AV.int IntKind.i64 0] [(0, v94)] fun cells95 =>
 APP 2 16 v27 (AV.slc nx47 0 1) (H46.put nx47 (some (AObj.row 2 cells95))) (nx47 + 1) fun v96 H97 nx98 =>
 K13 [nth xs14 0, nth xs14 1, v96] H97 nx98)
 (K13 [nth xs14 0, nth xs14 1, v27] H46 nx47))))
 (LD false 1 (AV.ptr nx16 0) H46 fun v99 =>
 BI BinOp.eql v99 (AV.int IntKind.i64 15) fun v100 =>
 CND v100
 (LD false 1 (AV.ptr nx16 1) H46 fun v101 =>
 BD (fun i => some (i * 1, 1)) [AV.int IntKind.i64 0, AV.int IntKind.i64 0] [(0, v101), (1, v55)] fun v102 =>
 BSL 1 2 [AV.int IntKind.i64 0, AV.int IntKind.i64 0] [(0, v102)] fun cells103 =>
 APP 2 16 v27 (AV.slc nx47 0 1) (H46.put nx47 (some (AObj.row 2 cells103))) (nx47 + 1) fun v104 H105 nx106 =>
 K13 [nth xs14 0, nth xs14 1, v104] H105 nx106)
 (LD false 1 (AV.ptr nx16 0) H46 fun v107 =>
 BI BinOp.eql v107 (AV.int IntKind.i64 16) fun v108 =>
 CNDC v108
 (LD false 1 (AV.ptr nx16 1) H46 fun v109 =>
 BD (fun i => some (i * 1, 1)) [AV.int IntKind.i64 0, AV.int IntKind.i64 0] [(0, v109), (1, v55)] fun v110 =>
 BSL 1 2 [AV.int IntKind.i64 0, AV.int IntKind.i64 0] [(0, v110)] fun cells111 =>
 APP 2 16 v27 (AV.slc nx47 0 1) (H46.put nx47 (some (AObj.row 2 cells111))) (nx47 + 1) fun v112 H113 nx114 =>
 K13 [nth xs14 0, nth xs14 1, v112] H113 nx114)
 (K13 [nth xs14 0, nth xs14 1, v27] H46 nx47))))))
 (BI BinOp.sub v49 v48 fun v115 =>
 BI BinOp.add v25 v115 fun v116 =>
 BI BinOp.gtr v116 (AV.int IntKind.i64 16) fun v117 =>
 CNDC v117
 (Q (AV.tup [AV.nils, AV.int IntKind.i64 4]) H46 nx47)
 (LD false 1 (AV.ptr nx16 0) H46 fun v118 =>
 BI BinOp.neq v118 (AV.int IntKind.i64 15) fun v119 =>
 CND v119
 (LD false 1 (AV.ptr nx16 0) H46 fun v120 =>
 BI BinOp.neq v120 (AV.int IntKind.i64 18) fun v121 =>
 CNDC v121
 (BI BinOp.add v21 (AV.int IntKind.i64 1) fun v122 =>
 BD (fun i => some (i * 1, 1)) [AV.int IntKind.i64 0, AV.int IntKind.i64 0] [(0, v122), (1, v116)] fun v123 =>
 BSL 1 2 [AV.int IntKind.i64 0, AV.int IntKind.i64 0] [(0, v123)] fun cells124 =>
 APP 2 16 v27 (AV.slc nx47 0 1) (H46.put nx47 (some (AObj.row 2 cells124))) (nx47 + 1) fun v125 H126 nx127 =>
 LD false 1 (AV.ptr nx16 0) H126 fun v128 =>
 BI BinOp.eql v128 (AV.int IntKind.i64 15) fun v129 =>
 CND v129
 (LD false 1 (AV.ptr nx16 1) H126 fun v130 =>
 BD (fun i => some (i * 1, 1)) [AV.int IntKind.i64 0, AV.int IntKind.i64 0] [(0, v130), (1, v116)] fun v131 =>
 BSL 1 2 [AV.int IntKind.i64 0, AV.int IntKind.i64 0] [(0, v131)] fun cells132 =>
 APP 2 16 v125 (AV.slc nx127 0 1) (H126.put nx127 (some (AObj.row 2 cells132))) (nx127 + 1) fun v133 H134 nx135 =>
 K13 [nth xs14 0, nth xs14 1, v133] H134 nx135)
 (LD false 1 (AV.ptr nx16 0) H126 fun v136 =>
 BI BinOp.eql v136 (AV.int IntKind.i64 16) fun v137 =>
 CNDC v137
 (LD false 1 (AV.ptr nx16 1) H126 fun v138 =>
 BD (fun i => some (i * 1, 1)) [AV.int IntKind.i64 0, AV.int IntKind.i64 0] [(0, v138), (1, v116)] fun v139 =>
 BSL 1 2 [AV.int IntKind.i64 0, AV.int IntKind.i64 0] [(0, v139)] fun cells140 =>
 APP 2 16 v125 (AV.slc nx127 0 1) (H126.put nx127 (some (AObj.row 2 cells140))) (nx127 + 1) fun v141 H142 nx143 =>
 K13 [nth xs14 0, nth xs14 1, v141] H142 nx143)
 (K13 [nth xs14 0, nth xs14 1, v125] H126 nx127)))
 (LD false 1 (AV.ptr nx16 0) H46 fun v144 =>
 BI BinOp.eql v144 (AV.int IntKind.i64 15) fun v145 =>
 CND v145
 (LD false 1 (AV.ptr nx16 1) H46 fun v146 =>
 BD (fun i => some (i * 1, 1)) [AV.int IntKind.i64 0, AV.int IntKind.i64 0] [(0, v146), (1, v116)] fun v147 =>
 BSL 1 2 [AV.int IntKind.i64 0, AV.int IntKind.i64 0] [(0, v147)] fun cells148 =>
 APP 2 16 v27 (AV.slc nx47 0 1) (H46.put nx47 (some (AObj.row 2 cells148))) (nx47 + 1) fun v149 H150 nx151 =>
 K13 [nth xs14 0, nth xs14 1, v149] H150 nx151)
 (LD false 1 (AV.ptr nx16 0) H46 fun v152 =>
 BI BinOp.eql v152 (AV.int IntKind.i64 16) fun v153 =>
 CNDC v153
 (LD false 1 (AV.ptr nx16 1) H46 fun v154 =>
 BD (fun i => some (i * 1, 1)) [AV.int IntKind.i64 0, AV.int IntKind.i64 0] [(0, v154), (1, v116)] fun v155 =>
 BSL 1 2 [AV.int IntKind.i64 0, AV.int IntKind.i64 0] [(0, v155)] fun cells156 =>
 APP 2 16 v27 (AV.slc nx47 0 1) (H46.put nx47 (some (AObj.row 2 cells156))) (nx47 + 1) fun v157 H158 nx159 =>
 K13 [nth xs14 0, nth xs14 1, v157] H158 nx159)
 (K13 [nth xs14 0, nth xs14 1, v27] H46 nx47))))
 (LD false 1 (AV.ptr nx16 0) H46 fun v160 =>
 BI BinOp.eql v160 (AV.int IntKind.i64 15) fun v161 =>
 CND v161
 (LD false 1 (AV.ptr nx16 1) H46 fun v162 =>
 BD (fun i => some (i * 1, 1)) [AV.int IntKind.i64 0, AV.int IntKind.i64 0] [(0, v162), (1, v116)] fun v163 =>
 BSL 1 2 [AV.int IntKind.i64 0, AV.int IntKind.i64 0] [(0, v163)] fun cells164 =>
 APP 2 16 v27 (AV.slc nx47 0 1) (H46.put nx47 (some (AObj.row 2 cells164))) (nx47 + 1) fun v165 H166 nx167 =>
 K13 [nth xs14 0, nth xs14 1, v165] H166 nx167)
 (LD false 1 (AV.ptr nx16 0) H46 fun v168 =>
 BI BinOp.eql v168 (AV.int IntKind.i64 16) fun v169 =>
 CNDC v169
 (LD false 1 (AV.ptr nx16 1) H46 fun v170 =>
 BD (fun i => some (i * 1, 1)) [AV.int IntKind.i64 0, AV.int IntKind.i64 0] [(0, v170), (1, v116)] fun v171 =>
 BSL 1 2 [AV.int IntKind.i64 0, AV.int IntKind.i64 0] [(0, v171)] fun cells172 =>
 APP 2 16 v27 (AV.slc nx47 0 1) (H46.put nx47 (some (AObj.row 2 cells172))) (nx47 + 1) fun v173 H174 nx175 =>
 K13 [nth xs14 0, nth xs14 1, v173] H174 nx175)
 (K13 [nth xs14 0, nth xs14 1, v27] H46 nx47))))))
def zab (Q : QT) (K13 : J3) (xs14 : List AV) (H15 : Heap) (nx16 : Nat) : Prop :=
 LNL (nth xs14 2) fun v17 =>
 BI BinOp.gtr v17 (AV.int IntKind.i64 0) fun v18 =>
 CNDC v18
 (IA 2 (nth xs14 2) (AV.int IntKind.i64 0) fun v19 =>
 AA 1 2 v19 (AV.int IntKind.i64 0) fun v20 =>
 LDR false 1 v20 H15 fun v21 _ =>
 IA 2 (nth xs14 2) (AV.int IntKind.i64 0) fun v23 =>
 AA 1 2 v23 (AV.int IntKind.i64 1) fun v24 =>
 LDR false 1 v24 H15 fun v25 _ =>
 SL 2 (nth xs14 2) (some (AV.int IntKind.i64 1)) none H15 fun v27 =>
 BI BinOp.lss v21 (AV.int IntKind.i64 0) fun v28 =>
 CND v28
 (Q (AV.tup [AV.nils, AV.int IntKind.i64 8]) H15 nx16)
 (LNL (nth xs14 1) fun v29 =>
 BI BinOp.geq v21 v29 fun v30 =>
 CNDC v30
 (Q (AV.tup [AV.nils, AV.int IntKind.i64 8]) H15 nx16)
 (IA 1 (nth xs14 1) v21 fun v31 =>
 LD false 1 v31 H15 fun v32 =>
 BI BinOp.geq v32 (AV.int IntKind.i64 0) fun v33 =>
 CNDC v33
 (IA 1 (nth xs14 1) v21 fun v34 =>
 LD false 1 v34 H15 fun v35 =>
 BI BinOp.neq v35 v25 fun v36 =>
 CNDC v36
 (Q (AV.tup [AV.nils, AV.int IntKind.i64 10]) H15 nx16)
 (K13 [nth xs14 0, nth xs14 1, v27] H15 nx16))
 (IA 1 (nth xs14 1) v21 fun v37 =>
 ST 1 v37 v25 H15 fun H38 =>
 FA 2 (nth xs14 0) fun v39 =>
 LD false 1 v39 H38 fun v40 =>
 IA 3 v40 v21 fun v41 =>
 LD true 3 v41 H38 fun v42 =>
 ST 3 (AV.ptr nx16 0) v42 (H38.put nx16 (some (AObj.row 3 [AV.int IntKind.i64 0, AV.int IntKind.i64 0, AV.int IntKind.i64 0]))) fun H43 =>
 LD true 3 (AV.ptr nx16 0) H43 fun v44 =>
 zb Tryd.prog 73 [v44] H43 (nx16 + 1) (zp v25 Q nx16 v21 v27 K13 xs14)))))
 (Q (AV.tup [nth xs14 1, AV.int IntKind.i64 0]) H15 nx16)
def zgd (Q : QT) (K5 : J3) (xs6 : List AV) (H7 : Heap) (nx8 : Nat) : Prop :=
 BI BinOp.lss (nth xs6 3) (nth xs6 2) fun v9 =>
 CNDC v9
 (IA 1 (nth xs6 1) (nth xs6 3) fun v10 =>
 ST 1 v10 (AV.int IntKind.i64 (-1)) H7 fun H11 =>
 BI BinOp.add (nth xs6 3) (AV.int IntKind.i64 1) fun v12 =>
 K5 [nth xs6 0, nth xs6 1, nth xs6 2, v12] H11 nx8)
 (LP (zab Q) [nth xs6 0, nth xs6 1, AV.slc nx8 0 1] (H7.put nx8 (some (AObj.row 2 [AV.int IntKind.i64 0, AV.int IntKind.i64 0]))) (nx8 + 1))
def zgc (a0 : AV) (H : Heap) (nx : Nat) (Q : QT) : Prop :=
 a0.sure = true ∧
 LD false 1 (AV.ptr nx 2) (H.put nx (some (AObj.row a0.cells.length a0.cells))) fun v1 =>
 LNL v1 fun v2 =>
 MK 8 v2 v2 fun n3 =>
 LNL (AV.slc (nx + 1) 0 n3) fun v4 =>
 LP (zgd Q) [AV.ptr nx 0, AV.slc (nx + 1) 0 n3, v4, AV.int IntKind.i64 0] ((H.put nx (some (AObj.row a0.cells.length a0.cells))).put ((nx + 1)) (some (AObj.row 1 (List.replicate n3 [AV.int IntKind.i64 0]).flatten))) (nx + 2)
theorem zjl (a0 : AV) (H : Heap) (nx : Nat) (Q : QT) : zgc a0 H nx Q → zb Tryd.prog 39 [a0] H nx Q :=
  zm (lv := lvOf [(2, 3, [1, 4, 17, 18]), (2, 8, [1, 4, 6])]) (c := zx Tryd.f39) zbf zbm mixed Tryd.func39 (by kernel_rfl) (by kernel_rfl) (by kernel_rfl) (by kernel_rfl) (by kernel_rfl)
def zlf (Q : QT) (K4 : J3) (xs5 : List AV) (H6 : Heap) (nx7 : Nat) : Prop :=
 BI BinOp.lss (nth xs5 2) (nth xs5 1) fun v8 =>
 CNDC v8
 (IX (nth xs5 0) (nth xs5 2) fun v9 =>
 BI BinOp.lss v9 (AV.int IntKind.u8 32) fun v10 =>
 CND v10
 (Q (AV.bool false) H6 nx7)
 (IX (nth xs5 0) (nth xs5 2) fun v11 =>
 BI BinOp.gtr v11 (AV.int IntKind.u8 126) fun v12 =>
 CND v12
 (Q (AV.bool false) H6 nx7)
 (IX (nth xs5 0) (nth xs5 2) fun v13 =>
 BI BinOp.eql v13 (AV.int IntKind.u8 39) fun v14 =>
 CNDC v14
 (Q (AV.bool false) H6 nx7)
 (BI BinOp.add (nth xs5 2) (AV.int IntKind.i64 1) fun v15 =>
 K4 [nth xs5 0, nth xs5 1, v15] H6 nx7))))
 (Q (AV.bool true) H6 nx7)
def zle (a0 : AV) (H : Heap) (nx : Nat) (Q : QT) : Prop :=
 LNS a0 fun v1 =>
 BI BinOp.gtr v1 (AV.int IntKind.i64 12) fun v2 =>
 CNDC v2
 (Q (AV.bool false) H nx)
 (LNS a0 fun v3 =>
 LP (zlf Q) [a0, v3, AV.int IntKind.i64 0] H nx)
theorem znp (a0 : AV) (H : Heap) (nx : Nat) (Q : QT) : zle a0 H nx Q → zb Tryd.prog 50 [a0] H nx Q :=
  zm (lv := lvOf [(2, 4, [0, 8, 9])]) (c := zx Tryd.f50) zbf zbm mixed Tryd.func50 (by kernel_rfl) (by kernel_rfl) (by kernel_rfl) (by kernel_rfl) (by kernel_rfl)
def zes (a0 a1 : AV) (H : Heap) (nx : Nat) (Q : QT) : Prop :=
 BI BinOp.geq a0 (AV.int IntKind.i64 0) fun v1 =>
 CND v1
 (BI BinOp.lss a0 a1 fun v2 =>
 Q v2 H nx)
 (Q (AV.bool false) H nx)
theorem zih (a0 a1 : AV) (H : Heap) (nx : Nat) (Q : QT) : zes a0 a1 H nx Q → zb Tryd.prog 77 [a0, a1] H nx Q :=
  zm (lv := lvOf []) (c := zx Tryd.f77) zbf zbm mixed Tryd.func77 (by kernel_rfl) (by kernel_rfl) (by kernel_rfl) (by kernel_rfl) (by kernel_rfl)
def zan (j7 : J3) (nx : Nat) (H : Heap) (a2 : AV) (v34 : AV) (rd35 : List Nat) (fr36 : List Nat) (D37 : zg) : Prop :=
 j7 [AV.ptr nx 0, v34] ((H.put nx (some (AObj.row a2.cells.length a2.cells))).apply D37) ((nx + 1) + fr36.length)
def zam (j7 : J3) (xs38 : List AV) (H39 : Heap) (nx40 : Nat) (v49 : AV) (rd50 : List Nat) (fr51 : List Nat) (D52 : zg) : Prop :=
 j7 [nth xs38 2, v49] (H39.apply D52) (nx40 + fr51.length)
def zal (j7 : J3) (xs38 : List AV) (H39 : Heap) (nx40 : Nat) (v69 : AV) (rd70 : List Nat) (fr71 : List Nat) (D72 : zg) : Prop :=
 j7 [nth xs38 2, v69] (H39.apply D72) (nx40 + fr71.length)
def zak (j7 : J3) (xs38 : List AV) (H39 : Heap) (nx40 : Nat) (v82 : AV) (rd83 : List Nat) (fr84 : List Nat) (D85 : zg) : Prop :=
 j7 [nth xs38 2, v82] (H39.apply D85) (nx40 + fr84.length)
def zaj (xs38 : List AV) (H39 : Heap) (j7 : J3) (nx40 : Nat) (v95 : AV) (_ : List Nat) (fr97 : List Nat) (D98 : zg) : Prop :=
 CND v95
 (FA 2 (nth xs38 2) fun v99 =>
 LDR false 1 v99 (H39.apply D98) fun v100 _ =>
 NC (nth xs38 0) fun v102 =>
 FA 0 v102 fun v103 =>
 LDR false 1 v103 (H39.apply D98) fun v104 _ =>
 FA 1 (nth xs38 2) fun v106 =>
 LDR false 1 v106 (H39.apply D98) fun v107 _ =>
 IA 3 v104 v107 fun v109 =>
 FA 0 v109 fun v110 =>
 LDR false 1 v110 (H39.apply D98) fun v111 _ =>
 BI BinOp.eql v100 v111 fun v113 =>
 j7 [nth xs38 2, v113] (H39.apply D98) (nx40 + fr97.length))
 (j7 [nth xs38 2, AV.bool false] (H39.apply D98) (nx40 + fr97.length))
def zap (j7 : J3) (xs38 : List AV) (H39 : Heap) (nx40 : Nat) : Prop :=
 CNDC (nth xs38 6)
 (FA 1 (nth xs38 2) fun v42 =>
 LDR false 1 v42 H39 fun v43 _ =>
 NC (nth xs38 1) fun v45 =>
 FA 1 v45 fun v46 =>
 LDR false 1 v46 H39 fun v47 _ =>
 zaa Tryd.prog (nth xs38 3) [v43, v47] H39 nx40 (zam j7 xs38 H39 nx40))
 (BI BinOp.eql (nth xs38 5) (AV.int IntKind.i64 5) fun v53 =>
 CNDC v53
 (FA 1 (nth xs38 2) fun v54 =>
 LD false 1 v54 H39 fun v55 =>
 BI BinOp.geq v55 (AV.int IntKind.i64 1) fun v56 =>
 CND v56
 (FA 1 (nth xs38 2) fun v57 =>
 LD false 1 v57 H39 fun v58 =>
 BI BinOp.leq v58 (AV.int IntKind.i64 5) fun v59 =>
 j7 [nth xs38 2, v59] H39 nx40)
 (j7 [nth xs38 2, AV.bool false] H39 nx40))
 (BI BinOp.eql (nth xs38 5) (AV.int IntKind.i64 15) fun v60 =>
 CNDC v60
 (FA 1 (nth xs38 2) fun v61 =>
 LDR false 1 v61 H39 fun v62 _ =>
 NC (nth xs38 1) fun v64 =>
 FA 2 v64 fun v65 =>
 LDR false 1 v65 H39 fun v66 _ =>
 LNL v66 fun v68 =>
 zaa Tryd.prog (nth xs38 3) [v62, v68] H39 nx40 (zal j7 xs38 H39 nx40))
 (BI BinOp.eql (nth xs38 5) (AV.int IntKind.i64 16) fun v73 =>
 CNDC v73
 (FA 1 (nth xs38 2) fun v74 =>
 LDR false 1 v74 H39 fun v75 _ =>
 NC (nth xs38 1) fun v77 =>
 FA 2 v77 fun v78 =>
 LDR false 1 v78 H39 fun v79 _ =>
 LNL v79 fun v81 =>
 zaa Tryd.prog (nth xs38 3) [v75, v81] H39 nx40 (zak j7 xs38 H39 nx40))
 (BI BinOp.eql (nth xs38 5) (AV.int IntKind.i64 17) fun v86 =>
 CNDC v86
 (FA 1 (nth xs38 2) fun v87 =>
 LDR false 1 v87 H39 fun v88 _ =>
 NC (nth xs38 0) fun v90 =>
 FA 0 v90 fun v91 =>
 LDR false 1 v91 H39 fun v92 _ =>
 LNL v92 fun v94 =>
 zaa Tryd.prog (nth xs38 3) [v88, v94] H39 nx40 (zaj xs38 H39 j7 nx40))
 (j7 [nth xs38 2, nth xs38 4] H39 nx40)))))
def zar (v3 : AV) (a0 : AV) (a1 : AV) (nx : Nat) (v2 : AV) (H : Heap) (a2 : AV) (j41 : J3) : Prop :=
 BI BinOp.eql v3 (AV.int IntKind.i64 3) fun v114 =>
 CNDC v114
 (j41 [a0, a1, AV.ptr nx 0, AV.clo 77 [], v2, v3, AV.bool true] (H.put nx (some (AObj.row a2.cells.length a2.cells))) (nx + 1))
 (BI BinOp.eql v3 (AV.int IntKind.i64 4) fun v115 =>
 j41 [a0, a1, AV.ptr nx 0, AV.clo 77 [], v2, v3, v115] (H.put nx (some (AObj.row a2.cells.length a2.cells))) (nx + 1))
def zao (Q : QT) (xs4 : List AV) (H5 : Heap) (nx6 : Nat) : Prop :=
 FA 0 (nth xs4 0) fun v8 =>
 LD false 1 v8 H5 fun v9 =>
 BI BinOp.lss v9 (AV.int IntKind.i64 1) fun v10 =>
 CND v10
 (Q (AV.int IntKind.i64 1) H5 nx6)
 (FA 0 (nth xs4 0) fun v11 =>
 LD false 1 v11 H5 fun v12 =>
 BI BinOp.gtr v12 (AV.int IntKind.i64 19) fun v13 =>
 CNDC v13
 (Q (AV.int IntKind.i64 1) H5 nx6)
 (UO UnOp.not (nth xs4 1) fun v14 =>
 CND v14
 (Q (AV.int IntKind.i64 3) H5 nx6)
 (FA 0 (nth xs4 0) fun v15 =>
 LD false 1 v15 H5 fun v16 =>
 BI BinOp.neq v16 (AV.int IntKind.i64 17) fun v17 =>
 CND v17
 (FA 2 (nth xs4 0) fun v18 =>
 LD false 1 v18 H5 fun v19 =>
 BI BinOp.neq v19 (AV.int IntKind.i64 0) fun v20 =>
 CNDC v20
 (Q (AV.int IntKind.i64 3) H5 nx6)
 (Q (AV.int IntKind.i64 0) H5 nx6))
 (Q (AV.int IntKind.i64 0) H5 nx6))))
def zaq (v3 : AV) (nx : Nat) (H : Heap) (a2 : AV) (a0 : AV) (a1 : AV) (v2 : AV) (j7 : J3) : Prop :=
 BI BinOp.eql v3 (AV.int IntKind.i64 1) fun v21 =>
 CNDC v21
 (LD false 1 (AV.ptr nx 1) (H.put nx (some (AObj.row a2.cells.length a2.cells))) fun v22 =>
 BI BinOp.geq v22 (AV.int IntKind.i64 (-1073741824)) fun v23 =>
 CND v23
 (LD false 1 (AV.ptr nx 1) (H.put nx (some (AObj.row a2.cells.length a2.cells))) fun v24 =>
 BI BinOp.leq v24 (AV.int IntKind.i64 1073741824) fun v25 =>
 j7 [AV.ptr nx 0, v25] (H.put nx (some (AObj.row a2.cells.length a2.cells))) (nx + 1))
 (j7 [AV.ptr nx 0, AV.bool false] (H.put nx (some (AObj.row a2.cells.length a2.cells))) (nx + 1)))
 (BI BinOp.eql v3 (AV.int IntKind.i64 2) fun v26 =>
 CNDC v26
 (LDR false 1 (AV.ptr nx 1) (H.put nx (some (AObj.row a2.cells.length a2.cells))) fun v27 _ =>
 NC a0 fun v29 =>
 FA 1 v29 fun v30 =>
 LDR false 1 v30 (H.put nx (some (AObj.row a2.cells.length a2.cells))) fun v31 _ =>
 LNL v31 fun v33 =>
 zaa Tryd.prog (AV.clo 77 []) [v27, v33] (H.put nx (some (AObj.row a2.cells.length a2.cells))) (nx + 1) (zan j7 nx H a2))
 (JN (zap j7) (zar v3 a0 a1 nx v2 H a2)))
def zfx (a0 a1 a2 : AV) (H : Heap) (nx : Nat) (Q : QT) : Prop :=
 a2.sure = true ∧
 LD false 1 (AV.ptr nx 1) (H.put nx (some (AObj.row a2.cells.length a2.cells))) fun v1 =>
 BI BinOp.eql v1 (AV.int IntKind.i64 0) fun v2 =>
 LD false 1 (AV.ptr nx 0) (H.put nx (some (AObj.row a2.cells.length a2.cells))) fun v3 =>
 JN (zao Q) (zaq v3 nx H a2 a0 a1 v2)
theorem zjj (a0 a1 a2 : AV) (H : Heap) (nx : Nat) (Q : QT) : zfx a0 a1 a2 H nx Q → zb Tryd.prog 51 [a0, a1, a2] H nx Q :=
  zm (lv := lvOf [(1, 0, [5, 8]), (3, 10, [0, 1, 5, 7, 8, 13, 35])]) (c := zx Tryd.f51) zbf zbm mixed Tryd.func51 (by kernel_rfl) (by kernel_rfl) (by kernel_rfl) (by kernel_rfl) (by kernel_rfl)
def zgb (Q : QT) (xs13 : List AV) (K12 : J3) (v19 : AV) (H20 : Heap) (nx21 : Nat) : Prop :=
 UO UnOp.not v19 fun v22 =>
 CNDC v22
 (Q (AV.int IntKind.i64 7) H20 nx21)
 (BI BinOp.add (nth xs13 3) (AV.int IntKind.i64 1) fun v23 =>
 K12 [nth xs13 0, nth xs13 1, nth xs13 2, v23] H20 nx21)
def zga (Q : QT) (H99 : Heap) (nx95 : Nat) (xs93 : List AV) (K92 : J3) (v106 : AV) (_ : List Nat) (fr108 : List Nat) (D109 : zg) : Prop :=
 BI BinOp.neq v106 (AV.int IntKind.i64 0) fun v110 =>
 CNDC v110
 (Q v106 (H99.apply D109) ((nx95 + 1) + fr108.length))
 (BI BinOp.add (nth xs93 6) (AV.int IntKind.i64 1) fun v111 =>
 K92 [nth xs93 0, nth xs93 1, nth xs93 2, nth xs93 3, nth xs93 4, nth xs93 5, v111] (H99.apply D109) ((nx95 + 1) + fr108.length))
def zfz (Q : QT) (xs93 : List AV) (K81 : J3) (v116 : AV) (H117 : Heap) (nx118 : Nat) : Prop :=
 EX v116 0 fun _ =>
 EX v116 1 fun v120 =>
 BI BinOp.neq v120 (AV.int IntKind.i64 0) fun v121 =>
 CNDC v121
 (Q v120 H117 nx118)
 (BI BinOp.add (nth xs93 3) (AV.int IntKind.i64 1) fun v122 =>
 K81 [nth xs93 0, nth xs93 2, v122] H117 nx118)
def zdc (Q : QT) (K81 : J3) (K92 : J3) (xs93 : List AV) (H94 : Heap) (nx95 : Nat) : Prop :=
 BI BinOp.lss (nth xs93 6) (nth xs93 5) fun v96 =>
 CNDC v96
 (IA 3 (nth xs93 4) (nth xs93 6) fun v97 =>
 LD true 3 v97 H94 fun v98 =>
 ST 3 (AV.ptr nx95 0) v98 (H94.put nx95 (some (AObj.row 3 [AV.int IntKind.i64 0, AV.int IntKind.i64 0, AV.int IntKind.i64 0]))) fun H99 =>
 FA 0 (nth xs93 0) fun v100 =>
 LDR false 1 v100 H99 fun v101 _ =>
 IA 3 v101 (nth xs93 1) fun v103 =>
 LDR true 3 (AV.ptr nx95 0) H99 fun v104 _ =>
 zaa Tryd.prog (AV.clo 51 []) [nth xs93 0, v103, v104] H99 (nx95 + 1) (zga Q H99 nx95 xs93 K92))
 (FA 0 (nth xs93 0) fun v112 =>
 LD false 1 v112 H94 fun v113 =>
 IA 3 v113 (nth xs93 1) fun v114 =>
 LD true 3 v114 H94 fun v115 =>
 zb Tryd.prog 39 [v115] H94 nx95 (zfz Q xs93 K81))
def zdb (Q : QT) (K81 : J3) (xs82 : List AV) (H83 : Heap) (nx84 : Nat) : Prop :=
 BI BinOp.lss (nth xs82 2) (nth xs82 1) fun v85 =>
 CNDC v85
 (FA 0 (nth xs82 0) fun v86 =>
 LD false 1 v86 H83 fun v87 =>
 IA 3 v87 (nth xs82 2) fun v88 =>
 FA 2 v88 fun v89 =>
 LD false 1 v89 H83 fun v90 =>
 LNL v90 fun v91 =>
 LP (zdc Q K81) [nth xs82 0, nth xs82 2, nth xs82 1, nth xs82 2, v90, v91, AV.int IntKind.i64 0] H83 nx84)
 (Q (AV.int IntKind.i64 0) H83 nx84)
def zda (Q : QT) (K33 : J3) (xs34 : List AV) (H35 : Heap) (nx36 : Nat) : Prop :=
 BI BinOp.lss (nth xs34 2) (nth xs34 1) fun v37 =>
 CNDC v37
 (FA 0 (nth xs34 0) fun v38 =>
 LD false 1 v38 H35 fun v39 =>
 IA 3 v39 (nth xs34 2) fun v40 =>
 NC v40 fun v41 =>
 FA 0 v41 fun v42 =>
 LDR false 1 v42 H35 fun v43 _ =>
 BI BinOp.lss v43 (AV.int IntKind.i64 0) fun v45 =>
 CND v45
 (Q (AV.int IntKind.i64 3) H35 nx36)
 (NC v40 fun v46 =>
 FA 0 v46 fun v47 =>
 LDR false 1 v47 H35 fun v48 _ =>
 BI BinOp.gtr v48 (AV.int IntKind.i64 4) fun v50 =>
 CND v50
 (Q (AV.int IntKind.i64 3) H35 nx36)
 (NC v40 fun v51 =>
 FA 1 v51 fun v52 =>
 LDR false 1 v52 H35 fun v53 _ =>
 NC v40 fun v55 =>
 FA 0 v55 fun v56 =>
 LDR false 1 v56 H35 fun v57 _ =>
 BI BinOp.lss v53 v57 fun v59 =>
 CND v59
 (Q (AV.int IntKind.i64 3) H35 nx36)
 (NC v40 fun v60 =>
 FA 1 v60 fun v61 =>
 LDR false 1 v61 H35 fun v62 _ =>
 BI BinOp.gtr v62 (AV.int IntKind.i64 8) fun v64 =>
 CND v64
 (Q (AV.int IntKind.i64 3) H35 nx36)
 (NC v40 fun v65 =>
 FA 2 v65 fun v66 =>
 LDR false 1 v66 H35 fun v67 _ =>
 LNL v67 fun v69 =>
 BI BinOp.lss v69 (AV.int IntKind.i64 1) fun v70 =>
 CND v70
 (Q (AV.int IntKind.i64 3) H35 nx36)
 (NC v40 fun v71 =>
 FA 2 v71 fun v72 =>
 LDR false 1 v72 H35 fun v73 _ =>
 LNL v73 fun v75 =>
 BI BinOp.gtr v75 (AV.int IntKind.i64 200) fun v76 =>
 CNDC v76
 (Q (AV.int IntKind.i64 3) H35 nx36)
 (BI BinOp.add (nth xs34 2) (AV.int IntKind.i64 1) fun v77 =>
 K33 [nth xs34 0, nth xs34 1, v77] H35 nx36)))))))
 (FA 0 (nth xs34 0) fun v78 =>
 LD false 1 v78 H35 fun v79 =>
 LNL v79 fun v80 =>
 LP (zdb Q) [nth xs34 0, v80, AV.int IntKind.i64 0] H35 nx36)
def zcz (Q : QT) (K12 : J3) (xs13 : List AV) (H14 : Heap) (nx15 : Nat) : Prop :=
 BI BinOp.lss (nth xs13 3) (nth xs13 2) fun v16 =>
 CNDC v16
 (IA 1 (nth xs13 1) (nth xs13 3) fun v17 =>
 LD false 1 v17 H14 fun v18 =>
 zb Tryd.prog 50 [v18] H14 nx15 (zgb Q xs13 K12))
 (FA 0 (nth xs13 0) fun v24 =>
 LD false 1 v24 H14 fun v25 =>
 IA 3 v25 (AV.int IntKind.i64 0) fun v26 =>
 FA 0 v26 fun v27 =>
 LD false 1 v27 H14 fun v28 =>
 BI BinOp.neq v28 (AV.int IntKind.i64 0) fun v29 =>
 CNDC v29
 (Q (AV.int IntKind.i64 10) H14 nx15)
 (FA 0 (nth xs13 0) fun v30 =>
 LD false 1 v30 H14 fun v31 =>
 LNL v31 fun v32 =>
 LP (zda Q) [nth xs13 0, v32, AV.int IntKind.i64 0] H14 nx15))
def zfy (a0 : AV) (H : Heap) (nx : Nat) (Q : QT) : Prop :=
 a0.sure = true ∧
 LD false 1 (AV.ptr nx 0) (H.put nx (some (AObj.row a0.cells.length a0.cells))) fun v1 =>
 LNL v1 fun v2 =>
 BI BinOp.lss v2 (AV.int IntKind.i64 1) fun v3 =>
 CND v3
 (Q (AV.int IntKind.i64 5) (H.put nx (some (AObj.row a0.cells.length a0.cells))) (nx + 1))
 (LD false 1 (AV.ptr nx 0) (H.put nx (some (AObj.row a0.cells.length a0.cells))) fun v4 =>
 LNL v4 fun v5 =>
 BI BinOp.gtr v5 (AV.int IntKind.i64 5) fun v6 =>
 CNDC v6
 (Q (AV.int IntKind.i64 5) (H.put nx (some (AObj.row a0.cells.length a0.cells))) (nx + 1))
 (LD false 1 (AV.ptr nx 1) (H.put nx (some (AObj.row a0.cells.length a0.cells))) fun v7 =>
 LNL v7 fun v8 =>
 BI BinOp.gtr v8 (AV.int IntKind.i64 16) fun v9 =>
 CNDC v9
 (Q (AV.int IntKind.i64 4) (H.put nx (some (AObj.row a0.cells.length a0.cells))) (nx + 1))
 (LD false 1 (AV.ptr nx 1) (H.put nx (some (AObj.row a0.cells.length a0.cells))) fun v10 =>
 LNL v10 fun v11 =>
 LP (zcz Q) [AV.ptr nx 0, v10, v11, AV.int IntKind.i64 0] (H.put nx (some (AObj.row a0.cells.length a0.cells))) (nx + 1))))
theorem zjk (a0 : AV) (H : Heap) (nx : Nat) (Q : QT) : zfy a0 H nx Q → zb Tryd.prog 19 [a0] H nx Q :=
  zm (lv := lvOf [(2, 6, [1, 28, 29, 30]), (2, 14, [1, 46, 47]), (2, 21, [1, 103, 104]), (2, 24, [1, 7, 103, 104, 112, 113, 114])]) (c := zx Tryd.f19) zbf zbm mixed Tryd.func19 (by kernel_rfl) (by kernel_rfl) (by kernel_rfl) (by kernel_rfl) (by kernel_rfl)
def zhq (Q : QT) (H107 : Heap) (nx103 : Nat) (xs101 : List AV) (K100 : J3) (v115 : AV) (_ : List Nat) (fr117 : List Nat) (D118 : zg) : Prop :=
 BI BinOp.neq v115 (AV.int IntKind.i64 0) fun v119 =>
 CNDC v119
 (Q v115 (H107.apply D118) ((nx103 + 1) + fr117.length))
 (BI BinOp.add (nth xs101 6) (AV.int IntKind.i64 1) fun v120 =>
 K100 [nth xs101 0, nth xs101 1, nth xs101 2, nth xs101 3, nth xs101 4, nth xs101 5, v120] (H107.apply D118) ((nx103 + 1) + fr117.length))
def zee (Q : QT) (K92 : J3) (K100 : J3) (xs101 : List AV) (H102 : Heap) (nx103 : Nat) : Prop :=
 BI BinOp.lss (nth xs101 6) (nth xs101 5) fun v104 =>
 CNDC v104
 (IA 3 (nth xs101 4) (nth xs101 6) fun v105 =>
 LD true 3 v105 H102 fun v106 =>
 ST 3 (AV.ptr nx103 0) v106 (H102.put nx103 (some (AObj.row 3 [AV.int IntKind.i64 0, AV.int IntKind.i64 0, AV.str []]))) fun H107 =>
 LDR true 3 (AV.ptr nx103 0) H107 fun v108 _ =>
 NC (nth xs101 0) fun v110 =>
 FA 5 v110 fun v111 =>
 LDR false 1 v111 H107 fun v112 _ =>
 LNL v112 fun v114 =>
 zaa Tryd.prog (AV.clo 41 []) [v108, v114] H107 (nx103 + 1) (zhq Q H107 nx103 xs101 K100))
 (BI BinOp.add (nth xs101 3) (AV.int IntKind.i64 1) fun v121 =>
 K92 [nth xs101 0, nth xs101 1, nth xs101 2, v121] H102 nx103)
def zed (Q : QT) (K92 : J3) (xs93 : List AV) (H94 : Heap) (nx95 : Nat) : Prop :=
 BI BinOp.lss (nth xs93 3) (nth xs93 2) fun v96 =>
 CNDC v96
 (IA 1 (nth xs93 1) (nth xs93 3) fun v97 =>
 LD false 1 v97 H94 fun v98 =>
 LNL v98 fun v99 =>
 LP (zee Q K92) [nth xs93 0, nth xs93 1, nth xs93 2, nth xs93 3, v98, v99, AV.int IntKind.i64 0] H94 nx95)
 (Q (AV.int IntKind.i64 0) H94 nx95)
def zef (Q : QT) (j75 : J3) (xs127 : List AV) (H128 : Heap) (nx129 : Nat) : Prop :=
 NC (nth xs127 0) fun v131 =>
 FA 4 v131 fun v132 =>
 LDR false 1 v132 H128 fun v133 _ =>
 LNL v133 fun v135 =>
 BI BinOp.sub v135 (AV.int IntKind.i64 1) fun v136 =>
 BI BinOp.lss (nth xs127 1) v136 fun v137 =>
 CND v137
 (FA 0 (nth xs127 5) fun v138 =>
 LDR false 1 v138 H128 fun v139 _ =>
 BI BinOp.neq v139 (AV.int IntKind.i64 17) fun v141 =>
 CND v141
 (Q (AV.int IntKind.i64 10) H128 nx129)
 (FA 1 (nth xs127 5) fun v142 =>
 LDR false 1 v142 H128 fun v143 _ =>
 NC (nth xs127 0) fun v145 =>
 FA 4 v145 fun v146 =>
 LDR false 1 v146 H128 fun v147 _ =>
 BI BinOp.add (nth xs127 1) (AV.int IntKind.i64 1) fun v149 =>
 IA 4 v147 v149 fun v150 =>
 FA 0 v150 fun v151 =>
 LDR false 1 v151 H128 fun v152 _ =>
 BI BinOp.neq v143 v152 fun v154 =>
 CND v154
 (Q (AV.int IntKind.i64 10) H128 nx129)
 (NC (nth xs127 0) fun v155 =>
 FA 4 v155 fun v156 =>
 LDR false 1 v156 H128 fun v157 _ =>
 LNL v157 fun v159 =>
 BI BinOp.sub v159 (AV.int IntKind.i64 1) fun v160 =>
 BI BinOp.eql (nth xs127 1) v160 fun v161 =>
 CND v161
 (FA 0 (nth xs127 5) fun v162 =>
 LDR false 1 v162 H128 fun v163 _ =>
 BI BinOp.neq v163 (AV.int IntKind.i64 13) fun v165 =>
 CND v165
 (Q (AV.int IntKind.i64 10) H128 nx129)
 (NC (nth xs127 2) fun v166 =>
 FA 1 v166 fun v167 =>
 LDR false 1 v167 H128 fun v168 _ =>
 BI BinOp.sub v168 (AV.int IntKind.i64 1) fun v170 =>
 IA 1 (nth xs127 3) v170 fun v171 =>
 LDR false 1 v171 H128 fun v172 _ =>
 BI BinOp.lss v172 (AV.int IntKind.i64 0) fun v174 =>
 CNDC v174
 (Q (AV.int IntKind.i64 10) H128 nx129)
 (j75 [nth xs127 0, nth xs127 2, nth xs127 4] H128 nx129)))
 (NC (nth xs127 2) fun v175 =>
 FA 1 v175 fun v176 =>
 LDR false 1 v176 H128 fun v177 _ =>
 BI BinOp.sub v177 (AV.int IntKind.i64 1) fun v179 =>
 IA 1 (nth xs127 3) v179 fun v180 =>
 LDR false 1 v180 H128 fun v181 _ =>
 BI BinOp.lss v181 (AV.int IntKind.i64 0) fun v183 =>
 CNDC v183
 (Q (AV.int IntKind.i64 10) H128 nx129)
 (j75 [nth xs127 0, nth xs127 2, nth xs127 4] H128 nx129)))))
 (NC (nth xs127 0) fun v184 =>
 FA 4 v184 fun v185 =>
 LDR false 1 v185 H128 fun v186 _ =>
 LNL v186 fun v188 =>
 BI BinOp.sub v188 (AV.int IntKind.i64 1) fun v189 =>
 BI BinOp.eql (nth xs127 1) v189 fun v190 =>
 CND v190
 (FA 0 (nth xs127 5) fun v191 =>
 LDR false 1 v191 H128 fun v192 _ =>
 BI BinOp.neq v192 (AV.int IntKind.i64 13) fun v194 =>
 CND v194
 (Q (AV.int IntKind.i64 10) H128 nx129)
 (NC (nth xs127 2) fun v195 =>
 FA 1 v195 fun v196 =>
 LDR false 1 v196 H128 fun v197 _ =>
 BI BinOp.sub v197 (AV.int IntKind.i64 1) fun v199 =>
 IA 1 (nth xs127 3) v199 fun v200 =>
 LDR false 1 v200 H128 fun v201 _ =>
 BI BinOp.lss v201 (AV.int IntKind.i64 0) fun v203 =>
 CNDC v203
 (Q (AV.int IntKind.i64 10) H128 nx129)
 (j75 [nth xs127 0, nth xs127 2, nth xs127 4] H128 nx129)))
 (NC (nth xs127 2) fun v204 =>
 FA 1 v204 fun v205 =>
 LDR false 1 v205 H128 fun v206 _ =>
 BI BinOp.sub v206 (AV.int IntKind.i64 1) fun v208 =>
 IA 1 (nth xs127 3) v208 fun v209 =>
 LDR false 1 v209 H128 fun v210 _ =>
 BI BinOp.lss v210 (AV.int IntKind.i64 0) fun v212 =>
 CNDC v212
 (Q (AV.int IntKind.i64 10) H128 nx129)
 (j75 [nth xs127 0, nth xs127 2, nth xs127 4] H128 nx129)))
def zht (xs68 : List AV) (H69 : Heap) (nx70 : Nat) (v122 : AV) (j130 : J3) : Prop :=
 NC (nth xs68 3) fun v213 =>
 FA 2 v213 fun v214 =>
 LDR false 1 v214 H69 fun v215 rd216 =>
 NC (nth xs68 2) fun v217 =>
 FA 1 v217 fun v218 =>
 LDR false 1 v218 H69 fun v219 rd220 =>
 BI BinOp.sub v219 (AV.int IntKind.i64 1) fun v221 =>
 IA 3 v215 v221 fun v222 =>
 LDR true 3 v222 H69 fun v223 rd224 =>
 zbs 3 (AV.ptr nx70 0) v223 (H69.put nx70 (some (AObj.row 3 [AV.int IntKind.i64 0, AV.int IntKind.i64 0, AV.int IntKind.i64 0]))) fun _ _ fr227 D228 =>
 nx70 ∉ [] ∧
 nx70 ∉ [] ∧
 nx70 ∉ [] ∧
 nx70 ∉ rd216 ∧
 nx70 ∉ [] ∧
 nx70 ∉ [] ∧
 nx70 ∉ [] ∧
 nx70 ∉ rd220 ∧
 nx70 ∉ [] ∧
 nx70 ∉ [] ∧
 nx70 ∉ rd224 ∧
 j130 [nth xs68 0, nth xs68 1, nth xs68 2, nth xs68 4, v122, AV.ptr nx70 0] ((H69.put nx70 (some (AObj.row 3 [AV.int IntKind.i64 0, AV.int IntKind.i64 0, AV.int IntKind.i64 0]))).apply D228) ((nx70 + 1) + fr227.length)
def zbb (Q : QT) (xs72 : List AV) (H73 : Heap) (nx74 : Nat) : Prop :=
 BI BinOp.lss (nth xs72 2) (AV.int IntKind.i64 0) fun v76 =>
 CND v76
 (Q (AV.int IntKind.i64 10) H73 nx74)
 (NC (nth xs72 1) fun v77 =>
 FA 3 v77 fun v78 =>
 LD false 1 v78 H73 fun v79 =>
 LNL v79 fun v80 =>
 BI BinOp.neq v80 (nth xs72 2) fun v81 =>
 CNDC v81
 (Q (AV.int IntKind.i64 10) H73 nx74)
 (NC (nth xs72 1) fun v82 =>
 FA 2 v82 fun v83 =>
 LDR false 1 v83 H73 fun v84 _ =>
 NC (nth xs72 1) fun v86 =>
 FA 3 v86 fun v87 =>
 LDR false 1 v87 H73 fun v88 _ =>
 BSL 2 1 [AV.nils] [(0, v84), (1, v88)] fun cells90 =>
 LNL (AV.slc nx74 0 2) fun v91 =>
 nx74 ∉ [] ∧
 nx74 ∉ [] ∧
 LP (zed Q) [nth xs72 0, AV.slc nx74 0 2, v91, AV.int IntKind.i64 0] (H73.put nx74 (some (AObj.row 1 cells90))) (nx74 + 1)))
def zch (xs68 : List AV) (H69 : Heap) (Q : QT) (nx70 : Nat) (j75 : J3) : Prop :=
 CNDC (nth xs68 6)
 (BI BinOp.sub (nth xs68 5) (AV.int IntKind.i64 1) fun v122 =>
 NC (nth xs68 2) fun v123 =>
 FA 1 v123 fun v124 =>
 LD false 1 v124 H69 fun v125 =>
 BI BinOp.eql v125 (AV.int IntKind.i64 0) fun v126 =>
 CNDC v126
 (Q (AV.int IntKind.i64 10) H69 nx70)
 (JN (zef Q j75) (zht xs68 H69 nx70 v122)))
 (j75 [nth xs68 0, nth xs68 2, nth xs68 5] H69 nx70)
def zhr (Q : QT) (xs68 : List AV) (H69 : Heap) (nx70 : Nat) : Prop :=
 JN (zbb Q) (zch xs68 H69 Q nx70)
def zhs (a0 : AV) (H59 : Heap) (a1 : AV) (v4 : AV) (v30 : AV) (v61 : AV) (v67 : AV) (nx60 : Nat) (a2 : AV) (j71 : J3) : Prop :=
 NC a0 fun v229 =>
 FA 4 v229 fun v230 =>
 LD false 1 v230 H59 fun v231 =>
 LNL v231 fun v232 =>
 BI BinOp.sub v232 (AV.int IntKind.i64 1) fun v233 =>
 BI BinOp.lss a1 v233 fun v234 =>
 CND v234
 (j71 [a0, a1, v4, v30, v61, v67, AV.bool true] H59 nx60)
 (j71 [a0, a1, v4, v30, v61, v67, a2] H59 nx60)
def zhp (v4 : AV) (Q : QT) (a0 : AV) (a1 : AV) (v30 : AV) (a2 : AV) (v58 : AV) (H59 : Heap) (nx60 : Nat) : Prop :=
 EX v58 0 fun v61 =>
 EX v58 1 fun _ =>
 NC v4 fun v63 =>
 FA 1 v63 fun v64 =>
 LD false 1 v64 H59 fun v65 =>
 IA 1 v61 v65 fun v66 =>
 LD false 1 v66 H59 fun v67 =>
 JN (zhr Q) (zhs a0 H59 a1 v4 v30 v61 v67 nx60 a2)
def zah (a0 a1 a2 : AV) (H : Heap) (nx : Nat) (Q : QT) : Prop :=
 NC a0 fun v1 =>
 FA 4 v1 fun v2 =>
 LD false 1 v2 H fun v3 =>
 IA 4 v3 a1 fun v4 =>
 NC v4 fun v5 =>
 FA 0 v5 fun v6 =>
 LDR false 1 v6 H fun v7 _ =>
 BI BinOp.lss v7 (AV.int IntKind.i64 0) fun v9 =>
 CND v9
 (Q (AV.int IntKind.i64 3) H nx)
 (NC v4 fun v10 =>
 FA 0 v10 fun v11 =>
 LDR false 1 v11 H fun v12 _ =>
 NC a0 fun v14 =>
 FA 2 v14 fun v15 =>
 FA 0 v15 fun v16 =>
 LDR false 1 v16 H fun v17 _ =>
 LNL v17 fun v19 =>
 BI BinOp.geq v12 v19 fun v20 =>
 CNDC v20
 (Q (AV.int IntKind.i64 3) H nx)
 (NC a0 fun v21 =>
 FA 2 v21 fun v22 =>
 FA 0 v22 fun v23 =>
 LDR false 1 v23 H fun v24 _ =>
 NC v4 fun v26 =>
 FA 0 v26 fun v27 =>
 LDR false 1 v27 H fun v28 _ =>
 IA 3 v24 v28 fun v30 =>
 NC v4 fun v31 =>
 FA 1 v31 fun v32 =>
 LDR false 1 v32 H fun v33 _ =>
 BI BinOp.lss v33 (AV.int IntKind.i64 0) fun v35 =>
 CND v35
 (Q (AV.int IntKind.i64 3) H nx)
 (NC v4 fun v36 =>
 FA 1 v36 fun v37 =>
 LDR false 1 v37 H fun v38 _ =>
 NC v30 fun v40 =>
 FA 2 v40 fun v41 =>
 LDR false 1 v41 H fun v42 _ =>
 LNL v42 fun v44 =>
 BI BinOp.geq v38 v44 fun v45 =>
 CND v45
 (Q (AV.int IntKind.i64 3) H nx)
 (NC v4 fun v46 =>
 FA 2 v46 fun v47 =>
 LDR false 1 v47 H fun v48 _ =>
 LNL v48 fun v50 =>
 NC v30 fun v51 =>
 FA 1 v51 fun v52 =>
 LDR false 1 v52 H fun v53 _ =>
 BI BinOp.neq v50 v53 fun v55 =>
 CNDC v55
 (Q (AV.int IntKind.i64 3) H nx)
 (NC v30 fun v56 =>
 LD true 3 v56 H fun v57 =>
 zb Tryd.prog 39 [v57] H nx (zhp v4 Q a0 a1 v30 a2))))))
theorem zlb (a0 a1 a2 : AV) (H : Heap) (nx : Nat) (Q : QT) : zah a0 a1 a2 H nx Q → zb Tryd.prog 40 [a0, a1, a2] H nx Q :=
  zm (lv := lvOf [(0, 9, [0, 1, 7, 8, 9, 11, 12]), (0, 14, [0, 1, 7, 9, 11, 13]), (2, 20, [0, 198, 199, 200]), (2, 23, [0, 198, 199, 200, 204, 205, 206]), (3, 17, [0, 7, 11])]) (c := zx Tryd.f40) zbf zbm mixed Tryd.func40 (by kernel_rfl) (by kernel_rfl) (by kernel_rfl) (by kernel_rfl) (by kernel_rfl)
def zhv (Q : QT) (xs42 : List AV) (K41 : J3) (v46 : AV) (H47 : Heap) (nx48 : Nat) : Prop :=
 BI BinOp.neq v46 (AV.int IntKind.i64 0) fun v49 =>
 CNDC v49
 (Q v46 H47 nx48)
 (BI BinOp.add (nth xs42 3) (AV.int IntKind.i64 1) fun v50 =>
 K41 [nth xs42 0, nth xs42 1, nth xs42 2, v50] H47 nx48)
def zei (Q : QT) (xs67 : List AV) (K66 : J3) (v78 : AV) (H79 : Heap) (nx80 : Nat) : Prop :=
 BI BinOp.neq v78 (AV.int IntKind.i64 0) fun v81 =>
 CNDC v81
 (Q v78 H79 nx80)
 (BI BinOp.add (nth xs67 6) (AV.int IntKind.i64 1) fun v82 =>
 K66 [nth xs67 0, nth xs67 1, nth xs67 2, nth xs67 3, nth xs67 4, nth xs67 5, v82] H79 nx80)
def zci (Q : QT) (K54 : J3) (K66 : J3) (xs67 : List AV) (H68 : Heap) (nx69 : Nat) : Prop :=
 BI BinOp.lss (nth xs67 6) (nth xs67 5) fun v70 =>
 CNDC v70
 (IA 3 (nth xs67 4) (nth xs67 6) fun v71 =>
 LD true 3 v71 H68 fun v72 =>
 ST 3 (AV.ptr nx69 0) v72 (H68.put nx69 (some (AObj.row 3 [AV.int IntKind.i64 0, AV.int IntKind.i64 0, AV.str []]))) fun H73 =>
 LD true 3 (AV.ptr nx69 0) H73 fun v74 =>
 FA 5 (nth xs67 0) fun v75 =>
 LD false 1 v75 H73 fun v76 =>
 LNL v76 fun v77 =>
 zb Tryd.prog 41 [v74, v77] H73 (nx69 + 1) (zei Q xs67 K66))
 (BI BinOp.add (nth xs67 3) (AV.int IntKind.i64 1) fun v83 =>
 K54 [nth xs67 0, nth xs67 1, nth xs67 2, v83] H68 nx69)
def zeh (Q : QT) (K54 : J3) (xs55 : List AV) (H56 : Heap) (nx57 : Nat) : Prop :=
 BI BinOp.lss (nth xs55 3) (nth xs55 2) fun v58 =>
 CNDC v58
 (IA 6 (nth xs55 1) (nth xs55 3) fun v59 =>
 LD true 6 v59 H56 fun v60 =>
 ST 6 (AV.ptr nx57 0) v60 (H56.put nx57 (some (AObj.row 6 [AV.int IntKind.i64 0, AV.int IntKind.i64 0, AV.str [], AV.int IntKind.i64 0, AV.int IntKind.i64 0, AV.str []]))) fun H61 =>
 LD true 3 (AV.ptr nx57 0) H61 fun v62 =>
 LD true 3 (AV.ptr nx57 3) H61 fun v63 =>
 BSL 2 3 [AV.int IntKind.i64 0, AV.int IntKind.i64 0, AV.str []] [(0, v62), (1, v63)] fun cells64 =>
 LNL (AV.slc (nx57 + 1) 0 2) fun v65 =>
 LP (zci Q K54) [nth xs55 0, nth xs55 1, nth xs55 2, nth xs55 3, AV.slc (nx57 + 1) 0 2, v65, AV.int IntKind.i64 0] (H61.put ((nx57 + 1)) (some (AObj.row 3 cells64))) (nx57 + 2))
 (Q (AV.int IntKind.i64 0) H56 nx57)
def zeg (Q : QT) (K41 : J3) (xs42 : List AV) (H43 : Heap) (nx44 : Nat) : Prop :=
 BI BinOp.lss (nth xs42 3) (nth xs42 2) fun v45 =>
 CNDC v45
 (zb Tryd.prog 40 [nth xs42 1, nth xs42 3, nth xs42 0] H43 nx44 (zhv Q xs42 K41))
 (FA 5 (nth xs42 1) fun v51 =>
 LD false 1 v51 H43 fun v52 =>
 LNL v52 fun v53 =>
 LP (zeh Q) [nth xs42 1, v52, v53, AV.int IntKind.i64 0] H43 nx44)
def zcj (Q : QT) (nx : Nat) (a1 : AV) (v2 : AV) (H3 : Heap) (nx4 : Nat) : Prop :=
 BI BinOp.neq v2 (AV.int IntKind.i64 0) fun v5 =>
 CNDC v5
 (Q v2 H3 nx4)
 (LD true 3 (AV.ptr nx 6) H3 fun v6 =>
 ST 3 (AV.ptr nx4 0) v6 (H3.put nx4 (some (AObj.row 3 [AV.int IntKind.i64 0, AV.int IntKind.i64 0, AV.int IntKind.i64 0]))) fun H7 =>
 LD false 1 (AV.ptr nx 0) H7 fun v8 =>
 BI BinOp.lss v8 (AV.int IntKind.i64 0) fun v9 =>
 CND v9
 (Q (AV.int IntKind.i64 3) H7 (nx4 + 1))
 (LD false 1 (AV.ptr nx 0) H7 fun v10 =>
 BI BinOp.gtr v10 (AV.int IntKind.i64 1073741824) fun v11 =>
 CND v11
 (Q (AV.int IntKind.i64 3) H7 (nx4 + 1))
 (LD false 1 (AV.ptr nx 1) H7 fun v12 =>
 BI BinOp.lss v12 (AV.int IntKind.i64 0) fun v13 =>
 CND v13
 (Q (AV.int IntKind.i64 3) H7 (nx4 + 1))
 (LD false 1 (AV.ptr nx 1) H7 fun v14 =>
 BI BinOp.gtr v14 (AV.int IntKind.i64 1073741824) fun v15 =>
 CND v15
 (Q (AV.int IntKind.i64 3) H7 (nx4 + 1))
 (LD false 1 (AV.ptr nx4 0) H7 fun v16 =>
 BI BinOp.lss v16 (AV.int IntKind.i64 0) fun v17 =>
 CND v17
 (Q (AV.int IntKind.i64 3) H7 (nx4 + 1))
 (LD false 1 (AV.ptr nx4 0) H7 fun v18 =>
 BI BinOp.gtr v18 (AV.int IntKind.i64 2000) fun v19 =>
 CND v19
 (Q (AV.int IntKind.i64 3) H7 (nx4 + 1))
 (LD false 1 (AV.ptr nx4 1) H7 fun v20 =>
 BI BinOp.lss v20 (AV.int IntKind.i64 0) fun v21 =>
 CND v21
 (Q (AV.int IntKind.i64 3) H7 (nx4 + 1))
 (LD false 1 (AV.ptr nx4 1) H7 fun v22 =>
 BI BinOp.gtr v22 (AV.int IntKind.i64 60) fun v23 =>
 CND v23
 (Q (AV.int IntKind.i64 3) H7 (nx4 + 1))
 (LD false 1 (AV.ptr nx4 2) H7 fun v24 =>
 BI BinOp.lss v24 (AV.int IntKind.i64 0) fun v25 =>
 CND v25
 (Q (AV.int IntKind.i64 3) H7 (nx4 + 1))
 (LD false 1 (AV.ptr nx4 2) H7 fun v26 =>
 BI BinOp.gtr v26 (AV.int IntKind.i64 12) fun v27 =>
 CNDC v27
 (Q (AV.int IntKind.i64 3) H7 (nx4 + 1))
 (LD false 1 (AV.ptr nx 4) H7 fun v28 =>
 LNL v28 fun v29 =>
 BI BinOp.lss v29 (AV.int IntKind.i64 1) fun v30 =>
 CND v30
 (Q (AV.int IntKind.i64 5) H7 (nx4 + 1))
 (LD false 1 (AV.ptr nx 4) H7 fun v31 =>
 LNL v31 fun v32 =>
 BI BinOp.gtr v32 (AV.int IntKind.i64 12) fun v33 =>
 CNDC v33
 (Q (AV.int IntKind.i64 5) H7 (nx4 + 1))
 (LD false 1 (AV.ptr nx 5) H7 fun v34 =>
 LNL v34 fun v35 =>
 LD false 1 (AV.ptr nx4 1) H7 fun v36 =>
 BI BinOp.sub (AV.int IntKind.i64 60) v36 fun v37 =>
 BI BinOp.gtr v35 v37 fun v38 =>
 CNDC v38
 (Q (AV.int IntKind.i64 4) H7 (nx4 + 1))
 (LD false 1 (AV.ptr nx 4) H7 fun v39 =>
 LNL v39 fun v40 =>
 LP (zeg Q) [a1, AV.ptr nx 0, v40, AV.int IntKind.i64 0] H7 (nx4 + 1)))))))))))))))
def zhu (a0 a1 : AV) (H : Heap) (nx : Nat) (Q : QT) : Prop :=
 a0.sure = true ∧
 LD true 2 (AV.ptr nx 2) (H.put nx (some (AObj.row a0.cells.length a0.cells))) fun v1 =>
 zb Tryd.prog 19 [v1] (H.put nx (some (AObj.row a0.cells.length a0.cells))) (nx + 1) (zcj Q nx a1)
theorem zlc (a0 a1 : AV) (H : Heap) (nx : Nat) (Q : QT) : zhu a0 a1 H nx Q → zb Tryd.prog 15 [a0, a1] H nx Q :=
  zm (lv := lvOf [(2, 12, [1, 2, 89, 90]), (2, 19, [2, 101, 102, 103]), (2, 22, [2, 101, 102, 103, 111, 112, 113])]) (c := zx Tryd.f15) zbf zbm mixed Tryd.func15 (by kernel_rfl) (by kernel_rfl) (by kernel_rfl) (by kernel_rfl) (by kernel_rfl)
end Go.Proofs.YtobioljjoipimaaDoor
set_option maxRecDepth 8000
namespace Go.Proofs.YtobioljjoipimaaDoor
open Go Go.RowKit
end Go.Proofs.YtobioljjoipimaaDoor
set_option maxRecDepth 8000
namespace Go.Proofs.YtobioljjoipimaaDoor
open Go Go.RowKit
inductive Rn (R : Nat → Prop) (gn g0 : Nat) : AV → AV → Prop
  | same (v : AV) : Bel R v → Rn R gn g0 v v
  | slc (off len : Nat) : Rn R gn g0 (.slc gn off len) (.slc g0 off len)
  | ptr (off : Nat) : Rn R gn g0 (.ptr gn off) (.ptr g0 off)
  | amap : Rn R gn g0 (.amap gn) (.amap g0)
  | agg (xs ys : List AV) : ys.length = xs.length → (∀ (j : Nat) (v u : AV), xs[j]? = some v → ys[j]? = some u → Rn R gn g0 v u) → Rn R gn g0 (.agg xs) (.agg ys)
def RnO (R : Nat → Prop) (gn g0 : Nat) : AObj → AObj → Prop
  | .row s cs, .row s' ds => s' = s ∧ ds.length = cs.length ∧ ∀ (j : Nat) (v u : AV), cs[j]? = some v → ds[j]? = some u → Rn R gn g0 v u
  | .mp es, .mp fs => fs.length = es.length ∧ ∀ (j : Nat) (v u : AV × AV), es[j]? = some v → fs[j]? = some u → Rn R gn g0 v.1 u.1 ∧ Rn R gn g0 v.2 u.2
  | _, _ => False
theorem VRel.rn {K : zf} {ρ ρ2 : Nat → Loc} {A A2 R : Nat → Prop} {gn g0 : Nat} {v u : AV} {c : Value} (h : VRel K ρ A v c) (hr : Rn R gn g0 v u) (hR : ∀ g, R g → A g → ρ2 g = ρ g ∧ A2 g) (hA : ∀ g, R g → A g) (hg : ρ2 g0 = ρ gn ∧ A2 g0) : VRel K ρ2 A2 u c := by
  induction hr generalizing c with
  | same _ hb => exact (h.restrict hb).mono (fun _ _ h => h) fun g hg => hR g hg (hA g hg)
  | slc off len =>
    cases h with
    | slc _ _ _ cap a h1 h2 h3 => exact .slc g0 off len cap a hg.2 h2 (by rw [hg.1]; exact h3)
  | ptr off =>
    cases h with
    | ptr _ _ a h1 h2 => exact .ptr g0 off a hg.2 (by rw [hg.1]; exact h2)
  | amap =>
    cases h with
    | amap _ r h1 h2 => exact .amap g0 r hg.2 (by rw [hg.1]; exact h2)
  | agg xs ys hl _ ih =>
    cases h with
    | agg _ cs h1 h2 =>
      exact .agg ys cs (by omega) fun j u c hu hc => by
        have hlt := (List.getElem?_eq_some_iff.1 hu).1
        have hx : xs[j]? = some (xs[j]'(by omega)) := List.getElem?_eq_getElem (by omega)
        exact ih j _ u hx hu (h2 j _ c hx hc)
theorem zy.rn {K : zf} {ρ ρ2 : Nat → Loc} {A A2 R : Nat → Prop} {gn g0 : Nat} {o o' : AObj} {w : World} {l : Loc} (h : zy K ρ A w l o) (hr : RnO R gn g0 o o') (hR : ∀ g, R g → A g → ρ2 g = ρ g ∧ A2 g) (hA : ∀ g, R g → A g) (hg : ρ2 g0 = ρ gn ∧ A2 g0) : zy K ρ2 A2 w l o' := by
  cases o with
  | row s cs =>
    cases o' with
    | mp fs | it _ _ _ => exact hr.elim
    | row s' ds =>
      obtain ⟨rfl, hl, hc⟩ := hr
      obtain ⟨c, e, lo, hi, h1, h0, h2, h3, h4, h5⟩ := h
      refine ⟨c, e, lo, hi, h1, h0, h2, h3, by rw [hl]; exact h4, fun j u hu => ?_⟩
      have hj : j < cs.length := by have := (List.getElem?_eq_some_iff.1 hu).1; omega
      have hv : cs[j]? = some cs[j] := List.getElem?_eq_getElem hj
      obtain ⟨cv, a1, a2⟩ := h5 j _ hv
      exact ⟨cv, a1, a2.rn (hc j _ u hv hu) hR hA hg⟩
  | mp es =>
    cases o' with
    | row s' ds | it _ _ _ => exact hr.elim
    | mp fs =>
      obtain ⟨hl, hc⟩ := hr
      obtain ⟨en, cl, h1, h2, h3, h4⟩ := h
      refine ⟨en, cl, h1, by rw [hl]; exact h2, fun j u e hu he => ?_, h4⟩
      have hj : j < es.length := by have := (List.getElem?_eq_some_iff.1 hu).1; omega
      have hv : es[j]? = some es[j] := List.getElem?_eq_getElem hj
      obtain ⟨a1, a2⟩ := h3 j _ e hv he
      obtain ⟨b1, b2⟩ := hc j _ u hv hu
      exact ⟨a1.rn b1 hR hA hg, a2.rn b2 hR hA hg⟩
  | it _ _ _ => exact hr.elim
theorem zic {D : zg} : ∀ {H : Heap} {g : Nat}, g ∉ domD D → (H.apply D) g = H g := by
  induction D with
  | nil => intros; rfl
  | cons d r ih =>
    obtain ⟨g', o⟩ := d
    intro H g hg
    simp only [domD, List.map_cons, List.mem_cons, not_or] at hg
    show ((H.put g' o).apply r) g = H g
    rw [ih (by simpa [domD] using hg.2), Heap.put_ne _ _ hg.1]
end Go.Proofs.YtobioljjoipimaaDoor
set_option maxRecDepth 8000
namespace Go.Proofs.YtobioljjoipimaaDoor
open Go Go.RowKit
def znv : Nat → List Nat → List (AV × AV)
  | _, [] => []
  | k, n :: r => (.int .i64 n, .int .i64 k) :: znv (k + 1) r
def zwd (o : List Nat) : List (AV × AV) := znv 0 o
def znu (o : List Nat) : List AV := o.map fun (n : Nat) => AV.int .i64 (n : Int)
@[simp] theorem zabw (o : List Nat) : (znu o).length = o.length := by simp [znu]
structure zie (H : Heap) (g1 g2 gm gr : Nat) (o : List Nat) : Prop where
  m1 : H g1 = some (.row 1 [.amap gm])
  mm : H gm = some (.mp (zwd o))
  m2 : H g2 = some (.row 1 [if o = [] then .nils else .slc gr 0 o.length])
  mr : o ≠ [] → H gr = some (.row 1 (znu o))
  d12 : g1 ≠ g2
  d1m : g1 ≠ gm
  d2m : g2 ≠ gm
  dr : o ≠ [] → gr ≠ g1 ∧ gr ≠ g2 ∧ gr ≠ gm
end Go.Proofs.YtobioljjoipimaaDoor
set_option maxRecDepth 8000
namespace Go.Proofs.YtobioljjoipimaaDoor
open Go Go.RowKit
theorem zbu {sz : Nat} : ∀ {xs : List (List AV)}, (∀ x ∈ xs, x.length = sz) → xs.flatten.length = xs.length * sz
  | [], _ => by simp
  | y :: r, hs => by rw [List.flatten_cons, List.length_append, zbu fun z hz => hs z (by simp [hz]), hs y (by simp), List.length_cons, Nat.succ_mul, Nat.add_comm]
theorem zgv {sz : Nat} : ∀ {xs : List (List AV)}, (∀ x ∈ xs, x.length = sz) → ∀ {i : Nat} {x : List AV}, xs[i]? = some x → (xs.flatten.drop (i * sz)).take sz = x
  | [], _, i, x, hx => by simp at hx
  | y :: r, hs, 0, x, hx => by
    simp at hx; subst hx
    rw [Nat.zero_mul, List.drop_zero, List.flatten_cons, List.take_append_of_le_length (by rw [hs y (by simp)]; omega), List.take_of_length_le (by rw [hs y (by simp)]; omega)]
  | y :: r, hs, i + 1, x, hx => by
    have hy : y.length = sz := hs y (by simp)
    rw [List.flatten_cons, Nat.succ_mul, List.drop_append, List.drop_of_length_le (by omega), List.nil_append, show i * sz + sz - y.length = i * sz by omega]
    exact zgv (fun z hz => hs z (by simp [hz])) (by simpa using hx)
inductive zau (H : Heap) (nx sz : Nat) (xs : List (List AV)) : AV → Prop
  | ro : zau H nx sz xs (.ro xs)
  | slc (g : Nat) : g < nx → H g = some (.row sz xs.flatten) → zau H nx sz xs (.slc g 0 xs.length)
  | nils : xs = [] → zau H nx sz xs .nils
theorem zau.keep {H H' : Heap} {nx nx' sz : Nat} {xs : List (List AV)} {a : AV} (h : zau H nx sz xs a) (hk : ∀ g, g < nx → H' g = H g) (hn : nx ≤ nx') : zau H' nx' sz xs a := by
  cases h with
  | ro => exact .ro
  | slc g h1 h2 => exact .slc g (by omega) (by rw [hk g h1]; exact h2)
  | nils h => exact .nils h
theorem zau.len {H : Heap} {nx sz : Nat} {xs : List (List AV)} {a : AV} (h : zau H nx sz xs a) {k : AV → Prop} : LNL a k = k (.int .i64 xs.length) := by
  cases h with
  | ro => simp
  | slc g h1 h2 => simp
  | nils h => subst h; simp
theorem zau.ld {H : Heap} {nx sz : Nat} {xs : List (List AV)} {a : AV} (h : zau H nx sz xs a) (hs : ∀ x ∈ xs, x.length = sz) {ki : IntKind} {i : Nat} {x : List AV} (hx : xs[i]? = some x) {k : AV → Prop} (hk : k (.agg x)) : IA sz a (.int ki i) fun p => LD true sz p H k := by
  obtain ⟨hi, hx'⟩ := List.getElem?_eq_some_iff.1 hx
  have hxl : x.length = sz := hs x (List.mem_of_getElem? hx)
  cases h with
  | ro =>
    rw [zzr]
    have e : xs.getD i [] = x := by simp [List.getD_eq_getElem?_getD, hx]
    simp only [Int.toNat_natCast, e, zun]
    refine ⟨by omega, by omega, hxl, by omega, ?_⟩
    rw [List.drop_zero, List.take_of_length_le (by omega)]
    exact hk
  | slc g h1 h2 =>
    rw [zabc]
    simp only [Int.toNat_natCast, zye, h2, rowk]
    refine ⟨by omega, by omega, ?_, ?_⟩
    · rw [zbu hs]
      have : (i + 1) * sz ≤ xs.length * sz := Nat.mul_le_mul_right _ hi
      rw [Nat.succ_mul] at this; omega
    · rw [Nat.zero_add, zgv hs hx]; exact hk
  | nils h => subst h; simp at hx
theorem zau.src {H : Heap} {nx sz : Nat} {xs : List (List AV)} {a : AV} (h : zau H nx sz xs a) (hs : ∀ x ∈ xs, x.length = sz) : ∃ rd, ze sz H a = some (xs.length, xs.flatten, rd) := by
  cases h with
  | ro => exact ⟨[], zqu hs⟩
  | slc g h1 h2 =>
    refine ⟨[g], ?_⟩
    have hl := zbu hs
    simp only [ze, h2, Nat.zero_add, List.drop_zero]
    rw [if_pos (by omega), List.take_of_length_le (by omega)]
  | nils h => subst h; exact ⟨[], rfl⟩
theorem zau.frz {H : Heap} {nx sz : Nat} {xs : List (List AV)} {a : AV} (h : zau H nx sz xs a) (hs : ∀ x ∈ xs, x.length = sz) (hf : ∀ x ∈ xs, ∀ v ∈ x, flat v = true ∧ Bel (fun _ => False) v) (hro : Bel (fun _ => False) (.ro xs)) : Frz H 0 a (.ro xs) := by
  have hb : ∀ c ∈ xs.flatten, Bel (fun x => x < 0) c := by
    intro c hc
    obtain ⟨x, hx, hcx⟩ := List.mem_flatten.1 hc
    exact (hf x hx c hcx).2.mono fun _ h => h.elim
  cases h with
  | ro => exact .same _ (hro.mono fun _ h => h.elim)
  | slc g h1 h2 => exact Frz.row (Nat.zero_le _) h2 rfl hs rfl hb
  | nils h => subst h; exact .nils
end Go.Proofs.YtobioljjoipimaaDoor
set_option maxRecDepth 8000
namespace Go.Proofs.YtobioljjoipimaaDoor
open Go Go.RowKit
def rowV (l : List Val) : List AV := (l.map Val.avs).flatten
def rowC (h : List Cl) : List AV := (h.map Cl.avs).flatten
theorem zni (l : List Val) : ∀ x ∈ l.map Val.avs, x.length = 3 := by intro x hx; obtain ⟨v, _, rfl⟩ := List.mem_map.1 hx; rfl
theorem zez (l : List Cl) : ∀ x ∈ l.map Cl.avs, x.length = 6 := by intro x hx; obtain ⟨v, _, rfl⟩ := List.mem_map.1 hx; rfl
@[simp] theorem zafa (l : List Val) : (rowV l).length = l.length * 3 := by rw [rowV, zbu (zni l)]; simp
@[simp] theorem zafb (l : List Cl) : (rowC l).length = l.length * 6 := by rw [rowC, zbu (zez l)]; simp
theorem zdw (v : Val) : ∀ c ∈ v.avs, scal c = true := by intro c hc; simp [Val.avs] at hc; rcases hc with rfl | rfl | rfl <;> rfl
theorem zaad (c : Cl) : ∀ x ∈ c.avs, scal x = true := by
  intro x hx
  rcases List.mem_append.1 hx with h | h
  · exact zdw _ _ h
  · exact zdw _ _ h
theorem zqv {c : AV} (h : scal c = true) : c.one = true := by cases c <;> first | (cases h; done) | rfl
theorem zpi {c : AV} (h : scal c = true) : flat c = true := by cases c <;> first | (cases h; done) | simp
theorem zdx {c : AV} {A : Nat → Prop} (h : scal c = true) : Bel A c := by cases c <;> first | (cases h; done) | exact .int _ _ | exact .str _ | exact .bool _
theorem zfm {xs : List (List AV)} {A : Nat → Prop} (h : ∀ x ∈ xs, ∀ c ∈ x, scal c = true) : Bel A (.ro xs) := .ro xs fun i x j v hx hv => zdx (h x (List.mem_of_getElem? hx) v (List.mem_of_getElem? hv))
theorem zdz (l : List Val) : ∀ x ∈ l.map Val.avs, ∀ c ∈ x, scal c = true := by intro x hx; obtain ⟨v, _, rfl⟩ := List.mem_map.1 hx; exact zdw v
theorem zca (l : List Cl) : ∀ x ∈ l.map Cl.avs, ∀ c ∈ x, scal c = true := by intro x hx; obtain ⟨v, _, rfl⟩ := List.mem_map.1 hx; exact zaad v
theorem zau.frzV {H : Heap} {nx : Nat} {l : List Val} {a : AV} (h : zau H nx 3 (l.map Val.avs) a) : Frz H 0 a (.ro (l.map Val.avs)) :=
  h.frz (zni l) (fun x hx v hv => ⟨zpi (zdz l x hx v hv), zdx (zdz l x hx v hv)⟩) (zfm (zdz l))
theorem zau.frzC {H : Heap} {nx : Nat} {l : List Cl} {a : AV} (h : zau H nx 6 (l.map Cl.avs) a) : Frz H 0 a (.ro (l.map Cl.avs)) :=
  h.frz (zez l) (fun x hx v hv => ⟨zpi (zca l x hx v hv), zdx (zca l x hx v hv)⟩) (zfm (zca l))
end Go.Proofs.YtobioljjoipimaaDoor
namespace Go.Proofs.YtobioljjoipimaaDoor
namespace VM
def OkV (N : Nat) (v : Val) : Prop := v.kind = 2 → 0 ≤ v.n ∧ v.n.toNat < N
structure Good (N : Nat) (o : List Nat) : Prop where
  nd : o.Nodup
  lt : ∀ n ∈ o, n < N
theorem Good.len {N : Nat} {o : List Nat} (h : Good N o) : o.length ≤ N := by
  have := h.nd.length_le_of_subset (l₂ := List.range N) (fun n hn => List.mem_range.2 (h.lt n hn))
  simpa using this
theorem Good.nil {N : Nat} : Good N [] := ⟨List.nodup_nil, fun n h => by simp at h⟩
theorem Good.meet {N : Nat} {o : List Nat} {v : Val} (h : Good N o) (hv : OkV N v) : Good N (meet o v) := by
  unfold VM.meet
  split
  · rename_i hc
    refine ⟨?_, fun n hn => ?_⟩
    · rw [List.nodup_append]
      exact ⟨h.nd, by simp, fun a ha b hb e => hc.2 (by simp at hb; rw [← hb, ← e]; exact ha)⟩
    · rcases List.mem_append.1 hn with h' | h'
      · exact h.lt n h'
      · simp at h'; rw [h']; exact (hv hc.1).2
  · exact h
theorem meet_pre (o : List Nat) (v : Val) : o <+: meet o v := by
  unfold meet; split
  · exact List.prefix_append _ _
  · exact List.prefix_refl _
def In (o : List Nat) (v : Val) : Prop := v.kind = 2 → v.n.toNat ∈ o
theorem In.pre {o F : List Nat} {v : Val} (h : In o v) (p : o <+: F) : In F v := fun hk => p.subset (h hk)
end VM
end Go.Proofs.YtobioljjoipimaaDoor
set_option maxRecDepth 8000
namespace Go.Proofs.YtobioljjoipimaaDoor
open Go Go.RowKit
end Go.Proofs.YtobioljjoipimaaDoor
set_option maxRecDepth 8000
namespace Go.Proofs.YtobioljjoipimaaDoor
open Go Go.RowKit
theorem zwa (L : List Val) (c : Val) : rowV (L ++ [c]) = rowV L ++ c.avs := by simp [rowV]
def zabj (F : List Nat) (h : List Cl) (n : Nat) : Cl := VM.putC F ((h[n]?).getD ⟨VM.vzero, VM.vzero⟩)
theorem zie.keep {H H' : Heap} {g1 g2 gm gr nx : Nat} {o : List Nat} (h : zie H g1 g2 gm gr o) (l1 : g1 < nx) (l2 : g2 < nx) (lm : gm < nx) (lr : o ≠ [] → gr < nx) (hk : ∀ g, g < nx → H' g = H g) : zie H' g1 g2 gm gr o :=
  ⟨by rw [hk g1 l1]; exact h.m1, by rw [hk gm lm]; exact h.mm, by rw [hk g2 l2]; exact h.m2, fun ho => by rw [hk gr (lr ho)]; exact h.mr ho, h.d12, h.d1m, h.d2m, h.dr⟩
theorem zie.next {H H' : Heap} {g1 g2 gm gr gn nx : Nat} {o : List Nat} {n : Nat} (h : zie H g1 g2 gm gr o) (l1 : g1 < nx) (l2 : g2 < nx) (lm : gm < nx) (lr : o ≠ [] → gr < nx) (hgn : nx ≤ gn) (p3 : H' gm = some (.mp (zwd (o ++ [n])))) (p4 : H' g2 = some (.row 1 [.slc gn 0 (o.length + 1)]))
    (p5 : H' gn = some (.row 1 (znu (o ++ [n])))) (p7 : H' g1 = H g1) : zie H' g1 g2 gm gn (o ++ [n]) :=
  ⟨by rw [p7]; exact h.m1, p3, by rw [p4]; simp, fun _ => p5, h.d12, h.d1m, h.d2m, fun _ => ⟨by omega, by omega, by omega⟩⟩
end Go.Proofs.YtobioljjoipimaaDoor
set_option maxRecDepth 8000
namespace Go.Proofs.YtobioljjoipimaaDoor
open Go Go.RowKit
structure zmi (h : List Cl) (l : List Val) (F : List Nat) (H0 : Heap) (nx i d : Nat) (o : List Nat) (a2 : AV) (H : Heap) (n gr go gv : Nat) : Prop where
  num : zie H (nx + 1) (nx + 2) nx gr o
  lr : o ≠ [] → nx + 3 ≤ gr ∧ gr < n ∧ gv ≠ gr
  out : (d = 0 ∧ a2 = .nils) ∨ (0 < d ∧ a2 = .slc go 0 d ∧ H go = some (.row 6 (rowC ((o.take d).map (zabj F h)))) ∧ nx + 3 ≤ go ∧ go < n ∧ go ≠ gv ∧ go ≠ gr)
  vs : H gv = some (.row 3 (rowV ((l.take i).map (VM.put F) ++ l.drop i)))
  lv : nx + 3 ≤ gv ∧ gv < n
  keep : Keep nx H H0
  good : VM.Good h.length o
  dle : d ≤ o.length
theorem zmi.more {h : List Cl} {l : List Val} {F : List Nat} {H0 : Heap} {nx i d : Nat} {o : List Nat} {a2 : AV} {H : Heap} {n gr go gv : Nat} (st : zmi h l F H0 nx i d o a2 H n gr go gv) {H1 : Heap} {n1 : Nat} (hn : n ≤ n1) (hk : ∀ g, g < n → H1 g = H g) : zmi h l F H0 nx i d o a2 H1 n1 gr go gv := by
  have l1 := st.lv
  refine ⟨st.num.keep (nx := n) (by omega) (by omega) (by omega) (fun ho => (st.lr ho).2.1) hk, fun ho => ?_, ?_, by rw [hk gv l1.2]; exact st.vs, by omega, fun g hg => by rw [hk g (by omega)]; exact st.keep g hg, st.good, st.dle⟩
  · have := st.lr ho; omega
  · rcases st.out with h | ⟨p1, p2, p3, p4, p5, p6⟩
    · exact .inl h
    · exact .inr ⟨p1, p2, by rw [hk go p5]; exact p3, p4, by omega, p6⟩
theorem zxw {o o' : List Nat} (h : o <+: o') {d : Nat} (hd : d ≤ o.length) : o'.take d = o.take d := by
  obtain ⟨t, rfl⟩ := h
  rw [List.take_append_of_le_length hd]
theorem zmi.meet {h : List Cl} {l : List Val} {F : List Nat} {H0 : Heap} {nx i d : Nat} {o : List Nat} {a2 : AV} {H : Heap} {n gr go gv : Nat} (st : zmi h l F H0 nx i d o a2 H n gr go gv) {v : Val} (hv : VM.OkV h.length v) {H' : Heap} {n' gr' : Nat} (hn : n ≤ n')
    (q1 : zie H' (nx + 1) (nx + 2) nx gr' (VM.meet o v)) (q2 : VM.meet o v ≠ [] → gr' < n' ∧ ((o ≠ [] ∧ gr' = gr) ∨ n ≤ gr')) (q3 : ∀ g, g < n → g ≠ nx → g ≠ nx + 2 → (o ≠ [] → g ≠ gr) → H' g = H g) : zmi h l F H0 nx i d (VM.meet o v) a2 H' n' gr' go gv := by
  have l1 := st.lv
  have p := VM.meet_pre o v
  have hgv : H' gv = H gv := q3 gv l1.2 (by omega) (by omega) fun ho => (st.lr ho).2.2
  refine ⟨q1, fun ho => ?_, ?_, by rw [hgv]; exact st.vs, by omega, fun g hg => ?_, st.good.meet hv, Nat.le_trans st.dle p.length_le⟩
  · obtain ⟨a, b⟩ := q2 ho
    rcases b with ⟨b1, rfl⟩ | b
    · have := st.lr b1; omega
    · omega
  · rcases st.out with h | ⟨p1, p2, p3, p4, p5, p6, p7⟩
    · exact .inl h
    · have ho : o ≠ [] := by intro e; subst e; have := st.dle; simp at this; omega
      refine .inr ⟨p1, p2, ?_, p4, by omega, p6, ?_⟩
      · rw [q3 go p5 (by omega) (by omega) fun _ => p7, zxw p st.dle]; exact p3
      · have hm : VM.meet o v ≠ [] := by
          intro e; rw [e] at p; exact ho (List.prefix_nil.1 p)
        rcases (q2 hm).2 with ⟨_, rfl⟩ | b
        · exact p7
        · omega
  · rw [q3 g (by omega) (by omega) (by omega) fun ho => by have := st.lr ho; omega]; exact st.keep g hg
theorem zrk {A : Prop} {m : List Nat} : ∀ {l : List Nat}, (∀ g ∈ l, g ∉ m) → A → zn l m A
  | [], _, a => by rw [zwu]; exact a
  | g :: r, h, a => by rw [zvc]; exact ⟨h g (by simp), zrk (fun x hx => h x (by simp [hx])) a⟩
end Go.Proofs.YtobioljjoipimaaDoor
namespace Go.Proofs.YtobioljjoipimaaDoor
namespace VM
theorem vshow_int {h : List Cl} {d : Nat} {v : Val} (k : v.kind = 0) : vshow h d v = Lib.itoa v.n := by cases d <;> simp [vshow, k]
theorem vshow_text {h : List Cl} {d : Nat} {v : Val} (k : v.kind = 1) : vshow h d v = v.text := by cases d <;> simp [vshow, k]
theorem vshow_dots {h : List Cl} {v : Val} (k : v.kind = 2) : vshow h 0 v = [46, 46] := by simp [vshow, k]
theorem vshow_cell {h : List Cl} {d : Nat} {v : Val} {c : Cl} (k : v.kind = 2) (hn : 0 ≤ v.n) (hc : h[v.n.toNat]? = some c) : vshow h (d + 1) v = [40] ++ vshow h d c.left ++ [32] ++ vshow h d c.right ++ [41] := by simp [vshow, k, hn, hc]
end VM
end Go.Proofs.YtobioljjoipimaaDoor
namespace Go.Proofs.YtobioljjoipimaaDoor
open Go Go.RowKit
end Go.Proofs.YtobioljjoipimaaDoor
namespace Go.Proofs.YtobioljjoipimaaDoor
open Go Go.RowKit
end Go.Proofs.YtobioljjoipimaaDoor
namespace Go.Proofs
open Go.Shelf
def Tryd.laysM171_ren : Go.Shelf.Ren := ⟨fun | 171 => 76 | 243 => 103 | 246 => 111 | 283 => 117 | 284 => 118 | 285 => 119 | 286 => 120 | 129 => 127 | 317 => 126 | 318 => 128 | 319 => 129 | 320 => 130 | 337 => 134 | 338 => 135 | n => n, fun | 3 => 3 | 9 => 9 | 2 => 2 | 4 => 4 | 171 => 188 | 0 => 0 | 53 => 189 | 37 => 192 | 5 => 5 | 173 => 193 | 212 => 202 | 51 => 203 | 20 => 20 | 213 => 204 | 46 => 205 | 232 => 219 | 233 => 220 | n => n, fun | 17 => 0 | 18 => 3 | 19 => 4 | n => n⟩
theorem Tryd.laysM171 : Go.Proofs.LaysM.n171 Tryd.prog Tryd.laysM171_ren := {
  mixed := by kernel_rfl
  f129 := Tryd.func127.trans (congrArg some (by kernel_rfl))
  f171 := Tryd.func76.trans (congrArg some (by kernel_rfl))
  f243 := Tryd.func103.trans (congrArg some (by kernel_rfl))
  f246 := Tryd.func111.trans (congrArg some (by kernel_rfl))
  f283 := Tryd.func117.trans (congrArg some (by kernel_rfl))
  f284 := Tryd.func118.trans (congrArg some (by kernel_rfl))
  f285 := Tryd.func119.trans (congrArg some (by kernel_rfl))
  f286 := Tryd.func120.trans (congrArg some (by kernel_rfl))
  f317 := Tryd.func126.trans (congrArg some (by kernel_rfl))
  f318 := Tryd.func128.trans (congrArg some (by kernel_rfl))
  f319 := Tryd.func129.trans (congrArg some (by kernel_rfl))
  f320 := Tryd.func130.trans (congrArg some (by kernel_rfl))
  f337 := Tryd.func134.trans (congrArg some (by kernel_rfl))
  f338 := Tryd.func135.trans (congrArg some (by kernel_rfl))
  t0 := Tryd.underlying0
  a0 := Tryd.isAgg0
  z0 := Tryd.sizeOf0
  v0 := Tryd.zeroValue0
  t2 := Tryd.underlying2
  a2 := Tryd.isAgg2
  z2 := Tryd.sizeOf2
  v2 := Tryd.zeroValue2
  t3 := Tryd.underlying3
  a3 := Tryd.isAgg3
  z3 := Tryd.sizeOf3
  v3 := Tryd.zeroValue3
  t4 := Tryd.underlying4
  a4 := Tryd.isAgg4
  z4 := Tryd.sizeOf4
  v4 := Tryd.zeroValue4
  t5 := Tryd.underlying5
  a5 := Tryd.isAgg5
  z5 := Tryd.sizeOf5
  v5 := Tryd.zeroValue5
  t9 := Tryd.underlying9
  a9 := Tryd.isAgg9
  z9 := Tryd.sizeOf9
  v9 := Tryd.zeroValue9
  t20 := Tryd.underlying20
  a20 := Tryd.isAgg20
  z20 := Tryd.sizeOf20
  v20 := Tryd.zeroValue20
  t37 := Tryd.underlying192
  a37 := Tryd.isAgg192
  z37 := Tryd.sizeOf192
  v37 := Tryd.zeroValue192
  t46 := Tryd.underlying205
  a46 := Tryd.isAgg205
  z46 := Tryd.sizeOf205
  v46 := Tryd.zeroValue205
  t51 := Tryd.underlying203
  a51 := Tryd.isAgg203
  z51 := Tryd.sizeOf203
  v51 := Tryd.zeroValue203
  t53 := Tryd.underlying189
  a53 := Tryd.isAgg189
  z53 := Tryd.sizeOf189
  v53 := Tryd.zeroValue189
  t171 := Tryd.underlying188
  a171 := Tryd.isAgg188
  z171 := Tryd.sizeOf188
  v171 := Tryd.zeroValue188
  t173 := Tryd.underlying193
  a173 := Tryd.isAgg193
  z173 := Tryd.sizeOf193
  v173 := Tryd.zeroValue193
  t212 := Tryd.underlying202
  a212 := Tryd.isAgg202
  z212 := Tryd.sizeOf202
  v212 := Tryd.zeroValue202
  t213 := Tryd.underlying204
  a213 := Tryd.isAgg204
  z213 := Tryd.sizeOf204
  t232 := Tryd.underlying219
  a232 := Tryd.isAgg219
  z232 := Tryd.sizeOf219
  v232 := Tryd.zeroValue219
  t233 := Tryd.underlying220
  a233 := Tryd.isAgg220
  z233 := Tryd.sizeOf220
  v233 := Tryd.zeroValue220
  g17 := by kernel_rfl
  g18 := by kernel_rfl
  g19 := by kernel_rfl
  i0 := by kernel_rfl
  i2 := by kernel_rfl
  i3 := by kernel_rfl
  i4 := by kernel_rfl
  i5 := by kernel_rfl
  i9 := by kernel_rfl
  i20 := by kernel_rfl
  i37 := by kernel_rfl
  i46 := by kernel_rfl
  i51 := by kernel_rfl
  i53 := by kernel_rfl
  i171 := by kernel_rfl
  i173 := by kernel_rfl
  i212 := by kernel_rfl
  i232 := by kernel_rfl
  i233 := by kernel_rfl
  m17 := by kernel_rfl
  m18 := by kernel_rfl
  m19 := by kernel_rfl }
open Go.RowKit Go.Sort Go.Lib in
theorem Tryd.strconv_Itoa (n : Int) (h0 : -9223372036854775808 ≤ n) (h1 : n ≤ 9223372036854775807) (w : World) (htab : Lib.TabIs Tryd.prog w "internal/strconv.uint64pow10" .u64 Lib.pow10Tab) :
    Calls Tryd.prog 76 #[.int .i64 n] w fun e w' => e = .returned (.string ⟨(Lib.itoa n).toArray⟩) ∧ ∃ k os, w' = grow (w.drewN k) os := Any.strconv_Itoa Tryd.laysM171 n h0 h1 w htab
def Tryd.laysC172_ren : Go.Shelf.Ren := ⟨fun | 172 => 106 | 244 => 114 | 245 => 115 | 247 => 121 | 279 => 122 | 280 => 123 | 281 => 124 | 282 => 125 | 287 => 131 | 316 => 132 | 171 => 76 | 205 => 133 | 321 => 136 | 322 => 137 | 243 => 103 | 246 => 111 | 283 => 117 | 284 => 118 | 285 => 119 | 286 => 120 | 129 => 127 | 317 => 126 | 318 => 128 | 319 => 129 | 320 => 130 | 337 => 134 | 338 => 135 | n => n, fun | 9 => 9 | 3 => 3 | 75 => 180 | 76 => 181 | 4 => 4 | 5 => 5 | 167 => 195 | 37 => 192 | 0 => 0 | 85 => 196 | 2 => 2 | 168 => 198 | 53 => 189 | 175 => 207 | 46 => 205 | 210 => 211 | 127 => 215 | 145 => 218 | 143 => 216 | 21 => 21 | 171 => 188 | 173 => 193 | 212 => 202 | 51 => 203 | 20 => 20 | 213 => 204 | 232 => 219 | 233 => 220 | 80 => 66 | n => n, fun | 15 => 1 | 16 => 2 | 17 => 0 | 18 => 3 | 19 => 4 | n => n⟩
theorem Tryd.laysC172 : Go.Proofs.LaysC.n172 Tryd.prog Tryd.laysC172_ren := {
  mixed := by kernel_rfl
  f129 := Tryd.func127.trans (congrArg some (by kernel_rfl))
  f171 := Tryd.func76.trans (congrArg some (by kernel_rfl))
  f172 := Tryd.func106.trans (congrArg some (by kernel_rfl))
  f205 := Tryd.func133.trans (congrArg some (by kernel_rfl))
  f243 := Tryd.func103.trans (congrArg some (by kernel_rfl))
  f244 := Tryd.func114.trans (congrArg some (by kernel_rfl))
  f245 := Tryd.func115.trans (congrArg some (by kernel_rfl))
  f246 := Tryd.func111.trans (congrArg some (by kernel_rfl))
  f247 := Tryd.func121.trans (congrArg some (by kernel_rfl))
  f279 := Tryd.func122.trans (congrArg some (by kernel_rfl))
  f280 := Tryd.func123.trans (congrArg some (by kernel_rfl))
  f281 := Tryd.func124.trans (congrArg some (by kernel_rfl))
  f282 := Tryd.func125.trans (congrArg some (by kernel_rfl))
  f283 := Tryd.func117.trans (congrArg some (by kernel_rfl))
  f284 := Tryd.func118.trans (congrArg some (by kernel_rfl))
  f285 := Tryd.func119.trans (congrArg some (by kernel_rfl))
  f286 := Tryd.func120.trans (congrArg some (by kernel_rfl))
  f287 := Tryd.func131.trans (congrArg some (by kernel_rfl))
  f316 := Tryd.func132.trans (congrArg some (by kernel_rfl))
  f317 := Tryd.func126.trans (congrArg some (by kernel_rfl))
  f318 := Tryd.func128.trans (congrArg some (by kernel_rfl))
  f319 := Tryd.func129.trans (congrArg some (by kernel_rfl))
  f320 := Tryd.func130.trans (congrArg some (by kernel_rfl))
  f321 := Tryd.func136.trans (congrArg some (by kernel_rfl))
  f322 := Tryd.func137.trans (congrArg some (by kernel_rfl))
  f337 := Tryd.func134.trans (congrArg some (by kernel_rfl))
  f338 := Tryd.func135.trans (congrArg some (by kernel_rfl))
  t0 := Tryd.underlying0
  a0 := Tryd.isAgg0
  z0 := Tryd.sizeOf0
  v0 := Tryd.zeroValue0
  t2 := Tryd.underlying2
  a2 := Tryd.isAgg2
  z2 := Tryd.sizeOf2
  v2 := Tryd.zeroValue2
  t3 := Tryd.underlying3
  a3 := Tryd.isAgg3
  z3 := Tryd.sizeOf3
  v3 := Tryd.zeroValue3
  t4 := Tryd.underlying4
  a4 := Tryd.isAgg4
  z4 := Tryd.sizeOf4
  v4 := Tryd.zeroValue4
  t5 := Tryd.underlying5
  a5 := Tryd.isAgg5
  z5 := Tryd.sizeOf5
  v5 := Tryd.zeroValue5
  t9 := Tryd.underlying9
  a9 := Tryd.isAgg9
  z9 := Tryd.sizeOf9
  v9 := Tryd.zeroValue9
  t20 := Tryd.underlying20
  a20 := Tryd.isAgg20
  z20 := Tryd.sizeOf20
  v20 := Tryd.zeroValue20
  t21 := Tryd.underlying21
  a21 := Tryd.isAgg21
  z21 := Tryd.sizeOf21
  v21 := Tryd.zeroValue21
  t37 := Tryd.underlying192
  a37 := Tryd.isAgg192
  z37 := Tryd.sizeOf192
  v37 := Tryd.zeroValue192
  t46 := Tryd.underlying205
  a46 := Tryd.isAgg205
  z46 := Tryd.sizeOf205
  v46 := Tryd.zeroValue205
  t51 := Tryd.underlying203
  a51 := Tryd.isAgg203
  z51 := Tryd.sizeOf203
  v51 := Tryd.zeroValue203
  t53 := Tryd.underlying189
  a53 := Tryd.isAgg189
  z53 := Tryd.sizeOf189
  v53 := Tryd.zeroValue189
  t75 := Tryd.underlying180
  a75 := Tryd.isAgg180
  z75 := Tryd.sizeOf180
  v75 := Tryd.zeroValue180
  t76 := Tryd.underlying181
  a76 := Tryd.isAgg181
  z76 := Tryd.sizeOf181
  v76 := Tryd.zeroValue181
  t85 := Tryd.underlying196
  a85 := Tryd.isAgg196
  z85 := Tryd.sizeOf196
  v85 := Tryd.zeroValue196
  t127 := Tryd.underlying215
  a127 := Tryd.isAgg215
  z127 := Tryd.sizeOf215
  v127 := Tryd.zeroValue215
  t143 := Tryd.underlying216
  a143 := Tryd.isAgg216
  z143 := Tryd.sizeOf216
  v143 := Tryd.zeroValue216
  t145 := Tryd.underlying218
  a145 := Tryd.isAgg218
  z145 := Tryd.sizeOf218
  v145 := Tryd.zeroValue218
  t167 := Tryd.underlying195
  a167 := Tryd.isAgg195
  z167 := Tryd.sizeOf195
  v167 := Tryd.zeroValue195
  t168 := Tryd.underlying198
  a168 := Tryd.isAgg198
  z168 := Tryd.sizeOf198
  v168 := Tryd.zeroValue198
  t171 := Tryd.underlying188
  a171 := Tryd.isAgg188
  z171 := Tryd.sizeOf188
  v171 := Tryd.zeroValue188
  t173 := Tryd.underlying193
  a173 := Tryd.isAgg193
  z173 := Tryd.sizeOf193
  v173 := Tryd.zeroValue193
  t175 := Tryd.underlying207
  a175 := Tryd.isAgg207
  z175 := Tryd.sizeOf207
  v175 := Tryd.zeroValue207
  t210 := Tryd.underlying211
  a210 := Tryd.isAgg211
  z210 := Tryd.sizeOf211
  v210 := Tryd.zeroValue211
  t212 := Tryd.underlying202
  a212 := Tryd.isAgg202
  z212 := Tryd.sizeOf202
  v212 := Tryd.zeroValue202
  t213 := Tryd.underlying204
  a213 := Tryd.isAgg204
  z213 := Tryd.sizeOf204
  t232 := Tryd.underlying219
  a232 := Tryd.isAgg219
  z232 := Tryd.sizeOf219
  v232 := Tryd.zeroValue219
  t233 := Tryd.underlying220
  a233 := Tryd.isAgg220
  z233 := Tryd.sizeOf220
  v233 := Tryd.zeroValue220
  g15 := by kernel_rfl
  g16 := by kernel_rfl
  g17 := by kernel_rfl
  g18 := by kernel_rfl
  g19 := by kernel_rfl
  t80 := Tryd.underlying66
  a80 := Tryd.isAgg66
  z80 := Tryd.sizeOf66
  v80 := Tryd.zeroValue66
  i0 := by kernel_rfl
  i2 := by kernel_rfl
  i3 := by kernel_rfl
  i4 := by kernel_rfl
  i5 := by kernel_rfl
  i9 := by kernel_rfl
  i20 := by kernel_rfl
  i21 := by kernel_rfl
  i37 := by kernel_rfl
  i46 := by kernel_rfl
  i51 := by kernel_rfl
  i53 := by kernel_rfl
  i75 := by kernel_rfl
  i76 := by kernel_rfl
  i80 := by kernel_rfl
  i85 := by kernel_rfl
  i127 := by kernel_rfl
  i143 := by kernel_rfl
  i145 := by kernel_rfl
  i167 := by kernel_rfl
  i168 := by kernel_rfl
  i171 := by kernel_rfl
  i173 := by kernel_rfl
  i175 := by kernel_rfl
  i210 := by kernel_rfl
  i212 := by kernel_rfl
  i232 := by kernel_rfl
  i233 := by kernel_rfl
  m15 := by kernel_rfl
  m16 := by kernel_rfl
  m17 := by kernel_rfl
  m18 := by kernel_rfl
  m19 := by kernel_rfl
  c0 := by kernel_rfl
  c2 := by kernel_rfl
  c3 := by kernel_rfl
  c4 := by kernel_rfl
  c5 := by kernel_rfl
  c9 := by kernel_rfl
  c20 := by kernel_rfl
  c21 := by kernel_rfl
  c37 := by kernel_rfl
  c46 := by kernel_rfl
  c51 := by kernel_rfl
  c53 := by kernel_rfl
  c75 := by kernel_rfl
  c76 := by kernel_rfl
  c80 := by kernel_rfl
  c85 := by kernel_rfl
  c127 := by kernel_rfl
  c143 := by kernel_rfl
  c145 := by kernel_rfl
  c167 := by kernel_rfl
  c168 := by kernel_rfl
  c171 := by kernel_rfl
  c173 := by kernel_rfl
  c175 := by kernel_rfl
  c210 := by kernel_rfl
  c212 := by kernel_rfl
  c213 := by kernel_rfl
  c232 := by kernel_rfl
  c233 := by kernel_rfl }
open Go.RowKit in
theorem Tryd.strconv_Atoi_ok (s : ByteArray) (hmax : s.size ≤ 9223372036854775806) (v : Int) (h : Lib.atoiAll s.data.toList = .ok v) (w : World) :
    Calls Tryd.prog 106 #[.string s] w fun e w' => e = .returned (.tuple #[.int .i64 v, .nilIface]) ∧ (w' = w ∨ ∃ t, w' = Lib.bytesWorld w 5 t) := Any.strconv_Atoi_ok Tryd.laysC172 s hmax v h w
open Go.RowKit in
theorem Tryd.strconv_Atoi_syntax_var (s : ByteArray) (hlim : s.size ≤ 281474976710656) (h : Lib.atoiAll s.data.toList = Lib.atoiAll []) (tp : TypeId) (p : Value) (w : World) (hvar : w.var? Tryd.prog "strconv.ErrSyntax" = some #[.iface tp p]) :
    Calls Tryd.prog 106 #[.string s] w fun e w' => ∃ N, e = .returned (.tuple #[.int .i64 0, .iface 198 (.pointer (some ⟨N, 0, none⟩))]) ∧ w.heap.size ≤ N ∧ w'.heap[N]? = some (.cells #[.string ⟨#[65, 116, 111, 105]⟩, .string s, .iface tp p] 211 (0, 0)) ∧ Below w.heap.size w w' := Any.strconv_Atoi_syntax_var Tryd.laysC172 s hlim h tp p w hvar
open Go.RowKit in
theorem Tryd.strconv_Atoi_range_var (s : ByteArray) (hlim : s.size ≤ 281474976710656) (h : Lib.atoiAll s.data.toList = .range) (tp : TypeId) (p : Value) (w : World) (hvar : w.var? Tryd.prog "strconv.ErrRange" = some #[.iface tp p]) :
    Calls Tryd.prog 106 #[.string s] w fun e w' => ∃ N, e = .returned (.tuple #[.int .i64 (Lib.atoiSat s.data.toList), .iface 198 (.pointer (some ⟨N, 0, none⟩))]) ∧ w.heap.size ≤ N ∧ w'.heap[N]? = some (.cells #[.string ⟨#[65, 116, 111, 105]⟩, .string s, .iface tp p] 211 (0, 0)) ∧ Below w.heap.size w w' := Any.strconv_Atoi_range_var Tryd.laysC172 s hlim h tp p w hvar
end Go.Proofs
namespace Go.Proofs.YtobioljjoipimaaDoor
open Go Go.RowKit
theorem Sim.below {A : Nat → Prop} {ρ : Nat → Loc} {H : Heap} {w w' : World} (s : Sim A ρ H w) (b : Below w.heap.size w w') : Sim A ρ H w' ∧ Fr A ρ H w A ρ H w' := by
  have hK : ∀ b' o, Kof ρ H w b' = some o → Kof ρ H w' b' = some o := fun b' o hb => by
    obtain ⟨h1, h2⟩ := zj.1 hb
    exact zj.2 ⟨h1, by rw [b.block b' (Array.getElem?_eq_some_iff.1 h2).1]; exact h2⟩
  refine ⟨⟨s.live, fun g o ho => ?_, s.inj, s.lay.mono hK⟩, ⟨fun _ h => ⟨rfl, h⟩, hK, b.os, b.tape, b.output, b.size⟩⟩
  exact (s.obj g o ho).mono (b.block _ (s.obj g o ho).block_lt) hK (fun _ h => ⟨rfl, h⟩)
theorem QC.of_calls {P : Program} {f : FuncId} {fn : Func} {c : Code} {args : List AV} {r : AV} (hf : P.funcs[f]? = some fn) (hb : fn.body = some c) (hname : (fn.name == "runtime.NumGoroutine") = false)
    (h : ∀ (K : zf) (ρ : Nat → Loc) (A : Nat → Prop) (w : World) (cargs : Array Value), LayK (fun b => w.heap[b]?) → LRel K ρ A args cargs.toList → Calls P f cargs w fun e w' => (∃ v, e = .returned v ∧ ∀ (K : zf) (ρ : Nat → Loc) (A : Nat → Prop), VRel K ρ A r v) ∧ Below w.heap.size w w') : QC P f args r := by
  intro H nx ρ w cargs s ha
  have hcall : (callFunc f cargs).run P w = .ok (.enter f cargs) w := by
    have hname' : ¬ fn.name = "runtime.NumGoroutine" := by simpa using hname
    simp [callFunc, program, Sem.run_bind, Sem.run, hf, hname', hb, pure]
  rw [hcall]
  simp only [zk]
  refine (h _ _ _ w cargs (s.lay.mono fun b o hb => (zj.1 hb).2) ha).mono fun e w' ⟨⟨v, he, hv⟩, hw⟩ => ?_
  obtain ⟨s', f'⟩ := s.below hw
  exact ⟨v, he, r, H, nx, ρ, ⟨rfl, rfl, rfl⟩, s', hv _ _ _, f'⟩
theorem zxx : (Tryd.prog.globalNamed "internal/strconv.uint64pow10").isSome = true := by kernel_rfl
theorem LayK.tab {w : World} (h : LayK (fun b => w.heap[b]?)) : Lib.TabIs Tryd.prog w "internal/strconv.uint64pow10" .u64 Lib.pow10Tab := by
  obtain ⟨g, hg⟩ := Option.isSome_iff_exists.1 zxx
  obtain ⟨e, m, hc⟩ := h.1 g hg
  unfold Lib.TabIs World.var?
  have hc' : w.heap[g]? = _ := hc
  rw [hg, Option.bind_some, hc']
set_option maxRecDepth 8000 in
theorem zst (n : Int) (h0 : -9223372036854775808 ≤ n) (h1 : n ≤ 9223372036854775807) : QC Tryd.prog 76 [.int .i64 n] (.str (Lib.itoa n)) := by
  refine QC.of_calls (c := zx Tryd.f76) Tryd.func76 (by kernel_rfl) (by kernel_rfl) fun K ρ A w cargs hl ha => ?_
  have hc : cargs = #[.int .i64 n] := by
    obtain ⟨hlen, hg⟩ := ha
    have hlen' : cargs.toList.length = 1 := hlen
    match he : cargs.toList, hlen' with
    | [v], _ =>
      have := hg 0 (.int .i64 n) v rfl (by rw [he]; rfl)
      cases this
      exact Array.ext' (by rw [he])
  subst hc
  refine (Tryd.strconv_Itoa n h0 h1 w hl.tab).mono fun e w' ⟨he, k, os, hw⟩ => ?_
  subst he hw
  refine ⟨⟨_, rfl, fun K ρ A => .str _⟩, ⟨rfl, rfl, rfl, ?_, fun b hb => ?_⟩⟩
  · simp [Sort.grow, World.drewN]
  · simp only [Sort.grow, World.drewN]
    rw [Array.getElem?_append_left (by simpa using hb)]
end Go.Proofs.YtobioljjoipimaaDoor
set_option maxRecDepth 8000
namespace Go.Proofs.YtobioljjoipimaaDoor
open Go Go.RowKit
theorem zvy (v : Val) {A : Nat → Prop} : Bel A (.agg v.avs) := .agg _ fun j x hx => zdx (zdw _ x (List.mem_of_getElem? hx))
def zpd (h : List Cl) : Prop := ∀ c ∈ h, VM.WrongOk c.left h.length ∧ VM.WrongOk c.right h.length
theorem zho {h : List Cl} (hc : zpd h) : ∀ (d : Nat) {v : Val}, VM.WrongOk v h.length → (VM.vshow h d v).length + 3 ≤ 63 * 2 ^ d
  | d, v, hv => by
    have hp : 1 ≤ 2 ^ d := Nat.one_le_two_pow
    rcases hv.kind with k | k | k
    · rw [VM.vshow_int k]
      have := hv.int k
      have := Lib.itoa_length_le v.n (by omega) (by omega)
      omega
    · rw [VM.vshow_text k]
      have := hv.len; omega
    · cases d with
      | zero => rw [VM.vshow_dots k]; simp
      | succ d =>
        obtain ⟨h0, h1⟩ := hv.cell k
        have hlt : v.n.toNat < h.length := by omega
        obtain ⟨w1, w2⟩ := hc _ (List.getElem_mem hlt)
        have i1 := zho hc d w1
        have i2 := zho hc d w2
        rw [VM.vshow_cell k h0 (List.getElem?_eq_getElem hlt)]
        simp only [List.length_append, List.length_cons, List.length_nil]
        rw [Nat.pow_succ]; omega
set_option maxHeartbeats 2000000 in
theorem zow {h : List Cl} (hc : zpd h) : ∀ (d : Nat) (v : Val) (deep : Int), VM.WrongOk v h.length → deep.toNat = d → d ≤ 5 → -9223372036854775808 ≤ deep → QC Tryd.prog 94 [.ro (h.map Cl.avs), .agg v.avs, .int .i64 deep] (.str (VM.vshow h d v))
  | d, v, deep, hv, hd, hd5, hlow => by
    refine QC.of' fun H nx => zoh _ _ _ H nx _ ?_
    rcases hv.kind with k | k | k
    · have := hv.int k
      rw [VM.vshow_int k]
      simp [zcs, Val.avs, k]
      refine QC.call (zst v.n (by omega) (by omega)) ?_
      simp [zlv]
    · rw [VM.vshow_text k]
      simp [zcs, Val.avs, k]
    · obtain ⟨h0, h1⟩ := hv.cell k
      have hlt : v.n.toNat < h.length := by omega
      have hn0 : ¬ v.n < 0 := by omega
      have hn1 : ¬ (h.length : Int) ≤ v.n := by omega
      cases d with
      | zero =>
        rw [VM.vshow_dots k]
        have : deep ≤ 0 := by omega
        simp [zcs, Val.avs, k, this]
      | succ d =>
        have hpos : ¬ deep ≤ 0 := by omega
        obtain ⟨w1, w2⟩ := hc _ (List.getElem_mem hlt)
        rw [VM.vshow_cell k h0 (List.getElem?_eq_getElem hlt)]
        have hget : h[v.n.toNat]? = some h[v.n.toNat] := List.getElem?_eq_getElem hlt
        generalize h[v.n.toNat] = c at *
        have l1 := zho hc d w1
        have l2 := zho hc d w2
        have hp : 2 ^ d ≤ 2 ^ 5 := Nat.pow_le_pow_right (by omega) (by omega)
        have hw : IntKind.i64.wrap (deep - 1) = deep - 1 := i64w (by omega)
        have ih1 := zow hc d c.left (deep - 1) w1 (by omega) (by omega) (by omega)
        have ih2 := zow hc d c.right (deep - 1) w2 (by omega) (by omega) (by omega)
        have t1 : c.avs.take 3 = c.left.avs := rfl
        have t2 : (c.avs.drop 3).take 3 = c.right.avs := rfl
        simp [zcs, Val.avs, k, hpos, hn0, hn1, hget, hw]
        refine ⟨h0, h1, ?_⟩
        rw [t1]
        refine zaa.of_qc ih1 (.str _) ?_
        simp [zlt, hget, hw]
        refine ⟨by omega, by omega, h0, h1, ?_⟩
        rw [t2]
        refine zaa.of_qc ih2 (.str _) ?_
        simp [zlu]
        omega
end Go.Proofs.YtobioljjoipimaaDoor
