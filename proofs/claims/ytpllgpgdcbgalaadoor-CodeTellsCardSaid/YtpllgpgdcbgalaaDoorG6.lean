/- What is to be shown of each function, written out. What is to be shown of each function, written out. What is to be shown of each function, written out. -/
import Derived.Test.YtpllgpgdcbgalaaDoorG5
set_option linter.unusedSimpArgs false
set_option linter.unusedVariables false
set_option maxRecDepth 8000
namespace Go.Proofs.YtpllgpgdcbgalaaDoor
open Go Go.RowKit
@[simp] theorem zaiq:zc tab 2=1:=by kernel_rfl
@[simp] theorem zaip:zc tab 3=1:=by kernel_rfl
@[simp] theorem zaio:zc tab 4=1:=by kernel_rfl
@[simp] theorem zain:zc tab 5=1:=by kernel_rfl
@[simp] theorem zaim:zc tab 6=1:=by kernel_rfl
@[simp] theorem zail:zc tab 9=1:=by kernel_rfl
@[simp] theorem zahp:zc tab 12=1:=by kernel_rfl
@[simp] theorem zaho:zc tab 17=1:=by kernel_rfl
@[simp] theorem zahn:zc tab 22=1:=by kernel_rfl
@[simp] theorem zahm:zc tab 23=1:=by kernel_rfl
@[simp] theorem zahl:zc tab 31=1:=by kernel_rfl
@[simp] theorem zahk:zc tab 32=1:=by kernel_rfl
@[simp] theorem zahj:zc tab 38=1:=by kernel_rfl
@[simp] theorem zahi:zc tab 41=1:=by kernel_rfl
@[simp] theorem zahh:zc tab 57=1:=by kernel_rfl
@[simp] theorem zahg:zc tab 64=1:=by kernel_rfl
@[simp] theorem zahf:zc tab 71=1:=by kernel_rfl
@[simp] theorem zahe:zc tab 88=1:=by kernel_rfl
@[simp] theorem zagb:zc tab 120=1:=by kernel_rfl
@[simp] theorem zaga:zc tab 135=1:=by kernel_rfl
@[simp] theorem zafz:zc tab 159=1:=by kernel_rfl
@[simp] theorem zafy:zc tab 172=0:=by kernel_rfl
@[simp] theorem zafx:zc tab 176=1:=by kernel_rfl
@[simp] theorem zafw:zc tab 177=1:=by kernel_rfl
@[simp] theorem zafv:zc tab 178=1:=by kernel_rfl
@[simp] theorem zafu:zc tab 179=1:=by kernel_rfl
@[simp] theorem zaft:zc tab 180=1:=by kernel_rfl
def zbf (Q:QT) (K1:J3) (xs2:List AV) (H3:Heap) (nx4:Nat):Prop :=
 NC (nth xs2 0) fun v5 =>
 FA 0 v5 fun v6 =>
 LD false 1 v6 H3 fun v7 =>
 LNS v7 fun v8 =>
 BI .gtr v8 (.int .i64 0) fun v9 =>
 CND v9
 (NC (nth xs2 0) fun v10 =>
 FA 0 v10 fun v11 =>
 LD false 1 v11 H3 fun v12 =>
 IX v12 (.int .i64 0) fun v13 =>
 BI .eql v13 (.int .u8 32) fun v14 =>
 CND v14
 (NC (nth xs2 0) fun v15 =>
 FA 0 v15 fun v16 =>
 LD false 1 v16 H3 fun v17 =>
 SLS v17 (some (.int .i64 1)) none fun v18 =>
 NC (nth xs2 0) fun v19 =>
 FA 0 v19 fun v20 =>
 ST 1 v20 v18 H3 fun H21 =>
 K1 [nth xs2 0] H21 nx4)
 (NC (nth xs2 0) fun v22 =>
 FA 0 v22 fun v23 =>
 LD false 1 v23 H3 fun v24 =>
 IX v24 (.int .i64 0) fun v25 =>
 BI .eql v25 (.int .u8 10) fun v26 =>
 CNDC v26
 (NC (nth xs2 0) fun v27 =>
 FA 0 v27 fun v28 =>
 LD false 1 v28 H3 fun v29 =>
 SLS v29 (some (.int .i64 1)) none fun v30 =>
 NC (nth xs2 0) fun v31 =>
 FA 0 v31 fun v32 =>
 ST 1 v32 v30 H3 fun H33 =>
 K1 [nth xs2 0] H33 nx4)
 (NC (nth xs2 0) fun v34 =>
 FA 0 v34 fun v35 =>
 LD false 1 v35 H3 fun v36 =>
 LNS v36 fun v37 =>
 BI .eql v37 (.int .i64 0) fun v38 =>
 CNDC v38
 (Q (.int .u8 0) H3 nx4)
 (NC (nth xs2 0) fun v39 =>
 FA 0 v39 fun v40 =>
 LD false 1 v40 H3 fun v41 =>
 IX v41 (.int .i64 0) fun v42 =>
 BI .eql v42 (.int .u8 0) fun v43 =>
 CNDC v43
 (Q (.int .u8 1) H3 nx4)
 (NC (nth xs2 0) fun v44 =>
 FA 0 v44 fun v45 =>
 LD false 1 v45 H3 fun v46 =>
 IX v46 (.int .i64 0) fun v47 =>
 Q v47 H3 nx4)))))
 (NC (nth xs2 0) fun v48 =>
 FA 0 v48 fun v49 =>
 LD false 1 v49 H3 fun v50 =>
 LNS v50 fun v51 =>
 BI .eql v51 (.int .i64 0) fun v52 =>
 CNDC v52
 (Q (.int .u8 0) H3 nx4)
 (NC (nth xs2 0) fun v53 =>
 FA 0 v53 fun v54 =>
 LD false 1 v54 H3 fun v55 =>
 IX v55 (.int .i64 0) fun v56 =>
 BI .eql v56 (.int .u8 0) fun v57 =>
 CNDC v57
 (Q (.int .u8 1) H3 nx4)
 (NC (nth xs2 0) fun v58 =>
 FA 0 v58 fun v59 =>
 LD false 1 v59 H3 fun v60 =>
 IX v60 (.int .i64 0) fun v61 =>
 Q v61 H3 nx4)))
def zjx (a0:AV) (H:Heap) (nx:Nat) (Q:QT):Prop :=
 LP (zbf Q) [a0] H nx
theorem znr (a0:AV) (H:Heap) (nx:Nat) (Q:QT):zjx a0 H nx Q→za Tryd.prog 27 [a0] H nx Q :=
  zg (lv:=lvOf [(2,1,[0])]) (c:=zq Tryd.f27) zz zab mixed Tryd.func27 (by kernel_rfl) (by kernel_rfl) (by kernel_rfl) (by kernel_rfl) (by kernel_rfl)
def zgf (a0 a1:AV) (H:Heap) (nx:Nat) (Q:QT):Prop :=
 NC a0 fun v1 =>
 FA 1 v1 fun v2 =>
 LD false 1 v2 H fun v3 =>
 BI .eql v3 (.int .i64 0) fun v4 =>
 CNDC v4
 (NC a0 fun v5 =>
 FA 1 v5 fun v6 =>
 ST 1 v6 a1 H fun H7 =>
 Q (.tup []) H7 nx)
 (Q (.tup []) H nx)
theorem znw (a0 a1:AV) (H:Heap) (nx:Nat) (Q:QT):zgf a0 a1 H nx Q→za Tryd.prog 48 [a0,a1] H nx Q :=
  zg (lv:=lvOf []) (c:=zq Tryd.f48) zz zab mixed Tryd.func48 (by kernel_rfl) (by kernel_rfl) (by kernel_rfl) (by kernel_rfl) (by kernel_rfl)
def zjy (Q:QT) (v13:AV) (H14:Heap) (nx15:Nat):Prop :=
 Q (AV.tup []) H14 nx15
def zdd (a1:AV) (a0:AV) (Q:QT) (v1:AV) (H2:Heap) (nx3:Nat):Prop :=
 BI .eql v1 a1 fun v4 =>
 CNDC v4
 (NC a0 fun v5 =>
 FA 0 v5 fun v6 =>
 LD false 1 v6 H2 fun v7 =>
 SLS v7 (some (.int .i64 1)) none fun v8 =>
 NC a0 fun v9 =>
 FA 0 v9 fun v10 =>
 ST 1 v10 v8 H2 fun H11 =>
 Q (.tup []) H11 nx3)
 (BI .eql v1 (.int .u8 0) fun v12 =>
 CNDC v12
 (za Tryd.prog 48 [a0,.int .i64 8] H2 nx3 (zjy Q))
 (za Tryd.prog 48 [a0,.int .i64 2] H2 nx3 (zjy Q)))
def zqb (a0 a1:AV) (H:Heap) (nx:Nat) (Q:QT):Prop :=
 za Tryd.prog 27 [a0] H nx (zdd a1 a0 Q)
theorem zns (a0 a1:AV) (H:Heap) (nx:Nat) (Q:QT):zqb a0 a1 H nx Q→za Tryd.prog 28 [a0,a1] H nx Q :=
  zg (lv:=lvOf []) (c:=zq Tryd.f28) zz zab mixed Tryd.func28 (by kernel_rfl) (by kernel_rfl) (by kernel_rfl) (by kernel_rfl) (by kernel_rfl)
def zed (Q:QT) (K13:J3) (xs14:List AV) (H15:Heap) (nx16:Nat):Prop :=
 BI .lss (nth xs14 2) (nth xs14 1) fun v17 =>
 CNDC v17
 (IX (nth xs14 0) (nth xs14 2) fun v18 =>
 BI .lss v18 (.int .u8 97) fun v19 =>
 CND v19
 (Q (.bool false) H15 nx16)
 (IX (nth xs14 0) (nth xs14 2) fun v20 =>
 BI .gtr v20 (.int .u8 122) fun v21 =>
 CNDC v21
 (Q (.bool false) H15 nx16)
 (BI .add (nth xs14 2) (.int .i64 1) fun v22 =>
 K13 [nth xs14 0,nth xs14 1,v22] H15 nx16)))
 (LNS (nth xs14 0) fun v23 =>
 BI .gtr v23 (.int .i64 0) fun v24 =>
 CND v24
 (LNS (nth xs14 0) fun v25 =>
 BI .lss v25 (.int .i64 9) fun v26 =>
 Q v26 H15 nx16)
 (Q (.bool false) H15 nx16))
def zec (Q:QT) (K3:J3) (xs4:List AV) (H5:Heap) (nx6:Nat):Prop :=
 BI .lss (nth xs4 3) (nth xs4 2) fun v7 =>
 CNDC v7
 (IA 1 (nth xs4 1) (nth xs4 3) fun v8 =>
 LD false 1 v8 H5 fun v9 =>
 BS .eql (nth xs4 0) v9 fun v10 =>
 CNDC v10
 (Q (.bool false) H5 nx6)
 (BI .add (nth xs4 3) (.int .i64 1) fun v11 =>
 K3 [nth xs4 0,nth xs4 1,nth xs4 2,v11] H5 nx6))
 (LNS (nth xs4 0) fun v12 =>
 LP (zed Q) [nth xs4 0,v12,.int .i64 0] H5 nx6)
def zlp (a0:AV) (H:Heap) (nx:Nat) (Q:QT):Prop :=
 PUTH H nx (.row 1 [.str [108,101,116],.str [115,101,116],.str [105,102],.str [119,104,105,108,101],.str [115,97,121],.str [114,101,116,117,114,110],.str [112,117,116,108],.str [112,117,116,114],.str [100,111],.str [99,101,108,108],.str [108,101,102,116],.str [114,105,103,104,116],.str [97,115,107],.str [104,101,114,101],.str [103,111]]) fun H1 =>
 LNL (.slc nx 0 15) fun v2 =>
 LP (zec Q) [a0,.slc nx 0 15,v2,.int .i64 0] H1 (nx+1)
theorem zpn (a0:AV) (H:Heap) (nx:Nat) (Q:QT):zlp a0 H nx Q→za Tryd.prog 14 [a0] H nx Q :=
  zg (lv:=lvOf [(2,2,[0,6,7,8]),(2,8,[0,17,18])]) (c:=zq Tryd.f14) zz zab mixed Tryd.func14 (by kernel_rfl) (by kernel_rfl) (by kernel_rfl) (by kernel_rfl) (by kernel_rfl)
def zo (xs5:List AV) (Q:QT) (_:AV) (H46:Heap) (nx47:Nat):Prop :=
 NC (nth xs5 0) fun v48 =>
 FA 0 v48 fun v49 =>
 LD false 1 v49 H46 fun v50 =>
 SLS v50 none (some (nth xs5 1)) fun v51 =>
 NC (nth xs5 0) fun v52 =>
 FA 0 v52 fun v53 =>
 LD false 1 v53 H46 fun v54 =>
 SLS v54 (some (nth xs5 1)) none fun v55 =>
 NC (nth xs5 0) fun v56 =>
 FA 0 v56 fun v57 =>
 ST 1 v57 v55 H46 fun H58 =>
 Q v51 H58 nx47
def zch (Q:QT) (K4:J3) (xs5:List AV) (H6:Heap) (nx7:Nat):Prop :=
 NC (nth xs5 0) fun v8 =>
 FA 0 v8 fun v9 =>
 LD false 1 v9 H6 fun v10 =>
 LNS v10 fun v11 =>
 BI .lss (nth xs5 1) v11 fun v12 =>
 CND v12
 (NC (nth xs5 0) fun v13 =>
 FA 0 v13 fun v14 =>
 LD false 1 v14 H6 fun v15 =>
 IX v15 (nth xs5 1) fun v16 =>
 BI .neq v16 (.int .u8 32) fun v17 =>
 CND v17
 (NC (nth xs5 0) fun v18 =>
 FA 0 v18 fun v19 =>
 LD false 1 v19 H6 fun v20 =>
 IX v20 (nth xs5 1) fun v21 =>
 BI .neq v21 (.int .u8 10) fun v22 =>
 CND v22
 (NC (nth xs5 0) fun v23 =>
 FA 0 v23 fun v24 =>
 LD false 1 v24 H6 fun v25 =>
 IX v25 (nth xs5 1) fun v26 =>
 BI .neq v26 (.int .u8 40) fun v27 =>
 CND v27
 (NC (nth xs5 0) fun v28 =>
 FA 0 v28 fun v29 =>
 LD false 1 v29 H6 fun v30 =>
 IX v30 (nth xs5 1) fun v31 =>
 BI .neq v31 (.int .u8 41) fun v32 =>
 CND v32
 (NC (nth xs5 0) fun v33 =>
 FA 0 v33 fun v34 =>
 LD false 1 v34 H6 fun v35 =>
 IX v35 (nth xs5 1) fun v36 =>
 BI .neq v36 (.int .u8 39) fun v37 =>
 CNDC v37
 (BI .add (nth xs5 1) (.int .i64 1) fun v38 =>
 K4 [nth xs5 0,v38] H6 nx7)
 (BI .eql (nth xs5 1) (.int .i64 0) fun v39 =>
 CND v39
 (NC (nth xs5 0) fun v40 =>
 FA 0 v40 fun v41 =>
 LD false 1 v41 H6 fun v42 =>
 LNS v42 fun v43 =>
 BI .eql v43 (.int .i64 0) fun v44 =>
 CNDC v44
 (za Tryd.prog 48 [nth xs5 0,.int .i64 8] H6 nx7 (zo xs5 Q))
 (BI .eql (nth xs5 1) (.int .i64 0) fun v59 =>
 CNDC v59
 (za Tryd.prog 48 [nth xs5 0,.int .i64 2] H6 nx7 (zo xs5 Q))
 (NC (nth xs5 0) fun v74 =>
 FA 0 v74 fun v75 =>
 LD false 1 v75 H6 fun v76 =>
 SLS v76 none (some (nth xs5 1)) fun v77 =>
 NC (nth xs5 0) fun v78 =>
 FA 0 v78 fun v79 =>
 LD false 1 v79 H6 fun v80 =>
 SLS v80 (some (nth xs5 1)) none fun v81 =>
 NC (nth xs5 0) fun v82 =>
 FA 0 v82 fun v83 =>
 ST 1 v83 v81 H6 fun H84 =>
 Q v77 H84 nx7)))
 (BI .eql (nth xs5 1) (.int .i64 0) fun v85 =>
 CNDC v85
 (za Tryd.prog 48 [nth xs5 0,.int .i64 2] H6 nx7 (zo xs5 Q))
 (NC (nth xs5 0) fun v100 =>
 FA 0 v100 fun v101 =>
 LD false 1 v101 H6 fun v102 =>
 SLS v102 none (some (nth xs5 1)) fun v103 =>
 NC (nth xs5 0) fun v104 =>
 FA 0 v104 fun v105 =>
 LD false 1 v105 H6 fun v106 =>
 SLS v106 (some (nth xs5 1)) none fun v107 =>
 NC (nth xs5 0) fun v108 =>
 FA 0 v108 fun v109 =>
 ST 1 v109 v107 H6 fun H110 =>
 Q v103 H110 nx7))))
 (BI .eql (nth xs5 1) (.int .i64 0) fun v111 =>
 CND v111
 (NC (nth xs5 0) fun v112 =>
 FA 0 v112 fun v113 =>
 LD false 1 v113 H6 fun v114 =>
 LNS v114 fun v115 =>
 BI .eql v115 (.int .i64 0) fun v116 =>
 CNDC v116
 (za Tryd.prog 48 [nth xs5 0,.int .i64 8] H6 nx7 (zo xs5 Q))
 (BI .eql (nth xs5 1) (.int .i64 0) fun v131 =>
 CNDC v131
 (za Tryd.prog 48 [nth xs5 0,.int .i64 2] H6 nx7 (zo xs5 Q))
 (NC (nth xs5 0) fun v146 =>
 FA 0 v146 fun v147 =>
 LD false 1 v147 H6 fun v148 =>
 SLS v148 none (some (nth xs5 1)) fun v149 =>
 NC (nth xs5 0) fun v150 =>
 FA 0 v150 fun v151 =>
 LD false 1 v151 H6 fun v152 =>
 SLS v152 (some (nth xs5 1)) none fun v153 =>
 NC (nth xs5 0) fun v154 =>
 FA 0 v154 fun v155 =>
 ST 1 v155 v153 H6 fun H156 =>
 Q v149 H156 nx7)))
 (BI .eql (nth xs5 1) (.int .i64 0) fun v157 =>
 CNDC v157
 (za Tryd.prog 48 [nth xs5 0,.int .i64 2] H6 nx7 (zo xs5 Q))
 (NC (nth xs5 0) fun v172 =>
 FA 0 v172 fun v173 =>
 LD false 1 v173 H6 fun v174 =>
 SLS v174 none (some (nth xs5 1)) fun v175 =>
 NC (nth xs5 0) fun v176 =>
 FA 0 v176 fun v177 =>
 LD false 1 v177 H6 fun v178 =>
 SLS v178 (some (nth xs5 1)) none fun v179 =>
 NC (nth xs5 0) fun v180 =>
 FA 0 v180 fun v181 =>
 ST 1 v181 v179 H6 fun H182 =>
 Q v175 H182 nx7))))
 (BI .eql (nth xs5 1) (.int .i64 0) fun v183 =>
 CND v183
 (NC (nth xs5 0) fun v184 =>
 FA 0 v184 fun v185 =>
 LD false 1 v185 H6 fun v186 =>
 LNS v186 fun v187 =>
 BI .eql v187 (.int .i64 0) fun v188 =>
 CNDC v188
 (za Tryd.prog 48 [nth xs5 0,.int .i64 8] H6 nx7 (zo xs5 Q))
 (BI .eql (nth xs5 1) (.int .i64 0) fun v203 =>
 CNDC v203
 (za Tryd.prog 48 [nth xs5 0,.int .i64 2] H6 nx7 (zo xs5 Q))
 (NC (nth xs5 0) fun v218 =>
 FA 0 v218 fun v219 =>
 LD false 1 v219 H6 fun v220 =>
 SLS v220 none (some (nth xs5 1)) fun v221 =>
 NC (nth xs5 0) fun v222 =>
 FA 0 v222 fun v223 =>
 LD false 1 v223 H6 fun v224 =>
 SLS v224 (some (nth xs5 1)) none fun v225 =>
 NC (nth xs5 0) fun v226 =>
 FA 0 v226 fun v227 =>
 ST 1 v227 v225 H6 fun H228 =>
 Q v221 H228 nx7)))
 (BI .eql (nth xs5 1) (.int .i64 0) fun v229 =>
 CNDC v229
 (za Tryd.prog 48 [nth xs5 0,.int .i64 2] H6 nx7 (zo xs5 Q))
 (NC (nth xs5 0) fun v244 =>
 FA 0 v244 fun v245 =>
 LD false 1 v245 H6 fun v246 =>
 SLS v246 none (some (nth xs5 1)) fun v247 =>
 NC (nth xs5 0) fun v248 =>
 FA 0 v248 fun v249 =>
 LD false 1 v249 H6 fun v250 =>
 SLS v250 (some (nth xs5 1)) none fun v251 =>
 NC (nth xs5 0) fun v252 =>
 FA 0 v252 fun v253 =>
 ST 1 v253 v251 H6 fun H254 =>
 Q v247 H254 nx7))))
 (BI .eql (nth xs5 1) (.int .i64 0) fun v255 =>
 CND v255
 (NC (nth xs5 0) fun v256 =>
 FA 0 v256 fun v257 =>
 LD false 1 v257 H6 fun v258 =>
 LNS v258 fun v259 =>
 BI .eql v259 (.int .i64 0) fun v260 =>
 CNDC v260
 (za Tryd.prog 48 [nth xs5 0,.int .i64 8] H6 nx7 (zo xs5 Q))
 (BI .eql (nth xs5 1) (.int .i64 0) fun v275 =>
 CNDC v275
 (za Tryd.prog 48 [nth xs5 0,.int .i64 2] H6 nx7 (zo xs5 Q))
 (NC (nth xs5 0) fun v290 =>
 FA 0 v290 fun v291 =>
 LD false 1 v291 H6 fun v292 =>
 SLS v292 none (some (nth xs5 1)) fun v293 =>
 NC (nth xs5 0) fun v294 =>
 FA 0 v294 fun v295 =>
 LD false 1 v295 H6 fun v296 =>
 SLS v296 (some (nth xs5 1)) none fun v297 =>
 NC (nth xs5 0) fun v298 =>
 FA 0 v298 fun v299 =>
 ST 1 v299 v297 H6 fun H300 =>
 Q v293 H300 nx7)))
 (BI .eql (nth xs5 1) (.int .i64 0) fun v301 =>
 CNDC v301
 (za Tryd.prog 48 [nth xs5 0,.int .i64 2] H6 nx7 (zo xs5 Q))
 (NC (nth xs5 0) fun v316 =>
 FA 0 v316 fun v317 =>
 LD false 1 v317 H6 fun v318 =>
 SLS v318 none (some (nth xs5 1)) fun v319 =>
 NC (nth xs5 0) fun v320 =>
 FA 0 v320 fun v321 =>
 LD false 1 v321 H6 fun v322 =>
 SLS v322 (some (nth xs5 1)) none fun v323 =>
 NC (nth xs5 0) fun v324 =>
 FA 0 v324 fun v325 =>
 ST 1 v325 v323 H6 fun H326 =>
 Q v319 H326 nx7))))
 (BI .eql (nth xs5 1) (.int .i64 0) fun v327 =>
 CND v327
 (NC (nth xs5 0) fun v328 =>
 FA 0 v328 fun v329 =>
 LD false 1 v329 H6 fun v330 =>
 LNS v330 fun v331 =>
 BI .eql v331 (.int .i64 0) fun v332 =>
 CNDC v332
 (za Tryd.prog 48 [nth xs5 0,.int .i64 8] H6 nx7 (zo xs5 Q))
 (BI .eql (nth xs5 1) (.int .i64 0) fun v347 =>
 CNDC v347
 (za Tryd.prog 48 [nth xs5 0,.int .i64 2] H6 nx7 (zo xs5 Q))
 (NC (nth xs5 0) fun v362 =>
 FA 0 v362 fun v363 =>
 LD false 1 v363 H6 fun v364 =>
 SLS v364 none (some (nth xs5 1)) fun v365 =>
 NC (nth xs5 0) fun v366 =>
 FA 0 v366 fun v367 =>
 LD false 1 v367 H6 fun v368 =>
 SLS v368 (some (nth xs5 1)) none fun v369 =>
 NC (nth xs5 0) fun v370 =>
 FA 0 v370 fun v371 =>
 ST 1 v371 v369 H6 fun H372 =>
 Q v365 H372 nx7)))
 (BI .eql (nth xs5 1) (.int .i64 0) fun v373 =>
 CNDC v373
 (za Tryd.prog 48 [nth xs5 0,.int .i64 2] H6 nx7 (zo xs5 Q))
 (NC (nth xs5 0) fun v388 =>
 FA 0 v388 fun v389 =>
 LD false 1 v389 H6 fun v390 =>
 SLS v390 none (some (nth xs5 1)) fun v391 =>
 NC (nth xs5 0) fun v392 =>
 FA 0 v392 fun v393 =>
 LD false 1 v393 H6 fun v394 =>
 SLS v394 (some (nth xs5 1)) none fun v395 =>
 NC (nth xs5 0) fun v396 =>
 FA 0 v396 fun v397 =>
 ST 1 v397 v395 H6 fun H398 =>
 Q v391 H398 nx7))))
 (BI .eql (nth xs5 1) (.int .i64 0) fun v399 =>
 CND v399
 (NC (nth xs5 0) fun v400 =>
 FA 0 v400 fun v401 =>
 LD false 1 v401 H6 fun v402 =>
 LNS v402 fun v403 =>
 BI .eql v403 (.int .i64 0) fun v404 =>
 CNDC v404
 (za Tryd.prog 48 [nth xs5 0,.int .i64 8] H6 nx7 (zo xs5 Q))
 (BI .eql (nth xs5 1) (.int .i64 0) fun v419 =>
 CNDC v419
 (za Tryd.prog 48 [nth xs5 0,.int .i64 2] H6 nx7 (zo xs5 Q))
 (NC (nth xs5 0) fun v434 =>
 FA 0 v434 fun v435 =>
 LD false 1 v435 H6 fun v436 =>
 SLS v436 none (some (nth xs5 1)) fun v437 =>
 NC (nth xs5 0) fun v438 =>
 FA 0 v438 fun v439 =>
 LD false 1 v439 H6 fun v440 =>
 SLS v440 (some (nth xs5 1)) none fun v441 =>
 NC (nth xs5 0) fun v442 =>
 FA 0 v442 fun v443 =>
 ST 1 v443 v441 H6 fun H444 =>
 Q v437 H444 nx7)))
 (BI .eql (nth xs5 1) (.int .i64 0) fun v445 =>
 CNDC v445
 (za Tryd.prog 48 [nth xs5 0,.int .i64 2] H6 nx7 (zo xs5 Q))
 (NC (nth xs5 0) fun v460 =>
 FA 0 v460 fun v461 =>
 LD false 1 v461 H6 fun v462 =>
 SLS v462 none (some (nth xs5 1)) fun v463 =>
 NC (nth xs5 0) fun v464 =>
 FA 0 v464 fun v465 =>
 LD false 1 v465 H6 fun v466 =>
 SLS v466 (some (nth xs5 1)) none fun v467 =>
 NC (nth xs5 0) fun v468 =>
 FA 0 v468 fun v469 =>
 ST 1 v469 v467 H6 fun H470 =>
 Q v463 H470 nx7)))
def znp (Q:QT) (a0:AV) (v1:AV) (H2:Heap) (nx3:Nat):Prop :=
 LP (zch Q) [a0,AV.int IntKind.i64 0] H2 nx3
def zss (a0:AV) (H:Heap) (nx:Nat) (Q:QT):Prop :=
 za Tryd.prog 27 [a0] H nx (znp Q a0)
theorem zpz (a0:AV) (H:Heap) (nx:Nat) (Q:QT):zss a0 H nx Q→za Tryd.prog 49 [a0] H nx Q :=
  zg (lv:=lvOf [(2,3,[0,3])]) (c:=zq Tryd.f49) zz zab mixed Tryd.func49 (by kernel_rfl) (by kernel_rfl) (by kernel_rfl) (by kernel_rfl) (by kernel_rfl)
def zsv (Q:QT) (v1:AV) (v8:AV) (H9:Heap) (nx10:Nat):Prop :=
 Q v1 H9 nx10
def zii (a0:AV) (Q:QT) (v1:AV) (v4:AV) (H5:Heap) (nx6:Nat):Prop :=
 UO .not v4 fun v7 =>
 CNDC v7
 (za Tryd.prog 48 [a0,.int .i64 7] H5 nx6 (zsv Q v1))
 (Q v1 H5 nx6)
def zsu (a0:AV) (Q:QT) (v1:AV) (H2:Heap) (nx3:Nat):Prop :=
 za Tryd.prog 14 [v1] H2 nx3 (zii a0 Q v1)
def zst (a0:AV) (H:Heap) (nx:Nat) (Q:QT):Prop :=
 za Tryd.prog 49 [a0] H nx (zsu a0 Q)
theorem zqa (a0:AV) (H:Heap) (nx:Nat) (Q:QT):zst a0 H nx Q→za Tryd.prog 29 [a0] H nx Q :=
  zg (lv:=lvOf []) (c:=zq Tryd.f29) zz zab mixed Tryd.func29 (by kernel_rfl) (by kernel_rfl) (by kernel_rfl) (by kernel_rfl) (by kernel_rfl)
def zpm (K1:J3) (xs2:List AV) (v13:AV) (H14:Heap) (nx15:Nat):Prop :=
 K1 [nth xs2 0,nth xs2 1] H14 nx15
def zio (Q:QT) (v16:AV) (H17:Heap) (nx18:Nat):Prop :=
 Q (AV.tup []) H17 nx18
def zeo (xs2:List AV) (K1:J3) (Q:QT) (v9:AV) (H10:Heap) (nx11:Nat):Prop :=
 BI .neq v9 (.int .u8 41) fun v12 =>
 CNDC v12
 (CALL Tryd.prog (nth xs2 1) [] H10 nx11 (zpm K1 xs2))
 (za Tryd.prog 28 [nth xs2 0,.int .u8 41] H10 nx11 (zio Q))
def zen (Q:QT) (K1:J3) (xs2:List AV) (H3:Heap) (nx4:Nat):Prop :=
 NC (nth xs2 0) fun v5 =>
 FA 1 v5 fun v6 =>
 LD false 1 v6 H3 fun v7 =>
 BI .eql v7 (.int .i64 0) fun v8 =>
 CND v8
 (za Tryd.prog 27 [nth xs2 0] H3 nx4 (zeo xs2 K1 Q))
 (za Tryd.prog 28 [nth xs2 0,.int .u8 41] H3 nx4 (zio Q))
def zin (a0 a1:AV) (H:Heap) (nx:Nat) (Q:QT):Prop :=
 LP (zen Q) [a0,a1] H nx
theorem zmm (a0 a1:AV) (H:Heap) (nx:Nat) (Q:QT):zin a0 a1 H nx Q→za Tryd.prog 30 [a0,a1] H nx Q :=
  zg (lv:=lvOf [(2,0,[0,1])]) (c:=zq Tryd.f30) zz zab mixed Tryd.func30 (by kernel_rfl) (by kernel_rfl) (by kernel_rfl) (by kernel_rfl) (by kernel_rfl)
def ziq (nx:Nat) (Q:QT) (_:AV) (H6:Heap) (nx7:Nat):Prop :=
 LD false 1 (.ptr (nx+2) 0) H6 fun v8 =>
 Q v8 H6 nx7
def zip (a0 a1:AV) (H:Heap) (nx:Nat) (Q:QT):Prop :=
 a0.sure=true ∧
 PUTH H nx (.row a0.cells.length a0.cells) fun H1 =>
 a1.sure=true ∧
 PUTH H1 (nx+1) (.row a1.cells.length a1.cells) fun H2 =>
 PUTH H2 (nx+2) (.row 1 [.nils]) fun H3 =>
 LD false 1 (.ptr nx 0) H3 fun v4 =>
 za Tryd.prog 30 [v4,.clo 50 [.ptr (nx+2) 0,.ptr nx 0,.ptr (nx+1) 0]] H3 (nx+3) (ziq nx Q)
theorem zmn (a0 a1:AV) (H:Heap) (nx:Nat) (Q:QT):zip a0 a1 H nx Q→za Tryd.prog 32 [a0,a1] H nx Q :=
  zg (lv:=lvOf []) (c:=zq Tryd.f32) zz zab mixed Tryd.func32 (by kernel_rfl) (by kernel_rfl) (by kernel_rfl) (by kernel_rfl) (by kernel_rfl)
def zge (nx28:Nat) (xs8:List AV) (K7:J3) (v41:AV) (H42:Heap) (nx43:Nat):Prop :=
 ST 1 (.ptr nx28 2) v41 H42 fun H44 =>
 LD true 3 (.ptr nx28 0) H44 fun v45 =>
 BSL 1 3 [.str [],.nils,.nils] [(0,v45)] fun cells46 =>
 PUTH H44 nx43 (.row 3 cells46) fun H47 =>
 APP 3 64 (nth xs8 1) (.slc nx43 0 1) H47 (nx43+1) fun v48 H49 nx50 =>
 K7 [nth xs8 0,v48] H49 nx50
def zkq (xs8:List AV) (nx28:Nat) (K7:J3) (_:AV) (H38:Heap) (nx39:Nat):Prop :=
 LD false 1 (nth xs8 0) H38 fun v40 =>
 za Tryd.prog 32 [v40,.int .i64 0] H38 nx39 (zge nx28 xs8 K7)
def zkp (xs8:List AV) (nx28:Nat) (K7:J3) (_:AV) (H34:Heap) (nx35:Nat):Prop :=
 LD false 1 (nth xs8 0) H34 fun v36 =>
 za Tryd.prog 30 [v36,.clo 31 [.ptr nx28 0,nth xs8 0]] H34 nx35 (zkq xs8 nx28 K7)
def zko (xs8:List AV) (K7:J3) (v26:AV) (H27:Heap) (nx28:Nat):Prop :=
 BD (zl tab [(9,0),(32,1),(41,2)]) [.str [],.nils,.nils] [(0,v26)] fun v29 =>
 PUTH H27 nx28 (.row 3 [.str [],.nils,.nils]) fun H30 =>
 ST 3 (.ptr nx28 0) v29 H30 fun H31 =>
 LD false 1 (nth xs8 0) H31 fun v32 =>
 za Tryd.prog 28 [v32,.int .u8 40] H31 (nx28+1) (zkp xs8 nx28 K7)
def zgd (xs8:List AV) (K7:J3) (_:AV) (H23:Heap) (nx24:Nat):Prop :=
 LD false 1 (nth xs8 0) H23 fun v25 =>
 za Tryd.prog 29 [v25] H23 nx24 (zko xs8 K7)
def zgc (xs8:List AV) (K7:J3) (Q:QT) (v17:AV) (H18:Heap) (nx19:Nat):Prop :=
 BI .neq v17 (.int .u8 0) fun v20 =>
 CNDC v20
 (LD false 1 (nth xs8 0) H18 fun v21 =>
 za Tryd.prog 28 [v21,.int .u8 40] H18 nx19 (zgd xs8 K7))
 (LD false 1 (nth xs8 0) H18 fun v51 =>
 NC v51 fun v52 =>
 FA 1 v52 fun v53 =>
 LD false 1 v53 H18 fun v54 =>
 BI .neq v54 (.int .i64 0) fun v55 =>
 CNDC v55
 (LDR false 1 (nth xs8 0) H18 fun v56 _ =>
 NC v56 fun v58 =>
 FA 1 v58 fun v59 =>
 LDR false 1 v59 H18 fun v60 _ =>
 Q (.tup [.nils,v60]) H18 nx19)
 (Q (.tup [nth xs8 1,.int .i64 0]) H18 nx19))
def zgb (Q:QT) (K7:J3) (xs8:List AV) (H9:Heap) (nx10:Nat):Prop :=
 LD false 1 (nth xs8 0) H9 fun v11 =>
 NC v11 fun v12 =>
 FA 1 v12 fun v13 =>
 LD false 1 v13 H9 fun v14 =>
 BI .eql v14 (.int .i64 0) fun v15 =>
 CND v15
 (LD false 1 (nth xs8 0) H9 fun v16 =>
 za Tryd.prog 27 [v16] H9 nx10 (zgc xs8 K7 Q))
 (LD false 1 (nth xs8 0) H9 fun v62 =>
 NC v62 fun v63 =>
 FA 1 v63 fun v64 =>
 LD false 1 v64 H9 fun v65 =>
 BI .neq v65 (.int .i64 0) fun v66 =>
 CNDC v66
 (LDR false 1 (nth xs8 0) H9 fun v67 _ =>
 NC v67 fun v69 =>
 FA 1 v69 fun v70 =>
 LDR false 1 v70 H9 fun v71 _ =>
 Q (.tup [.nils,v71]) H9 nx10)
 (Q (.tup [nth xs8 1,.int .i64 0]) H9 nx10))
def zga (a0:AV) (H:Heap) (nx:Nat) (Q:QT):Prop :=
 LNS a0 fun v1 =>
 BI .gtr v1 (.int .i64 1500) fun v2 =>
 CNDC v2
 (Q (.tup [.nils,.int .i64 4]) H nx)
 (BD (zl tab [(9,0),(23,1)]) [.str [],.int .i64 0] [(0,a0)] fun v3 =>
 v3.sure=true ∧
 PUTH H nx (.row v3.cells.length v3.cells) fun H4 =>
 PUTH H4 (nx+1) (.row 1 [.nilp]) fun H5 =>
 ST 1 (.ptr (nx+1) 0) (.ptr nx 0) H5 fun H6 =>
 LP (zgb Q) [.ptr (nx+1) 0,.nils] H6 (nx+2))
theorem znv (a0:AV) (H:Heap) (nx:Nat) (Q:QT):zga a0 H nx Q→za Tryd.prog 10 [a0] H nx Q :=
  zg (lv:=lvOf [(2,5,[4,5])]) (c:=zq Tryd.f10) zz zab mixed Tryd.func10 (by kernel_rfl) (by kernel_rfl) (by kernel_rfl) (by kernel_rfl) (by kernel_rfl)
def zaq (Q:QT) (K2:J3) (xs3:List AV) (H4:Heap) (nx5:Nat):Prop :=
 BI .lss (nth xs3 3) (nth xs3 2) fun v6 =>
 CNDC v6
 (IA 1 (nth xs3 0) (nth xs3 3) fun v7 =>
 LD false 1 v7 H4 fun v8 =>
 BS .eql (nth xs3 1) v8 fun v9 =>
 CNDC v9
 (Q (nth xs3 3) H4 nx5)
 (BI .add (nth xs3 3) (.int .i64 1) fun v10 =>
 K2 [nth xs3 0,nth xs3 1,nth xs3 2,v10] H4 nx5))
 (Q (.int .i64 (-1)) H4 nx5)
def zcu (a0 a1:AV) (H:Heap) (nx:Nat) (Q:QT):Prop :=
 LNL a0 fun v1 =>
 LP (zaq Q) [a0,a1,v1,.int .i64 0] H nx
theorem zfz (a0 a1:AV) (H:Heap) (nx:Nat) (Q:QT):zcu a0 a1 H nx Q→za Tryd.prog 70 [a0,a1] H nx Q :=
  zg (lv:=lvOf [(2,2,[0,1,7,8])]) (c:=zq Tryd.f70) zz zab mixed Tryd.func70 (by kernel_rfl) (by kernel_rfl) (by kernel_rfl) (by kernel_rfl) (by kernel_rfl)
def zfj (Q:QT) (K2:J3) (xs3:List AV) (H4:Heap) (nx5:Nat):Prop :=
 BI .lss (nth xs3 3) (nth xs3 2) fun v6 =>
 CNDC v6
 (IA 1 (nth xs3 1) (nth xs3 3) fun v7 =>
 LD false 1 v7 H4 fun v8 =>
 BS .eql v8 (nth xs3 0) fun v9 =>
 CNDC v9
 (Q (.bool true) H4 nx5)
 (BI .add (nth xs3 3) (.int .i64 1) fun v10 =>
 K2 [nth xs3 0,nth xs3 1,nth xs3 2,v10] H4 nx5))
 (Q (.bool false) H4 nx5)
def zno (a0 a1:AV) (H:Heap) (nx:Nat) (Q:QT):Prop :=
 LNL a0 fun v1 =>
 LP (zfj Q) [a1,a0,v1,.int .i64 0] H nx
theorem zpy (a0 a1:AV) (H:Heap) (nx:Nat) (Q:QT):zno a0 a1 H nx Q→za Tryd.prog 35 [a0,a1] H nx Q :=
  zg (lv:=lvOf [(2,2,[1,7,8,9])]) (c:=zq Tryd.f35) zz zab mixed Tryd.func35 (by kernel_rfl) (by kernel_rfl) (by kernel_rfl) (by kernel_rfl) (by kernel_rfl)
def zfu (Q:QT) (xs29:List AV) (K28:J3) (v38:AV) (H39:Heap) (nx40:Nat):Prop :=
 BI .neq v38 (.int .i64 0) fun v41 =>
 CNDC v41
 (Q v38 H39 nx40)
 (BI .add (nth xs29 4) (.int .i64 1) fun v42 =>
 K28 [nth xs29 0,nth xs29 1,nth xs29 2,nth xs29 3,v42] H39 nx40)
def zx (Q:QT) (K28:J3) (xs29:List AV) (H30:Heap) (nx31:Nat):Prop :=
 BI .lss (nth xs29 4) (nth xs29 3) fun v32 =>
 CNDC v32
 (IA 4 (nth xs29 2) (nth xs29 4) fun v33 =>
 LD true 4 v33 H30 fun v34 =>
 PUTH H30 nx31 (.row 4 [.int .i64 0,.int .i64 0,.str [],.nils]) fun H35 =>
 ST 4 (.ptr nx31 0) v34 H35 fun H36 =>
 LD true 4 (.ptr nx31 0) H36 fun v37 =>
 za Tryd.prog 55 [nth xs29 0,v37,nth xs29 1] H36 (nx31+1) (zfu Q xs29 K28))
 (Q (.int .i64 0) H30 nx31)
def zcb (Q:QT) (nx:Nat) (v13:AV) (v12:AV) (a0:AV) (a2:AV) (v46:AV) (H47:Heap) (nx48:Nat):Prop :=
 UO .not v46 fun v49 =>
 CNDC v49
 (Q (.int .i64 6) H47 nx48)
 (LD false 1 (.ptr nx 0) H47 fun v50 =>
 BI .eql v50 (.int .i64 11) fun v51 =>
 CND v51
 (UO .not v13 fun v52 =>
 CNDC v52
 (Q (.int .i64 6) H47 nx48)
 (LD false 1 (.ptr nx 0) H47 fun v53 =>
 BI .eql v53 (.int .i64 11) fun v54 =>
 CND v54
 (LD false 1 (.ptr nx 3) H47 fun v55 =>
 LNL v55 fun v56 =>
 BI .neq v12 v56 fun v57 =>
 CNDC v57
 (Q (.int .i64 5) H47 nx48)
 (LD false 1 (.ptr nx 3) H47 fun v58 =>
 LNL v58 fun v59 =>
 LP (zx Q) [a0,a2,v58,v59,.int .i64 0] H47 nx48))
 (LD false 1 (.ptr nx 3) H47 fun v75 =>
 LNL v75 fun v76 =>
 LP (zx Q) [a0,a2,v75,v76,.int .i64 0] H47 nx48)))
 (LD false 1 (.ptr nx 0) H47 fun v92 =>
 BI .eql v92 (.int .i64 11) fun v93 =>
 CND v93
 (LD false 1 (.ptr nx 3) H47 fun v94 =>
 LNL v94 fun v95 =>
 BI .neq v12 v95 fun v96 =>
 CNDC v96
 (Q (.int .i64 5) H47 nx48)
 (LD false 1 (.ptr nx 3) H47 fun v97 =>
 LNL v97 fun v98 =>
 LP (zx Q) [a0,a2,v97,v98,.int .i64 0] H47 nx48))
 (LD false 1 (.ptr nx 3) H47 fun v114 =>
 LNL v114 fun v115 =>
 LP (zx Q) [a0,a2,v114,v115,.int .i64 0] H47 nx48)))
def zaj (a0 a1 a2:AV) (H:Heap) (nx:Nat) (Q:QT):Prop :=
 a1.sure=true ∧
 PUTH H nx (.row a1.cells.length a1.cells) fun H1 =>
 NC a0 fun v2 =>
 FA 0 v2 fun v3 =>
 LDR false 1 v3 H1 fun v4 _ =>
 LDR false 1 (.ptr nx 2) H1 fun v6 _ =>
 zn (AK.str) v6=true ∧
 LOOK [.int .i64 0] false v4 v6 true H1 fun v8 _ fr10 D11 =>
 EX v8 0 fun v12 =>
 EX v8 1 fun v13 =>
 LD false 1 (.ptr nx 0) (H1.apply D11) fun v14 =>
 BI .eql v14 (.int .i64 2) fun v15 =>
 CNDC v15
 (NC a0 fun v16 =>
 FA 2 v16 fun v17 =>
 LDR false 1 v17 (H1.apply D11) fun v18 _ =>
 LDR false 1 (.ptr nx 2) (H1.apply D11) fun v20 _ =>
 zn (AK.str) v20=true ∧
 MUPD v18 v20 (.bool true) (H1.apply D11) fun _ _ fr24 D25 =>
 LD false 1 (.ptr nx 3) ((H1.apply D11).apply D25) fun v26 =>
 LNL v26 fun v27 =>
 LP (zx Q) [a0,a2,v26,v27,.int .i64 0] ((H1.apply D11).apply D25) (((nx+1)+fr10.length)+fr24.length))
 (LD false 1 (.ptr nx 0) (H1.apply D11) fun v43 =>
 BI .eql v43 (.int .i64 3) fun v44 =>
 CND v44
 (LD false 1 (.ptr nx 2) (H1.apply D11) fun v45 =>
 za Tryd.prog 35 [a2,v45] (H1.apply D11) ((nx+1)+fr10.length) (zcb Q nx v13 v12 a0 a2))
 (LD false 1 (.ptr nx 0) (H1.apply D11) fun v131 =>
 BI .eql v131 (.int .i64 11) fun v132 =>
 CND v132
 (UO .not v13 fun v133 =>
 CNDC v133
 (Q (.int .i64 6) (H1.apply D11) ((nx+1)+fr10.length))
 (LD false 1 (.ptr nx 0) (H1.apply D11) fun v134 =>
 BI .eql v134 (.int .i64 11) fun v135 =>
 CND v135
 (LD false 1 (.ptr nx 3) (H1.apply D11) fun v136 =>
 LNL v136 fun v137 =>
 BI .neq v12 v137 fun v138 =>
 CNDC v138
 (Q (.int .i64 5) (H1.apply D11) ((nx+1)+fr10.length))
 (LD false 1 (.ptr nx 3) (H1.apply D11) fun v139 =>
 LNL v139 fun v140 =>
 LP (zx Q) [a0,a2,v139,v140,.int .i64 0] (H1.apply D11) ((nx+1)+fr10.length)))
 (LD false 1 (.ptr nx 3) (H1.apply D11) fun v156 =>
 LNL v156 fun v157 =>
 LP (zx Q) [a0,a2,v156,v157,.int .i64 0] (H1.apply D11) ((nx+1)+fr10.length))))
 (LD false 1 (.ptr nx 0) (H1.apply D11) fun v173 =>
 BI .eql v173 (.int .i64 11) fun v174 =>
 CND v174
 (LD false 1 (.ptr nx 3) (H1.apply D11) fun v175 =>
 LNL v175 fun v176 =>
 BI .neq v12 v176 fun v177 =>
 CNDC v177
 (Q (.int .i64 5) (H1.apply D11) ((nx+1)+fr10.length))
 (LD false 1 (.ptr nx 3) (H1.apply D11) fun v178 =>
 LNL v178 fun v179 =>
 LP (zx Q) [a0,a2,v178,v179,.int .i64 0] (H1.apply D11) ((nx+1)+fr10.length)))
 (LD false 1 (.ptr nx 3) (H1.apply D11) fun v195 =>
 LNL v195 fun v196 =>
 LP (zx Q) [a0,a2,v195,v196,.int .i64 0] (H1.apply D11) ((nx+1)+fr10.length)))))
theorem znu (a0 a1 a2:AV) (H:Heap) (nx:Nat) (Q:QT):zaj a0 a1 a2 H nx Q→za Tryd.prog 55 [a0,a1,a2] H nx Q :=
  zg (lv:=lvOf [(2,10,[0,2,62,63,64])]) (c:=zq Tryd.f55) zz zab mixed Tryd.func55 (by kernel_rfl) (by kernel_rfl) (by kernel_rfl) (by kernel_rfl) (by kernel_rfl)
def zex (Q:QT) (xs14:List AV) (K13:J3) (v23:AV) (H24:Heap) (nx25:Nat):Prop :=
 BI .neq v23 (.int .i64 0) fun v26 =>
 CNDC v26
 (Q v23 H24 nx25)
 (BI .add (nth xs14 8) (.int .i64 1) fun v27 =>
 K13 [nth xs14 0,nth xs14 1,nth xs14 2,nth xs14 3,nth xs14 4,nth xs14 5,nth xs14 6,nth xs14 7,v27] H24 nx25)
def zew (Q:QT) (xs14:List AV) (K2:J3) (v57:AV) (v78:AV) (H79:Heap) (nx80:Nat):Prop :=
 BI .neq v78 (.int .i64 0) fun v81 =>
 CNDC v81
 (Q v78 H79 nx80)
 (BI .add (nth xs14 5) (.int .i64 1) fun v82 =>
 K2 [nth xs14 0,v57,nth xs14 3,nth xs14 4,v82] H79 nx80)
def zbq (Q:QT) (xs14:List AV) (v57:AV) (K2:J3) (v72:AV) (H73:Heap) (nx74:Nat):Prop :=
 BI .neq v72 (.int .i64 0) fun v75 =>
 CNDC v75
 (Q v72 H73 nx74)
 (FA 4 (nth xs14 2) fun v76 =>
 LD false 1 v76 H73 fun v77 =>
 za Tryd.prog 36 [nth xs14 0,v77,v57] H73 nx74 (zew Q xs14 K2 v57))
def zpr (Q:QT) (xs14:List AV) (v57:AV) (K2:J3) (v66:AV) (H67:Heap) (nx68:Nat):Prop :=
 UO .not v66 fun v69 =>
 CNDC v69
 (Q (.int .i64 6) H67 nx68)
 (FA 3 (nth xs14 2) fun v70 =>
 LD false 1 v70 H67 fun v71 =>
 za Tryd.prog 36 [nth xs14 0,v71,v57] H67 nx68 (zbq Q xs14 v57 K2))
def zcr (Q:QT) (xs14:List AV) (K2:J3) (v33:AV) (H34:Heap) (nx35:Nat):Prop :=
 CNDC v33
 (Q (.int .i64 7) H34 nx35)
 (NC (nth xs14 0) fun v36 =>
 FA 1 v36 fun v37 =>
 LD false 1 v37 H34 fun v38 =>
 BI .add v38 (.int .i64 1) fun v39 =>
 NC (nth xs14 0) fun v40 =>
 FA 1 v40 fun v41 =>
 ST 1 v41 v39 H34 fun H42 =>
 NC (nth xs14 0) fun v43 =>
 FA 1 v43 fun v44 =>
 LD false 1 v44 H42 fun v45 =>
 BI .gtr v45 (.int .i64 8) fun v46 =>
 CNDC v46
 (Q (.int .i64 4) H42 nx35)
 (PUTH H42 nx35 (.row 1 []) fun H47 =>
 zad 1 16 (.slc nx35 0 0) (nth xs14 1) H47 (nx35+1) fun v48 rd49 fr50 D51 =>
 FA 1 (nth xs14 2) fun v52 =>
 LDR false 1 v52 (H47.apply D51) fun v53 rd54 =>
 BSL 1 1 [.str []] [(0,v53)] fun cells55 =>
 PUTH (H47.apply D51) ((nx35+1)+fr50.length) (.row 1 cells55) fun H56 =>
 zad 1 16 v48 (.slc ((nx35+1)+fr50.length) 0 1) H56 (((nx35+1)+fr50.length)+1) fun v57 _ fr59 D60 =>
 nx35∉[] ∧
 nx35∉[] ∧
 nx35∉[] ∧
 nx35∉[] ∧
 zb (domD D51) [] (
 zb (domD D51) [] (
 nx35∉rd54 ∧
 nx35∉[] ∧
 zb (domD D51) rd54 (
 zb (domD D51) [] (
 nx35∉[] ∧
 nx35∉[((nx35+1)+fr50.length)] ∧
 ((nx35+1)+fr50.length)∉[] ∧
 ((nx35+1)+fr50.length)∉[] ∧
 zb (domD D51) [] (
 zb (domD D51) [((nx35+1)+fr50.length)] (
 ((nx35+1)+fr50.length)∉rd49 ∧
 FA 0 (nth xs14 2) fun v61 =>
 LD false 1 v61 (H56.apply D60) fun v62 =>
 BI .eql v62 (.int .i64 2) fun v63 =>
 CND v63
 (FA 1 (nth xs14 2) fun v64 =>
 LD false 1 v64 (H56.apply D60) fun v65 =>
 za Tryd.prog 35 [v57,v65] (H56.apply D60) ((((nx35+1)+fr50.length)+1)+fr59.length) (zpr Q xs14 v57 K2))
 (FA 3 (nth xs14 2) fun v83 =>
 LD false 1 v83 (H56.apply D60) fun v84 =>
 za Tryd.prog 36 [nth xs14 0,v84,v57] (H56.apply D60) ((((nx35+1)+fr50.length)+1)+fr59.length) (zbq Q xs14 v57 K2))))))))))
def zev (Q:QT) (xs14:List AV) (K2:J3) (v113:AV) (H114:Heap) (nx115:Nat):Prop :=
 BI .neq v113 (.int .i64 0) fun v116 =>
 CNDC v116
 (Q v113 H114 nx115)
 (BI .add (nth xs14 5) (.int .i64 1) fun v117 =>
 K2 [nth xs14 0,nth xs14 1,nth xs14 3,nth xs14 4,v117] H114 nx115)
def zbp (Q:QT) (xs14:List AV) (K2:J3) (v107:AV) (H108:Heap) (nx109:Nat):Prop :=
 BI .neq v107 (.int .i64 0) fun v110 =>
 CNDC v110
 (Q v107 H108 nx109)
 (FA 4 (nth xs14 2) fun v111 =>
 LD false 1 v111 H108 fun v112 =>
 za Tryd.prog 36 [nth xs14 0,v112,nth xs14 1] H108 nx109 (zev Q xs14 K2))
def zeu (Q:QT) (xs14:List AV) (K2:J3) (v101:AV) (H102:Heap) (nx103:Nat):Prop :=
 UO .not v101 fun v104 =>
 CNDC v104
 (Q (.int .i64 6) H102 nx103)
 (FA 3 (nth xs14 2) fun v105 =>
 LD false 1 v105 H102 fun v106 =>
 za Tryd.prog 36 [nth xs14 0,v106,nth xs14 1] H102 nx103 (zbp Q xs14 K2))
def zar (Q:QT) (K2:J3) (K13:J3) (xs14:List AV) (H15:Heap) (nx16:Nat):Prop :=
 BI .lss (nth xs14 8) (nth xs14 7) fun v17 =>
 CNDC v17
 (IA 4 (nth xs14 6) (nth xs14 8) fun v18 =>
 LD true 4 v18 H15 fun v19 =>
 PUTH H15 nx16 (.row 4 [.int .i64 0,.int .i64 0,.str [],.nils]) fun H20 =>
 ST 4 (.ptr nx16 0) v19 H20 fun H21 =>
 LD true 4 (.ptr nx16 0) H21 fun v22 =>
 za Tryd.prog 55 [nth xs14 0,v22,nth xs14 1] H21 (nx16+1) (zex Q xs14 K13))
 (FA 0 (nth xs14 2) fun v28 =>
 LD false 1 v28 H15 fun v29 =>
 BI .eql v29 (.int .i64 1) fun v30 =>
 CNDC v30
 (FA 1 (nth xs14 2) fun v31 =>
 LD false 1 v31 H15 fun v32 =>
 za Tryd.prog 35 [nth xs14 1,v32] H15 nx16 (zcr Q xs14 K2))
 (FA 0 (nth xs14 2) fun v96 =>
 LD false 1 v96 H15 fun v97 =>
 BI .eql v97 (.int .i64 2) fun v98 =>
 CND v98
 (FA 1 (nth xs14 2) fun v99 =>
 LD false 1 v99 H15 fun v100 =>
 za Tryd.prog 35 [nth xs14 1,v100] H15 nx16 (zeu Q xs14 K2))
 (FA 3 (nth xs14 2) fun v118 =>
 LD false 1 v118 H15 fun v119 =>
 za Tryd.prog 36 [nth xs14 0,v119,nth xs14 1] H15 nx16 (zbp Q xs14 K2))))
def zet (Q:QT) (K2:J3) (xs3:List AV) (H4:Heap) (nx5:Nat):Prop :=
 BI .lss (nth xs3 4) (nth xs3 3) fun v6 =>
 CNDC v6
 (IA 5 (nth xs3 2) (nth xs3 4) fun v7 =>
 LD true 5 v7 H4 fun v8 =>
 PUTH H4 nx5 (.row 5 [.int .i64 0,.str [],.nils,.nils,.nils]) fun H9 =>
 ST 5 (.ptr nx5 0) v8 H9 fun H10 =>
 LD false 1 (.ptr nx5 2) H10 fun v11 =>
 LNL v11 fun v12 =>
 LP (zar Q K2) [nth xs3 0,nth xs3 1,.ptr nx5 0,nth xs3 2,nth xs3 3,nth xs3 4,v11,v12,.int .i64 0] H10 (nx5+1))
 (Q (.int .i64 0) H4 nx5)
def zjc (a0 a1 a2:AV) (H:Heap) (nx:Nat) (Q:QT):Prop :=
 LNL a1 fun v1 =>
 LP (zet Q) [a0,a2,a1,v1,.int .i64 0] H nx
theorem zmp (a0 a1 a2:AV) (H:Heap) (nx:Nat) (Q:QT):zjc a0 a1 a2 H nx Q→za Tryd.prog 36 [a0,a1,a2] H nx Q :=
  zg (lv:=lvOf [(2,2,[0,2,14,15,16]),(2,5,[0,2,8,14,15,16,21,22,23])]) (c:=zq Tryd.f36) zz zab mixed Tryd.func36 (by kernel_rfl) (by kernel_rfl) (by kernel_rfl) (by kernel_rfl) (by kernel_rfl)
def zkr (xs33:List AV) (K32:J3) (v43:AV) (H44:Heap) (nx45:Nat):Prop :=
 BI .add (nth xs33 9) (.int .i64 1) fun v46 =>
 K32 [nth xs33 0,nth xs33 1,nth xs33 2,v43,nth xs33 4,nth xs33 5,nth xs33 6,nth xs33 7,nth xs33 8,v46] H44 nx45
def zat (Q:QT) (K9:J3) (K32:J3) (xs33:List AV) (H34:Heap) (nx35:Nat):Prop :=
 BI .lss (nth xs33 9) (nth xs33 8) fun v36 =>
 CNDC v36
 (IA 1 (nth xs33 7) (nth xs33 9) fun v37 =>
 LD false 1 v37 H34 fun v38 =>
 CND (nth xs33 3)
 (BI .add (nth xs33 9) (.int .i64 1) fun v39 =>
 K32 [nth xs33 0,nth xs33 1,nth xs33 2,.bool true,nth xs33 4,nth xs33 5,nth xs33 6,nth xs33 7,nth xs33 8,v39] H34 nx35)
 (FA 1 (nth xs33 2) fun v40 =>
 LD false 1 v40 H34 fun v41 =>
 SL 1 v41 none (some (nth xs33 9)) H34 fun v42 =>
 za Tryd.prog 35 [v42,v38] H34 nx35 (zkr xs33 K32)))
 (CNDC (nth xs33 3)
 (Q (.int .i64 7) H34 nx35)
 (FA 1 (nth xs33 2) fun v47 =>
 LD false 1 v47 H34 fun v48 =>
 LNL v48 fun v49 =>
 BI .gtr v49 (.int .i64 4) fun v50 =>
 CNDC v50
 (Q (.int .i64 5) H34 nx35)
 (NC (nth xs33 1) fun v51 =>
 FA 0 v51 fun v52 =>
 LDR false 1 v52 H34 fun v53 _ =>
 FA 0 (nth xs33 2) fun v55 =>
 LDR false 1 v55 H34 fun v56 _ =>
 FA 1 (nth xs33 2) fun v58 =>
 LDR false 1 v58 H34 fun v59 _ =>
 LNL v59 fun v61 =>
 zn (AK.str) v56=true ∧
 MUPD v53 v56 v61 H34 fun _ _ fr64 D65 =>
 BI .add (nth xs33 6) (.int .i64 1) fun v66 =>
 K9 [nth xs33 0,nth xs33 1,nth xs33 4,nth xs33 5,v66] (H34.apply D65) (nx35+fr64.length))))
def zdt (Q:QT) (xs74:List AV) (K73:J3) (v89:AV) (H90:Heap) (nx91:Nat):Prop :=
 BI .neq v89 (.int .i64 0) fun v92 =>
 CNDC v92
 (Q v89 H90 nx91)
 (BI .add (nth xs74 3) (.int .i64 1) fun v93 =>
 K73 [nth xs74 0,nth xs74 1,nth xs74 2,v93] H90 nx91)
def zbn (Q:QT) (K73:J3) (xs74:List AV) (H75:Heap) (nx76:Nat):Prop :=
 BI .lss (nth xs74 3) (nth xs74 2) fun v77 =>
 CNDC v77
 (IA 3 (nth xs74 1) (nth xs74 3) fun v78 =>
 LD true 3 v78 H75 fun v79 =>
 PUTH H75 nx76 (.row 3 [.str [],.nils,.nils]) fun H80 =>
 ST 3 (.ptr nx76 0) v79 H80 fun H81 =>
 LD false 1 (.ptr nx76 1) H81 fun v82 =>
 LNL v82 fun v83 =>
 NC (nth xs74 0) fun v84 =>
 FA 1 v84 fun v85 =>
 ST 1 v85 v83 H81 fun H86 =>
 LD false 1 (.ptr nx76 2) H86 fun v87 =>
 LD false 1 (.ptr nx76 1) H86 fun v88 =>
 za Tryd.prog 36 [nth xs74 0,v87,v88] H86 (nx76+1) (zdt Q xs74 K73))
 (NC (nth xs74 0) fun v94 =>
 FA 2 v94 fun v95 =>
 LD false 1 v95 H75 fun v96 =>
 LNM v96 H75 fun v97 =>
 BI .gtr v97 (.int .i64 16) fun v98 =>
 CNDC v98
 (Q (.int .i64 4) H75 nx76)
 (Q (.int .i64 0) H75 nx76))
def zds (Q:QT) (K9:J3) (xs10:List AV) (H11:Heap) (nx12:Nat):Prop :=
 BI .lss (nth xs10 4) (nth xs10 3) fun v13 =>
 CNDC v13
 (IA 3 (nth xs10 2) (nth xs10 4) fun v14 =>
 LD true 3 v14 H11 fun v15 =>
 PUTH H11 nx12 (.row 3 [.str [],.nils,.nils]) fun H16 =>
 ST 3 (.ptr nx12 0) v15 H16 fun H17 =>
 NC (nth xs10 1) fun v18 =>
 FA 0 v18 fun v19 =>
 LDR false 1 v19 H17 fun v20 _ =>
 LDR false 1 (.ptr nx12 0) H17 fun v22 _ =>
 zn (AK.str) v22=true ∧
 LOOK [.int .i64 0] false v20 v22 true H17 fun v24 _ fr26 D27 =>
 EX v24 0 fun _ =>
 EX v24 1 fun v29 =>
 LD false 1 (.ptr nx12 1) (H17.apply D27) fun v30 =>
 LNL v30 fun v31 =>
 LP (zat Q K9) [nth xs10 0,nth xs10 1,.ptr nx12 0,v29,nth xs10 2,nth xs10 3,nth xs10 4,v30,v31,.int .i64 0] (H17.apply D27) ((nx12+1)+fr26.length))
 (IA 3 (nth xs10 0) (.int .i64 0) fun v67 =>
 FA 1 v67 fun v68 =>
 LD false 1 v68 H11 fun v69 =>
 LNL v69 fun v70 =>
 BI .neq v70 (.int .i64 0) fun v71 =>
 CNDC v71
 (Q (.int .i64 10) H11 nx12)
 (LNL (nth xs10 0) fun v72 =>
 LP (zbn Q) [nth xs10 1,nth xs10 0,v72,.int .i64 0] H11 nx12))
def zdr (a0:AV) (H:Heap) (nx:Nat) (Q:QT):Prop :=
 LNL a0 fun v1 =>
 BI .eql v1 (.int .i64 0) fun v2 =>
 CND v2
 (Q (.int .i64 5) H nx)
 (LNL a0 fun v3 =>
 BI .gtr v3 (.int .i64 5) fun v4 =>
 CNDC v4
 (Q (.int .i64 5) H nx)
 (PUTH H nx (.mp []) fun H5 =>
 PUTH H5 (nx+1) (.mp []) fun H6 =>
 true=true ∧
 PUTH H6 (nx+2) (.row 3 [.amap nx,.int .i64 0,.amap (nx+1)]) fun H7 =>
 LNL a0 fun v8 =>
 LP (zds Q) [a0,.ptr (nx+2) 0,a0,v8,.int .i64 0] H7 (nx+3)))
theorem znx (a0:AV) (H:Heap) (nx:Nat) (Q:QT):zdr a0 H nx Q→za Tryd.prog 12 [a0] H nx Q :=
  zg (lv:=lvOf [(2,5,[0,3,25,26,27]),(2,9,[0,3,5,7,25,26,27,42,43,44]),(2,22,[3,80,81,82])]) (c:=zq Tryd.f12) zz zab mixed Tryd.func12 (by kernel_rfl) (by kernel_rfl) (by kernel_rfl) (by kernel_rfl) (by kernel_rfl)
def zjq (a0:AV) (Q:QT) (_:AV) (H3:Heap) (nx4:Nat):Prop :=
 NC a0 fun v5 =>
 FA 1 v5 fun v6 =>
 LD false 1 v6 H3 fun v7 =>
 BI .eql v7 (.int .i64 0) fun v8 =>
 Q v8 H3 nx4
def zfp (a0 a1:AV) (H:Heap) (nx:Nat) (Q:QT):Prop :=
 BI .gtr a1 (.int .i64 10) fun v1 =>
 CNDC v1
 (za Tryd.prog 48 [a0,.int .i64 9] H nx (zjq a0 Q))
 (NC a0 fun v9 =>
 FA 1 v9 fun v10 =>
 LD false 1 v10 H fun v11 =>
 BI .eql v11 (.int .i64 0) fun v12 =>
 Q v12 H nx)
theorem znq (a0 a1:AV) (H:Heap) (nx:Nat) (Q:QT):zfp a0 a1 H nx Q→za Tryd.prog 68 [a0,a1] H nx Q :=
  zg (lv:=lvOf []) (c:=zq Tryd.f68) zz zab mixed Tryd.func68 (by kernel_rfl) (by kernel_rfl) (by kernel_rfl) (by kernel_rfl) (by kernel_rfl)
def zln (Q:QT) (K2:J3) (xs3:List AV) (H4:Heap) (nx5:Nat):Prop :=
 BI .lss (nth xs3 2) (nth xs3 1) fun v6 =>
 CNDC v6
 (IX (nth xs3 0) (nth xs3 2) fun v7 =>
 BI .lss v7 (.int .u8 32) fun v8 =>
 CND v8
 (Q (.bool false) H4 nx5)
 (IX (nth xs3 0) (nth xs3 2) fun v9 =>
 BI .gtr v9 (.int .u8 126) fun v10 =>
 CND v10
 (Q (.bool false) H4 nx5)
 (IX (nth xs3 0) (nth xs3 2) fun v11 =>
 BI .eql v11 (.int .u8 39) fun v12 =>
 CNDC v12
 (Q (.bool false) H4 nx5)
 (BI .add (nth xs3 2) (.int .i64 1) fun v13 =>
 K2 [nth xs3 0,nth xs3 1,v13] H4 nx5))))
 (LNS (nth xs3 0) fun v14 =>
 BI .lss v14 (.int .i64 13) fun v15 =>
 Q v15 H4 nx5)
def zlm (a0:AV) (H:Heap) (nx:Nat) (Q:QT):Prop :=
 LNS a0 fun v1 =>
 LP (zln Q) [a0,v1,.int .i64 0] H nx
theorem zpl (a0:AV) (H:Heap) (nx:Nat) (Q:QT):zlm a0 H nx Q→za Tryd.prog 25 [a0] H nx Q :=
  zg (lv:=lvOf [(2,2,[0,5,6])]) (c:=zq Tryd.f25) zz zab mixed Tryd.func25 (by kernel_rfl) (by kernel_rfl) (by kernel_rfl) (by kernel_rfl) (by kernel_rfl)
def zkc (xs21:List AV) (Q:QT) (_:AV) (H49:Heap) (nx50:Nat):Prop :=
 ST 4 (nth xs21 1) (.agg [.int .i64 2,.int .i64 0,.str [],.nils]) H49 fun H51 =>
 LD true 4 (nth xs21 1) H51 fun v52 =>
 Q v52 H51 nx50
def zkb (v57:AV) (xs21:List AV) (Q:QT) (_:AV) (H80:Heap) (nx81:Nat):Prop :=
 BD (zl tab [(3,0),(3,1),(9,2),(88,3)]) [.int .i64 0,.int .i64 0,.str [],.nils] [(0,.int .i64 2),(2,v57)] fun v82 =>
 ST 4 (nth xs21 1) v82 H80 fun H83 =>
 LD true 4 (nth xs21 1) H83 fun v84 =>
 Q v84 H83 nx81
def zft (xs21:List AV) (v57:AV) (Q:QT) (v74:AV) (H75:Heap) (nx76:Nat):Prop :=
 UO .not v74 fun v77 =>
 CNDC v77
 (LD false 1 (nth xs21 0) H75 fun v78 =>
 za Tryd.prog 48 [v78,.int .i64 2] H75 nx76 (zkb v57 xs21 Q))
 (BD (zl tab [(3,0),(3,1),(9,2),(88,3)]) [.int .i64 0,.int .i64 0,.str [],.nils] [(0,.int .i64 2),(2,v57)] fun v85 =>
 ST 4 (nth xs21 1) v85 H75 fun H86 =>
 LD true 4 (nth xs21 1) H86 fun v87 =>
 Q v87 H86 nx76)
def zdh (K17:J3) (Q:QT) (xs21:List AV) (H22:Heap) (nx23:Nat):Prop :=
 CNDC (nth xs21 3)
 (BI .add (nth xs21 2) (.int .i64 1) fun v25 =>
 K17 [nth xs21 0,nth xs21 1,v25] H22 nx23)
 (LD false 1 (nth xs21 0) H22 fun v26 =>
 NC v26 fun v27 =>
 FA 0 v27 fun v28 =>
 LD false 1 v28 H22 fun v29 =>
 LNS v29 fun v30 =>
 BI .eql (nth xs21 2) v30 fun v31 =>
 CNDC v31
 (LDR false 1 (nth xs21 0) H22 fun v32 _ =>
 LDR false 1 (nth xs21 0) H22 fun v34 _ =>
 NC v34 fun v36 =>
 FA 0 v36 fun v37 =>
 LDR false 1 v37 H22 fun v38 _ =>
 SLS v38 (some (.int .i64 1)) none fun v40 =>
 NC v32 fun v41 =>
 FA 0 v41 fun v42 =>
 zag 1 v42 v40 H22 fun _ _ fr45 D46 =>
 LD false 1 (nth xs21 0) (H22.apply D46) fun v47 =>
 za Tryd.prog 48 [v47,.int .i64 8] (H22.apply D46) (nx23+fr45.length) (zkc xs21 Q))
 (LD false 1 (nth xs21 0) H22 fun v53 =>
 NC v53 fun v54 =>
 FA 0 v54 fun v55 =>
 LD false 1 v55 H22 fun v56 =>
 SLS v56 (some (.int .i64 1)) (some (nth xs21 2)) fun v57 =>
 LDR false 1 (nth xs21 0) H22 fun v58 _ =>
 LDR false 1 (nth xs21 0) H22 fun v60 _ =>
 NC v60 fun v62 =>
 FA 0 v62 fun v63 =>
 LDR false 1 v63 H22 fun v64 _ =>
 BI .add (nth xs21 2) (.int .i64 1) fun v66 =>
 SLS v64 (some v66) none fun v67 =>
 NC v58 fun v68 =>
 FA 0 v68 fun v69 =>
 zag 1 v69 v67 H22 fun _ _ fr72 D73 =>
 za Tryd.prog 25 [v57] (H22.apply D73) (nx23+fr72.length) (zft xs21 v57 Q)))
def zdj (xs18:List AV) (H19:Heap) (nx20:Nat) (j24:J3):Prop :=
 LD false 1 (nth xs18 0) H19 fun v88 =>
 NC v88 fun v89 =>
 FA 0 v89 fun v90 =>
 LD false 1 v90 H19 fun v91 =>
 LNS v91 fun v92 =>
 BI .lss (nth xs18 2) v92 fun v93 =>
 CND v93
 (LD false 1 (nth xs18 0) H19 fun v94 =>
 NC v94 fun v95 =>
 FA 0 v95 fun v96 =>
 LD false 1 v96 H19 fun v97 =>
 IX v97 (nth xs18 2) fun v98 =>
 BI .neq v98 (.int .u8 39) fun v99 =>
 j24 [nth xs18 0,nth xs18 1,nth xs18 2,v99] H19 nx20)
 (j24 [nth xs18 0,nth xs18 1,nth xs18 2,.bool false] H19 nx20)
def zbz (Q:QT) (K17:J3) (xs18:List AV) (H19:Heap) (nx20:Nat):Prop :=
 JN (zdh K17 Q) (zdj xs18 H19 nx20)
def zdf (v108:AV) (nx:Nat) (Q:QT) (_:AV) (H118:Heap) (nx119:Nat):Prop :=
 BD (zl tab [(3,0),(3,1),(9,2),(88,3)]) [.int .i64 0,.int .i64 0,.str [],.nils] [(0,.int .i64 1),(1,v108)] fun v120 =>
 ST 4 (.ptr (nx+2) 0) v120 H118 fun H121 =>
 LD true 4 (.ptr (nx+2) 0) H121 fun v122 =>
 Q v122 H121 nx119
def zka (v102:AV) (nx:Nat) (Q:QT) (_:AV) (H140:Heap) (nx141:Nat):Prop :=
 BD (zl tab [(3,0),(3,1),(9,2),(88,3)]) [.int .i64 0,.int .i64 0,.str [],.nils] [(0,.int .i64 3),(2,v102)] fun v142 =>
 ST 4 (.ptr (nx+2) 0) v142 H140 fun H143 =>
 LD true 4 (.ptr (nx+2) 0) H143 fun v144 =>
 Q v144 H143 nx141
def zca (nx:Nat) (v102:AV) (Q:QT) (v134:AV) (H135:Heap) (nx136:Nat):Prop :=
 UO .not v134 fun v137 =>
 CNDC v137
 (LD false 1 (.ptr nx 0) H135 fun v138 =>
 za Tryd.prog 48 [v138,.int .i64 7] H135 nx136 (zka v102 nx Q))
 (BD (zl tab [(3,0),(3,1),(9,2),(88,3)]) [.int .i64 0,.int .i64 0,.str [],.nils] [(0,.int .i64 3),(2,v102)] fun v145 =>
 ST 4 (.ptr (nx+2) 0) v145 H135 fun H146 =>
 LD true 4 (.ptr (nx+2) 0) H146 fun v147 =>
 Q v147 H146 nx136)
def zbg (v102:AV) (v108:AV) (nx:Nat) (Q:QT) (v111:AV) (H112:Heap) (nx113:Nat):Prop :=
 BS .eql v111 v102 fun v114 =>
 CNDC v114
 (BI .gtr v108 (.int .i64 1073741824) fun v115 =>
 CND v115
 (LD false 1 (.ptr nx 0) H112 fun v116 =>
 za Tryd.prog 48 [v116,.int .i64 3] H112 nx113 (zdf v108 nx Q))
 (BI .lss v108 (.int .i64 (-1073741824)) fun v123 =>
 CNDC v123
 (LD false 1 (.ptr nx 0) H112 fun v124 =>
 za Tryd.prog 48 [v124,.int .i64 3] H112 nx113 (zdf v108 nx Q))
 (BD (zl tab [(3,0),(3,1),(9,2),(88,3)]) [.int .i64 0,.int .i64 0,.str [],.nils] [(0,.int .i64 1),(1,v108)] fun v131 =>
 ST 4 (.ptr (nx+2) 0) v131 H112 fun H132 =>
 LD true 4 (.ptr (nx+2) 0) H132 fun v133 =>
 Q v133 H132 nx113)))
 (za Tryd.prog 14 [v102] H112 nx113 (zca nx v102 Q))
def zde (v102:AV) (nx:Nat) (Q:QT) (v105:AV) (H106:Heap) (nx107:Nat):Prop :=
 EX v105 0 fun v108 =>
 EX v105 1 fun v109 =>
 BF .eql v109 .inil fun v110 =>
 CND v110
 (za Tryd.prog 80 [v108] H106 nx107 (zbg v102 v108 nx Q))
 (za Tryd.prog 14 [v102] H106 nx107 (zca nx v102 Q))
def zjz (nx:Nat) (Q:QT) (v102:AV) (H103:Heap) (nx104:Nat):Prop :=
 za Tryd.prog 79 [v102] H103 nx104 (zde v102 nx Q)
def zbo (xs221:List AV) (Q:QT) (_:AV) (H236:Heap) (nx237:Nat):Prop :=
 LD true 4 (nth xs221 3) H236 fun v238 =>
 ST 4 (nth xs221 2) v238 H236 fun H239 =>
 LD true 4 (nth xs221 2) H239 fun v240 =>
 Q v240 H239 nx237
def zbb (xs221:List AV) (Q:QT) (_:AV) (H227:Heap) (nx228:Nat):Prop :=
 BI .geq (nth xs221 4) (.int .i64 0) fun v229 =>
 CND v229
 (FA 3 (nth xs221 3) fun v230 =>
 LD false 1 v230 H227 fun v231 =>
 LNL v231 fun v232 =>
 BI .neq v232 (nth xs221 4) fun v233 =>
 CND v233
 (LD false 1 (nth xs221 0) H227 fun v234 =>
 za Tryd.prog 48 [v234,.int .i64 5] H227 nx228 (zbo xs221 Q))
 (BI .lss (nth xs221 4) (.int .i64 0) fun v241 =>
 CND v241
 (FA 3 (nth xs221 3) fun v242 =>
 LD false 1 v242 H227 fun v243 =>
 LNL v243 fun v244 =>
 BI .gtr v244 (.int .i64 4) fun v245 =>
 CNDC v245
 (LD false 1 (nth xs221 0) H227 fun v246 =>
 za Tryd.prog 48 [v246,.int .i64 5] H227 nx228 (zbo xs221 Q))
 (LD true 4 (nth xs221 3) H227 fun v253 =>
 ST 4 (nth xs221 2) v253 H227 fun H254 =>
 LD true 4 (nth xs221 2) H254 fun v255 =>
 Q v255 H254 nx228))
 (LD true 4 (nth xs221 3) H227 fun v256 =>
 ST 4 (nth xs221 2) v256 H227 fun H257 =>
 LD true 4 (nth xs221 2) H257 fun v258 =>
 Q v258 H257 nx228)))
 (BI .lss (nth xs221 4) (.int .i64 0) fun v259 =>
 CND v259
 (FA 3 (nth xs221 3) fun v260 =>
 LD false 1 v260 H227 fun v261 =>
 LNL v261 fun v262 =>
 BI .gtr v262 (.int .i64 4) fun v263 =>
 CNDC v263
 (LD false 1 (nth xs221 0) H227 fun v264 =>
 za Tryd.prog 48 [v264,.int .i64 5] H227 nx228 (zbo xs221 Q))
 (LD true 4 (nth xs221 3) H227 fun v271 =>
 ST 4 (nth xs221 2) v271 H227 fun H272 =>
 LD true 4 (nth xs221 2) H272 fun v273 =>
 Q v273 H272 nx228))
 (LD true 4 (nth xs221 3) H227 fun v274 =>
 ST 4 (nth xs221 2) v274 H227 fun H275 =>
 LD true 4 (nth xs221 2) H275 fun v276 =>
 Q v276 H275 nx228))
def zit (j224:J3) (xs202:List AV) (v283:AV) (H284:Heap) (nx285:Nat):Prop :=
 j224 [nth xs202 0,nth xs202 1,nth xs202 2,nth xs202 4,nth xs202 5] H284 nx285
def zeq (xs202:List AV) (j224:J3) (v278:AV) (H279:Heap) (nx280:Nat):Prop :=
 UO .not v278 fun v281 =>
 CNDC v281
 (LD false 1 (nth xs202 0) H279 fun v282 =>
 za Tryd.prog 48 [v282,.int .i64 7] H279 nx280 (zit j224 xs202))
 (j224 [nth xs202 0,nth xs202 1,nth xs202 2,nth xs202 4,nth xs202 5] H279 nx280)
def zdg (Q:QT) (xs221:List AV) (H222:Heap) (nx223:Nat):Prop :=
 LD false 1 (nth xs221 0) H222 fun v225 =>
 za Tryd.prog 30 [v225,.clo 81 [nth xs221 3,nth xs221 0,nth xs221 1]] H222 nx223 (zbb xs221 Q)
def zdi (xs202:List AV) (H203:Heap) (nx204:Nat) (j224:J3):Prop :=
 BI .lss (nth xs202 5) (.int .i64 0) fun v277 =>
 CND v277
 (za Tryd.prog 14 [nth xs202 3] H203 nx204 (zeq xs202 j224))
 (j224 [nth xs202 0,nth xs202 1,nth xs202 2,nth xs202 4,nth xs202 5] H203 nx204)
def zby (Q:QT) (K201:J3) (xs202:List AV) (H203:Heap) (nx204:Nat):Prop :=
 BI .lss (nth xs202 8) (nth xs202 7) fun v205 =>
 CNDC v205
 (IA 1 (nth xs202 6) (nth xs202 8) fun v206 =>
 LD false 1 v206 H203 fun v207 =>
 BS .eql v207 (nth xs202 3) fun v208 =>
 CNDC v208
 (BI .add (.int .i64 5) (nth xs202 8) fun v209 =>
 BD (zl tab [(3,0),(3,1),(9,2),(88,3)]) [.int .i64 0,.int .i64 0,.str [],.nils] [(0,v209)] fun v210 =>
 PUTH H203 nx204 (.row 1 [.int .i64 2,.int .i64 1,.int .i64 1,.int .i64 1,.int .i64 0,.int .i64 1]) fun H211 =>
 IA 1 (.slc nx204 0 6) (nth xs202 8) fun v212 =>
 LDR false 1 v212 H211 fun v213 rd214 =>
 zag 4 (nth xs202 4) v210 H211 fun _ rd216 fr217 D218 =>
 nx204∉[] ∧
 nx204∉[] ∧
 nx204∉[] ∧
 nx204∉[] ∧
 nx204∉[] ∧
 nx204∉rd216 ∧
 nx204∉(domD D218) ∧
 zb (domD D218) [] (
 zb (domD D218) [] (
 zb (domD D218) [] (
 zb (domD D218) rd214 (
 BI .add (nth xs202 8) (.int .i64 1) fun v219 =>
 K201 [nth xs202 0,nth xs202 1,nth xs202 2,nth xs202 3,nth xs202 4,v213,nth xs202 6,nth xs202 7,v219] (H211.apply D218) ((nx204+1)+fr217.length))))))
 (BI .add (nth xs202 8) (.int .i64 1) fun v220 =>
 K201 [nth xs202 0,nth xs202 1,nth xs202 2,nth xs202 3,nth xs202 4,nth xs202 5,nth xs202 6,nth xs202 7,v220] H203 nx204))
 (JN (zdg Q) (zdi xs202 H203 nx204))
def zbx (Q:QT) (K186:J3) (xs187:List AV) (H188:Heap) (nx189:Nat):Prop :=
 BI .lss (nth xs187 8) (nth xs187 7) fun v190 =>
 CNDC v190
 (IA 1 (nth xs187 6) (nth xs187 8) fun v191 =>
 LD false 1 v191 H188 fun v192 =>
 BS .eql v192 (nth xs187 3) fun v193 =>
 CNDC v193
 (BI .add (nth xs187 8) (.int .i64 1) fun v194 =>
 BD (zl tab [(3,0),(3,1),(9,2),(88,3)]) [.int .i64 0,.int .i64 0,.str [],.nils] [(0,.int .i64 4),(1,v194)] fun v195 =>
 ST 4 (nth xs187 4) v195 H188 fun H196 =>
 BI .add (nth xs187 8) (.int .i64 1) fun v197 =>
 K186 [nth xs187 0,nth xs187 1,nth xs187 2,nth xs187 3,nth xs187 4,.int .i64 2,nth xs187 6,nth xs187 7,v197] H196 nx189)
 (BI .add (nth xs187 8) (.int .i64 1) fun v198 =>
 K186 [nth xs187 0,nth xs187 1,nth xs187 2,nth xs187 3,nth xs187 4,nth xs187 5,nth xs187 6,nth xs187 7,v198] H188 nx189))
 (PUTH H188 nx189 (.row 1 [.str [99,101,108,108],.str [108,101,102,116],.str [114,105,103,104,116],.str [97,115,107],.str [104,101,114,101],.str [103,111]]) fun H199 =>
 LNL (.slc nx189 0 6) fun v200 =>
 LP (zby Q) [nth xs187 0,nth xs187 1,nth xs187 2,nth xs187 3,nth xs187 4,nth xs187 5,.slc nx189 0 6,v200,.int .i64 0] H199 (nx189+1))
def zis (Q:QT) (nx:Nat) (v178:AV) (H179:Heap) (nx180:Nat):Prop :=
 BD (zl tab [(3,0),(3,1),(9,2),(88,3)]) [.int .i64 0,.int .i64 0,.str [],.nils] [(0,.int .i64 11),(2,v178)] fun v181 =>
 PUTH H179 nx180 (.row 4 [.int .i64 0,.int .i64 0,.str [],.nils]) fun H182 =>
 ST 4 (.ptr nx180 0) v181 H182 fun H183 =>
 PUTH H183 (nx180+1) (.row 1 [.str [43],.str [45],.str [42],.str [60],.str [61]]) fun H184 =>
 LNL (.slc (nx180+1) 0 5) fun v185 =>
 LP (zbx Q) [.ptr nx 0,.ptr (nx+1) 0,.ptr (nx+2) 0,v178,.ptr nx180 0,.int .i64 (-1),.slc (nx180+1) 0 5,v185,.int .i64 0] H184 (nx180+2)
def zba (Q:QT) (nx:Nat) (v13:AV) (H14:Heap) (nx15:Nat):Prop :=
 BI .eql v13 (.int .u8 39) fun v16 =>
 CNDC v16
 (LP (zbz Q) [.ptr nx 0,.ptr (nx+2) 0,.int .i64 1] H14 nx15)
 (BI .neq v13 (.int .u8 40) fun v100 =>
 CNDC v100
 (LD false 1 (.ptr nx 0) H14 fun v101 =>
 za Tryd.prog 49 [v101] H14 nx15 (zjz nx Q))
 (LDR false 1 (.ptr nx 0) H14 fun v162 _ =>
 LDR false 1 (.ptr nx 0) H14 fun v164 _ =>
 NC v164 fun v166 =>
 FA 0 v166 fun v167 =>
 LDR false 1 v167 H14 fun v168 _ =>
 SLS v168 (some (.int .i64 1)) none fun v170 =>
 NC v162 fun v171 =>
 FA 0 v171 fun v172 =>
 zag 1 v172 v170 H14 fun _ _ fr175 D176 =>
 LD false 1 (.ptr nx 0) (H14.apply D176) fun v177 =>
 za Tryd.prog 49 [v177] (H14.apply D176) (nx15+fr175.length) (zis Q nx)))
def zcp (nx:Nat) (Q:QT) (v6:AV) (H7:Heap) (nx8:Nat):Prop :=
 UO .not v6 fun v9 =>
 CNDC v9
 (ST 4 (.ptr (nx+2) 0) (.agg [.int .i64 0,.int .i64 0,.str [],.nils]) H7 fun H10 =>
 LD true 4 (.ptr (nx+2) 0) H10 fun v11 =>
 Q v11 H10 nx8)
 (LD false 1 (.ptr nx 0) H7 fun v12 =>
 za Tryd.prog 27 [v12] H7 nx8 (zba Q nx))
def zfs (a0 a1:AV) (H:Heap) (nx:Nat) (Q:QT):Prop :=
 a0.sure=true ∧
 PUTH H nx (.row a0.cells.length a0.cells) fun H1 =>
 a1.sure=true ∧
 PUTH H1 (nx+1) (.row a1.cells.length a1.cells) fun H2 =>
 PUTH H2 (nx+2) (.row 4 [.int .i64 0,.int .i64 0,.str [],.nils]) fun H3 =>
 LD false 1 (.ptr nx 0) H3 fun v4 =>
 LD false 1 (.ptr (nx+1) 0) H3 fun v5 =>
 za Tryd.prog 68 [v4,v5] H3 (nx+3) (zcp nx Q)
theorem zgn (a0 a1:AV) (H:Heap) (nx:Nat) (Q:QT):zfs a0 a1 H nx Q→za Tryd.prog 69 [a0,a1] H nx Q :=
  zg (lv:=lvOf [(0,6,[2,4,6,42]),(2,6,[2,4,6]),(2,32,[2,3,4,11,12,13,132,133,134]),(2,38,[2,3,4,11,12,13,146,147,148]),(3,45,[2,3,4,12,13])]) (c:=zq Tryd.f69) zz zab mixed Tryd.func69 (by kernel_rfl) (by kernel_rfl) (by kernel_rfl) (by kernel_rfl) (by kernel_rfl)
def zfr (H41:Heap) (nx42:Nat) (v45:AV) (xs40:List AV) (v44:AV) (rd46:List Nat) (K39:J3) (v48:AV) (_:List Nat) (fr50:List Nat) (D51:zi):Prop :=
 BSL 1 4 [.int .i64 0,.int .i64 0,.str [],.nils] [(0,v48)] fun cells52 =>
 PUTH (H41.apply D51) (nx42+fr50.length) (.row 4 cells52) fun H53 =>
 zad 4 56 v45 (.slc (nx42+fr50.length) 0 1) H53 ((nx42+fr50.length)+1) fun v54 _ fr56 D57 =>
 FA 2 (nth xs40 4) fun v58 =>
 zag 1 v58 v54 (H53.apply D57) fun _ _ fr61 D62 =>
 zb (domD D51) [] (
 SOFT v44 v45 D51 rd46 (
 (nx42+fr50.length)∉[] ∧
 (nx42+fr50.length)∉rd46 ∧
 BI .add (nth xs40 6) (.int .i64 1) fun v63 =>
 K39 [nth xs40 0,nth xs40 1,nth xs40 2,nth xs40 3,nth xs40 4,nth xs40 5,v63] ((H53.apply D57).apply D62) ((((nx42+fr50.length)+1)+fr56.length)+fr61.length)))
def zda (xs40:List AV) (Q:QT) (_:AV) (H84:Heap) (nx85:Nat):Prop :=
 LD true 5 (nth xs40 4) H84 fun v86 =>
 ST 5 (nth xs40 2) v86 H84 fun H87 =>
 LD true 5 (nth xs40 2) H87 fun v88 =>
 Q v88 H87 nx85
def zjw (xs40:List AV) (Q:QT) (v78:AV) (H79:Heap) (nx80:Nat):Prop :=
 FA 4 (nth xs40 4) fun v81 =>
 ST 1 v81 v78 H79 fun H82 =>
 za Tryd.prog 28 [nth xs40 0,.int .u8 41] H82 nx80 (zda xs40 Q)
def zjv (xs40:List AV) (Q:QT) (_:AV) (H75:Heap) (nx76:Nat):Prop :=
 BI .add (nth xs40 1) (.int .i64 1) fun v77 =>
 za Tryd.prog 32 [nth xs40 0,v77] H75 nx76 (zjw xs40 Q)
def zju (xs40:List AV) (Q:QT) (v69:AV) (H70:Heap) (nx71:Nat):Prop :=
 FA 3 (nth xs40 4) fun v72 =>
 ST 1 v72 v69 H70 fun H73 =>
 za Tryd.prog 28 [nth xs40 0,.int .u8 40] H73 nx71 (zjv xs40 Q)
def zjt (xs40:List AV) (Q:QT) (_:AV) (H66:Heap) (nx67:Nat):Prop :=
 BI .add (nth xs40 1) (.int .i64 1) fun v68 =>
 za Tryd.prog 32 [nth xs40 0,v68] H66 nx67 (zju xs40 Q)
def zjs (xs40:List AV) (Q:QT) (v91:AV) (H92:Heap) (nx93:Nat):Prop :=
 FA 3 (nth xs40 4) fun v94 =>
 ST 1 v94 v91 H92 fun H95 =>
 LD true 5 (nth xs40 4) H95 fun v96 =>
 ST 5 (nth xs40 2) v96 H95 fun H97 =>
 LD true 5 (nth xs40 2) H97 fun v98 =>
 Q v98 H97 nx93
def zan (Q:QT) (K39:J3) (xs40:List AV) (H41:Heap) (nx42:Nat):Prop :=
 BI .lss (nth xs40 6) (nth xs40 5) fun v43 =>
 CNDC v43
 (FA 2 (nth xs40 4) fun v44 =>
 LDR false 1 v44 H41 fun v45 rd46 =>
 BI .add (nth xs40 1) (.int .i64 1) fun v47 =>
 zm Tryd.prog (.clo 69 []) [nth xs40 0,v47] H41 nx42 (zfr H41 nx42 v45 xs40 v44 rd46 K39))
 (BI .eql (nth xs40 3) (.int .i64 3) fun v64 =>
 CNDC v64
 (za Tryd.prog 28 [nth xs40 0,.int .u8 40] H41 nx42 (zjt xs40 Q))
 (BI .eql (nth xs40 3) (.int .i64 4) fun v89 =>
 CNDC v89
 (BI .add (nth xs40 1) (.int .i64 1) fun v90 =>
 za Tryd.prog 32 [nth xs40 0,v90] H41 nx42 (zjs xs40 Q))
 (za Tryd.prog 28 [nth xs40 0,.int .u8 41] H41 nx42 (zda xs40 Q))))
def zcz (xs28:List AV) (j35:J3) (v106:AV) (H107:Heap) (nx108:Nat):Prop :=
 FA 1 (nth xs28 4) fun v109 =>
 ST 1 v109 v106 H107 fun H110 =>
 j35 [nth xs28 0,nth xs28 1,nth xs28 2,nth xs28 3,nth xs28 4] H110 nx108
def zdb (Q:QT) (xs32:List AV) (H33:Heap) (nx34:Nat):Prop :=
 PUTH H33 nx34 (.row 1 [.int .i64 0,.int .i64 1,.int .i64 1,.int .i64 1,.int .i64 1,.int .i64 1,.int .i64 1,.int .i64 2,.int .i64 2,.int .i64 1]) fun H36 =>
 IA 1 (.slc nx34 0 10) (nth xs32 3) fun v37 =>
 LD false 1 v37 H36 fun v38 =>
 LP (zan Q) [nth xs32 0,nth xs32 1,nth xs32 2,nth xs32 3,nth xs32 4,v38,.int .i64 0] H36 (nx34+1)
def zdc (xs28:List AV) (H29:Heap) (nx30:Nat) (j35:J3):Prop :=
 BI .eql (nth xs28 3) (.int .i64 1) fun v105 =>
 CND v105
 (za Tryd.prog 29 [nth xs28 0] H29 nx30 (zcz xs28 j35))
 (BI .eql (nth xs28 3) (.int .i64 2) fun v111 =>
 CNDC v111
 (za Tryd.prog 29 [nth xs28 0] H29 nx30 (zcz xs28 j35))
 (j35 [nth xs28 0,nth xs28 1,nth xs28 2,nth xs28 3,nth xs28 4] H29 nx30))
def zjr (j31:J3) (a0:AV) (a1:AV) (nx:Nat) (v24:AV) (nx13:Nat) (v118:AV) (H119:Heap) (nx120:Nat):Prop :=
 j31 [a0,a1,AV.ptr nx 0,v24,AV.ptr (nx13+1) 0] H119 nx120
def zbv (Q:QT) (xs28:List AV) (H29:Heap) (nx30:Nat):Prop :=
 JN (zdb Q) (zdc xs28 H29 nx30)
def zbw (v24:AV) (a0:AV) (H27:Heap) (nx13:Nat) (a1:AV) (nx:Nat) (j31:J3):Prop :=
 BI .eql v24 (.int .i64 0) fun v117 =>
 CNDC v117
 (za Tryd.prog 48 [a0,.int .i64 1] H27 (nx13+2) (zjr j31 a0 a1 nx v24 nx13))
 (j31 [a0,a1,.ptr nx 0,v24,.ptr (nx13+1) 0] H27 (nx13+2))
def zep (Q:QT) (a0:AV) (a1:AV) (nx:Nat) (v11:AV) (H12:Heap) (nx13:Nat):Prop :=
 PUTH H12 nx13 (.mp []) fun H14 =>
 zn (AK.str) (.str [108,101,116])=true ∧
 MU (.amap nx13) (.str [108,101,116]) (.int .i64 1) H14 fun H15 =>
 zn (AK.str) (.str [115,101,116])=true ∧
 MU (.amap nx13) (.str [115,101,116]) (.int .i64 2) H15 fun H16 =>
 zn (AK.str) (.str [105,102])=true ∧
 MU (.amap nx13) (.str [105,102]) (.int .i64 3) H16 fun H17 =>
 zn (AK.str) (.str [119,104,105,108,101])=true ∧
 MU (.amap nx13) (.str [119,104,105,108,101]) (.int .i64 4) H17 fun H18 =>
 zn (AK.str) (.str [115,97,121])=true ∧
 MU (.amap nx13) (.str [115,97,121]) (.int .i64 5) H18 fun H19 =>
 zn (AK.str) (.str [114,101,116,117,114,110])=true ∧
 MU (.amap nx13) (.str [114,101,116,117,114,110]) (.int .i64 6) H19 fun H20 =>
 zn (AK.str) (.str [112,117,116,108])=true ∧
 MU (.amap nx13) (.str [112,117,116,108]) (.int .i64 7) H20 fun H21 =>
 zn (AK.str) (.str [112,117,116,114])=true ∧
 MU (.amap nx13) (.str [112,117,116,114]) (.int .i64 8) H21 fun H22 =>
 zn (AK.str) (.str [100,111])=true ∧
 MU (.amap nx13) (.str [100,111]) (.int .i64 9) H22 fun H23 =>
 zn (AK.str) v11=true ∧
 LK [.int .i64 0] false (.amap nx13) v11 false H23 fun v24 =>
 BD (zl tab [(3,0),(9,1),(88,2),(41,3),(41,4)]) [.int .i64 0,.str [],.nils,.nils,.nils] [(0,v24)] fun v25 =>
 PUTH H23 (nx13+1) (.row 5 [.int .i64 0,.str [],.nils,.nils,.nils]) fun H26 =>
 ST 5 (.ptr (nx13+1) 0) v25 H26 fun H27 =>
 JN (zbv Q) (zbw v24 a0 H27 nx13 a1 nx)
def zir (a0:AV) (Q:QT) (a1:AV) (nx:Nat) (v8:AV) (H9:Heap) (nx10:Nat):Prop :=
 za Tryd.prog 49 [a0] H9 nx10 (zep Q a0 a1 nx)
def zco (nx:Nat) (Q:QT) (a0:AV) (a1:AV) (v2:AV) (H3:Heap) (nx4:Nat):Prop :=
 UO .not v2 fun v5 =>
 CNDC v5
 (ST 5 (.ptr nx 0) (.agg [.int .i64 0,.str [],.nils,.nils,.nils]) H3 fun H6 =>
 LD true 5 (.ptr nx 0) H6 fun v7 =>
 Q v7 H6 nx4)
 (za Tryd.prog 28 [a0,.int .u8 40] H3 nx4 (zir a0 Q a1 nx))
def zfq (a0 a1:AV) (H:Heap) (nx:Nat) (Q:QT):Prop :=
 PUTH H nx (.row 5 [.int .i64 0,.str [],.nils,.nils,.nils]) fun H1 =>
 za Tryd.prog 68 [a0,a1] H1 (nx+1) (zco nx Q a0 a1)
theorem zgm (a0 a1:AV) (H:Heap) (nx:Nat) (Q:QT):zfq a0 a1 H nx Q→za Tryd.prog 51 [a0,a1] H nx Q :=
  zg (lv:=lvOf [(2,12,[0,1,4,6,7,39,40]),(3,9,[0,1,4,6,7]),(3,11,[0,1,4,6,7])]) (c:=zq Tryd.f51) zz zab mixed Tryd.func51 (by kernel_rfl) (by kernel_rfl) (by kernel_rfl) (by kernel_rfl) (by kernel_rfl)
def zdn (v1:AV) (H:Heap) (nx:Nat) (a0:AV) (rd2:List Nat) (rd4:List Nat) (rd6:List Nat) (Q:QT) (v7:AV) (rd8:List Nat) (fr9:List Nat) (D10:zi):Prop :=
 LNL v1 fun v11 =>
 PUTH (H.apply D10) (nx+fr9.length) (.row 5 [.int .i64 0,.str [],.nils,.nils,.nils]) fun H12 =>
 zad 5 96 v1 (.slc (nx+fr9.length) 0 1) H12 ((nx+fr9.length)+1) fun v13 _ fr15 D16 =>
 IA 5 v13 v11 fun v17 =>
 zag 5 v17 v7 (H12.apply D16) fun _ rd19 fr20 D21 =>
 zag 1 a0 v13 ((H12.apply D16).apply D21) fun _ rd23 fr24 D25 =>
 SOFT a0 v1 D10 rd2 (
 zb (domD D10) [] (
 zb (domD D10) [] (
 (nx+fr9.length)∉rd2 ∧
 (nx+fr9.length)∉rd4 ∧
 (nx+fr9.length)∉rd6 ∧
 zb (domD D10) [] (
 zb (domD D10) [(nx+fr9.length)] (
 (nx+fr9.length)∉rd8 ∧
 (nx+fr9.length)∉[] ∧
 zb (domD D25) [] (
 zb (domD D21) rd23 (
 zb (domD D21) (domD D25) (
 zb (domD D25) rd19 (
 Q (.tup []) (((H12.apply D16).apply D21).apply D25) (((((nx+fr9.length)+1)+fr15.length)+fr20.length)+fr24.length))))))))))
def zdm (a0 a1 a2:AV) (H:Heap) (nx:Nat) (Q:QT):Prop :=
 LDR false 1 a0 H fun v1 rd2 =>
 LDR false 1 a1 H fun v3 rd4 =>
 LDR false 1 a2 H fun v5 rd6 =>
 zm Tryd.prog (.clo 51 []) [v3,v5] H nx (zdn v1 H nx a0 rd2 rd4 rd6 Q)
theorem zlc (a0 a1 a2:AV) (H:Heap) (nx:Nat) (Q:QT):zdm a0 a1 a2 H nx Q→za Tryd.prog 50 [a0,a1,a2] H nx Q :=
  zg (lv:=lvOf []) (c:=zq Tryd.f50) zz zab mixed Tryd.func50 (by kernel_rfl) (by kernel_rfl) (by kernel_rfl) (by kernel_rfl) (by kernel_rfl)
def zdw (v2:AV) (H:Heap) (nx:Nat) (a0:AV) (v1:AV) (rd3:List Nat) (rd5:List Nat) (rd7:List Nat) (Q:QT) (v9:AV) (rd10:List Nat) (fr11:List Nat) (D12:zi):Prop :=
 LNL v2 fun v13 =>
 PUTH (H.apply D12) (nx+fr11.length) (.row 4 [.int .i64 0,.int .i64 0,.str [],.nils]) fun H14 =>
 zad 4 56 v2 (.slc (nx+fr11.length) 0 1) H14 ((nx+fr11.length)+1) fun v15 _ fr17 D18 =>
 IA 4 v15 v13 fun v19 =>
 zag 4 v19 v9 (H14.apply D18) fun _ rd21 fr22 D23 =>
 FA 3 a0 fun v24 =>
 zag 1 v24 v15 ((H14.apply D18).apply D23) fun _ rd26 fr27 D28 =>
 zb (domD D12) [] (
 SOFT v1 v2 D12 rd3 (
 zb (domD D12) [] (
 zb (domD D12) [] (
 (nx+fr11.length)∉[] ∧
 (nx+fr11.length)∉rd3 ∧
 (nx+fr11.length)∉rd5 ∧
 (nx+fr11.length)∉rd7 ∧
 (nx+fr11.length)∉[] ∧
 zb (domD D12) [] (
 zb (domD D12) [(nx+fr11.length)] (
 (nx+fr11.length)∉rd10 ∧
 (nx+fr11.length)∉[] ∧
 zb (domD D23) [] (
 zb (domD D23) [] (
 zb (domD D28) [] (
 zb (domD D23) rd26 (
 zb (domD D23) (domD D28) (
 zb (domD D28) rd21 (
 Q (.tup []) (((H14.apply D18).apply D23).apply D28) (((((nx+fr11.length)+1)+fr17.length)+fr22.length)+fr27.length)))))))))))))
def zdv (a0 a1 a2:AV) (H:Heap) (nx:Nat) (Q:QT):Prop :=
 FA 3 a0 fun v1 =>
 LDR false 1 v1 H fun v2 rd3 =>
 LDR false 1 a1 H fun v4 rd5 =>
 LDR false 1 a2 H fun v6 rd7 =>
 BI .add v6 (.int .i64 1) fun v8 =>
 zm Tryd.prog (.clo 69 []) [v4,v8] H nx (zdw v2 H nx a0 v1 rd3 rd5 rd7 Q)
theorem zlo (a0 a1 a2:AV) (H:Heap) (nx:Nat) (Q:QT):zdv a0 a1 a2 H nx Q→za Tryd.prog 81 [a0,a1,a2] H nx Q :=
  zg (lv:=lvOf []) (c:=zq Tryd.f81) zz zab mixed Tryd.func81 (by kernel_rfl) (by kernel_rfl) (by kernel_rfl) (by kernel_rfl) (by kernel_rfl)
def zem (H:Heap) (nx:Nat) (v2:AV) (a0:AV) (v1:AV) (rd3:List Nat) (Q:QT) (v6:AV) (_:List Nat) (fr8:List Nat) (D9:zi):Prop :=
 BSL 1 1 [.str []] [(0,v6)] fun cells10 =>
 PUTH (H.apply D9) (nx+fr8.length) (.row 1 cells10) fun H11 =>
 zad 1 16 v2 (.slc (nx+fr8.length) 0 1) H11 ((nx+fr8.length)+1) fun v12 _ fr14 D15 =>
 FA 1 a0 fun v16 =>
 zag 1 v16 v12 (H11.apply D15) fun _ _ fr19 D20 =>
 zb (domD D9) [] (
 SOFT v1 v2 D9 rd3 (
 (nx+fr8.length)∉[] ∧
 (nx+fr8.length)∉rd3 ∧
 Q (.tup []) ((H11.apply D15).apply D20) ((((nx+fr8.length)+1)+fr14.length)+fr19.length)))
def zel (a0 a1:AV) (H:Heap) (nx:Nat) (Q:QT):Prop :=
 FA 1 a0 fun v1 =>
 LDR false 1 v1 H fun v2 rd3 =>
 LDR false 1 a1 H fun v4 _ =>
 zm Tryd.prog (.clo 29 []) [v4] H nx (zem H nx v2 a0 v1 rd3 Q)
theorem zml (a0 a1:AV) (H:Heap) (nx:Nat) (Q:QT):zel a0 a1 H nx Q→za Tryd.prog 31 [a0,a1] H nx Q :=
  zg (lv:=lvOf []) (c:=zq Tryd.f31) zz zab mixed Tryd.func31 (by kernel_rfl) (by kernel_rfl) (by kernel_rfl) (by kernel_rfl) (by kernel_rfl)
end Go.Proofs.YtpllgpgdcbgalaaDoor
set_option maxRecDepth 8000
namespace Go.Proofs.YtpllgpgdcbgalaaDoor
open Go Go.RowKit
end Go.Proofs.YtpllgpgdcbgalaaDoor
set_option maxRecDepth 8000
namespace Go.Proofs.YtpllgpgdcbgalaaDoor
open Go Go.RowKit
end Go.Proofs.YtpllgpgdcbgalaaDoor
