/- DERIVED: THE SHELF's CONTRACTS AT THIS DUMP, IN PLAIN WORDS (tools/lay-plain.mjs out of 'YtpllgpgdcbgalaaDoorShelf0.lean', which tools/lay-shelf.mjs wrote): THE SAME DECLARATIONS UNDER THE SAME NAMES: 'import', 'namespace', 'open', 'def', 'theorem' AND NOTHING ELSE: no command of the shelf's: FOR A HAND-IN. Each laying: the table of numbers ('.._ren') and one theorem, a field a fact of the dump's own or the kernel's comparison; each contract: ONE APPLICATION. strconv.Itoa: a number's digits. strconv.Atoi: a word's number, and whether it is one. The parser's small functions. The parser's names and words. The parser: up to a bracket. The parser as plain functions of its state: the text that is left, and what was wrong first. The parser: statements as plain functions; up to a bracket, as a plain function. A call that changes what it is handed by address, where the order is drawn. A call that changes what it is handed by address, where the order is drawn: what it leaves names no more than what was there named. The parser's expressions: one more behind those that are there. The parser's expressions: texts, numbers and names. Rows that are read: by value, or owned. -/
import Derived.Shelf.Small.Strs
import Derived.Shelf.Strconv.Atoi
import Derived.Shelf.Strconv.Itoa0
import Derived.Shelf.Strconv.Itoa1
import Derived.Shelf.LaysM
import Derived.Shelf.Strconv.Itoa2
import Derived.Shelf.Strconv.Itoa3
import Derived.Shelf.Strconv.AtoiErrFast
import Derived.Shelf.Strconv.ParseIntEmpty
import Derived.Shelf.Strconv.AtoiFail
import Derived.Shelf.Strconv.Clone
import Derived.Shelf.Strconv.SyntaxError
import Derived.Shelf.LaysC
import Derived.Shelf.Strconv.ToError
import Derived.Shelf.Strconv.Lower
import Derived.Shelf.Strconv.ParseUint10
import Derived.Shelf.Strconv.ParseUint10Empty
import Derived.Shelf.Strconv.ParseUint10Any
import Derived.Shelf.Strconv.ParseInt10
import Derived.Shelf.Strconv.AtoiLong
import Derived.Shelf.Strconv.AtoiInnerAll
import Derived.Shelf.Strconv.RangeError
import Derived.Shelf.Strconv.ToErrorRange
import Derived.Shelf.Strconv.AtoiAll
import Derived.Shelf.Strconv.ErrVarAll
import Derived.Shelf.Strings.Search1
import Derived.Shelf.Strings.Search2
import Derived.Shelf.Strings.Search3
import Derived.Shelf.Strings.Shaped
import Derived.Ground.Names2Prog
import Derived.Test.YtpllgpgdcbgalaaDoorProg
import Derived.Test.YtpllgpgdcbgalaaDoorG5
import Derived.Lib.ItoaLen
import Derived.Test.YtpllgpgdcbgalaaDoorG7
import Derived.Test.YtpllgpgdcbgalaaDoorG6
set_option linter.unusedSimpArgs false
set_option linter.unusedVariables false
namespace Go.Proofs
open Go.Shelf
def Tryd.laysM171_ren:Go.Shelf.Ren:=⟨fun | 171=>80 | 243=>95 | 246=>104 | 283=>108 | 284=>109 | 285=>110 | 286=>111 | 129=>115 | 317=>114 | 318=>116 | 319=>117 | 320=>118 | 337=>119 | 338=>120 | n=>n,fun | 3=>3 | 9=>9 | 2=>2 | 4=>4 | 171=>153 | 0=>0 | 53=>146 | 37=>139 | 5=>5 | 173=>156 | 212=>164 | 51=>135 | 20=>20 | 213=>165 | 46=>133 | 232=>168 | 233=>169 | n=>n,fun | 17=>3 | 18=>4 | 19=>5 | n=>n⟩
theorem Tryd.laysM171:Go.Proofs.LaysM.n171 Tryd.prog Tryd.laysM171_ren:={
  mixed:=by kernel_rfl
  f129:=Tryd.func115.trans (congrArg some (by kernel_rfl))
  f171:=Tryd.func80.trans (congrArg some (by kernel_rfl))
  f243:=Tryd.func95.trans (congrArg some (by kernel_rfl))
  f246:=Tryd.func104.trans (congrArg some (by kernel_rfl))
  f283:=Tryd.func108.trans (congrArg some (by kernel_rfl))
  f284:=Tryd.func109.trans (congrArg some (by kernel_rfl))
  f285:=Tryd.func110.trans (congrArg some (by kernel_rfl))
  f286:=Tryd.func111.trans (congrArg some (by kernel_rfl))
  f317:=Tryd.func114.trans (congrArg some (by kernel_rfl))
  f318:=Tryd.func116.trans (congrArg some (by kernel_rfl))
  f319:=Tryd.func117.trans (congrArg some (by kernel_rfl))
  f320:=Tryd.func118.trans (congrArg some (by kernel_rfl))
  f337:=Tryd.func119.trans (congrArg some (by kernel_rfl))
  f338:=Tryd.func120.trans (congrArg some (by kernel_rfl))
  t0:=Tryd.underlying0
  a0:=Tryd.isAgg0
  z0:=Tryd.sizeOf0
  v0:=Tryd.zeroValue0
  t2:=Tryd.underlying2
  a2:=Tryd.isAgg2
  z2:=Tryd.sizeOf2
  v2:=Tryd.zeroValue2
  t3:=Tryd.underlying3
  a3:=Tryd.isAgg3
  z3:=Tryd.sizeOf3
  v3:=Tryd.zeroValue3
  t4:=Tryd.underlying4
  a4:=Tryd.isAgg4
  z4:=Tryd.sizeOf4
  v4:=Tryd.zeroValue4
  t5:=Tryd.underlying5
  a5:=Tryd.isAgg5
  z5:=Tryd.sizeOf5
  v5:=Tryd.zeroValue5
  t9:=Tryd.underlying9
  a9:=Tryd.isAgg9
  z9:=Tryd.sizeOf9
  v9:=Tryd.zeroValue9
  t20:=Tryd.underlying20
  a20:=Tryd.isAgg20
  z20:=Tryd.sizeOf20
  v20:=Tryd.zeroValue20
  t37:=Tryd.underlying139
  a37:=Tryd.isAgg139
  z37:=Tryd.sizeOf139
  v37:=Tryd.zeroValue139
  t46:=Tryd.underlying133
  a46:=Tryd.isAgg133
  z46:=Tryd.sizeOf133
  v46:=Tryd.zeroValue133
  t51:=Tryd.underlying135
  a51:=Tryd.isAgg135
  z51:=Tryd.sizeOf135
  v51:=Tryd.zeroValue135
  t53:=Tryd.underlying146
  a53:=Tryd.isAgg146
  z53:=Tryd.sizeOf146
  v53:=Tryd.zeroValue146
  t171:=Tryd.underlying153
  a171:=Tryd.isAgg153
  z171:=Tryd.sizeOf153
  v171:=Tryd.zeroValue153
  t173:=Tryd.underlying156
  a173:=Tryd.isAgg156
  z173:=Tryd.sizeOf156
  v173:=Tryd.zeroValue156
  t212:=Tryd.underlying164
  a212:=Tryd.isAgg164
  z212:=Tryd.sizeOf164
  v212:=Tryd.zeroValue164
  t213:=Tryd.underlying165
  a213:=Tryd.isAgg165
  z213:=Tryd.sizeOf165
  t232:=Tryd.underlying168
  a232:=Tryd.isAgg168
  z232:=Tryd.sizeOf168
  v232:=Tryd.zeroValue168
  t233:=Tryd.underlying169
  a233:=Tryd.isAgg169
  z233:=Tryd.sizeOf169
  v233:=Tryd.zeroValue169
  g17:=by kernel_rfl
  g18:=by kernel_rfl
  g19:=by kernel_rfl
  i0:=by kernel_rfl
  i2:=by kernel_rfl
  i3:=by kernel_rfl
  i4:=by kernel_rfl
  i5:=by kernel_rfl
  i9:=by kernel_rfl
  i20:=by kernel_rfl
  i37:=by kernel_rfl
  i46:=by kernel_rfl
  i51:=by kernel_rfl
  i53:=by kernel_rfl
  i171:=by kernel_rfl
  i173:=by kernel_rfl
  i212:=by kernel_rfl
  i232:=by kernel_rfl
  i233:=by kernel_rfl
  m17:=by kernel_rfl
  m18:=by kernel_rfl
  m19:=by kernel_rfl }
open Go.RowKit Go.Sort Go.Lib in
theorem Tryd.strconv_Itoa (n:Int) (h0 : -9223372036854775808≤n) (h1:n≤9223372036854775807) (w:World) (htab:Lib.TabIs Tryd.prog w "internal/strconv.uint64pow10" .u64 Lib.pow10Tab) :
    Calls Tryd.prog 80 #[.int .i64 n] w fun e w'=>e=.returned (.string ⟨(Lib.itoa n).toArray⟩)∧∃ k os,w'=grow (w.drewN k) os:=Any.strconv_Itoa Tryd.laysM171 n h0 h1 w htab
def Tryd.laysC172_ren:Go.Shelf.Ren:=⟨fun | 172=>79 | 244=>93 | 245=>94 | 247=>99 | 279=>100 | 280=>101 | 281=>102 | 282=>103 | 287=>105 | 316=>106 | 171=>80 | 205=>107 | 321=>112 | 322=>113 | 243=>95 | 246=>104 | 283=>108 | 284=>109 | 285=>110 | 286=>111 | 129=>115 | 317=>114 | 318=>116 | 319=>117 | 320=>118 | 337=>119 | 338=>120 | n=>n,fun | 9=>9 | 3=>3 | 75=>120 | 76=>121 | 4=>4 | 5=>5 | 167=>138 | 37=>139 | 0=>0 | 85=>140 | 2=>2 | 168=>142 | 53=>146 | 175=>147 | 46=>133 | 210=>151 | 127=>159 | 145=>162 | 143=>160 | 21=>21 | 171=>153 | 173=>156 | 212=>164 | 51=>135 | 20=>20 | 213=>165 | 232=>168 | 233=>169 | 80=>53 | n=>n,fun | 15=>1 | 16=>2 | 17=>3 | 18=>4 | 19=>5 | n=>n⟩
theorem Tryd.laysC172:Go.Proofs.LaysC.n172 Tryd.prog Tryd.laysC172_ren:={
  mixed:=by kernel_rfl
  f129:=Tryd.func115.trans (congrArg some (by kernel_rfl))
  f171:=Tryd.func80.trans (congrArg some (by kernel_rfl))
  f172:=Tryd.func79.trans (congrArg some (by kernel_rfl))
  f205:=Tryd.func107.trans (congrArg some (by kernel_rfl))
  f243:=Tryd.func95.trans (congrArg some (by kernel_rfl))
  f244:=Tryd.func93.trans (congrArg some (by kernel_rfl))
  f245:=Tryd.func94.trans (congrArg some (by kernel_rfl))
  f246:=Tryd.func104.trans (congrArg some (by kernel_rfl))
  f247:=Tryd.func99.trans (congrArg some (by kernel_rfl))
  f279:=Tryd.func100.trans (congrArg some (by kernel_rfl))
  f280:=Tryd.func101.trans (congrArg some (by kernel_rfl))
  f281:=Tryd.func102.trans (congrArg some (by kernel_rfl))
  f282:=Tryd.func103.trans (congrArg some (by kernel_rfl))
  f283:=Tryd.func108.trans (congrArg some (by kernel_rfl))
  f284:=Tryd.func109.trans (congrArg some (by kernel_rfl))
  f285:=Tryd.func110.trans (congrArg some (by kernel_rfl))
  f286:=Tryd.func111.trans (congrArg some (by kernel_rfl))
  f287:=Tryd.func105.trans (congrArg some (by kernel_rfl))
  f316:=Tryd.func106.trans (congrArg some (by kernel_rfl))
  f317:=Tryd.func114.trans (congrArg some (by kernel_rfl))
  f318:=Tryd.func116.trans (congrArg some (by kernel_rfl))
  f319:=Tryd.func117.trans (congrArg some (by kernel_rfl))
  f320:=Tryd.func118.trans (congrArg some (by kernel_rfl))
  f321:=Tryd.func112.trans (congrArg some (by kernel_rfl))
  f322:=Tryd.func113.trans (congrArg some (by kernel_rfl))
  f337:=Tryd.func119.trans (congrArg some (by kernel_rfl))
  f338:=Tryd.func120.trans (congrArg some (by kernel_rfl))
  t0:=Tryd.underlying0
  a0:=Tryd.isAgg0
  z0:=Tryd.sizeOf0
  v0:=Tryd.zeroValue0
  t2:=Tryd.underlying2
  a2:=Tryd.isAgg2
  z2:=Tryd.sizeOf2
  v2:=Tryd.zeroValue2
  t3:=Tryd.underlying3
  a3:=Tryd.isAgg3
  z3:=Tryd.sizeOf3
  v3:=Tryd.zeroValue3
  t4:=Tryd.underlying4
  a4:=Tryd.isAgg4
  z4:=Tryd.sizeOf4
  v4:=Tryd.zeroValue4
  t5:=Tryd.underlying5
  a5:=Tryd.isAgg5
  z5:=Tryd.sizeOf5
  v5:=Tryd.zeroValue5
  t9:=Tryd.underlying9
  a9:=Tryd.isAgg9
  z9:=Tryd.sizeOf9
  v9:=Tryd.zeroValue9
  t20:=Tryd.underlying20
  a20:=Tryd.isAgg20
  z20:=Tryd.sizeOf20
  v20:=Tryd.zeroValue20
  t21:=Tryd.underlying21
  a21:=Tryd.isAgg21
  z21:=Tryd.sizeOf21
  v21:=Tryd.zeroValue21
  t37:=Tryd.underlying139
  a37:=Tryd.isAgg139
  z37:=Tryd.sizeOf139
  v37:=Tryd.zeroValue139
  t46:=Tryd.underlying133
  a46:=Tryd.isAgg133
  z46:=Tryd.sizeOf133
  v46:=Tryd.zeroValue133
  t51:=Tryd.underlying135
  a51:=Tryd.isAgg135
  z51:=Tryd.sizeOf135
  v51:=Tryd.zeroValue135
  t53:=Tryd.underlying146
  a53:=Tryd.isAgg146
  z53:=Tryd.sizeOf146
  v53:=Tryd.zeroValue146
  t75:=Tryd.underlying120
  a75:=Tryd.isAgg120
  z75:=Tryd.sizeOf120
  v75:=Tryd.zeroValue120
  t76:=Tryd.underlying121
  a76:=Tryd.isAgg121
  z76:=Tryd.sizeOf121
  v76:=Tryd.zeroValue121
  t85:=Tryd.underlying140
  a85:=Tryd.isAgg140
  z85:=Tryd.sizeOf140
  v85:=Tryd.zeroValue140
  t127:=Tryd.underlying159
  a127:=Tryd.isAgg159
  z127:=Tryd.sizeOf159
  v127:=Tryd.zeroValue159
  t143:=Tryd.underlying160
  a143:=Tryd.isAgg160
  z143:=Tryd.sizeOf160
  v143:=Tryd.zeroValue160
  t145:=Tryd.underlying162
  a145:=Tryd.isAgg162
  z145:=Tryd.sizeOf162
  v145:=Tryd.zeroValue162
  t167:=Tryd.underlying138
  a167:=Tryd.isAgg138
  z167:=Tryd.sizeOf138
  v167:=Tryd.zeroValue138
  t168:=Tryd.underlying142
  a168:=Tryd.isAgg142
  z168:=Tryd.sizeOf142
  v168:=Tryd.zeroValue142
  t171:=Tryd.underlying153
  a171:=Tryd.isAgg153
  z171:=Tryd.sizeOf153
  v171:=Tryd.zeroValue153
  t173:=Tryd.underlying156
  a173:=Tryd.isAgg156
  z173:=Tryd.sizeOf156
  v173:=Tryd.zeroValue156
  t175:=Tryd.underlying147
  a175:=Tryd.isAgg147
  z175:=Tryd.sizeOf147
  v175:=Tryd.zeroValue147
  t210:=Tryd.underlying151
  a210:=Tryd.isAgg151
  z210:=Tryd.sizeOf151
  v210:=Tryd.zeroValue151
  t212:=Tryd.underlying164
  a212:=Tryd.isAgg164
  z212:=Tryd.sizeOf164
  v212:=Tryd.zeroValue164
  t213:=Tryd.underlying165
  a213:=Tryd.isAgg165
  z213:=Tryd.sizeOf165
  t232:=Tryd.underlying168
  a232:=Tryd.isAgg168
  z232:=Tryd.sizeOf168
  v232:=Tryd.zeroValue168
  t233:=Tryd.underlying169
  a233:=Tryd.isAgg169
  z233:=Tryd.sizeOf169
  v233:=Tryd.zeroValue169
  g15:=by kernel_rfl
  g16:=by kernel_rfl
  g17:=by kernel_rfl
  g18:=by kernel_rfl
  g19:=by kernel_rfl
  t80:=Tryd.underlying53
  a80:=Tryd.isAgg53
  z80:=Tryd.sizeOf53
  v80:=Tryd.zeroValue53
  i0:=by kernel_rfl
  i2:=by kernel_rfl
  i3:=by kernel_rfl
  i4:=by kernel_rfl
  i5:=by kernel_rfl
  i9:=by kernel_rfl
  i20:=by kernel_rfl
  i21:=by kernel_rfl
  i37:=by kernel_rfl
  i46:=by kernel_rfl
  i51:=by kernel_rfl
  i53:=by kernel_rfl
  i75:=by kernel_rfl
  i76:=by kernel_rfl
  i80:=by kernel_rfl
  i85:=by kernel_rfl
  i127:=by kernel_rfl
  i143:=by kernel_rfl
  i145:=by kernel_rfl
  i167:=by kernel_rfl
  i168:=by kernel_rfl
  i171:=by kernel_rfl
  i173:=by kernel_rfl
  i175:=by kernel_rfl
  i210:=by kernel_rfl
  i212:=by kernel_rfl
  i232:=by kernel_rfl
  i233:=by kernel_rfl
  m15:=by kernel_rfl
  m16:=by kernel_rfl
  m17:=by kernel_rfl
  m18:=by kernel_rfl
  m19:=by kernel_rfl
  c0:=by kernel_rfl
  c2:=by kernel_rfl
  c3:=by kernel_rfl
  c4:=by kernel_rfl
  c5:=by kernel_rfl
  c9:=by kernel_rfl
  c20:=by kernel_rfl
  c21:=by kernel_rfl
  c37:=by kernel_rfl
  c46:=by kernel_rfl
  c51:=by kernel_rfl
  c53:=by kernel_rfl
  c75:=by kernel_rfl
  c76:=by kernel_rfl
  c80:=by kernel_rfl
  c85:=by kernel_rfl
  c127:=by kernel_rfl
  c143:=by kernel_rfl
  c145:=by kernel_rfl
  c167:=by kernel_rfl
  c168:=by kernel_rfl
  c171:=by kernel_rfl
  c173:=by kernel_rfl
  c175:=by kernel_rfl
  c210:=by kernel_rfl
  c212:=by kernel_rfl
  c213:=by kernel_rfl
  c232:=by kernel_rfl
  c233:=by kernel_rfl }
open Go.RowKit in
theorem Tryd.strconv_Atoi_ok (s:ByteArray) (hmax:s.size≤9223372036854775806) (v:Int) (h:Lib.atoiAll s.data.toList=.ok v) (w:World) :
    Calls Tryd.prog 79 #[.string s] w fun e w'=>e=.returned (.tuple #[.int .i64 v,.nilIface])∧(w'=w∨∃ t,w'=Lib.bytesWorld w 5 t):=Any.strconv_Atoi_ok Tryd.laysC172 s hmax v h w
open Go.RowKit in
theorem Tryd.strconv_Atoi_syntax_var (s:ByteArray) (hlim:s.size≤281474976710656) (h:Lib.atoiAll s.data.toList=Lib.atoiAll []) (tp:TypeId) (p:Value) (w:World) (hvar:w.var? Tryd.prog "strconv.ErrSyntax" = some #[.iface tp p]) :
    Calls Tryd.prog 79 #[.string s] w fun e w'=>∃ N,e=.returned (.tuple #[.int .i64 0,.iface 142 (.pointer (some ⟨N,0,none⟩))])∧w.heap.size≤N∧w'.heap[N]? = some (.cells #[.string ⟨#[65,116,111,105]⟩,.string s,.iface tp p] 151 (0,0))∧Below w.heap.size w w':=Any.strconv_Atoi_syntax_var Tryd.laysC172 s hlim h tp p w hvar
open Go.RowKit in
theorem Tryd.strconv_Atoi_range_var (s:ByteArray) (hlim:s.size≤281474976710656) (h:Lib.atoiAll s.data.toList=.range) (tp:TypeId) (p:Value) (w:World) (hvar:w.var? Tryd.prog "strconv.ErrRange" = some #[.iface tp p]) :
    Calls Tryd.prog 79 #[.string s] w fun e w'=>∃ N,e=.returned (.tuple #[.int .i64 (Lib.atoiSat s.data.toList),.iface 142 (.pointer (some ⟨N,0,none⟩))])∧w.heap.size≤N∧w'.heap[N]? = some (.cells #[.string ⟨#[65,116,111,105]⟩,.string s,.iface tp p] 151 (0,0))∧Below w.heap.size w w':=Any.strconv_Atoi_range_var Tryd.laysC172 s hlim h tp p w hvar
end Go.Proofs
set_option maxRecDepth 8000
namespace Go.Proofs.YtpllgpgdcbgalaaDoor
open Go Go.RowKit
theorem Sim.below {A:Nat→Prop} {ρ:Nat→Loc} {H:Heap} {w w':World} (s:Sim A ρ H w) (b:Below w.heap.size w w'):Sim A ρ H w'∧Fr A ρ H w A ρ H w':=by
  have hK:∀ b' o,Kof ρ H w b'=some o→Kof ρ H w' b'=some o:=fun b' o hb=>by
    obtain ⟨h1,h2⟩:=zw.1 hb
    exact zw.2 ⟨h1,by rw [b.block b' (Array.getElem?_eq_some_iff.1 h2).1]; exact h2⟩
  refine ⟨⟨s.live,fun g o ho => ?_,s.inj,s.lay.mono hK⟩,⟨fun _ h=>⟨rfl,h⟩,hK,b.os,b.tape,b.output,b.size⟩⟩
  exact (s.obj g o ho).mono (b.block _ (s.obj g o ho).block_lt) hK (fun _ h=>⟨rfl,h⟩)
theorem QC.of_calls {P:Program} {f:FuncId} {fn:Func} {c:Code} {args:List AV} {r:AV} (hf:P.funcs[f]? = some fn) (hb:fn.body=some c) (hname:(fn.name == "runtime.NumGoroutine")=false)
    (h:∀ (K:zj) (ρ:Nat→Loc) (A:Nat→Prop) (w:World) (cargs:Array Value),LayK (fun b=>w.heap[b]?)→LRel K ρ A args cargs.toList→Calls P f cargs w fun e w'=>(∃ v,e=.returned v∧∀ (K:zj) (ρ:Nat→Loc) (A:Nat→Prop),VRel K ρ A r v)∧Below w.heap.size w w'):QC P f args r:=by
  intro H nx ρ w cargs s ha
  have hcall:(callFunc f cargs).run P w=.ok (.enter f cargs) w:=by
    have hname':¬ fn.name = "runtime.NumGoroutine" := by simpa using hname
    simp [callFunc,program,Sem.run_bind,Sem.run,hf,hname',hb,pure]
  rw [hcall]
  simp only [zy]
  refine (h _ _ _ w cargs (s.lay.mono fun b o hb=>(zw.1 hb).2) ha).mono fun e w' ⟨⟨v,he,hv⟩,hw⟩ => ?_
  obtain ⟨s',f'⟩:=s.below hw
  exact ⟨v,he,r,H,nx,ρ,⟨rfl,rfl,rfl⟩,s',hv _ _ _,f'⟩
theorem zzs:(Tryd.prog.globalNamed "internal/strconv.uint64pow10").isSome=true:=by kernel_rfl
theorem LayK.tab {w:World} (h:LayK (fun b=>w.heap[b]?)):Lib.TabIs Tryd.prog w "internal/strconv.uint64pow10" .u64 Lib.pow10Tab:=by
  obtain ⟨g,hg⟩:=Option.isSome_iff_exists.1 zzs
  obtain ⟨e,m,hc⟩:=h.1 g hg
  unfold Lib.TabIs World.var?
  have hc':w.heap[g]? = _:=hc
  rw [hg,Option.bind_some,hc']
set_option maxRecDepth 8000 in
theorem zadd (n:Int) (h0 : -9223372036854775808≤n) (h1:n≤9223372036854775807):QC Tryd.prog 80 [.int .i64 n] (.str (Lib.itoa n)):=by
  refine QC.of_calls (c:=zq Tryd.f80) Tryd.func80 (by kernel_rfl) (by kernel_rfl) fun K ρ A w cargs hl ha => ?_
  have hc:cargs = #[.int .i64 n]:=by
    obtain ⟨hlen,hg⟩:=ha
    have hlen':cargs.toList.length=1:=hlen
    match he:cargs.toList,hlen' with
    | [v],_ =>
      have:=hg 0 (.int .i64 n) v rfl (by rw [he]; rfl)
      cases this
      exact Array.ext' (by rw [he])
  subst hc
  refine (Tryd.strconv_Itoa n h0 h1 w hl.tab).mono fun e w' ⟨he,k,os,hw⟩ => ?_
  subst he hw
  refine ⟨⟨_,rfl,fun K ρ A=>.str _⟩,⟨rfl,rfl,rfl,?_,fun b hb => ?_⟩⟩
  · simp [Sort.grow,World.drewN]
  · simp only [Sort.grow,World.drewN]
    rw [Array.getElem?_append_left (by simpa using hb)]
end Go.Proofs.YtpllgpgdcbgalaaDoor
set_option maxRecDepth 8000
namespace Go.Proofs.YtpllgpgdcbgalaaDoor
open Go Go.RowKit
theorem zuu:(Tryd.prog.globalNamed "strconv.ErrSyntax").isSome=true:=by kernel_rfl
theorem zwm:(Tryd.prog.globalNamed "strconv.ErrRange").isSome=true:=by kernel_rfl
theorem LayE.var {n:String} {w:World} (h:LayE n (fun b=>w.heap[b]?)) (hn:(Tryd.prog.globalNamed n).isSome=true):∃ t p,w.var? Tryd.prog n=some #[.iface t p]:=by
  obtain ⟨g,hg⟩:=Option.isSome_iff_exists.1 hn
  obtain ⟨t,p,e,m,hc⟩:=h g hg
  have hc':w.heap[g]? = _:=hc
  exact ⟨t,p,by unfold World.var?; rw [hg,Option.bind_some,hc']⟩
theorem zvh (w:World) (e:TypeId) (s:ByteArray):Below w.heap.size w (Lib.bytesWorld w e s):=⟨rfl,rfl,rfl,by rw [Lib.bytesWorld_size]; omega,fun k hk=>Lib.bytesWorld_at_old w e s k hk⟩
def zxo (s:List UInt8):AV:=match Lib.atoiAll s with
  | .ok v=>.tup [.int .i64 v,.inil]
  | .range=>.tup [.int .i64 (Lib.atoiSat s),.ifc]
  | _=>.tup [.int .i64 0,.ifc]
theorem tup2 {n:Int} {x:AV} {c:Value} (h:∀ K ρ A,VRel K ρ A x c) (K:zj) (ρ:Nat→Loc) (A:Nat→Prop):VRel K ρ A (.tup [.int .i64 n,x]) (.tuple #[.int .i64 n,c]) :=
  .tup _ _ rfl fun j v c' hv hc=>by
    match j with
    | 0=>cases hv; cases hc; exact .int _ _
    | 1=>cases hv; cases hc; exact h K ρ A
set_option maxRecDepth 8000 in
theorem zadx (s:List UInt8) (h:s.length≤281474976710656):QC Tryd.prog 79 [.str s] (zxo s):=by
  refine QC.of_calls (c:=zq Tryd.f79) Tryd.func79 (by kernel_rfl) (by kernel_rfl) fun K ρ A w cargs hl ha => ?_
  have hc:cargs = #[.string ⟨s.toArray⟩]:=by
    obtain ⟨hlen,hg⟩:=ha
    have hlen':cargs.toList.length=1:=hlen
    match he:cargs.toList,hlen' with
    | [v],_ =>
      have:=hg 0 (.str s) v rfl (by rw [he]; rfl)
      cases this
      exact Array.ext' (by rw [he])
  subst hc
  have hs:(ByteArray.mk s.toArray).size=s.length:=by show s.toArray.size=_; simp
  have hd:(ByteArray.mk s.toArray).data.toList=s:=by simp
  unfold zxo
  cases hv:Lib.atoiAll s with
  | ok v =>
    refine (Tryd.strconv_Atoi_ok ⟨s.toArray⟩ (by omega) v (by rw [hd]; exact hv) w).mono fun e w' ⟨he,hw⟩=>⟨⟨_,he,tup2 fun _ _ _=>.inil⟩,?_⟩
    rcases hw with rfl | ⟨t,rfl⟩
    · exact .refl _ _
    · exact zvh w _ t
  | range =>
    obtain ⟨t,p,hvar⟩:=hl.2.2.1.var zwm
    have hx:Lib.atoiSat (ByteArray.mk s.toArray).data.toList=Lib.atoiSat s:=by rw [hd]
    exact (Tryd.strconv_Atoi_range_var ⟨s.toArray⟩ (by omega) (by rw [hd]; exact hv) t p w hvar).mono fun e w' ⟨N,he,_,_,hw⟩=>⟨⟨_,hx ▸ he,tup2 fun _ _ _=>.ifc _ ⟨_,_,rfl⟩⟩,hw⟩
  | _ =>
    obtain ⟨t,p,hvar⟩:=hl.2.1.var zuu
    exact (Tryd.strconv_Atoi_syntax_var ⟨s.toArray⟩ (by omega) (by rw [hd]; exact hv) t p w hvar).mono fun e w' ⟨N,he,_,_,hw⟩=>⟨⟨_,he,tup2 fun _ _ _=>.ifc _ ⟨_,_,rfl⟩⟩,hw⟩
end Go.Proofs.YtpllgpgdcbgalaaDoor
set_option maxRecDepth 8000
namespace Go.Proofs.YtpllgpgdcbgalaaDoor
open Go Go.RowKit
def PR (st:VM.St):AObj:=.row 2 [.str st.1,.int .i64 st.2]
theorem Heap.put_same {H:Heap} {g:Nat} {o:Option AObj} (h:H g=o):H.put g o=H:=by
  funext x
  by_cases hx:x=g
  · subst hx; rw [Heap.put_at,h]
  · rw [Heap.put_ne _ _ hx]
@[simp ↓ high] theorem zahc {s:Str} {ki:IntKind} {a:Int} {k:AV→Prop}:SLS (.str s) (some (.int ki a)) none k=(0≤a∧a≤s.length∧k (.str (s.drop a.toNat))):=by
  simp [SLS,zgj,lohi,PURE,qk]
@[simp ↓ high] theorem zahd {s:Str} {ki:IntKind} {b:Int} {k:AV→Prop}:SLS (.str s) none (some (.int ki b)) k=(0≤b∧b≤s.length∧k (.str (s.take b.toNat))):=by
  simp [SLS,zgj,lohi,PURE,qk]
@[simp ↓ high] theorem zaij {s:Str} {ki kj:IntKind} {a b:Int} {k:AV→Prop}:SLS (.str s) (some (.int ki a)) (some (.int kj b)) k=(0≤a∧a≤b∧b≤s.length∧k (.str ((s.take b.toNat).drop a.toNat))):=by
  simp [SLS,zgj,lohi,PURE,qk]
section
variable {g:Nat} {st:VM.St} {H:Heap} {n:Nat} {Q:QT}
theorem zdl {e:Int} (hg:H g=some (PR st)) (hq:Q (.tup []) (H.put g (some (PR (VM.badF e st)))) n):za Tryd.prog 48 [.ptr g 0,.int .i64 e] H n Q:=by
  refine znw _ _ _ _ _ ?_
  unfold VM.badF at hq
  have hg':H g=some (.row 2 [.str st.1,.int .i64 st.2]):=hg
  by_cases h:st.2=0
  · simp only [if_pos h,PR] at hq
    simp [zgf,hg',h,hq]
  · simp only [if_neg h,PR] at hq
    rw [Heap.put_same hg'] at hq
    simp [zgf,hg',h,hq]
theorem zek {c d:UInt8} {z:Int} (h:c ≠ d) (hz:(d.toNat:Int)=z):¬ (c.toNat:Int)=z:=fun e=>h (UInt8.toNat_inj.1 (by omega))
theorem zhl (c:UInt8) (r:Str):VM.trim (c :: r)=if VM.blank c then VM.trim r else c :: r:=by
  unfold VM.trim; rw [List.dropWhile_cons]
theorem zmb (hg:H g=some (PR st)) (hq:Q (.int .u8 (VM.nxt st.1)) (H.put g (some (PR (VM.trim st.1,st.2)))) n):za Tryd.prog 27 [.ptr g 0] H n Q:=by
  refine znr _ _ _ _ ?_
  unfold zjx
  refine LP.mk (fun m xs H' n'=>xs=[.ptr g 0]∧n'=n∧∃ s,m=s.length∧VM.trim s=VM.trim st.1∧H'=H.put g (some (PR (s,st.2)))) st.1.length ⟨rfl,rfl,st.1,rfl,rfl,(Heap.put_same hg).symm⟩ ?_
  rintro m xs H' n' ⟨rfl,rfl,s,rfl,ht,rfl⟩
  have hg':(H.put g (some (PR (s,st.2)))) g=some (.row 2 [.str s,.int .i64 st.2]):=Heap.put_at _ _ _
  have hnx:VM.nxt st.1=VM.nxt s:=by unfold VM.nxt; rw [ht]
  rw [hnx,← ht] at hq
  generalize hX:Heap.put H g (some (PR (s,st.2)))=HX at hg'
  have hP:∀ o,HX.put g o=H.put g o:=fun o=>by rw [← hX,Heap.put_put]
  cases s with
  | nil =>
    have hq':Q (.int .u8 0) HX n':=by rw [← hX]; exact hq
    simp [zbf,hg',hq']
  | cons c r =>
    have hl:¬ (r.length:Int)+1=0:=by omega
    by_cases h32:c=32
    · subst h32
      simp [zbf,hg',hP,PR]
      exact ⟨by omega,r.length,by omega,r,rfl,by rw [← ht,zhl]; rfl,rfl⟩
    by_cases h10:c=10
    · subst h10
      simp [zbf,hg',hP,PR]
      exact ⟨by omega,r.length,by omega,r,rfl,by rw [← ht,zhl]; rfl,rfl⟩
    have n32:¬ (c.toNat:Int)=32:=zek h32 rfl
    have n10:¬ (c.toNat:Int)=10:=zek h10 rfl
    have htr:VM.trim (c :: r)=c :: r:=by rw [zhl,if_neg]; simp [VM.blank,h32,h10]
    have hnx':VM.nxt (c :: r)=if c=0 then 1 else (c.toNat:Int):=by unfold VM.nxt; rw [htr]
    rw [htr,hnx'] at hq
    by_cases h0:c=0
    · subst h0
      have hq':Q (.int .u8 1) HX n':=by rw [← hX]; exact hq
      simp [zbf,hg',hl,hq']
    · have n0:¬ c.toNat=0:=by have:=zek h0 (z:=0) rfl; omega
      rw [if_neg h0] at hq
      have hq':Q (.int .u8 (c.toNat:Int)) HX n':=by rw [← hX]; exact hq
      simp [zbf,hg',hl,hq',n32,n10,n0]
theorem zjm {b:Str} (h:VM.nxt b ≠ 0):∃ c r,VM.trim b=c :: r:=by
  unfold VM.nxt at h
  cases ht:VM.trim b with
  | nil=>rw [ht] at h; exact absurd rfl h
  | cons c r=>exact ⟨c,r,rfl⟩
theorem zeh {c:Int} (hc:c ≠ 0) (hg:H g=some (PR st)) (hq:Q (.tup []) (H.put g (some (PR (VM.mustF c st)))) n):za Tryd.prog 28 [.ptr g 0,.int .u8 c] H n Q:=by
  refine zns _ _ _ _ _ ?_
  refine zmb hg ?_
  unfold VM.mustF at hq
  have hg':(H.put g (some (PR (VM.trim st.1,st.2)))) g=some (.row 2 [.str (VM.trim st.1),.int .i64 st.2]):=Heap.put_at _ _ _
  have hg2:(H.put g (some (PR (VM.trim st.1,st.2)))) g=some (PR (VM.trim st.1,st.2)):=hg'
  have hP:∀ o,(H.put g (some (PR (VM.trim st.1,st.2)))).put g o=H.put g o:=fun o=>Heap.put_put ..
  generalize H.put g (some (PR (VM.trim st.1,st.2)))=HX at *
  by_cases h1:VM.nxt st.1=c
  · obtain ⟨a,r,ha⟩:=zjm (by rw [h1]; exact hc)
    rw [if_pos h1,ha] at hq
    rw [ha] at hg'
    have hl:(1:Int)≤r.length+1:=by omega
    have hq':Q (.tup []) (H.put g (some (.row 2 [.str r,.int .i64 st.2]))) n:=hq
    simp [zdd,h1,hg',hP,hl,hq']
  · rw [if_neg h1] at hq
    by_cases h0:VM.nxt st.1=0
    · rw [if_pos h0] at hq
      have h01:¬ 0=c:=fun e=>hc e.symm
      simp [zdd,h0,h01]
      refine zdl hg2 ?_
      rw [hP]; exact hq
    · rw [if_neg h0] at hq
      simp [zdd,h1,h0]
      refine zdl hg2 ?_
      rw [hP]; exact hq
theorem zqq {p:UInt8→Bool} {a b:Str} (ha:∀ x∈a,p x=true) (hb:∀ c r,b=c :: r→p c=false):(a ++ b).takeWhile p=a∧(a ++ b).dropWhile p=b:=by
  induction a with
  | nil =>
    cases b with
    | nil=>exact ⟨rfl,rfl⟩
    | cons c r=>have:=hb c r rfl; simp [this]
  | cons x a ih =>
    have h:=ih fun y hy=>ha y (by simp [hy])
    simp [ha x (by simp),h.1,h.2]
theorem w_ac (hs:st.1.length < 4611686018427387904) (hg:H g=some (PR st)) (hq:Q (.str (VM.wF st).1) (H.put g (some (PR (VM.wF st).2))) n):za Tryd.prog 49 [.ptr g 0] H n Q:=by
  refine zpz _ _ _ _ ?_
  refine zmb hg ?_
  have htl:(VM.trim st.1).length≤st.1.length:=VM.trim_le _
  have hw:∀ a b,VM.trim st.1=a ++ b→(∀ x∈a,VM.wordC x=true)→(∀ c r,b=c :: r→VM.wordC c=false)→VM.wF st=(a,if a=[] then VM.badF (if b=[] then 8 else 2) (b,st.2) else (b,st.2)):=by
    intro a b h1 h2 h3
    have:=zqq h2 h3
    unfold VM.wF
    rw [h1,this.1,this.2]
    by_cases ha:a=[]
    · subst ha; simp
    · simp [ha]
  generalize VM.trim st.1=t at *
  have hg':(H.put g (some (PR (t,st.2)))) g=some (.row 2 [.str t,.int .i64 st.2]):=Heap.put_at _ _ _
  have hP:∀ o,(H.put g (some (PR (t,st.2)))).put g o=H.put g o:=fun o=>Heap.put_put ..
  generalize H.put g (some (PR (t,st.2)))=HX at *
  unfold znp
  refine LP.mk (fun m xs H' n'=>H'=HX∧n'=n∧∃ a b,xs=[.ptr g 0,.int .i64 (a.length:Int)]∧t=a ++ b∧(∀ x∈a,VM.wordC x=true)∧m=b.length) t.length ⟨rfl,rfl,[],t,rfl,rfl,by simp,rfl⟩ ?_
  rintro m xs H' n' ⟨rfl,rfl,a,b,rfl,ht,ha,rfl⟩
  -- where the word ends
  have fin:(∀ c r,b=c :: r→VM.wordC c=false)→(a=[]→za Tryd.prog 48 [.ptr g 0,.int .i64 (if b=[] then 8 else 2)] H' n' (zo [.ptr g 0,.int .i64 (a.length:Int)] Q))∧(a ≠ []→Q (.str a) (H.put g (some (.row 2 [.str b,.int .i64 st.2]))) n'):=by
    intro hb
    have h:=hw a b ht ha hb
    rw [h] at hq
    refine ⟨fun e => ?_,fun e => ?_⟩
    · subst e
      simp only [if_true] at hq
      refine zdl (st:=(b,st.2)) (by rw [hg',ht]; rfl) ?_
      rw [hP]
      unfold VM.badF at hq ⊢
      generalize (if (b,st.2).2=0 then (if b=[] then (8:Int) else 2) else (b,st.2).2)=k at *
      have hx:(H.put g (some (PR (b,k)))) g=some (.row 2 [.str b,.int .i64 k]):=Heap.put_at _ _ _
      have hP2:∀ o,(H.put g (some (PR (b,k)))).put g o=H.put g o:=fun o=>Heap.put_put ..
      have hq':Q (.str []) (H.put g (some (.row 2 [.str b,.int .i64 k]))) n':=hq
      have hb0:(0:Int)≤b.length:=by omega
      generalize H.put g (some (PR (b,k)))=HY at *
      simp [zo,hx,hP2,hq',hb0]
    · simp only [if_neg e] at hq
      exact hq
  have h0:(0:Int)≤a.length:=by omega
  cases b with
  | nil =>
    have hl:t=a:=by rw [ht,List.append_nil]
    subst hl
    obtain ⟨f1,f2⟩:=fin (by simp)
    by_cases e:t=[]
    · subst e
      have f1':=f1 rfl
      simp at f1'
      simp [zch,hg',f1']
    · have f2':=f2 e
      have hne:¬ (t.length:Int)=0:=fun h=>e (List.length_eq_zero_iff.1 (by omega))
      simp [zch,hg',hne,e,hP,f2']
  | cons c r =>
    have hl:(t.length:Int)=a.length+(r.length+1):=by rw [ht]; simp
    have hlt:(a.length:Int) < a.length+(r.length+1):=by omega
    have hle:(a.length:Int)≤a.length+(r.length+1):=by omega
    have hx:t[a.length]? = some c:=by rw [ht]; simp
    by_cases hc:VM.wordC c=true
    · have hc':=hc
      simp only [VM.wordC,Bool.not_eq_true',Bool.or_eq_false_iff,beq_eq_false_iff_ne] at hc'
      obtain ⟨⟨⟨⟨c1,c2⟩,c3⟩,c4⟩,c5⟩:=hc'
      have b1:¬ (c.toNat:Int)=32:=zek c1 rfl
      have b2:¬ (c.toNat:Int)=10:=zek c2 rfl
      have b3:¬ (c.toNat:Int)=40:=zek c3 rfl
      have b4:¬ (c.toNat:Int)=41:=zek c4 rfl
      have b5:¬ (c.toNat:Int)=39:=zek c5 rfl
      have hwr:IntKind.i64.wrap ((a.length:Int)+1)=(a.length:Int)+1:=i64w (by omega)
      simp [zch,hg',hl,hlt,hx,b1,b2,b3,b4,b5,hwr]
      refine ⟨r.length,by omega,a ++ [c],by rw [List.length_append]; simp,r,by rw [ht]; simp,?_,rfl⟩
      intro x hx'
      rcases List.mem_append.1 hx' with h | h
      · exact ha x h
      · rw [List.mem_singleton.1 h]; exact hc
    · obtain ⟨f1,f2⟩:=fin (by rintro c' r' h; cases h; simpa using hc)
      have hc':c=32∨c=10∨c=40∨c=41∨c=39:=by
        refine Classical.byContradiction fun h=>hc ?_
        simp only [not_or] at h
        simp [VM.wordC,h]
      have htk:t.take a.length=a:=by rw [ht]; simp
      have hdr:t.drop a.length=c :: r:=by rw [ht]; simp
      by_cases e:a=[]
      · subst e
        have f1':=f1 rfl
        simp at f1'
        have hl':(t.length:Int)=r.length+1:=by rw [ht]; simp
        have hlt':(0:Int) < r.length+1:=by omega
        have hne:¬ (r.length:Int)+1=0:=by omega
        have hx':t[0]? = some c:=by rw [ht]; simp
        clear hl hx
        rcases hc' with rfl | rfl | rfl | rfl | rfl <;> simp [zch,hg',hl',hlt',hne,hx',f1']
      · have f2':=f2 e
        have hne:¬ (a.length:Int)=0:=fun h=>e (List.length_eq_zero_iff.1 (by omega))
        rcases hc' with rfl | rfl | rfl | rfl | rfl <;> simp [zch,hg',hl,hlt,hle,hx,hne,e,hP,htk,hdr,f2']
end
end Go.Proofs.YtpllgpgdcbgalaaDoor
set_option maxRecDepth 8000
namespace Go.Proofs.YtpllgpgdcbgalaaDoor
open Go Go.RowKit
theorem zzq {p:UInt8→Bool} (s:Str) (i:Nat):(s.drop i).all p=if h:i < s.length then p s[i] && (s.drop (i+1)).all p else true:=by
  split
  · rename_i h
    rw [List.drop_eq_getElem_cons h,List.all_cons]
  · rename_i h
    rw [List.drop_of_length_le (by omega)]; rfl
theorem zzr (s:Str) (hs:s.length≤maxLen):QC Tryd.prog 25 [.str s] (.bool (VM.word s)):=by
  refine fun H nx=>zpl _ H nx _ ?_
  simp only [maxLen] at hs
  simp [zlm]
  refine LP.mk (fun n xs H' nx'=>∃ i:Nat,i≤s.length∧n=s.length - i∧xs=[.str s,.int .i64 s.length,.int .i64 i]∧H=H'∧nx=nx'∧s.all VM.wordByte=(s.drop i).all VM.wordByte) s.length ⟨0,by omega,by omega,rfl,rfl,rfl,rfl⟩ ?_
  rintro n xs H' nx' ⟨i,hi,rfl,rfl,rfl,rfl,hall⟩
  rw [zzq] at hall
  simp [zln]
  refine ⟨fun h => ?_,fun h => ?_⟩
  · rw [dif_pos h] at hall
    have hb:VM.wordByte s[i]=false→VM.word s=false:=fun hb=>by simp [VM.word,hall,hb]
    simp [h]
    refine ⟨fun h1=>hb (by simp [VM.wordByte]; omega),fun h1=>⟨fun h2=>hb (by simp [VM.wordByte]; omega),fun h2=>⟨fun h3=>hb (by simp [VM.wordByte]; omega),fun h3 => ?_⟩⟩⟩
    rw [i64w (by omega)]
    refine ⟨s.length - (i+1),by omega,i+1,by omega,rfl,by simp,?_⟩
    have:VM.wordByte s[i]=true:=by simp [VM.wordByte]; omega
    rw [hall,this]; rfl
  · rw [dif_neg (by omega)] at hall
    simp only [VM.word,hall,Bool.and_true]
    rw [Bool.eq_iff_iff]; simp; omega
def zku (c:UInt8):Bool:=decide (97≤c.toNat) && decide (c.toNat≤122)
theorem zqg (s:Str):VM.name s=(decide (s∉VM.keys) && s.all zku && decide (0 < s.length) && decide (s.length < 9)):=rfl
theorem zacz (s:Str) (hs:s.length≤maxLen):QC Tryd.prog 14 [.str s] (.bool (VM.name s)):=by
  refine QC.of' fun H nx => ?_
  suffices main:∀ Q:QT,(∀ H' n',Keep nx H' H→Q (.bool (VM.name s)) H' n')→za Tryd.prog 14 [.str s] H nx Q from
    main _ fun H' n' hk=>⟨by simp,hk⟩
  intro Q hq
  refine zpn _ H nx _ ?_
  simp only [maxLen] at hs
  have hkeys:AObj.row 1 (VM.keys.map AV.str)=AObj.row 1 [AV.str [108,101,116],AV.str [115,101,116],AV.str [105,102],AV.str [119,104,105,108,101],AV.str [115,97,121],AV.str [114,101,116,117,114,110],AV.str [112,117,116,108],AV.str [112,117,116,114],AV.str [100,111],AV.str [99,101,108,108],AV.str [108,101,102,116],AV.str [114,105,103,104,116],AV.str [97,115,107],AV.str [104,101,114,101],AV.str [103,111]]:=rfl
  simp only [zlp,← hkeys,puth]
  have hk:Keep nx (H.put nx (some (.row 1 (VM.keys.map AV.str)))) H:=by simp
  have hH:(H.put nx (some (.row 1 (VM.keys.map AV.str)))) nx=some (.row 1 (VM.keys.map AV.str)):=Heap.put_at _ _ _
  generalize H.put nx (some (.row 1 (VM.keys.map AV.str)))=HX at *
  simp
  have hl:VM.keys.length=15:=rfl
  refine LP.mk (fun m xs H' n'=>∃ i:Nat,i≤15∧m=15 - i∧xs=[.str s,.slc nx 0 15,.int .i64 15,.int .i64 i]∧H'=HX∧n'=nx+1∧s∉VM.keys.take i) 15 ⟨0,by omega,by omega,rfl,rfl,rfl,by simp⟩ ?_
  rintro m xs H' n' ⟨i,hi,rfl,rfl,rfl,rfl,hno⟩
  by_cases h:i < 15
  · have hx:(VM.keys.map AV.str)[i]? = some (.str (VM.keys[i]'(by omega))):=by rw [List.getElem?_map,List.getElem?_eq_getElem (by omega)]; rfl
    have hi':(i:Int) < 15:=by omega
    have hi0:(0:Int)≤i:=by omega
    by_cases e:s=VM.keys[i]'(by omega)
    · have hn:VM.name s=false:=by
        have:s∈VM.keys:=e ▸ List.getElem_mem _
        rw [zqg]; simp [this]
      have hq':=hq H' (nx+1) hk
      rw [hn] at hq'
      simp [zec,hi',hH,hx,← e,hq']
    · have hw:IntKind.i64.wrap ((i:Int)+1)=(i:Int)+1:=i64w (by omega)
      simp [zec,hi',hH,hx,e,hw]
      refine ⟨15 - (i+1),by omega,i+1,by omega,rfl,by simp,?_⟩
      have hts:VM.keys.take (i+1)=VM.keys.take i ++ [VM.keys[i]'(by omega)]:=List.take_succ_eq_append_getElem _
      intro hm
      rw [hts,List.mem_append,List.mem_singleton] at hm
      exact hm.elim hno e
  · have hi':¬ (i:Int) < 15:=by omega
    have e15:i=15:=by omega
    subst e15
    have hno':s∉VM.keys:=by rw [List.take_of_length_le (by omega)] at hno; exact hno
    simp [zec]
    refine LP.mk (fun m xs H'' n''=>∃ i:Nat,i≤s.length∧m=s.length - i∧xs=[.str s,.int .i64 s.length,.int .i64 i]∧H''=H'∧n''=nx+1∧s.all zku=(s.drop i).all zku) s.length ⟨0,by omega,by omega,rfl,rfl,rfl,rfl⟩ ?_
    rintro m xs H'' n'' ⟨j,hj,rfl,rfl,rfl,rfl,hall⟩
    rw [zzq] at hall
    have hqf:VM.name s=false→Q (.bool false) H'' (nx+1):=fun e=>e ▸ hq H'' (nx+1) hk
    by_cases hlt:j < s.length
    · rw [dif_pos hlt] at hall
      have hb:zku s[j]=false→VM.name s=false:=fun hb=>by rw [zqg]; simp [hall,hb]
      simp [zed,hlt]
      refine ⟨fun h1=>hqf (hb (by simp [zku]; omega)),fun h1=>⟨fun h2=>hqf (hb (by simp [zku]; omega)),fun h2 => ?_⟩⟩
      rw [i64w (by omega)]
      refine ⟨s.length - (j+1),by omega,j+1,by omega,rfl,by simp,?_⟩
      have:zku s[j]=true:=by simp [zku]; omega
      rw [hall,this]; rfl
    · rw [dif_neg hlt] at hall
      have hn:VM.name s=(decide (0 < s.length) && decide (s.length < 9)):=by rw [zqg]; simp [hno',hall]
      have hji:¬ (j:Int) < s.length:=by omega
      have hq':=hq H'' (nx+1) hk
      rw [hn] at hq'
      by_cases h0:0 < s.length
      · have e9:decide ((s.length:Int) < 9)=decide (s.length < 9):=by rw [decide_eq_decide]; omega
        simp [h0,← e9] at hq'
        simp [zed,hlt,h0,hq']
      · simp [h0] at hq'
        simp [zed,hlt,h0,hq']
end Go.Proofs.YtpllgpgdcbgalaaDoor
set_option maxRecDepth 8000
namespace Go.Proofs.YtpllgpgdcbgalaaDoor
open Go Go.RowKit
namespace VM
theorem trim_trim (b:Str):trim (trim b)=trim b:=by
  induction b with
  | nil=>rfl
  | cons c r ih =>
    rw [zhl]
    by_cases h:blank c=true
    · rw [if_pos h]; exact ih
    · rw [if_neg h,zhl,if_neg h]
theorem nxt_trim (b:Str):nxt (trim b)=nxt b:=by unfold nxt; rw [trim_trim]
theorem must_trim (c:Int) (b:Str) (e:Int):mustF c (trim b,e)=mustF c (b,e):=by
  unfold mustF; simp only [nxt_trim,trim_trim]
theorem must_le (c:Int) (st:St):(mustF c st).1.length≤st.1.length:=by
  have:=trim_le st.1
  unfold mustF
  split
  · show ((trim st.1).drop 1).length≤_; rw [List.length_drop]; omega
  · exact this
theorem must_err (c:Int) (st:St) (h:st.2 ≠ 0):(mustF c st).2=st.2:=(goes_must c st).stuck h
end VM
section
variable {g:Nat} {st:VM.St} {H:Heap} {n:Nat} {Q:QT}
theorem zms (st:VM.St):(VM.wF st).1.length≤st.1.length∧(VM.wF st).2.1.length≤st.1.length:=by
  have h:=VM.trim_le st.1
  have h1:((VM.trim st.1).takeWhile VM.wordC).length≤(VM.trim st.1).length:=(List.takeWhile_sublist _).length_le
  have h2:((VM.trim st.1).dropWhile VM.wordC).length≤(VM.trim st.1).length:=(List.dropWhile_sublist _).length_le
  unfold VM.wF
  refine ⟨by show ((VM.trim st.1).takeWhile VM.wordC).length≤_; omega,?_⟩
  dsimp only
  split
  · exact h
  · exact Nat.le_trans h2 h
theorem zace (st:VM.St):(VM.nF st).1.length≤st.1.length∧(VM.nF st).2.1.length≤st.1.length:=by
  have h:=zms st
  unfold VM.nF
  refine ⟨h.1,?_⟩
  dsimp only
  split
  · exact h.2
  · exact h.2
theorem zrt {s:Str} {K:QT} (hs:s.length≤1500) (hk:K (.bool (VM.name s)) H n):za Tryd.prog 14 [.str s] H n K:=(zacz s (by unfold maxLen; omega)).call hk
theorem zws (hs:st.1.length≤1500) (hg:H g=some (PR st)) (hq:Q (.str (VM.nF st).1) (H.put g (some (PR (VM.nF st).2))) n):za Tryd.prog 29 [.ptr g 0] H n Q:=by
  refine zqa _ _ _ _ ?_
  have hl:=zms st
  refine w_ac (by omega) hg ?_
  refine zrt (by omega) ?_
  have hP:∀ o,(H.put g (some (PR (VM.wF st).2))).put g o=H.put g o:=fun o=>Heap.put_put ..
  have hg2:(H.put g (some (PR (VM.wF st).2))) g=some (PR (VM.wF st).2):=Heap.put_at _ _ _
  unfold VM.nF at hq
  by_cases h:VM.name (VM.wF st).1=true
  · simp only [h,if_true] at hq
    simp [zii,h,hq]
  · simp only [h] at hq
    have h':VM.name (VM.wF st).1=false:=by simpa using h
    simp [zii,h']
    refine zdl hg2 ?_
    rw [hP]
    exact hq
theorem zpd {d:Int} (hg:H g=some (PR st)) (hq:Q (.bool (decide (d≤10) && decide (st.2=0))) (H.put g (some (PR (if d≤10 then st else VM.badF 9 st)))) n):za Tryd.prog 68 [.ptr g 0,.int .i64 d] H n Q:=by
  refine znq _ _ _ _ _ ?_
  by_cases h:d≤10
  · rw [if_pos h,Heap.put_same hg] at hq
    have hg':H g=some (.row 2 [.str st.1,.int .i64 st.2]):=hg
    have h':¬ 10 < d:=by omega
    simp [h] at hq
    simp [zfp,h',hg',hq]
  · rw [if_neg h] at hq
    have h':10 < d:=by omega
    simp [h] at hq
    simp [zfp,h']
    refine zdl hg ?_
    have hg':(H.put g (some (PR (VM.badF 9 st)))) g=some (.row 2 [.str (VM.badF 9 st).1,.int .i64 (VM.badF 9 st).2]):=Heap.put_at _ _ _
    have he:¬ (VM.badF 9 st).2=0:=by
      unfold VM.badF
      by_cases e:st.2=0 <;> simp [e]
    generalize H.put g (some (PR (VM.badF 9 st)))=HX at *
    simp [zjq,hg',he,hq]
end
end Go.Proofs.YtpllgpgdcbgalaaDoor
set_option maxRecDepth 8000
namespace Go.Proofs.YtpllgpgdcbgalaaDoor
open Go Go.RowKit
namespace VM
def untilF {α:Type} (m:St→α×St):Nat→St→List α×St
  | 0,st=>([],st)
  | k+1,st=>if st.2=0∧nxt st.1 ≠ 41 then ((m (trim st.1,0)).1 :: (untilF m k (m (trim st.1,0)).2).1,(untilF m k (m (trim st.1,0)).2).2) else ([],mustF 41 st)
def manyF {α:Type} (m:St→α×St) (st:St):List α×St:=untilF m (st.1.length+2) st
def quotedF (t:Str) (e:Int):Ex×St :=
  if 39∈t.drop 1 then (.mk 2 0 ((t.drop 1).takeWhile (· != 39)) [],if word ((t.drop 1).takeWhile (· != 39)) then (((t.drop 1).dropWhile (· != 39)).drop 1,e) else badF 2 (((t.drop 1).dropWhile (· != 39)).drop 1,e)) else (.mk 2 0 [] [],badF 8 (t.drop 1,e))
def plainF (st:St):Ex×St:=match numOf (wF st).1 with
  | some n=>(.mk 1 n [] [],if n < -1073741824∨1073741824 < n then badF 3 (wF st).2 else (wF st).2)
  | none=>(.mk 3 0 (wF st).1 [],if name (wF st).1 then (wF st).2 else badF 7 (wF st).2)
def formF (m:St→Ex×St) (w:Str) (s1:St):Ex×St:=match headOf w with
  | some (k,n,want)=>(.mk k n [] (manyF m s1).1,if (manyF m s1).1.length=want then (manyF m s1).2 else badF 5 (manyF m s1).2)
  | none=>(.mk 11 0 w (manyF m (if name w then s1 else badF 7 s1)).1,if (manyF m (if name w then s1 else badF 7 s1)).1.length≤4 then (manyF m (if name w then s1 else badF 7 s1)).2 else badF 5 (manyF m (if name w then s1 else badF 7 s1)).2)
def exprF:Nat→St→Ex×St
  | 0,st=>(ex0,badF 9 st)
  | d+1,st=>if st.2 ≠ 0 then (ex0,st)
    else if nxt st.1=39 then quotedF (trim st.1) st.2
    else if nxt st.1 ≠ 40 then plainF (trim st.1,st.2)
    else formF (exprF d) (wF ((trim st.1).drop 1,st.2)).1 (wF ((trim st.1).drop 1,st.2)).2
def timesF {α:Type} (m:St→α×St):Nat→St→List α×St
  | 0,st=>([],st)
  | k+1,st=>((m st).1 :: (timesF m k (m st).2).1,(timesF m k (m st).2).2)
def argsOf (k:Int):Nat:=if k=0 then 0 else if k=7∨k=8 then 2 else 1
def nmF (k:Int) (st:St):Str×St:=if k=1∨k=2 then nF st else ([],st)
def stmtF:Nat→St→Sm×St
  | 0,st=>(sm0,badF 9 st)
  | d + 1,st=>if st.2 ≠ 0 then (sm0,st)
    else
      let w:=wF (mustF 40 st)
      let k:=stKind w.1
      let nm:=nmF k (if k=0 then badF 1 w.2 else w.2)
      let a:=timesF (exprF d) (argsOf k) nm.2
      if k=3 then
        let t:=manyF (stmtF d) (mustF 40 a.2)
        let e:=manyF (stmtF d) (mustF 40 t.2)
        (.mk k nm.1 a.1 t.1 e.1,mustF 41 e.2)
      else if k=4 then
        let t:=manyF (stmtF d) a.2
        (.mk k nm.1 a.1 t.1 [],t.2)
      else (.mk k nm.1 a.1 [] [],mustF 41 a.2)
def fnF (st:St):Fnc×St :=
  let nm:=nF (mustF 40 st)
  let ps:=manyF nF (mustF 40 nm.2)
  let b:=manyF (stmtF 11) ps.2
  (⟨nm.1,ps.1,b.1⟩,b.2)
def fnsF:Nat→St→List Fnc×St
  | 0,st=>([],st)
  | k+1,st=>if st.2=0∧nxt st.1 ≠ 0 then ((fnF (trim st.1,0)).1 :: (fnsF k (fnF (trim st.1,0)).2).1,(fnsF k (fnF (trim st.1,0)).2).2) else ([],(if st.2=0 then trim st.1 else st.1,st.2))
def parseF (s:Str):List Fnc×Int:=if 1500 < s.length then ([],4) else if (fnsF (s.length+2) (s,0)).2.2 ≠ 0 then ([],(fnsF (s.length+2) (s,0)).2.2) else ((fnsF (s.length+2) (s,0)).1,0)
structure Nice {α:Type} (m:St→α×St):Prop where
  le:∀ st,(m st).2.1.length≤st.1.length
  stuck:∀ st,st.2 ≠ 0→(m st).2.2 ≠ 0
  eats:∀ st,st.2=0→(m st).2.2=0→(m st).2.1.length < st.1.length
theorem bad_err {e:Int} {st:St} (h:e ≠ 0):(badF e st).2 ≠ 0:=by
  unfold badF
  by_cases h2:st.2=0 <;> simp [h2,h]
theorem bad_stuck {e:Int} {st:St} (h:st.2 ≠ 0):(badF e st).2 ≠ 0:=by
  unfold badF; simp [h]
theorem must_stuck {c:Int} {st:St} (h:st.2 ≠ 0):(mustF c st).2 ≠ 0:=by rw [must_err c st h]; exact h
theorem must_eats {c:Int} {st:St} (hc:c ≠ 0) (h:(mustF c st).2=0):(mustF c st).1.length < st.1.length:=by
  unfold mustF at *
  by_cases hn:nxt st.1=c
  · rw [if_pos hn]
    obtain ⟨x,r,hx⟩:=zjm (by rw [hn]; exact hc)
    have:=trim_le st.1
    simp only [hx,List.drop_succ_cons,List.drop_zero,List.length_cons] at *
    omega
  · rw [if_neg hn] at h
    refine absurd h (bad_err ?_)
    split <;> decide
theorem w_stuck {st:St} (h:st.2 ≠ 0):(wF st).2.2 ≠ 0:=by
  unfold wF
  dsimp only
  split
  · exact bad_stuck h
  · exact h
theorem w_eats {st:St} (h:(wF st).2.2=0):(wF st).2.1.length < st.1.length:=by
  have ht:=trim_le st.1
  unfold wF at *
  dsimp only at *
  split at h
  · refine absurd h (bad_err ?_)
    split <;> decide
  · rename_i hne
    rw [if_neg hne]
    have e:(trim st.1).takeWhile wordC ++ (trim st.1).dropWhile wordC=trim st.1:=List.takeWhile_append_dropWhile
    have e2:=congrArg List.length e
    rw [List.length_append] at e2
    have:=List.length_pos_iff.2 hne
    simp only
    omega
theorem n_stuck {st:St} (h:st.2 ≠ 0):(nF st).2.2 ≠ 0:=by
  unfold nF
  dsimp only
  split
  · exact w_stuck h
  · exact bad_stuck (w_stuck h)
theorem nice_n:Nice nF where
  le st:=(zace st).2
  stuck _ h:=n_stuck h
  eats st _ h:=by
    unfold nF at *
    dsimp only at *
    split at h
    · rename_i hn
      rw [if_pos hn]; exact w_eats h
    · exact absurd h (bad_err (by decide))
def left (st:St):Nat:=if st.2=0 then st.1.length+1 else 0
theorem left_lt {α:Type} {m:St→α×St} (hm:Nice m) {st:St} (h:st.2=0):left (m (trim st.1,0)).2 < left st:=by
  unfold left
  rw [if_pos h]
  have:=trim_le st.1
  split
  · rename_i h2
    have:=hm.eats (trim st.1,0) rfl h2
    simp only at this; omega
  · omega
theorem left_le (st:St):left st < st.1.length+2:=by unfold left; split <;> omega
theorem until_le {α:Type} {m:St→α×St} (hm:Nice m):∀ (k:Nat) (st:St),(untilF m k st).2.1.length≤st.1.length
  | 0,st=>Nat.le_refl _
  | k + 1,st=>by
    unfold untilF
    split
    · have:=until_le hm k (m (trim st.1,0)).2
      have h2:=hm.le (trim st.1,0)
      have h3:=trim_le st.1
      simp only at *; omega
    · exact must_le 41 st
theorem until_end {α:Type} {m:St→α×St} (hm:Nice m):∀ (k:Nat) (st:St),left st < k→((untilF m k st).2.2=0→st.2=0∧(untilF m k st).2.1.length < st.1.length)
  | 0,st,h,_=>absurd h (by omega)
  | k + 1,st,h,h2=>by
    unfold untilF at *
    split
    · rename_i hc
      rw [if_pos hc] at h2
      have hl:=left_lt hm (st:=st) hc.1
      obtain ⟨a,b⟩:=until_end hm k _ (by omega) h2
      have h3:=hm.le (trim st.1,0)
      have h4:=trim_le st.1
      refine ⟨hc.1,?_⟩
      simp only at *; omega
    · rename_i hc
      rw [if_neg hc] at h2
      refine ⟨Classical.byContradiction fun h0=>must_stuck h0 h2,must_eats (by decide) h2⟩
theorem many_le {α:Type} {m:St→α×St} (hm:Nice m) (st:St):(manyF m st).2.1.length≤st.1.length:=until_le hm _ st
theorem nice_many {α:Type} {m:St→α×St} (hm:Nice m):Nice (manyF m) where
  le st:=many_le hm st
  stuck st h h2:=h (until_end hm _ st (left_le st) h2).1
  eats st _ h2:=(until_end hm _ st (left_le st) h2).2
theorem quoted_le (t:Str) (e:Int):(quotedF t e).2.1.length≤t.length - 1:=by
  have h1:(t.drop 1).length=t.length - 1:=List.length_drop
  have h2:((t.drop 1).dropWhile (· != 39)).length≤(t.drop 1).length:=(List.dropWhile_sublist _).length_le
  have h3:(((t.drop 1).dropWhile (· != 39)).drop 1).length≤((t.drop 1).dropWhile (· != 39)).length:=by rw [List.length_drop]; omega
  unfold quotedF
  split
  · dsimp only
    split
    · show (((t.drop 1).dropWhile (· != 39)).drop 1).length≤_; omega
    · show (((t.drop 1).dropWhile (· != 39)).drop 1).length≤_; omega
  · show (t.drop 1).length≤_; omega
theorem plain_le (st:St):(plainF st).2.1.length≤st.1.length:=by
  have h:=(zms st).2
  unfold plainF
  split <;> dsimp only <;> split <;> exact h
theorem plain_eats {st:St} (h:(plainF st).2.2=0):(plainF st).2.1.length < st.1.length:=by
  unfold plainF at *
  split at h <;> dsimp only at * <;> split at h
  · exact absurd h (bad_err (by decide))
  · rename_i h2; rw [if_neg h2]; exact w_eats h
  · rename_i h2; rw [if_pos h2]; exact w_eats h
  · exact absurd h (bad_err (by decide))
theorem form_le {m:St→Ex×St} (hm:Nice m) (w:Str) (st:St):(formF m w st).2.1.length≤st.1.length:=by
  unfold formF
  split <;> dsimp only
  · split <;> exact many_le hm st
  · have:∀ s:St,s.1.length=st.1.length→(manyF m s).2.1.length≤st.1.length:=fun s hs=>hs ▸ many_le hm s
    have h1:=this (if name w then st else badF 7 st) (by split <;> rfl)
    generalize (if name w=true then st else badF 7 st)=s at h1 ⊢
    split <;> exact h1
theorem form_zero {m:St→Ex×St} (hm:Nice m) {w:Str} {st:St} (h:(formF m w st).2.2=0):st.2=0:=by
  have key:∀ s:St,(manyF m s).2.2=0→s.2=0:=fun s h=>Classical.byContradiction fun h0=>(nice_many hm).stuck s h0 h
  have key2:(if name w then st else badF 7 st).2=0→st.2=0:=fun h=>by
    split at h
    · exact h
    · exact absurd h (bad_err (by decide))
  unfold formF at h
  cases hw:headOf w with
  | some p =>
    obtain ⟨k,n,want⟩:=p
    rw [hw] at h
    dsimp only at h
    split at h
    · exact key _ h
    · exact absurd h (bad_err (by decide))
  | none =>
    rw [hw] at h
    dsimp only at h
    generalize (if name w=true then st else badF 7 st)=s at h key2
    split at h
    · exact key2 (key _ h)
    · exact absurd h (bad_err (by decide))
theorem nice_expr:∀ d,Nice (exprF d)
  | 0=>⟨fun st=>Nat.le_refl _,fun st h=>bad_stuck h,fun st _ h=>absurd h (bad_err (by decide))⟩
  | d + 1 => by
    have ih:=nice_expr d
    have step:∀ st:St,st.2=0→nxt st.1=40∨nxt st.1=39→∃ c r,trim st.1=c :: r:=fun st _ h=>zjm (by rcases h with h | h <;> rw [h] <;> decide)
    refine ⟨fun st => ?_,fun st h => ?_,fun st h h2 => ?_⟩
    · have ht:=trim_le st.1
      unfold exprF
      split
      · exact Nat.le_refl _
      · split
        · have:=quoted_le (trim st.1) st.2; omega
        · split
          · have:=plain_le (trim st.1,st.2); simp only at this; omega
          · have h1:=form_le ih (wF ((trim st.1).drop 1,st.2)).1 (wF ((trim st.1).drop 1,st.2)).2
            have h2:=(zms ((trim st.1).drop 1,st.2)).2
            simp only [List.length_drop] at h2; omega
    · unfold exprF; rw [if_pos h]; exact h
    · have ht:=trim_le st.1
      unfold exprF at *
      rw [if_neg (by simpa using h)] at *
      by_cases h39:nxt st.1=39
      · rw [if_pos h39] at *
        obtain ⟨c,r,hc⟩:=step st h (.inr h39)
        have:=quoted_le (trim st.1) st.2
        have hl:(trim st.1).length=r.length+1:=by rw [hc]; rfl
        omega
      · rw [if_neg h39] at *
        by_cases h40:nxt st.1 ≠ 40
        · rw [if_pos h40] at *
          have:=plain_eats h2
          simp only at this; omega
        · rw [if_neg h40] at *
          have h1:=form_le ih (wF ((trim st.1).drop 1,st.2)).1 (wF ((trim st.1).drop 1,st.2)).2
          have h3:=w_eats (form_zero ih h2)
          simp only [List.length_drop] at h3; omega
end VM
end Go.Proofs.YtpllgpgdcbgalaaDoor
set_option maxRecDepth 8000
namespace Go.Proofs.YtpllgpgdcbgalaaDoor
open Go Go.RowKit
namespace VM
def Flow (a b:St):Prop:=b.1.length≤a.1.length∧(b.2=0→a.2=0)
theorem Flow.refl (a:St):Flow a a:=⟨Nat.le_refl _,id⟩
theorem Flow.trans {a b c:St} (h:Flow a b) (k:Flow b c):Flow a c:=⟨Nat.le_trans k.1 h.1,fun e=>h.2 (k.2 e)⟩
theorem not_zero {a b:Int} (h:a ≠ 0→b ≠ 0):b=0→a=0:=fun e=>Classical.byContradiction fun h0=>h h0 e
theorem flow_must (c:Int) (st:St):Flow st (mustF c st):=⟨must_le c st,not_zero must_stuck⟩
theorem flow_w (st:St):Flow st (wF st).2:=⟨(zms st).2,not_zero w_stuck⟩
theorem flow_bad (e:Int) (st:St):Flow st (badF e st):=⟨Nat.le_refl _,not_zero bad_stuck⟩
theorem Nice.flow {α:Type} {m:St→α×St} (h:Nice m) (st:St):Flow st (m st).2:=⟨h.le st,not_zero (h.stuck st)⟩
theorem flow_times {α:Type} {m:St→α×St} (h:Nice m):∀ (k:Nat) (st:St),Flow st (timesF m k st).2
  | 0,st=>.refl _
  | k+1,st=>by unfold timesF; exact (h.flow st).trans (flow_times h k _)
theorem flow_nm (k:Int) (st:St):Flow st (nmF k st).2:=by
  unfold nmF
  split
  · exact nice_n.flow st
  · exact .refl _
theorem nice_stmt:∀ d,Nice (stmtF d)
  | 0=>⟨fun st=>Nat.le_refl _,fun st h=>bad_stuck h,fun st _ h=>absurd h (bad_err (by decide))⟩
  | d + 1=>by
    have ih:=nice_stmt d
    have key:∀ st:St,¬ st.2 ≠ 0→Flow (mustF 40 st) (stmtF (d+1) st).2:=by
      intro st h
      simp only [stmtF]
      rw [if_neg h]
      have f1:=flow_w (mustF 40 st)
      generalize wF (mustF 40 st)=w at f1 ⊢
      have f2:Flow w.2 (if stKind w.1=0 then badF 1 w.2 else w.2):=by
        split
        · exact flow_bad 1 _
        · exact .refl _
      generalize (if stKind w.1=0 then badF 1 w.2 else w.2)=s1 at f2 ⊢
      have f3:=flow_nm (stKind w.1) s1
      generalize nmF (stKind w.1) s1=nm at f3 ⊢
      have f4:=flow_times (nice_expr d) (argsOf (stKind w.1)) nm.2
      generalize timesF (exprF d) (argsOf (stKind w.1)) nm.2=a at f4 ⊢
      have f5:=((f1.trans f2).trans f3).trans f4
      split
      · exact ((((f5.trans (flow_must 40 _)).trans ((nice_many ih).flow _)).trans (flow_must 40 _)).trans ((nice_many ih).flow _)).trans (flow_must 41 _)
      · split
        · exact f5.trans ((nice_many ih).flow _)
        · exact f5.trans (flow_must 41 _)
    refine ⟨fun st => ?_,fun st h => ?_,fun st h h2 => ?_⟩
    · by_cases h:st.2 ≠ 0
      · unfold stmtF; rw [if_pos h]; exact Nat.le_refl _
      · exact Nat.le_trans (key st h).1 (must_le 40 st)
    · unfold stmtF; rw [if_pos h]; exact h
    · have k:=key st (by simpa using h)
      exact Nat.lt_of_le_of_lt k.1 (must_eats (by decide) (k.2 h2))
theorem nice_fn:Nice fnF:=by
  have key:∀ st:St,Flow (mustF 40 st) (fnF st).2:=fun st=>by
    unfold fnF
    exact (((nice_n.flow _).trans (flow_must 40 _)).trans ((nice_many nice_n).flow _)).trans ((nice_many (nice_stmt 11)).flow _)
  refine ⟨fun st=>Nat.le_trans (key st).1 (must_le 40 st),fun st h h2=>h ((flow_must 40 st).2 ((key st).2 h2)),fun st h h2=>Nat.lt_of_le_of_lt (key st).1 (must_eats (by decide) ((key st).2 h2))⟩
end VM
section
variable {g:Nat} {st:VM.St} {H:Heap} {n:Nat} {Q:QT}
theorem zqc {α:Type} {m:VM.St→α×VM.St} (hm:VM.Nice m) {fid:FuncId} {cap:List AV} (I:List α→VM.St→Heap→Nat→Prop)
    (hI:∀ l st H n,I l st H n→H g=some (PR st))
    (hput:∀ l st st' H n,I l st H n→VM.Flow st st'→I l st' (H.put g (some (PR st'))) n)
    (hstep:∀ l st H n (K:QT),I l st H n→st.2=0→(∀ H' n',I (l ++ [(m st).1]) (m st).2 H' n'→K (.tup []) H' n')→za Tryd.prog fid cap H n K)
    (h0:I [] st H n) (hq:∀ H' n',I (VM.manyF m st).1 (VM.manyF m st).2 H' n'→Q (.tup []) H' n'):za Tryd.prog 30 [.ptr g 0,.clo fid cap] H n Q:=by
  refine zmm _ _ _ _ _ ?_
  unfold zin
  refine LP.mk (fun k xs H' n'=>xs=[.ptr g 0,.clo fid cap]∧∃ l s1,I l s1 H' n'∧VM.left s1 < k∧VM.manyF m st=(l ++ (VM.untilF m k s1).1,(VM.untilF m k s1).2)) _ ⟨rfl,[],st,h0,VM.left_le st,rfl⟩ ?_
  rintro k xs H' n' ⟨rfl,l,s1,hi,hle,hgo⟩
  generalize hJ:(fun (xs:List AV) (H:Heap) (nx:Nat)=>∃ j,j < k∧xs=[.ptr g 0,.clo fid cap]∧∃ l s1,I l s1 H nx∧VM.left s1 < j∧VM.manyF m st=(l ++ (VM.untilF m j s1).1,(VM.untilF m j s1).2))=J
  match k,hle with
  | k+1,hle =>
  have hg:=hI _ _ _ _ hi
  have hg':H' g=some (.row 2 [.str s1.1,.int .i64 s1.2]):=hg
  rw [hgo] at hq
  by_cases he:s1.2=0
  · simp [zen,hg',he]
    refine zmb hg ?_
    have hpeek:=hput l s1 (VM.trim s1.1,s1.2) H' n' hi ⟨VM.trim_le _,id⟩
    have hg2:(H'.put g (some (PR (VM.trim s1.1,s1.2)))) g=some (PR (VM.trim s1.1,s1.2)):=Heap.put_at _ _ _
    have hP:∀ o,(H'.put g (some (PR (VM.trim s1.1,s1.2)))).put g o=H'.put g o:=fun o=>Heap.put_put ..
    generalize H'.put g (some (PR (VM.trim s1.1,s1.2)))=HX at *
    by_cases hn:VM.nxt s1.1=41
    · simp [zeo,hn]
      refine zeh (by decide) hg2 ?_
      rw [VM.must_trim,hP]
      simp only [VM.untilF,he,hn,ne_eq,not_true_eq_false,and_false,if_false,List.append_nil] at hq
      exact hq _ _ (hput l s1 _ H' n' hi (VM.flow_must 41 s1))
    · simp [zeo,hn,CALL]
      refine hstep l (VM.trim s1.1,s1.2) HX n' _ hpeek he fun H2 n2 h3 => ?_
      rw [← hJ]
      rw [he] at h3
      have hl:=VM.left_lt hm (st:=s1) he
      refine ⟨k,by omega,rfl,_,_,h3,by omega,?_⟩
      rw [hgo]
      simp only [VM.untilF,he,hn,ne_eq,not_false_eq_true,and_true,if_true,List.append_assoc,List.singleton_append]
  · simp [zen,hg',he]
    refine zeh (by decide) hg ?_
    simp only [VM.untilF,he,false_and,if_false,List.append_nil] at hq
    exact hq _ _ (hput l s1 _ H' n' hi (VM.flow_must 41 s1))
end
end Go.Proofs.YtpllgpgdcbgalaaDoor
set_option maxRecDepth 8000
namespace Go.Proofs.YtpllgpgdcbgalaaDoor
open Go Go.RowKit
inductive Rn (R:Nat→Prop) (gn g0:Nat):AV→AV→Prop
  | same (v:AV):Bel R v→Rn R gn g0 v v
  | slc (off len:Nat):Rn R gn g0 (.slc gn off len) (.slc g0 off len)
  | ptr (off:Nat):Rn R gn g0 (.ptr gn off) (.ptr g0 off)
  | amap:Rn R gn g0 (.amap gn) (.amap g0)
  | agg (xs ys:List AV):ys.length=xs.length→(∀ (j:Nat) (v u:AV),xs[j]? = some v→ys[j]? = some u→Rn R gn g0 v u)→Rn R gn g0 (.agg xs) (.agg ys)
def RnO (R:Nat→Prop) (gn g0:Nat):AObj→AObj→Prop
  | .row s cs,.row s' ds=>s'=s∧ds.length=cs.length∧∀ (j:Nat) (v u:AV),cs[j]? = some v→ds[j]? = some u→Rn R gn g0 v u
  | .mp es,.mp fs=>fs.length=es.length∧∀ (j:Nat) (v u:AV×AV),es[j]? = some v→fs[j]? = some u→Rn R gn g0 v.1 u.1∧Rn R gn g0 v.2 u.2
  | _,_=>False
theorem VRel.rn {K:zj} {ρ ρ2:Nat→Loc} {A A2 R:Nat→Prop} {gn g0:Nat} {v u:AV} {c:Value} (h:VRel K ρ A v c) (hr:Rn R gn g0 v u) (hR:∀ g,R g→A g→ρ2 g=ρ g∧A2 g) (hA:∀ g,R g→A g) (hg:ρ2 g0=ρ gn∧A2 g0):VRel K ρ2 A2 u c:=by
  induction hr generalizing c with
  | same _ hb=>exact (h.restrict hb).mono (fun _ _ h=>h) fun g hg=>hR g hg (hA g hg)
  | slc off len =>
    cases h with
    | slc _ _ _ cap a h1 h2 h3=>exact .slc g0 off len cap a hg.2 h2 (by rw [hg.1]; exact h3)
  | ptr off =>
    cases h with
    | ptr _ _ a h1 h2=>exact .ptr g0 off a hg.2 (by rw [hg.1]; exact h2)
  | amap =>
    cases h with
    | amap _ r h1 h2=>exact .amap g0 r hg.2 (by rw [hg.1]; exact h2)
  | agg xs ys hl _ ih =>
    cases h with
    | agg _ cs h1 h2 =>
      exact .agg ys cs (by omega) fun j u c hu hc=>by
        have hlt:=(List.getElem?_eq_some_iff.1 hu).1
        have hx:xs[j]? = some (xs[j]'(by omega)):=List.getElem?_eq_getElem (by omega)
        exact ih j _ u hx hu (h2 j _ c hx hc)
theorem zam.rn {K:zj} {ρ ρ2:Nat→Loc} {A A2 R:Nat→Prop} {gn g0:Nat} {o o':AObj} {w:World} {l:Loc} (h:zam K ρ A w l o) (hr:RnO R gn g0 o o') (hR:∀ g,R g→A g→ρ2 g=ρ g∧A2 g) (hA:∀ g,R g→A g) (hg:ρ2 g0=ρ gn∧A2 g0):zam K ρ2 A2 w l o':=by
  cases o with
  | row s cs =>
    cases o' with
    | mp fs | it _ _ _=>exact hr.elim
    | row s' ds =>
      obtain ⟨rfl,hl,hc⟩:=hr
      obtain ⟨c,e,lo,hi,h1,h0,h2,h3,h4,h5⟩:=h
      refine ⟨c,e,lo,hi,h1,h0,h2,h3,by rw [hl]; exact h4,fun j u hu => ?_⟩
      have hj:j < cs.length:=by have:=(List.getElem?_eq_some_iff.1 hu).1; omega
      have hv:cs[j]? = some cs[j]:=List.getElem?_eq_getElem hj
      obtain ⟨cv,a1,a2⟩:=h5 j _ hv
      exact ⟨cv,a1,a2.rn (hc j _ u hv hu) hR hA hg⟩
  | mp es =>
    cases o' with
    | row s' ds | it _ _ _=>exact hr.elim
    | mp fs =>
      obtain ⟨hl,hc⟩:=hr
      obtain ⟨en,cl,h1,h2,h3,h4⟩:=h
      refine ⟨en,cl,h1,by rw [hl]; exact h2,fun j u e hu he => ?_,h4⟩
      have hj:j < es.length:=by have:=(List.getElem?_eq_some_iff.1 hu).1; omega
      have hv:es[j]? = some es[j]:=List.getElem?_eq_getElem hj
      obtain ⟨a1,a2⟩:=h3 j _ e hv he
      obtain ⟨b1,b2⟩:=hc j _ u hv hu
      exact ⟨a1.rn b1 hR hA hg,a2.rn b2 hR hA hg⟩
  | it _ _ _=>exact hr.elim
theorem zih {D:zi}:∀ {H:Heap} {g:Nat},g∉domD D→(H.apply D) g=H g:=by
  induction D with
  | nil=>intros; rfl
  | cons d r ih =>
    obtain ⟨g',o⟩:=d
    intro H g hg
    simp only [domD,List.map_cons,List.mem_cons,not_or] at hg
    show ((H.put g' o).apply r) g=H g
    rw [ih (by simpa [domD] using hg.2),Heap.put_ne _ _ hg.1]
theorem LC.of_calls1 {P:Program} {f:FuncId} {args:List AV} {r:AV} {H0:Heap} {rd:List Nat} {D:zi} {g0:Nat} (hrd:∀ g∈rd,(H0 g).isSome=true) (hdom:∀ g∈domD D,g∈rd∨g=g0)
    (h : ∀ H nx,(∀ g∈rd,H g=H0 g∧g < nx)→za P f args H nx fun v H' nx'=>∃ gn,nx≤gn∧gn < nx'∧Rn (fun x=>x∈rd) gn g0 v r∧(∀ g,g < nx→g∉domD D→H' g=H g) ∧
      (∀ g o,g∈domD D→g ≠ g0→(H.apply D) g=some o→∃ o',H' g=some o'∧RnO (fun x=>x∈rd) gn g0 o' o)∧(∃ o o',(H.apply D) g0=some o∧H' gn=some o'∧RnO (fun x=>x∈rd) gn g0 o' o)):LC P f args H0 rd [g0] D r:=by
  intro A ρ H w cargs ⟨N0,hN0⟩ s ha hag hfresh
  obtain ⟨N,hN,hg0N⟩:∃ N,(∀ g,A g→g < N)∧g0 < N:=⟨max N0 (g0+1),fun g hg=>by have:=hN0 g hg; omega,by omega⟩
  have hg0:¬ A g0:=hfresh g0 (by simp)
  have sN:Sim (· < N) ρ H w:=⟨fun g o ho=>hN g (s.live g o ho),fun g o ho=>(s.obj g o ho).mono rfl (fun _ _ h=>h) (fun g hg=>⟨rfl,hN g hg⟩),s.inj,s.lay⟩
  have aN:LRel (Kof ρ H w) ρ (· < N) args cargs.toList:=⟨ha.1,fun j v c hv hc=>(ha.2 j v c hv hc).mono (fun _ _ h=>h) (fun g hg=>⟨rfl,hN g hg⟩)⟩
  have hrdA:∀ g∈rd,A g:=fun g hg=>by
    obtain ⟨o,ho⟩:=Option.isSome_iff_exists.1 (hrd g hg)
    exact s.live g o ((hag g hg).trans ho)
  refine zae (h H N (fun g hg=>⟨hag g hg,hN g (hrdA g hg)⟩) ρ w cargs sN aN) fun cv w' ⟨v,H',nx',ρ',⟨gn,hgN,hgn,hv,hsame,hchg,onew,onew',hn1,hn2,hn3⟩,q3,q4,q5⟩ => ?_
  have hρ:∀ g,g < N→ρ' g=ρ g:=fun g hg=>(q5.agree g hg).1
  let ρ2:Nat→Loc:=fun g=>if g=g0 then ρ' gn else ρ' g
  have h20:ρ2 g0=ρ' gn:=if_pos rfl
  have h2:∀ g,g ≠ g0→ρ2 g=ρ' g:=fun g hg=>if_neg hg
  have hAne:∀ g,A g→g ≠ g0:=fun g hg e=>hg0 (e ▸ hg)
  have hR:∀ g,g∈rd→g < nx'→ρ2 g=ρ' g∧(A g∨g∈[g0]):=fun g hg _=>⟨h2 g (hAne g (hrdA g hg)),.inl (hrdA g hg)⟩
  have hRA:∀ g,g∈rd→g < nx':=fun g hg=>by have:=hN g (hrdA g hg); omega
  have hG:ρ2 g0=ρ' gn∧(A g0∨g0∈[g0]):=⟨h20,.inr (by simp)⟩
  -- who stands for whom
  have lv : ∀ g o,(H.apply D) g=some o→(A g∨g∈[g0])∧∃ g' o',H' g'=some o'∧ρ2 g=ρ' g'∧(g=g0→g'=gn)∧(g ≠ g0→g'=g∧A g) ∧
      (∀ K,zam K ρ' (· < nx') w' (ρ' g') o'→zam K ρ2 (fun x=>A x∨x∈[g0]) w' (ρ2 g) o):=fun g o ho=>by
    by_cases hgg:g=g0
    · subst hgg
      rw [hn1] at ho
      obtain rfl:=Option.some.inj ho
      exact ⟨.inr (by simp),gn,onew',hn2,h20,fun _=>rfl,fun h=>absurd rfl h,fun K hk=>by rw [h20]; exact hk.rn hn3 hR hRA hG⟩
    · by_cases hg:g∈domD D
      · obtain ⟨o',h1,h3⟩:=hchg g o hg hgg ho
        have hA:A g:=by
          rcases hdom g hg with h | h
          · exact hrdA g h
          · exact absurd h hgg
        exact ⟨.inl hA,g,o',h1,h2 g hgg,fun h=>absurd h hgg,fun _=>⟨rfl,hA⟩,fun K hk=>by rw [h2 g hgg]; exact hk.rn h3 hR hRA hG⟩
      · rw [zih hg] at ho
        have hA:=s.live g o ho
        refine ⟨.inl hA,g,o,by rw [hsame g (hN g hA) hg]; exact ho,h2 g hgg,fun h=>absurd h hgg,fun _=>⟨rfl,hA⟩,fun K hk => ?_⟩
        rw [h2 g hgg]
        exact (hk.restrict (s.obj g o ho).bel).mono rfl (fun _ _ h=>h) (fun x hx=>⟨h2 x (hAne x hx),.inl hx⟩)
  have hK:∀ b o,Kof ρ' H' w' b=some o→Kof ρ2 (H.apply D) w' b=some o:=fun b o hb=>by
    obtain ⟨k1,k2⟩:=zw.1 hb
    refine zw.2 ⟨fun g hg => ?_,k2⟩
    obtain ⟨o1,ho1⟩:=Option.isSome_iff_exists.1 hg
    obtain ⟨_,g',o',e1,e2,_⟩:=lv g o1 ho1
    rw [e2]
    exact k1 g' (by rw [e1]; rfl)
  refine ⟨ρ2,⟨fun g o ho=>(lv g o ho).1,fun g o ho => ?_,fun x y hx hy hxy => ?_,q3.lay.mono hK⟩,?_,⟨fun g hg=>⟨(h2 g (hAne g hg)).trans (hρ g (hN g hg)),.inl hg⟩,fun b o hb=>hK b o (q5.k b o hb),q5.os,q5.tape,q5.output,q5.size⟩⟩
  · obtain ⟨_,g',o',e1,_,_,_,e4⟩:=lv g o ho
    exact (e4 _ (q3.obj g' o' e1)).mono rfl hK (fun _ h=>⟨rfl,h⟩)
  · obtain ⟨o1,ho1⟩:=Option.isSome_iff_exists.1 hx
    obtain ⟨o2,ho2⟩:=Option.isSome_iff_exists.1 hy
    obtain ⟨_,x',p1,e1,e2,e3,e4,_⟩:=lv x o1 ho1
    obtain ⟨_,y',p2,f1,f2,f3,f4,_⟩:=lv y o2 ho2
    rw [e2,f2] at hxy
    have hxy':=q3.inj x' y' (by rw [e1]; rfl) (by rw [f1]; rfl) hxy
    by_cases hx0:x=g0
    · by_cases hy0:y=g0
      · rw [hx0,hy0]
      · have:=(f4 hy0).1
        have hAy:=hN y (f4 hy0).2
        have:=e3 hx0
        omega
    · by_cases hy0:y=g0
      · have:=(e4 hx0).1
        have hAx:=hN x (e4 hx0).2
        have:=f3 hy0
        omega
      · rw [← (e4 hx0).1,← (f4 hy0).1]; exact hxy'
  · exact (q4.rn hv hR hRA hG).mono hK (fun g hg=>⟨rfl,hg⟩)
end Go.Proofs.YtpllgpgdcbgalaaDoor
set_option maxRecDepth 8000
namespace Go.Proofs.YtpllgpgdcbgalaaDoor
open Go Go.RowKit
theorem zzn {D:zi}:∀ {H H':Heap} {g:Nat},g∈domD D→(H.apply D) g=(H'.apply D) g:=by
  induction D with
  | nil=>intro H H' g hg; simp at hg
  | cons d r ih =>
    obtain ⟨g',o⟩:=d
    intro H H' g hg
    show ((H.put g' o).apply r) g=((H'.put g' o).apply r) g
    by_cases hr:g∈domD r
    · exact ih hr
    · rw [zih hr,zih hr]
      have:g=g':=by simpa [hr] using hg
      subst this
      rw [Heap.put_at,Heap.put_at]
theorem LC.of_calls {P:Program} {f:FuncId} {args:List AV} {r:AV} {H0:Heap} {rd:List Nat} {D:zi} (hrd:∀ g∈rd,(H0 g).isSome=true) (hdom:∀ g∈domD D,g∈rd) (hr:∀ A:Nat→Prop,(∀ g∈rd,A g)→(∀ g∈rd,∀ o,H0 g=some o→BelO A o)→Bel A r)
    (hb:∀ A:Nat→Prop,(∀ g∈rd,A g)→(∀ g∈rd,∀ o,H0 g=some o→BelO A o)→∀ g o,g∈domD D→(H0.apply D) g=some o→BelO A o)
    (h:∀ H nx,(∀ g∈rd,H g=H0 g∧g < nx)→za P f args H nx fun v H' nx'=>v=r∧nx≤nx'∧(∀ g,g < nx→g∉domD D→H' g=H g)∧(∀ g o,g∈domD D→(H0.apply D) g=some o→H' g=some o)):LC P f args H0 rd [] D r:=by
  intro A ρ H w cargs ⟨N,hN⟩ s ha hag _
  have sN:Sim (· < N) ρ H w:=⟨fun g o ho=>hN g (s.live g o ho),fun g o ho=>(s.obj g o ho).mono rfl (fun _ _ h=>h) (fun g hg=>⟨rfl,hN g hg⟩),s.inj,s.lay⟩
  have aN:LRel (Kof ρ H w) ρ (· < N) args cargs.toList:=⟨ha.1,fun j v c hv hc=>(ha.2 j v c hv hc).mono (fun _ _ h=>h) (fun g hg=>⟨rfl,hN g hg⟩)⟩
  have hrdA:∀ g∈rd,A g:=fun g hg=>by
    obtain ⟨o,ho⟩:=Option.isSome_iff_exists.1 (hrd g hg)
    exact s.live g o ((hag g hg).trans ho)
  have hrdB:∀ g∈rd,∀ o,H0 g=some o→BelO A o:=fun g hg o ho=>(s.obj g o ((hag g hg).trans ho)).bel
  refine zae (h H N (fun g hg=>⟨hag g hg,hN g (hrdA g hg)⟩) ρ w cargs sN aN) fun cv w' ⟨v,H',nx',ρ',⟨hv,hnx,hsame,hchg⟩,q3,q4,q5⟩ => ?_
  subst hv
  have hρ:∀ g,g < N→ρ' g=ρ g:=fun g hg=>(q5.agree g hg).1
  have hAe:(fun x=>A x∨x∈([]:List Nat))=A:=by funext x; simp
  have lv:∀ g o,(H.apply D) g=some o→A g∧H' g=some o∧BelO A o:=fun g o ho=>by
    by_cases hg:g∈domD D
    · rw [zzn (H':=H0) hg] at ho
      exact ⟨hrdA g (hdom g hg),hchg g o hg ho,hb A hrdA hrdB g o hg ho⟩
    · rw [zih hg] at ho
      have hA:=s.live g o ho
      exact ⟨hA,by rw [hsame g (hN g hA) hg]; exact ho,(s.obj g o ho).bel⟩
  have hK:∀ b o,Kof ρ' H' w' b=some o→Kof ρ' (H.apply D) w' b=some o:=fun b o hb=>by
    obtain ⟨h1,h2⟩:=zw.1 hb
    refine zw.2 ⟨fun g hg => ?_,h2⟩
    obtain ⟨o1,ho1⟩:=Option.isSome_iff_exists.1 hg
    exact h1 g (by rw [(lv g o1 ho1).2.1]; rfl)
  refine ⟨ρ',?_,?_,?_⟩
  · rw [hAe]
    refine ⟨fun g o ho=>(lv g o ho).1,fun g o ho => ?_,fun x y hx hy hxy => ?_,q3.lay.mono hK⟩
    · obtain ⟨_,h1,h2⟩:=lv g o ho
      exact ((q3.obj g o h1).restrict h2).mono rfl hK (fun _ h=>⟨rfl,h⟩)
    · obtain ⟨o1,ho1⟩:=Option.isSome_iff_exists.1 hx
      obtain ⟨o2,ho2⟩:=Option.isSome_iff_exists.1 hy
      exact q3.inj x y (by rw [(lv x o1 ho1).2.1]; rfl) (by rw [(lv y o2 ho2).2.1]; rfl) hxy
  · rw [hAe]
    exact (q4.restrict (hr A hrdA hrdB)).mono hK (fun g hg=>⟨rfl,hg⟩)
  · rw [hAe]
    exact ⟨fun g hg=>⟨hρ g (hN g hg),hg⟩,fun b o hb=>hK b o (q5.k b o hb),q5.os,q5.tape,q5.output,q5.size⟩
theorem LC.of_callsN {P:Program} {f:FuncId} {args:List AV} {r:AV} {H0:Heap} {rd:List Nat} {D:zi} {g0:Nat} (hrd:∀ g∈rd,(H0 g).isSome=true) (hdom:∀ g∈domD D,g∈rd∨g=g0)
    (h : ∀ A:Nat→Prop,(∀ g∈rd,A g)→(∀ g∈rd,∀ o,H0 g=some o→BelO A o)→∀ H nx,(∀ g∈rd,H g=H0 g∧g < nx)→za P f args H nx fun v H' nx'=>∃ gn,nx≤gn∧gn < nx'∧Rn A gn g0 v r∧(∀ g,g < nx→g∉domD D→H' g=H g) ∧
      (∀ g o,g∈domD D→g ≠ g0→(H.apply D) g=some o→∃ o',H' g=some o'∧RnO A gn g0 o' o)∧(∃ o o',(H.apply D) g0=some o∧H' gn=some o'∧RnO A gn g0 o' o)):LC P f args H0 rd [g0] D r:=by
  intro A ρ H w cargs ⟨N0,hN0⟩ s ha hag hfresh
  obtain ⟨N,hN,hg0N⟩:∃ N,(∀ g,A g→g < N)∧g0 < N:=⟨max N0 (g0+1),fun g hg=>by have:=hN0 g hg; omega,by omega⟩
  have hg0:¬ A g0:=hfresh g0 (by simp)
  have sN:Sim (· < N) ρ H w:=⟨fun g o ho=>hN g (s.live g o ho),fun g o ho=>(s.obj g o ho).mono rfl (fun _ _ h=>h) (fun g hg=>⟨rfl,hN g hg⟩),s.inj,s.lay⟩
  have aN:LRel (Kof ρ H w) ρ (· < N) args cargs.toList:=⟨ha.1,fun j v c hv hc=>(ha.2 j v c hv hc).mono (fun _ _ h=>h) (fun g hg=>⟨rfl,hN g hg⟩)⟩
  have hrdA:∀ g∈rd,A g:=fun g hg=>by
    obtain ⟨o,ho⟩:=Option.isSome_iff_exists.1 (hrd g hg)
    exact s.live g o ((hag g hg).trans ho)
  have hrdB:∀ g∈rd,∀ o,H0 g=some o→BelO A o:=fun g hg o ho=>(s.obj g o ((hag g hg).trans ho)).bel
  refine zae (h A hrdA hrdB H N (fun g hg=>⟨hag g hg,hN g (hrdA g hg)⟩) ρ w cargs sN aN) fun cv w' ⟨v,H',nx',ρ',⟨gn,hgN,hgn,hv,hsame,hchg,onew,onew',hn1,hn2,hn3⟩,q3,q4,q5⟩ => ?_
  have hρ:∀ g,g < N→ρ' g=ρ g:=fun g hg=>(q5.agree g hg).1
  let ρ2:Nat→Loc:=fun g=>if g=g0 then ρ' gn else ρ' g
  have h20:ρ2 g0=ρ' gn:=if_pos rfl
  have h2:∀ g,g ≠ g0→ρ2 g=ρ' g:=fun g hg=>if_neg hg
  have hAne:∀ g,A g→g ≠ g0:=fun g hg e=>hg0 (e ▸ hg)
  have hR:∀ g,A g→g < nx'→ρ2 g=ρ' g∧(A g∨g∈[g0]):=fun g hg _=>⟨h2 g (hAne g hg),.inl hg⟩
  have hRA:∀ g,A g→g < nx':=fun g hg=>by have:=hN g hg; omega
  have hG:ρ2 g0=ρ' gn∧(A g0∨g0∈[g0]):=⟨h20,.inr (by simp)⟩
  -- who stands for whom
  have lv : ∀ g o,(H.apply D) g=some o→(A g∨g∈[g0])∧∃ g' o',H' g'=some o'∧ρ2 g=ρ' g'∧(g=g0→g'=gn)∧(g ≠ g0→g'=g∧A g) ∧
      (∀ K,zam K ρ' (· < nx') w' (ρ' g') o'→zam K ρ2 (fun x=>A x∨x∈[g0]) w' (ρ2 g) o):=fun g o ho=>by
    by_cases hgg:g=g0
    · subst hgg
      rw [hn1] at ho
      obtain rfl:=Option.some.inj ho
      exact ⟨.inr (by simp),gn,onew',hn2,h20,fun _=>rfl,fun h=>absurd rfl h,fun K hk=>by rw [h20]; exact hk.rn hn3 hR hRA hG⟩
    · by_cases hg:g∈domD D
      · obtain ⟨o',h1,h3⟩:=hchg g o hg hgg ho
        have hA:A g:=by
          rcases hdom g hg with h | h
          · exact hrdA g h
          · exact absurd h hgg
        exact ⟨.inl hA,g,o',h1,h2 g hgg,fun h=>absurd h hgg,fun _=>⟨rfl,hA⟩,fun K hk=>by rw [h2 g hgg]; exact hk.rn h3 hR hRA hG⟩
      · rw [zih hg] at ho
        have hA:=s.live g o ho
        refine ⟨.inl hA,g,o,by rw [hsame g (hN g hA) hg]; exact ho,h2 g hgg,fun h=>absurd h hgg,fun _=>⟨rfl,hA⟩,fun K hk => ?_⟩
        rw [h2 g hgg]
        exact (hk.restrict (s.obj g o ho).bel).mono rfl (fun _ _ h=>h) (fun x hx=>⟨h2 x (hAne x hx),.inl hx⟩)
  have hK:∀ b o,Kof ρ' H' w' b=some o→Kof ρ2 (H.apply D) w' b=some o:=fun b o hb=>by
    obtain ⟨k1,k2⟩:=zw.1 hb
    refine zw.2 ⟨fun g hg => ?_,k2⟩
    obtain ⟨o1,ho1⟩:=Option.isSome_iff_exists.1 hg
    obtain ⟨_,g',o',e1,e2,_⟩:=lv g o1 ho1
    rw [e2]
    exact k1 g' (by rw [e1]; rfl)
  refine ⟨ρ2,⟨fun g o ho=>(lv g o ho).1,fun g o ho => ?_,fun x y hx hy hxy => ?_,q3.lay.mono hK⟩,?_,⟨fun g hg=>⟨(h2 g (hAne g hg)).trans (hρ g (hN g hg)),.inl hg⟩,fun b o hb=>hK b o (q5.k b o hb),q5.os,q5.tape,q5.output,q5.size⟩⟩
  · obtain ⟨_,g',o',e1,_,_,_,e4⟩:=lv g o ho
    exact (e4 _ (q3.obj g' o' e1)).mono rfl hK (fun _ h=>⟨rfl,h⟩)
  · obtain ⟨o1,ho1⟩:=Option.isSome_iff_exists.1 hx
    obtain ⟨o2,ho2⟩:=Option.isSome_iff_exists.1 hy
    obtain ⟨_,x',p1,e1,e2,e3,e4,_⟩:=lv x o1 ho1
    obtain ⟨_,y',p2,f1,f2,f3,f4,_⟩:=lv y o2 ho2
    rw [e2,f2] at hxy
    have hxy':=q3.inj x' y' (by rw [e1]; rfl) (by rw [f1]; rfl) hxy
    by_cases hx0:x=g0
    · by_cases hy0:y=g0
      · rw [hx0,hy0]
      · have:=(f4 hy0).1
        have hAy:=hN y (f4 hy0).2
        have:=e3 hx0
        omega
    · by_cases hy0:y=g0
      · have:=(e4 hx0).1
        have hAx:=hN x (e4 hx0).2
        have:=f3 hy0
        omega
      · rw [← (e4 hx0).1,← (f4 hy0).1]; exact hxy'
  · exact (q4.rn hv hR hRA hG).mono hK (fun g hg=>⟨rfl,hg⟩)
end Go.Proofs.YtpllgpgdcbgalaaDoor
set_option maxRecDepth 8000
namespace Go.Proofs.YtpllgpgdcbgalaaDoor
open Go Go.RowKit
namespace VM
theorem left_lt' {α:Type} {m:St→α×St} (hm:Nice m) {st:St} (h:st.2=0):left (m st).2 < left st:=by
  unfold left
  rw [if_pos h]
  split
  · rename_i h2
    have:=hm.eats st h h2
    omega
  · omega
theorem Flow.left {a b:St} (h:Flow a b):left b≤left a:=by
  unfold VM.left
  split
  · rename_i h2
    rw [if_pos (h.2 h2)]; have:=h.1; omega
  · omega
end VM
section
variable {g:Nat} {st st':VM.St} {H:Heap} {n:Nat} {Q:QT}
theorem zwd (A:Nat→Prop):BelO A (PR st):=by
  intro i y hy
  match i with
  | 0=>simp [PR] at hy; subst hy; exact .str _
  | 1=>simp [PR] at hy; subst hy; exact .int _ _
  | i+2=>simp [PR] at hy
theorem za.parser {P:Program} {f:FuncId} {args:List AV} {r:AV} (hg:H g=some (PR st)) (hraw:g < n→za P f args H n fun v H' _=>Frz H' n v r∧H' g=some (PR st')∧∀ y,y < n→y ≠ g→H' y=H y) (hq:Q r (H.put g (some (PR st'))) n):za P f args H n Q:=by
  refine za.tidy fun hlive => ?_
  have hgn:=hlive g _ hg
  refine (za.gc (R:=fun v H'=>v=r∧H'=H.put g (some (PR st'))) (hraw hgn) fun v H' n' ⟨h1,h2,h3⟩=>⟨r,_,⟨rfl,rfl⟩,h1,fun y o ho => ?_⟩).mono fun v H' n' ⟨⟨h1,h2⟩,h3⟩=>by subst h1; subst h2; subst h3; exact hq
  by_cases hy:y=g
  · subst hy
    rw [Heap.put_at] at ho
    cases ho
    exact ⟨hgn,h2,.inr (zwd _)⟩
  · rw [Heap.put_ne _ _ hy] at ho
    exact ⟨hlive y o ho,by rw [h3 y (hlive y o ho) hy]; exact ho,.inl ho⟩
end
theorem zcv {A:Nat→Prop} {l:List (List AV)} (h:∀ x∈l,∀ v∈x,Bel A v):Bel A (.ro l):=.ro _ fun _ x _ v hx hv=>h x (List.mem_of_getElem? hx) v (List.mem_of_getElem? hv)
mutual
theorem zoq (A:Nat→Prop):∀ x:Ex,∀ v∈x.avs,Bel A v
  | .mk k n t ar=>by
    rw [Ex.avs]
    intro v hv
    simp only [List.mem_cons,List.not_mem_nil,or_false] at hv
    rcases hv with rfl | rfl | rfl | rfl
    · exact .int _ _
    · exact .int _ _
    · exact .str _
    · exact zcv (zwc A ar)
theorem zwc (A:Nat→Prop):∀ l:List Ex,∀ x∈Ex.avsL l,∀ v∈x,Bel A v
  | []=>by simp [Ex.avsL]
  | x :: r=>by
    rw [Ex.avsL]
    intro y hy
    rcases List.mem_cons.1 hy with rfl | h
    · exact zoq A x
    · exact zwc A r y h
end
theorem zadw (x:Ex) (A:Nat→Prop):Bel A (.agg x.avs):=.agg _ fun _ v hv=>zoq A x v (List.mem_of_getElem? hv)
def zgk (d:Nat):Prop:=∀ (st:VM.St) (g:Nat) (H:Heap) (n:Nat) (Q:QT),st.1.length≤1500→H g=some (PR st)→Q (.agg (VM.exprF d st).1.avs) (H.put g (some (PR (VM.exprF d st).2))) n→za Tryd.prog 69 [.ptr g 0,.int .i64 (11 - (d:Int))] H n Q
theorem LC.parser {f:FuncId} {args:List AV} {r:AV} {g:Nat} {st st':VM.St} {H:Heap} (hg:H g=some (PR st)) (hr:∀ A:Nat→Prop,Bel A r)
    (h:∀ (H:Heap) (n:Nat) (Q:QT),H g=some (PR st)→Q r (H.put g (some (PR st'))) n→za Tryd.prog f args H n Q):LC Tryd.prog f args H [g] [] [(g,some (PR st'))] r:=by
  refine LC.of_calls (fun x hx => ?_) (by simp [domD]) (fun A _ _=>hr A) (fun A _ _ x o hx ho => ?_) fun H' n' ha => ?_
  · simp at hx; subst hx; rw [hg]; rfl
  · simp [domD] at hx; subst hx
    simp [Heap.put_at] at ho
    subst ho
    exact zwd _
  · obtain ⟨a1,a2⟩:=ha g (by simp)
    refine h H' n' _ (a1.trans hg) ⟨rfl,Nat.le_refl _,fun x _ hx => ?_,fun x o hx ho => ?_⟩
    · simp [domD] at hx
      exact Heap.put_ne _ _ hx
    · simp [domD] at hx; subst hx
      simp [Heap.put_at] at ho
      rw [Heap.put_at,ho]
theorem zm.expr {d:Nat} (hE:zgk d) {st:VM.St} {g n:Nat} {H:Heap} {z:Int} {kt:Kt} (hz:z=11 - (d:Int)) (hs:st.1.length≤1500) (hg:H g=some (PR st)) (hk:kt (.agg (VM.exprF d st).1.avs) [g] [] [(g,some (PR (VM.exprF d st).2))]):zm Tryd.prog (.clo 69 []) [.ptr g 0,.int .i64 z] H n kt:=by
  subst hz
  exact ⟨_,[g],[],_,.inl rfl,LC.parser hg (zadw _) fun H n Q h1 h2=>hE st g H n Q hs h1 h2,hk⟩
def rowE (l:List Ex):List AV:=(l.map Ex.avs).flatten
theorem zaab (l:List Ex):(rowE l).length=l.length*4:=by
  unfold rowE
  induction l with
  | nil=>rfl
  | cons x r ih=>rw [List.map_cons,List.flatten_cons,List.length_append,ih,zbs,List.length_cons]; omega
theorem zsc (l:List Ex) (x:Ex):rowE (l ++ [x])=rowE l ++ x.avs:=by simp [rowE]
inductive ArgS (H:Heap) (lo hi gx:Nat):List Ex→AV→Prop
  | nil:ArgS H lo hi gx [] .nils
  | row {l:List Ex} {ga:Nat}:lo≤ga→ga < hi→ga ≠ gx→H ga=some (.row 4 (rowE l))→ArgS H lo hi gx l (.slc ga 0 l.length)
structure ExL (H0:Heap) (b g gx:Nat) (dz:Int) (c0 c1 c2:AV) (l:List Ex) (st:VM.St) (H:Heap) (n:Nat):Prop where
  r0:H b=some (.row 1 [.ptr g 0])
  r1:H (b+1)=some (.row 1 [.int .i64 dz])
  r2:∃ cs,H (b+2)=some (.row 4 cs)∧cs.length=4
  rx:∃ A,H gx=some (.row 4 [c0,c1,c2,A])∧ArgS H (b+3) n gx l A
  rg:H g=some (PR st)
  gb:g < b
  gx0:b+3≤gx
  gx1:gx < n
  keep:∀ y,y < b→y ≠ g→H y=H0 y
  few:l.length+VM.left st≤1502
  short:st.1.length≤1500
theorem ArgS.keep {H H':Heap} {lo hi hi' gx:Nat} {l:List Ex} {A:AV} (h:ArgS H lo hi gx l A) (hh:hi≤hi') (hk:∀ y,lo≤y→y < hi→y ≠ gx→H' y=H y):ArgS H' lo hi' gx l A:=by
  cases h with
  | nil=>exact .nil
  | row h1 h2 h3 h4=>exact .row h1 (by omega) h3 (by rw [hk _ h1 h2 h3]; exact h4)
theorem ExL.put {H0 H:Heap} {b g gx n:Nat} {dz:Int} {c0 c1 c2:AV} {l:List Ex} {st st':VM.St} (h:ExL H0 b g gx dz c0 c1 c2 l st H n) (hf:VM.Flow st st'):ExL H0 b g gx dz c0 c1 c2 l st' (H.put g (some (PR st'))) n:=by
  have hb:=h.gb
  have hx:=h.gx0
  obtain ⟨cs,h2,h3⟩:=h.r2
  obtain ⟨A,h4,h5⟩:=h.rx
  exact ⟨by rw [Heap.put_ne _ _ (by omega)]; exact h.r0,by rw [Heap.put_ne _ _ (by omega)]; exact h.r1,⟨cs,by rw [Heap.put_ne _ _ (by omega)]; exact h2,h3⟩,⟨A,by rw [Heap.put_ne _ _ (by omega)]; exact h4,h5.keep (Nat.le_refl _) fun y hy _ _=>Heap.put_ne _ _ (by omega)⟩,Heap.put_at _ _ _,hb,hx,h.gx1,fun y hy hne=>by rw [Heap.put_ne _ _ hne]; exact h.keep y hy hne,by have:=hf.left; have:=h.few; omega,Nat.le_trans hf.1 h.short⟩
theorem zfe (x:Ex):∀ v∈x.avs,v.one=true:=by
  cases x
  rw [zho]
  intro v hv
  simp only [List.mem_cons,List.not_mem_nil,or_false] at hv
  rcases hv with rfl | rfl | rfl | rfl <;> rfl
theorem ExL.next {H0 H HF:Heap} {b g gx n:Nat} {dz:Int} {c0 c1 c2:AV} {l:List Ex} {st st':VM.St} (h:ExL H0 b g gx dz c0 c1 c2 l st H n) (x:Ex) (hl:VM.left st' < VM.left st) (hle:st'.1.length≤st.1.length) (f1:HF g=some (PR st')) (f2:HF gx=some (.row 4 [c0,c1,c2,.slc (n+1) 0 (l.length+1)])) (f3:HF (n+1)=some (.row 4 (rowE (l ++ [x]))))
    (f4:∀ y,y < b+3→y ≠ g→HF y=H y):ExL H0 b g gx dz c0 c1 c2 (l ++ [x]) st' HF (n+2):=by
  have hb:=h.gb
  have hx0:=h.gx0
  have hx1:=h.gx1
  have hfew:=h.few
  have hsh:=h.short
  obtain ⟨cs2,r2,r2l⟩:=h.r2
  refine ⟨by rw [f4 b (by omega) (by omega)]; exact h.r0,by rw [f4 _ (by omega) (by omega)]; exact h.r1,⟨cs2,by rw [f4 _ (by omega) (by omega)]; exact r2,r2l⟩,⟨_,f2,?_⟩,f1,hb,hx0,by omega,fun y hy hne=>by rw [f4 y (by omega) hne]; exact h.keep y hy hne,by rw [List.length_append]; simp only [List.length_cons,List.length_nil]; omega,by omega⟩
  have:=ArgS.row (H:=HF) (lo:=b+3) (hi:=n+2) (gx:=gx) (l:=l ++ [x]) (ga:=n+1) (by omega) (by omega) (by omega) f3
  rw [List.length_append] at this
  exact this
set_option maxHeartbeats 1000000 in
theorem zabb {d:Nat} (hE:zgk d) {H0 H:Heap} {b g gx n:Nat} {c0 c1 c2:AV} {l:List Ex} {st:VM.St} {K:QT} (h:ExL H0 b g gx (10 - (d:Int)) c0 c1 c2 l st H n) (he:st.2=0) (hd:d≤11)
    (hk:∀ H' n',ExL H0 b g gx (10 - (d:Int)) c0 c1 c2 (l ++ [(VM.exprF d st).1]) (VM.exprF d st).2 H' n'→K (.tup []) H' n'):za Tryd.prog 81 [.ptr gx 0,.ptr b 0,.ptr (b+1) 0] H n K:=by
  refine zlo _ _ _ _ _ _ ?_
  have hb:=h.gb
  have hx0:=h.gx0
  have hx1:=h.gx1
  obtain ⟨A,rx,ra⟩:=h.rx
  have r0:=h.r0
  have r1:=h.r1
  obtain ⟨cs2,r2,r2l⟩:=h.r2
  have hw:IntKind.i64.wrap (10 - (d:Int)+1)=10 - (d:Int)+1:=i64w (by omega)
  have hfew:=h.few
  have hleft:=VM.left_lt' (VM.nice_expr d) he
  have hle:=(VM.nice_expr d).le st
  have hsh:=h.short
  cases ra with
  | nil =>
    simp [zdv,rx,r0,r1,hw]
    refine zm.expr hE (by omega) h.short h.rg ?_
    have xl:=zbs (VM.exprF d st).1
    have xo:=zfe (VM.exprF d st).1
    generalize hxa:(VM.exprF d st).1.avs=xa at xl xo
    have xd:xa.drop 4=[]:=List.drop_of_length_le (by omega)
    have ne_0:g ≠ b∧b ≠ g∧g ≠ b+1∧b+1 ≠ g∧g ≠ b+2∧b+2 ≠ g∧g ≠ gx∧gx ≠ g∧b ≠ b+1∧b+1 ≠ b∧b ≠ b+2∧b+2 ≠ b∧b ≠ gx∧gx ≠ b∧b+1 ≠ b+2∧b+2 ≠ b+1∧b+1 ≠ gx∧gx ≠ b+1∧b+2 ≠ gx∧gx ≠ b+2∧g ≠ n∧n ≠ g∧g ≠ n+1∧n+1 ≠ g∧b ≠ n∧n ≠ b∧b ≠ n+1∧n+1 ≠ b∧b+1 ≠ n∧n ≠ b+1∧b+1 ≠ n+1∧n+1 ≠ b+1∧b+2 ≠ n∧n ≠ b+2∧b+2 ≠ n+1∧n+1 ≠ b+2∧gx ≠ n∧n ≠ gx∧gx ≠ n+1∧n+1 ≠ gx:=⟨by omega,by omega,by omega,by omega,by omega,by omega,by omega,by omega,by omega,by omega,by omega,by omega,by omega,by omega,by omega,by omega,by omega,by omega,by omega,by omega,by omega,by omega,by omega,by omega,by omega,by omega,by omega,by omega,by omega,by omega,by omega,by omega,by omega,by omega,by omega,by omega,by omega,by omega,by omega,by omega⟩
    simp [zdw,rx,xl,xd,hxa,ne_0]
    refine ⟨xo,hk _ _ (h.next _ (by omega) hle ?_ ?_ ?_ fun y hy hne => ?_)⟩
    · rw [Heap.put_ne _ _ (by omega),Heap.put_ne _ _ (by omega),Heap.put_ne _ _ (by omega),Heap.put_at]
    · rw [Heap.put_at]; rfl
    · rw [Heap.put_ne _ _ (by omega),Heap.put_at,zsc,hxa]; rfl
    · rw [Heap.put_ne _ _ (by omega),Heap.put_ne _ _ (by omega),Heap.put_ne _ _ (by omega),Heap.put_ne _ _ hne]
  | @row l ga a1 a2 a3 a4 =>
    simp [zdv,rx,r0,r1,hw]
    refine zm.expr hE (by omega) h.short h.rg ?_
    have xl:=zbs (VM.exprF d st).1
    have xo:=zfe (VM.exprF d st).1
    generalize hxa:(VM.exprF d st).1.avs=xa at xl xo
    have xd:xa.drop 4=[]:=List.drop_of_length_le (by omega)
    have rl:=zaab l
    have h1:(l.length+1)*56≤140737488355328:=by omega
    have h2:(l.length:Int) < l.length+1:=by omega
    have h3:(rowE l).take (l.length*4)=rowE l:=List.take_of_length_le (by omega)
    have ne_1:g ≠ b∧b ≠ g∧g ≠ b+1∧b+1 ≠ g∧g ≠ b+2∧b+2 ≠ g∧g ≠ gx∧gx ≠ g∧g ≠ ga∧ga ≠ g∧b ≠ b+1∧b+1 ≠ b∧b ≠ b+2∧b+2 ≠ b∧b ≠ gx∧gx ≠ b∧b ≠ ga∧ga ≠ b∧b+1 ≠ b+2∧b+2 ≠ b+1∧b+1 ≠ gx∧gx ≠ b+1∧b+1 ≠ ga∧ga ≠ b+1∧b+2 ≠ gx∧gx ≠ b+2∧b+2 ≠ ga∧ga ≠ b+2∧gx ≠ ga∧ga ≠ gx∧g ≠ n∧n ≠ g∧g ≠ n+1∧n+1 ≠ g∧b ≠ n∧n ≠ b∧b ≠ n+1∧n+1 ≠ b∧b+1 ≠ n∧n ≠ b+1∧b+1 ≠ n+1∧n+1 ≠ b+1∧b+2 ≠ n∧n ≠ b+2∧b+2 ≠ n+1∧n+1 ≠ b+2∧gx ≠ n∧n ≠ gx∧gx ≠ n+1∧n+1 ≠ gx∧ga ≠ n∧n ≠ ga∧ga ≠ n+1∧n+1 ≠ ga:=⟨by omega,by omega,by omega,by omega,by omega,by omega,by omega,by omega,by omega,by omega,by omega,by omega,by omega,by omega,by omega,by omega,by omega,by omega,by omega,by omega,by omega,by omega,by omega,by omega,by omega,by omega,by omega,by omega,by omega,by omega,by omega,by omega,by omega,by omega,by omega,by omega,by omega,by omega,by omega,by omega,by omega,by omega,by omega,by omega,by omega,by omega,by omega,by omega,by omega,by omega,by omega,by omega,by omega,by omega⟩
    simp [zdw,rx,a4,rl,h1,h2,h3,xl,xd,hxa,ne_1]
    have h4:(rowE l ++ [AV.int .i64 0,.int .i64 0,.str [],.nils]).drop (l.length*4+4)=[]:=List.drop_of_length_le (by rw [List.length_append,rl]; simp)
    rw [h4]
    refine ⟨xo,hk _ _ (h.next _ (by omega) hle ?_ ?_ ?_ fun y hy hne => ?_)⟩
    · rw [Heap.put_ne _ _ (by omega),Heap.put_ne _ _ (by omega),Heap.put_ne _ _ (by omega),Heap.put_ne _ _ (by omega),Heap.put_at]
    · rw [Heap.put_at]
    · rw [Heap.put_ne _ _ (by omega),Heap.put_at,zsc,hxa,List.append_nil]
    · rw [Heap.put_ne _ _ (by omega),Heap.put_ne _ _ (by omega),Heap.put_ne _ _ (by omega),Heap.put_ne _ _ (by omega),Heap.put_ne _ _ hne]
end Go.Proofs.YtpllgpgdcbgalaaDoor
set_option maxRecDepth 8000
namespace Go.Proofs.YtpllgpgdcbgalaaDoor
open Go Go.RowKit
structure ExE (H0:Heap) (n g:Nat) (dz:Int) (st:VM.St) (H:Heap):Prop where
  r0:H n=some (.row 1 [.ptr g 0])
  r1:H (n+1)=some (.row 1 [.int .i64 dz])
  r2:H (n+2)=some (.row 4 [.int .i64 0,.int .i64 0,.str [],.nils])
  rg:H g=some (PR st)
  gb:g < n
  keep:∀ y,y < n→y ≠ g→H y=H0 y
def ExQ (H0:Heap) (n g:Nat) (r:AV) (st':VM.St) (Q:QT):Prop:=∀ v H' n',Frz H' n v r→H' g=some (PR st')→(∀ y,y < n→y ≠ g→H' y=H0 y)→Q v H' n'
theorem ExE.put {H0 H:Heap} {n g:Nat} {dz:Int} {st st':VM.St} (h:ExE H0 n g dz st H):ExE H0 n g dz st' (H.put g (some (PR st'))):=by
  have hb:=h.gb
  exact ⟨by rw [Heap.put_ne _ _ (by omega)]; exact h.r0,by rw [Heap.put_ne _ _ (by omega)]; exact h.r1,by rw [Heap.put_ne _ _ (by omega)]; exact h.r2,Heap.put_at _ _ _,hb,fun y hy hne=>by rw [Heap.put_ne _ _ hne]; exact h.keep y hy hne⟩
theorem zaau {H:Heap} {n:Nat} {k z:Int} {t:Str}:Frz H n (.agg [.int .i64 k,.int .i64 z,.str t,.nils]) (.agg (Ex.mk k z t []).avs):=by
  rw [zho]
  refine .agg _ _ rfl fun j v u hv hu => ?_
  match j with
  | 0=>cases hv; cases hu; exact .same _ (.int _ _)
  | 1=>cases hv; cases hu; exact .same _ (.int _ _)
  | 2=>cases hv; cases hu; exact .same _ (.str _)
  | 3=>cases hv; cases hu; exact .nils
theorem ExE.leaf {H0 H H':Heap} {n g m:Nat} {dz k z:Int} {t:Str} {st st':VM.St} {Q:QT} (h:ExE H0 n g dz st H) (hq:ExQ H0 n g (.agg (Ex.mk k z t []).avs) st' Q) (h1:H' g=some (PR st')) (h2:∀ y,y < n→y ≠ g→H' y=H y):Q (.agg [.int .i64 k,.int .i64 z,.str t,.nils]) H' m :=
  hq _ _ _ zaau h1 fun y hy hne=>by rw [h2 y hy hne]; exact h.keep y hy hne
theorem ExE.leafP {H0 H:Heap} {n g m:Nat} {dz k z:Int} {t:Str} {st st':VM.St} {o:Option AObj} {Q:QT} (h:ExE H0 n g dz st H) (hq:ExQ H0 n g (.agg (Ex.mk k z t []).avs) st' Q):Q (.agg [.int .i64 k,.int .i64 z,.str t,.nils]) ((H.put g (some (PR st'))).put (n+2) o) m:=by
  have hb:=h.gb
  exact h.leaf hq (by rw [Heap.put_ne _ _ (by omega),Heap.put_at]) fun y hy hne=>by rw [Heap.put_ne _ _ (by omega),Heap.put_ne _ _ hne]
theorem ExE.leafN {H0 H:Heap} {n g m:Nat} {dz k z:Int} {t:Str} {st:VM.St} {o:Option AObj} {Q:QT} (h:ExE H0 n g dz st H) (hq:ExQ H0 n g (.agg (Ex.mk k z t []).avs) st Q):Q (.agg [.int .i64 k,.int .i64 z,.str t,.nils]) (H.put (n+2) o) m:=by
  have hb:=h.gb
  exact h.leaf hq (by rw [Heap.put_ne _ _ (by omega)]; exact h.rg) fun y hy _=>Heap.put_ne _ _ (by omega)
theorem zqx {k z:Int} {t:Str}:∀ x:AV,(x=.int .i64 k∨x=.int .i64 z)∨x=.str t∨x=.nils→x.one=true:=by
  rintro x ((rfl | rfl) | (rfl | rfl)) <;> rfl
set_option maxHeartbeats 1000000 in
theorem zyh {H0 H : Heap} {n g m : Nat} {dz e:Int} {c:UInt8} {r:Str} {Q:QT} (h:ExE H0 n g dz (c :: r,e) H) (hs:r.length≤1500) (hm:n+3≤m) (hq:ExQ H0 n g (.agg (VM.quotedF (c :: r) e).1.avs) (VM.quotedF (c :: r) e).2 Q) :
    LP (zbz Q) [.ptr n 0,.ptr (n+2) 0,.int .i64 1] H m:=by
  refine LP.mk (fun k xs H' n'=>H'=H∧n'=m∧∃ a b,xs=[.ptr n 0,.ptr (n+2) 0,.int .i64 ((a.length:Int)+1)]∧r=a ++ b∧(∀ x∈a,x ≠ 39)∧k=b.length) r.length ⟨rfl,rfl,[],r,rfl,rfl,by simp,rfl⟩ ?_
  rintro k xs H' n' ⟨rfl,rfl,a,b,rfl,hr,ha,rfl⟩
  have r0:=h.r0
  have r2:=h.r2
  have rg:H' g=some (.row 2 [.str (c :: r),.int .i64 e]):=h.rg
  have gb:=h.gb
  have hl:(r.length:Int)=a.length+b.length:=by rw [hr]; simp
  have htw:∀ b',(∀ d s,b'=d :: s→d=39)→(a ++ b').takeWhile (· != 39)=a∧(a ++ b').dropWhile (· != 39)=b':=fun b' hb'=>zqq (p:=fun x=>x != 39) (fun x hx=>by simpa using ha x hx) fun d s hd=>by simp [hb' d s hd]
  generalize hJ:(fun (xs:List AV) (H:Heap) (nx:Nat)=>∃ k,k < b.length∧H=H'∧nx=n'∧∃ a b,xs=[.ptr n 0,.ptr (n+2) 0,.int .i64 ((a.length:Int)+1)]∧r=a ++ b∧(∀ x∈a,x ≠ 39)∧k=b.length)=J
  cases b with
  | nil =>
    have h39:¬ 39∈r:=by rw [hr]; intro hx; simp at hx; exact ha 39 hx rfl
    have hqf:VM.quotedF (c :: r) e=(.mk 2 0 [] [],VM.badF 8 (r,e)):=by unfold VM.quotedF; simp [h39]
    rw [hqf] at hq
    have e1:(a.length:Int)+1=r.length+1:=by rw [hl]; simp
    have hle:(1:Int)≤r.length+1:=by omega
    rw [e1]
    simp [zbz]
    refine JN.same ?_
    have ne_0:g ≠ n∧n ≠ g∧g ≠ n+1∧n+1 ≠ g∧g ≠ n+2∧n+2 ≠ g∧n ≠ n+1∧n+1 ≠ n∧n ≠ n+2∧n+2 ≠ n∧n+1 ≠ n+2∧n+2 ≠ n+1:=⟨by omega,by omega,by omega,by omega,by omega,by omega,by omega,by omega,by omega,by omega,by omega,by omega⟩
    simp [zdj,r0,rg,ne_0]
    simp [zdh,r0,rg,hle,ne_0]
    refine zdl (st:=(r,e)) (by rw [Heap.put_at]; rfl) ?_
    simp [zkc,r2,ne_0]
    exact h.leafP hq
  | cons d s =>
    have hx:r[a.length]? = some d:=by rw [hr]; simp
    have hlt:(a.length:Int)+1 < r.length+1:=by rw [hl]; simp; omega
    have hne:¬ (a.length:Int)+1=r.length+1:=by omega
    have hi0:(0:Int)≤a.length+1:=by omega
    have hix:((a.length:Int)+1).toNat=a.length+1:=by omega
    have hal : a.length + 1 ≤ 1501 := by have:r.length=a.length+(s.length+1):=by rw [hr]; simp
                                         omega
    have hwr:IntKind.i64.wrap ((a.length:Int)+1+1)=(a.length:Int)+1+1:=i64w (by omega)
    by_cases hd:d=39
    · subst hd
      have hmem:39∈r:=by rw [hr]; simp
      have ⟨t1,t2⟩:=htw (39 :: s) (by intro d s h; cases h; rfl)
      rw [← hr] at t1 t2
      have hqf:VM.quotedF (c :: r) e=(.mk 2 0 a [],if VM.word a then (s,e) else VM.badF 2 (s,e)):=by
        unfold VM.quotedF
        simp only [List.drop_succ_cons,List.drop_zero,if_pos hmem,t1,t2]
      rw [hqf] at hq
      have hle1:(1:Int)≤a.length+1:=by omega
      have hle2:(a.length:Int)+1≤r.length+1:=by omega
      have hle3:(a.length:Int)+1+1≤r.length+1:=by omega
      have hi1:(0:Int)≤a.length+1+1:=by omega
      have htn:((a.length:Int)+1+1).toNat=a.length+2:=by omega
      have hta:List.take a.length r=a:=by rw [hr]; simp
      have hda:List.drop (a.length+1) r=s:=by rw [hr]; simp
      simp [zbz]
      refine JN.same ?_
      have ne_1:g ≠ n∧n ≠ g∧g ≠ n+1∧n+1 ≠ g∧g ≠ n+2∧n+2 ≠ g∧n ≠ n+1∧n+1 ≠ n∧n ≠ n+2∧n+2 ≠ n∧n+1 ≠ n+2∧n+2 ≠ n+1:=⟨by omega,by omega,by omega,by omega,by omega,by omega,by omega,by omega,by omega,by omega,by omega,by omega⟩
      simp [zdj,r0,rg,hlt,hi0,hix,hx,ne_1]
      simp [zdh,r0,rg,hne,hle1,hle2,hle3,hi1,htn,hix,hta,hda,hwr,ne_1]
      refine (zzr a (by unfold maxLen; omega)).call ?_
      have h1:ExE H0 n g dz (s,e) (H'.put g (some (.row 2 [.str s,.int .i64 e]))):=h.put (st':=(s,e))
      generalize H'.put g (some (.row 2 [.str s,.int .i64 e]))=HX at h1 ⊢
      have q0:=h1.r0
      have q2:=h1.r2
      by_cases hwd:VM.word a=true
      · simp only [hwd,if_true] at hq
        simp [zft,hwd,q2]
        exact ⟨zqx,h1.leafN hq⟩
      · have hwd':VM.word a=false:=by simpa using hwd
        simp only [hwd',Bool.false_eq_true,if_false] at hq
        simp [zft,hwd',q0]
        refine zdl h1.rg ?_
        simp [zkb,q2,ne_1]
        exact ⟨zqx,h1.leafP hq⟩
    · have hdn:¬ (d.toNat:Int)=39:=zek hd rfl
      simp [zbz]
      refine JN.same ?_
      have ne_2:g ≠ n∧n ≠ g∧g ≠ n+1∧n+1 ≠ g∧g ≠ n+2∧n+2 ≠ g∧n ≠ n+1∧n+1 ≠ n∧n ≠ n+2∧n+2 ≠ n∧n+1 ≠ n+2∧n+2 ≠ n+1:=⟨by omega,by omega,by omega,by omega,by omega,by omega,by omega,by omega,by omega,by omega,by omega,by omega⟩
      simp [zdj,r0,rg,hlt,hi0,hix,hx,hdn,ne_2]
      simp [zdh,hwr,ne_2]
      rw [← hJ]
      refine ⟨s.length,by simp,rfl,rfl,a ++ [d],s,by rw [List.length_append]; simp,by rw [hr]; simp,?_,rfl⟩
      intro x hx'
      rcases List.mem_append.1 hx' with h | h
      · exact ha x h
      · rw [List.mem_singleton.1 h]; exact hd
theorem zvi {w:Str} {v:Int} (h:Lib.atoiAll w=.ok v) : -9223372036854775808≤v∧v≤9223372036854775807:=by
  unfold Lib.atoiAll at h
  split at h
  · cases h
  · dsimp only at h
    split at h
    · cases h
    · cases h
    · rename_i u _
      split at h
      · cases h
      · split at h
        · cases h
        · cases h
          split <;> omega
set_option maxHeartbeats 1000000 in
theorem zaah {H0 H:Heap} {n g m:Nat} {dz z:Int} {st:VM.St} {Q:QT} (h:ExE H0 n g dz st H) (hs:st.1.length≤1500) (hz:z ≠ 39) (hz2:z ≠ 40) (hq:ExQ H0 n g (.agg (VM.plainF st).1.avs) (VM.plainF st).2 Q):zba Q n (.int .u8 z) H m:=by
  have r0:=h.r0
  simp [zba,hz,hz2,r0]
  have hwl:=zms st
  refine w_ac (by omega) h.rg ?_
  have h1:ExE H0 n g dz (VM.wF st).2 (H.put g (some (PR (VM.wF st).2))):=h.put
  generalize H.put g (some (PR (VM.wF st).2))=HX at h1 ⊢
  unfold VM.plainF at hq
  generalize VM.wF st=ws at *
  obtain ⟨w,s1⟩:=ws
  simp only at *
  have q0:=h1.r0
  have q2:=h1.r2
  -- where it is no number
  have names:VM.numOf w=none→∀ m',za Tryd.prog 14 [.str w] HX m' (zca n (.str w) Q):=by
    intro hn m'
    rw [hn] at hq
    refine zrt (by omega) ?_
    by_cases hnm:VM.name w=true
    · simp only [hnm,if_true] at hq
      simp [zca,hnm,q2]
      exact ⟨zqx,h1.leafN hq⟩
    · have hnm':VM.name w=false:=by simpa using hnm
      simp only [hnm',Bool.false_eq_true,if_false] at hq
      simp [zca,hnm',q0]
      refine zdl h1.rg ?_
      have:=h1.gb
      have ne_3:g ≠ n∧n ≠ g∧g ≠ n+1∧n+1 ≠ g∧g ≠ n+2∧n+2 ≠ g∧n ≠ n+1∧n+1 ≠ n∧n ≠ n+2∧n+2 ≠ n∧n+1 ≠ n+2∧n+2 ≠ n+1:=⟨by omega,by omega,by omega,by omega,by omega,by omega,by omega,by omega,by omega,by omega,by omega,by omega⟩
      simp [zka,q2,ne_3]
      exact ⟨zqx,h1.leafP hq⟩
  have cmp : ∀ v:Int,-9223372036854775808≤v→v≤9223372036854775807→(Lib.itoa v=w→VM.numOf w=some v)→(Lib.itoa v ≠ w→VM.numOf w=none)→∀ m',za Tryd.prog 80 [.int .i64 v] HX m' (zbg (.str w) (.int .i64 v) n Q):=by
    intro v b1 b2 h3 h4 m'
    have hE1:=h1
    refine (zadd v b1 b2).call ?_
    by_cases he:Lib.itoa v=w
    · rw [h3 he] at hq
      simp only at hq
      have hgb:=hE1.gb
      have sh:(AV.str (Lib.itoa v))=.str w:=by rw [he]
      by_cases hv:v < -1073741824∨1073741824 < v
      · rw [if_pos hv] at hq
        have fin:∀ m',za Tryd.prog 48 [.ptr g 0,.int .i64 3] HX m' (zdf (.int .i64 v) n Q):=fun m'=>by
          refine zdl hE1.rg ?_
          have ne_4:g ≠ n∧n ≠ g∧g ≠ n+1∧n+1 ≠ g∧g ≠ n+2∧n+2 ≠ g∧n ≠ n+1∧n+1 ≠ n∧n ≠ n+2∧n+2 ≠ n∧n+1 ≠ n+2∧n+2 ≠ n+1:=⟨by omega,by omega,by omega,by omega,by omega,by omega,by omega,by omega,by omega,by omega,by omega,by omega⟩
          simp [zdf,q2,ne_4]
          exact hE1.leafP hq
        by_cases hv2:1073741824 < v
        · simp [zbg,he,hv2,q0]
          exact fin m'
        · have hv3:v < -1073741824:=by omega
          simp [zbg,he,hv2,hv3,q0]
          exact fin m'
      · rw [if_neg hv] at hq
        have hv2:¬ 1073741824 < v:=by omega
        have hv3:¬ v < -1073741824:=by omega
        simp [zbg,he,hv2,hv3,q2]
        exact hE1.leafN hq
    · simp [zbg,he]
      exact names (h4 he) m'
  simp [zjz]
  refine (zadx w (by omega)).call ?_
  unfold zxo
  cases ha:Lib.atoiAll w with
  | ok v =>
    have hb:=zvi ha
    simp [zde]
    refine cmp v hb.1 hb.2 (fun e=>by unfold VM.numOf; rw [ha]; simp [e]) (fun e=>by unfold VM.numOf; rw [ha]; simp [e]) m
  | range =>
    have hn:VM.numOf w=none:=by unfold VM.numOf; rw [ha]
    simp [zde]
    exact names hn m
  | _ =>
    have hn:VM.numOf w=none:=by unfold VM.numOf; rw [ha]
    simp [zde]
    exact names hn m
end Go.Proofs.YtpllgpgdcbgalaaDoor
set_option maxRecDepth 8000
namespace Go.Proofs.YtpllgpgdcbgalaaDoor
open Go Go.RowKit
theorem zne {sz:Nat}:∀ {xs:List (List AV)},(∀ x∈xs,x.length=sz)→xs.flatten.length=xs.length*sz
  | [],_=>by simp
  | y :: r,hs=>by rw [List.flatten_cons,List.length_append,zne fun z hz=>hs z (by simp [hz]),hs y (by simp),List.length_cons,Nat.succ_mul,Nat.add_comm]
theorem zpb {sz:Nat}:∀ {xs:List (List AV)},(∀ x∈xs,x.length=sz)→∀ {i:Nat} {x:List AV},xs[i]? = some x→(xs.flatten.drop (i*sz)).take sz=x
  | [],_,i,x,hx=>by simp at hx
  | y :: r,hs,0,x,hx=>by
    simp at hx; subst hx
    rw [Nat.zero_mul,List.drop_zero,List.flatten_cons,List.take_append_of_le_length (by rw [hs y (by simp)]; omega),List.take_of_length_le (by rw [hs y (by simp)]; omega)]
  | y :: r,hs,i+1,x,hx=>by
    have hy:y.length=sz:=hs y (by simp)
    rw [List.flatten_cons,Nat.succ_mul,List.drop_append,List.drop_of_length_le (by omega),List.nil_append,show i*sz+sz - y.length=i*sz by omega]
    exact zpb (fun z hz=>hs z (by simp [hz])) (by simpa using hx)
inductive zac (H:Heap) (nx sz:Nat) (xs:List (List AV)):AV→Prop
  | ro:zac H nx sz xs (.ro xs)
  | slc (g:Nat):g < nx→H g=some (.row sz xs.flatten)→zac H nx sz xs (.slc g 0 xs.length)
  | nils:xs=[]→zac H nx sz xs .nils
theorem zac.keep {H H':Heap} {nx nx' sz:Nat} {xs:List (List AV)} {a:AV} (h:zac H nx sz xs a) (hk:∀ g,g < nx→H' g=H g) (hn:nx≤nx'):zac H' nx' sz xs a:=by
  cases h with
  | ro=>exact .ro
  | slc g h1 h2=>exact .slc g (by omega) (by rw [hk g h1]; exact h2)
  | nils h=>exact .nils h
theorem zac.len {H:Heap} {nx sz:Nat} {xs:List (List AV)} {a:AV} (h:zac H nx sz xs a) {k:AV→Prop}:LNL a k=k (.int .i64 xs.length):=by
  cases h with
  | ro=>simp
  | slc g h1 h2=>simp
  | nils h=>subst h; simp
theorem zac.ld {H:Heap} {nx sz:Nat} {xs:List (List AV)} {a:AV} (h:zac H nx sz xs a) (hs:∀ x∈xs,x.length=sz) {ki:IntKind} {i:Nat} {x:List AV} (hx:xs[i]? = some x) {k:AV→Prop} (hk:k (.agg x)):IA sz a (.int ki i) fun p=>LD true sz p H k:=by
  obtain ⟨hi,hx'⟩:=List.getElem?_eq_some_iff.1 hx
  have hxl:x.length=sz:=hs x (List.mem_of_getElem? hx)
  cases h with
  | ro =>
    rw [zaci]
    have e:xs.getD i []=x:=by simp [List.getD_eq_getElem?_getD,hx]
    simp only [Int.toNat_natCast,e,zwv]
    refine ⟨by omega,by omega,hxl,by omega,?_⟩
    rw [List.drop_zero,List.take_of_length_le (by omega)]
    exact hk
  | slc g h1 h2 =>
    rw [zaen]
    simp only [Int.toNat_natCast,zaap,h2,rowk]
    refine ⟨by omega,by omega,?_,?_⟩
    · rw [zne hs]
      have:(i+1)*sz≤xs.length*sz:=Nat.mul_le_mul_right _ hi
      rw [Nat.succ_mul] at this; omega
    · rw [Nat.zero_add,zpb hs hx]; exact hk
  | nils h=>subst h; simp at hx
theorem zac.src {H:Heap} {nx sz:Nat} {xs:List (List AV)} {a:AV} (h:zac H nx sz xs a) (hs:∀ x∈xs,x.length=sz):∃ rd,zh sz H a=some (xs.length,xs.flatten,rd):=by
  cases h with
  | ro=>exact ⟨[],zqr hs⟩
  | slc g h1 h2 =>
    refine ⟨[g],?_⟩
    have hl:=zne hs
    simp only [zh,h2,Nat.zero_add,List.drop_zero]
    rw [if_pos (by omega),List.take_of_length_le (by omega)]
  | nils h=>subst h; exact ⟨[],rfl⟩
theorem zac.frz {H:Heap} {nx sz:Nat} {xs:List (List AV)} {a:AV} (h:zac H nx sz xs a) (hs:∀ x∈xs,x.length=sz) (hf:∀ x∈xs,∀ v∈x,flat v=true∧Bel (fun _=>False) v) (hro:Bel (fun _=>False) (.ro xs)):Frz H 0 a (.ro xs):=by
  have hb:∀ c∈xs.flatten,Bel (fun x=>x < 0) c:=by
    intro c hc
    obtain ⟨x,hx,hcx⟩:=List.mem_flatten.1 hc
    exact (hf x hx c hcx).2.mono fun _ h=>h.elim
  cases h with
  | ro=>exact .same _ (hro.mono fun _ h=>h.elim)
  | slc g h1 h2=>exact Frz.row (Nat.zero_le _) h2 rfl hs rfl hb
  | nils h=>subst h; exact .nils
end Go.Proofs.YtpllgpgdcbgalaaDoor
