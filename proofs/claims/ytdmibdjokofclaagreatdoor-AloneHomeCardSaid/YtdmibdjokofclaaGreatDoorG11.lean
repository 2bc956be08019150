/- DERIVED: THE SHELF's CONTRACTS AT THIS DUMP, IN PLAIN WORDS (tools/lay-plain.mjs out of 'YtdmibdjokofclaaGreatDoorShelf0.lean', which tools/lay-shelf.mjs wrote): THE SAME DECLARATIONS UNDER THE SAME NAMES: 'import', 'namespace', 'open', 'def', 'theorem' AND NOTHING ELSE: no command of the shelf's: FOR A HAND-IN. Each laying: the table of numbers ('.._ren') and one theorem, a field a fact of the dump's own or the kernel's comparison; each contract: ONE APPLICATION. strconv.Itoa: a number's digits. A value as a text: the program's function, and the document's. The machine's functions: coming back; and how it ends. The machine's small functions: push, where the order is drawn. The machine's step: one instruction. A copy of an agent: the program's part. A copy of an agent: the frames' part. -/
import Derived.Shelf.Strconv.Atoi
import Derived.Shelf.Strconv.Itoa0
import Derived.Shelf.Strconv.Itoa1
import Derived.Shelf.LaysM
import Derived.Shelf.Strconv.Itoa2
import Derived.Shelf.Strconv.Itoa3
import Derived.Shelf.Strconv.AtoiErrFast
import Derived.Shelf.Strconv.ParseIntEmpty
import Derived.Shelf.Strconv.AtoiFail
import Derived.Shelf.Strconv.Clone
import Derived.Shelf.Strconv.SyntaxError
import Derived.Shelf.LaysC
import Derived.Shelf.Strconv.ToError
import Derived.Shelf.Strconv.Lower
import Derived.Shelf.Strconv.ParseUint10
import Derived.Shelf.Strconv.ParseUint10Empty
import Derived.Shelf.Strconv.ParseUint10Any
import Derived.Shelf.Strconv.ParseInt10
import Derived.Shelf.Strconv.AtoiLong
import Derived.Shelf.Strconv.AtoiInnerAll
import Derived.Shelf.Strconv.RangeError
import Derived.Shelf.Strconv.ToErrorRange
import Derived.Shelf.Strconv.AtoiAll
import Derived.Shelf.Strconv.ErrVarAll
import Derived.Ground.Names2Prog
import Derived.Test.YtdmibdjokofclaaGreatDoorProg
import Derived.Test.YtdmibdjokofclaaGreatDoorG5
import Derived.Lib.ItoaLen
import Derived.Test.YtdmibdjokofclaaGreatDoorG9
import Derived.Test.YtdmibdjokofclaaGreatDoorG10
set_option linter.unusedSimpArgs false
set_option linter.unusedVariables false
namespace Go.Proofs
open Go.Shelf
def Tryz.laysM171_ren : Go.Shelf.Ren := ⟨fun | 171 => 71 | 243 => 76 | 246 => 79 | 283 => 82 | 284 => 83 | 285 => 84 | 286 => 85 | 129 => 92 | 317 => 91 | 318 => 93 | 319 => 94 | 320 => 95 | 337 => 99 | 338 => 100 | n => n, fun | 3 => 3 | 9 => 9 | 2 => 2 | 4 => 4 | 171 => 157 | 0 => 0 | 53 => 158 | 37 => 161 | 5 => 5 | 173 => 162 | 212 => 172 | 51 => 173 | 20 => 20 | 213 => 174 | 46 => 175 | 232 => 189 | 233 => 190 | n => n, fun | 17 => 0 | 18 => 3 | 19 => 4 | n => n⟩
theorem Tryz.laysM171 : Go.Proofs.LaysM.n171 Tryz.prog Tryz.laysM171_ren := {
  mixed := by kernel_rfl
  f129 := Tryz.func92.trans (congrArg some (by kernel_rfl))
  f171 := Tryz.func71.trans (congrArg some (by kernel_rfl))
  f243 := Tryz.func76.trans (congrArg some (by kernel_rfl))
  f246 := Tryz.func79.trans (congrArg some (by kernel_rfl))
  f283 := Tryz.func82.trans (congrArg some (by kernel_rfl))
  f284 := Tryz.func83.trans (congrArg some (by kernel_rfl))
  f285 := Tryz.func84.trans (congrArg some (by kernel_rfl))
  f286 := Tryz.func85.trans (congrArg some (by kernel_rfl))
  f317 := Tryz.func91.trans (congrArg some (by kernel_rfl))
  f318 := Tryz.func93.trans (congrArg some (by kernel_rfl))
  f319 := Tryz.func94.trans (congrArg some (by kernel_rfl))
  f320 := Tryz.func95.trans (congrArg some (by kernel_rfl))
  f337 := Tryz.func99.trans (congrArg some (by kernel_rfl))
  f338 := Tryz.func100.trans (congrArg some (by kernel_rfl))
  t0 := Tryz.underlying0
  a0 := Tryz.isAgg0
  z0 := Tryz.sizeOf0
  v0 := Tryz.zeroValue0
  t2 := Tryz.underlying2
  a2 := Tryz.isAgg2
  z2 := Tryz.sizeOf2
  v2 := Tryz.zeroValue2
  t3 := Tryz.underlying3
  a3 := Tryz.isAgg3
  z3 := Tryz.sizeOf3
  v3 := Tryz.zeroValue3
  t4 := Tryz.underlying4
  a4 := Tryz.isAgg4
  z4 := Tryz.sizeOf4
  v4 := Tryz.zeroValue4
  t5 := Tryz.underlying5
  a5 := Tryz.isAgg5
  z5 := Tryz.sizeOf5
  v5 := Tryz.zeroValue5
  t9 := Tryz.underlying9
  a9 := Tryz.isAgg9
  z9 := Tryz.sizeOf9
  v9 := Tryz.zeroValue9
  t20 := Tryz.underlying20
  a20 := Tryz.isAgg20
  z20 := Tryz.sizeOf20
  v20 := Tryz.zeroValue20
  t37 := Tryz.underlying161
  a37 := Tryz.isAgg161
  z37 := Tryz.sizeOf161
  v37 := Tryz.zeroValue161
  t46 := Tryz.underlying175
  a46 := Tryz.isAgg175
  z46 := Tryz.sizeOf175
  v46 := Tryz.zeroValue175
  t51 := Tryz.underlying173
  a51 := Tryz.isAgg173
  z51 := Tryz.sizeOf173
  v51 := Tryz.zeroValue173
  t53 := Tryz.underlying158
  a53 := Tryz.isAgg158
  z53 := Tryz.sizeOf158
  v53 := Tryz.zeroValue158
  t171 := Tryz.underlying157
  a171 := Tryz.isAgg157
  z171 := Tryz.sizeOf157
  v171 := Tryz.zeroValue157
  t173 := Tryz.underlying162
  a173 := Tryz.isAgg162
  z173 := Tryz.sizeOf162
  v173 := Tryz.zeroValue162
  t212 := Tryz.underlying172
  a212 := Tryz.isAgg172
  z212 := Tryz.sizeOf172
  v212 := Tryz.zeroValue172
  t213 := Tryz.underlying174
  a213 := Tryz.isAgg174
  z213 := Tryz.sizeOf174
  t232 := Tryz.underlying189
  a232 := Tryz.isAgg189
  z232 := Tryz.sizeOf189
  v232 := Tryz.zeroValue189
  t233 := Tryz.underlying190
  a233 := Tryz.isAgg190
  z233 := Tryz.sizeOf190
  v233 := Tryz.zeroValue190
  g17 := by kernel_rfl
  g18 := by kernel_rfl
  g19 := by kernel_rfl
  i0 := by kernel_rfl
  i2 := by kernel_rfl
  i3 := by kernel_rfl
  i4 := by kernel_rfl
  i5 := by kernel_rfl
  i9 := by kernel_rfl
  i20 := by kernel_rfl
  i37 := by kernel_rfl
  i46 := by kernel_rfl
  i51 := by kernel_rfl
  i53 := by kernel_rfl
  i171 := by kernel_rfl
  i173 := by kernel_rfl
  i212 := by kernel_rfl
  i232 := by kernel_rfl
  i233 := by kernel_rfl
  m17 := by kernel_rfl
  m18 := by kernel_rfl
  m19 := by kernel_rfl }
open Go.RowKit Go.Sort Go.Lib in
theorem Tryz.strconv_Itoa (n : Int) (h0 : -9223372036854775808 ≤ n) (h1 : n ≤ 9223372036854775807) (w : World) (htab : Lib.TabIs Tryz.prog w "internal/strconv.uint64pow10" .u64 Lib.pow10Tab) :
    Calls Tryz.prog 71 #[.int .i64 n] w fun e w' => e = .returned (.string ⟨(Lib.itoa n).toArray⟩) ∧ ∃ k os, w' = grow (w.drewN k) os := Any.strconv_Itoa Tryz.laysM171 n h0 h1 w htab
def Tryz.laysC172_ren : Go.Shelf.Ren := ⟨fun | 172 => 77 | 244 => 80 | 245 => 81 | 247 => 86 | 279 => 87 | 280 => 88 | 281 => 89 | 282 => 90 | 287 => 96 | 316 => 97 | 171 => 71 | 205 => 98 | 321 => 101 | 322 => 102 | 243 => 76 | 246 => 79 | 283 => 82 | 284 => 83 | 285 => 84 | 286 => 85 | 129 => 92 | 317 => 91 | 318 => 93 | 319 => 94 | 320 => 95 | 337 => 99 | 338 => 100 | n => n, fun | 9 => 9 | 3 => 3 | 75 => 152 | 76 => 153 | 4 => 4 | 5 => 5 | 167 => 164 | 37 => 161 | 0 => 0 | 85 => 165 | 2 => 2 | 168 => 167 | 53 => 158 | 175 => 177 | 46 => 175 | 210 => 181 | 127 => 185 | 145 => 188 | 143 => 186 | 21 => 21 | 171 => 157 | 173 => 162 | 212 => 172 | 51 => 173 | 20 => 20 | 213 => 174 | 232 => 189 | 233 => 190 | 80 => 99 | n => n, fun | 15 => 1 | 16 => 2 | 17 => 0 | 18 => 3 | 19 => 4 | n => n⟩
theorem Tryz.laysC172 : Go.Proofs.LaysC.n172 Tryz.prog Tryz.laysC172_ren := {
  mixed := by kernel_rfl
  f129 := Tryz.func92.trans (congrArg some (by kernel_rfl))
  f171 := Tryz.func71.trans (congrArg some (by kernel_rfl))
  f172 := Tryz.func77.trans (congrArg some (by kernel_rfl))
  f205 := Tryz.func98.trans (congrArg some (by kernel_rfl))
  f243 := Tryz.func76.trans (congrArg some (by kernel_rfl))
  f244 := Tryz.func80.trans (congrArg some (by kernel_rfl))
  f245 := Tryz.func81.trans (congrArg some (by kernel_rfl))
  f246 := Tryz.func79.trans (congrArg some (by kernel_rfl))
  f247 := Tryz.func86.trans (congrArg some (by kernel_rfl))
  f279 := Tryz.func87.trans (congrArg some (by kernel_rfl))
  f280 := Tryz.func88.trans (congrArg some (by kernel_rfl))
  f281 := Tryz.func89.trans (congrArg some (by kernel_rfl))
  f282 := Tryz.func90.trans (congrArg some (by kernel_rfl))
  f283 := Tryz.func82.trans (congrArg some (by kernel_rfl))
  f284 := Tryz.func83.trans (congrArg some (by kernel_rfl))
  f285 := Tryz.func84.trans (congrArg some (by kernel_rfl))
  f286 := Tryz.func85.trans (congrArg some (by kernel_rfl))
  f287 := Tryz.func96.trans (congrArg some (by kernel_rfl))
  f316 := Tryz.func97.trans (congrArg some (by kernel_rfl))
  f317 := Tryz.func91.trans (congrArg some (by kernel_rfl))
  f318 := Tryz.func93.trans (congrArg some (by kernel_rfl))
  f319 := Tryz.func94.trans (congrArg some (by kernel_rfl))
  f320 := Tryz.func95.trans (congrArg some (by kernel_rfl))
  f321 := Tryz.func101.trans (congrArg some (by kernel_rfl))
  f322 := Tryz.func102.trans (congrArg some (by kernel_rfl))
  f337 := Tryz.func99.trans (congrArg some (by kernel_rfl))
  f338 := Tryz.func100.trans (congrArg some (by kernel_rfl))
  t0 := Tryz.underlying0
  a0 := Tryz.isAgg0
  z0 := Tryz.sizeOf0
  v0 := Tryz.zeroValue0
  t2 := Tryz.underlying2
  a2 := Tryz.isAgg2
  z2 := Tryz.sizeOf2
  v2 := Tryz.zeroValue2
  t3 := Tryz.underlying3
  a3 := Tryz.isAgg3
  z3 := Tryz.sizeOf3
  v3 := Tryz.zeroValue3
  t4 := Tryz.underlying4
  a4 := Tryz.isAgg4
  z4 := Tryz.sizeOf4
  v4 := Tryz.zeroValue4
  t5 := Tryz.underlying5
  a5 := Tryz.isAgg5
  z5 := Tryz.sizeOf5
  v5 := Tryz.zeroValue5
  t9 := Tryz.underlying9
  a9 := Tryz.isAgg9
  z9 := Tryz.sizeOf9
  v9 := Tryz.zeroValue9
  t20 := Tryz.underlying20
  a20 := Tryz.isAgg20
  z20 := Tryz.sizeOf20
  v20 := Tryz.zeroValue20
  t21 := Tryz.underlying21
  a21 := Tryz.isAgg21
  z21 := Tryz.sizeOf21
  v21 := Tryz.zeroValue21
  t37 := Tryz.underlying161
  a37 := Tryz.isAgg161
  z37 := Tryz.sizeOf161
  v37 := Tryz.zeroValue161
  t46 := Tryz.underlying175
  a46 := Tryz.isAgg175
  z46 := Tryz.sizeOf175
  v46 := Tryz.zeroValue175
  t51 := Tryz.underlying173
  a51 := Tryz.isAgg173
  z51 := Tryz.sizeOf173
  v51 := Tryz.zeroValue173
  t53 := Tryz.underlying158
  a53 := Tryz.isAgg158
  z53 := Tryz.sizeOf158
  v53 := Tryz.zeroValue158
  t75 := Tryz.underlying152
  a75 := Tryz.isAgg152
  z75 := Tryz.sizeOf152
  v75 := Tryz.zeroValue152
  t76 := Tryz.underlying153
  a76 := Tryz.isAgg153
  z76 := Tryz.sizeOf153
  v76 := Tryz.zeroValue153
  t85 := Tryz.underlying165
  a85 := Tryz.isAgg165
  z85 := Tryz.sizeOf165
  v85 := Tryz.zeroValue165
  t127 := Tryz.underlying185
  a127 := Tryz.isAgg185
  z127 := Tryz.sizeOf185
  v127 := Tryz.zeroValue185
  t143 := Tryz.underlying186
  a143 := Tryz.isAgg186
  z143 := Tryz.sizeOf186
  v143 := Tryz.zeroValue186
  t145 := Tryz.underlying188
  a145 := Tryz.isAgg188
  z145 := Tryz.sizeOf188
  v145 := Tryz.zeroValue188
  t167 := Tryz.underlying164
  a167 := Tryz.isAgg164
  z167 := Tryz.sizeOf164
  v167 := Tryz.zeroValue164
  t168 := Tryz.underlying167
  a168 := Tryz.isAgg167
  z168 := Tryz.sizeOf167
  v168 := Tryz.zeroValue167
  t171 := Tryz.underlying157
  a171 := Tryz.isAgg157
  z171 := Tryz.sizeOf157
  v171 := Tryz.zeroValue157
  t173 := Tryz.underlying162
  a173 := Tryz.isAgg162
  z173 := Tryz.sizeOf162
  v173 := Tryz.zeroValue162
  t175 := Tryz.underlying177
  a175 := Tryz.isAgg177
  z175 := Tryz.sizeOf177
  v175 := Tryz.zeroValue177
  t210 := Tryz.underlying181
  a210 := Tryz.isAgg181
  z210 := Tryz.sizeOf181
  v210 := Tryz.zeroValue181
  t212 := Tryz.underlying172
  a212 := Tryz.isAgg172
  z212 := Tryz.sizeOf172
  v212 := Tryz.zeroValue172
  t213 := Tryz.underlying174
  a213 := Tryz.isAgg174
  z213 := Tryz.sizeOf174
  t232 := Tryz.underlying189
  a232 := Tryz.isAgg189
  z232 := Tryz.sizeOf189
  v232 := Tryz.zeroValue189
  t233 := Tryz.underlying190
  a233 := Tryz.isAgg190
  z233 := Tryz.sizeOf190
  v233 := Tryz.zeroValue190
  g15 := by kernel_rfl
  g16 := by kernel_rfl
  g17 := by kernel_rfl
  g18 := by kernel_rfl
  g19 := by kernel_rfl
  t80 := Tryz.underlying99
  a80 := Tryz.isAgg99
  z80 := Tryz.sizeOf99
  v80 := Tryz.zeroValue99
  i0 := by kernel_rfl
  i2 := by kernel_rfl
  i3 := by kernel_rfl
  i4 := by kernel_rfl
  i5 := by kernel_rfl
  i9 := by kernel_rfl
  i20 := by kernel_rfl
  i21 := by kernel_rfl
  i37 := by kernel_rfl
  i46 := by kernel_rfl
  i51 := by kernel_rfl
  i53 := by kernel_rfl
  i75 := by kernel_rfl
  i76 := by kernel_rfl
  i80 := by kernel_rfl
  i85 := by kernel_rfl
  i127 := by kernel_rfl
  i143 := by kernel_rfl
  i145 := by kernel_rfl
  i167 := by kernel_rfl
  i168 := by kernel_rfl
  i171 := by kernel_rfl
  i173 := by kernel_rfl
  i175 := by kernel_rfl
  i210 := by kernel_rfl
  i212 := by kernel_rfl
  i232 := by kernel_rfl
  i233 := by kernel_rfl
  m15 := by kernel_rfl
  m16 := by kernel_rfl
  m17 := by kernel_rfl
  m18 := by kernel_rfl
  m19 := by kernel_rfl
  c0 := by kernel_rfl
  c2 := by kernel_rfl
  c3 := by kernel_rfl
  c4 := by kernel_rfl
  c5 := by kernel_rfl
  c9 := by kernel_rfl
  c20 := by kernel_rfl
  c21 := by kernel_rfl
  c37 := by kernel_rfl
  c46 := by kernel_rfl
  c51 := by kernel_rfl
  c53 := by kernel_rfl
  c75 := by kernel_rfl
  c76 := by kernel_rfl
  c80 := by kernel_rfl
  c85 := by kernel_rfl
  c127 := by kernel_rfl
  c143 := by kernel_rfl
  c145 := by kernel_rfl
  c167 := by kernel_rfl
  c168 := by kernel_rfl
  c171 := by kernel_rfl
  c173 := by kernel_rfl
  c175 := by kernel_rfl
  c210 := by kernel_rfl
  c212 := by kernel_rfl
  c213 := by kernel_rfl
  c232 := by kernel_rfl
  c233 := by kernel_rfl }
open Go.RowKit in
theorem Tryz.strconv_Atoi_ok (s : ByteArray) (hmax : s.size ≤ 9223372036854775806) (v : Int) (h : Lib.atoiAll s.data.toList = .ok v) (w : World) :
    Calls Tryz.prog 77 #[.string s] w fun e w' => e = .returned (.tuple #[.int .i64 v, .nilIface]) ∧ (w' = w ∨ ∃ t, w' = Lib.bytesWorld w 5 t) := Any.strconv_Atoi_ok Tryz.laysC172 s hmax v h w
open Go.RowKit in
theorem Tryz.strconv_Atoi_syntax_var (s : ByteArray) (hlim : s.size ≤ 281474976710656) (h : Lib.atoiAll s.data.toList = Lib.atoiAll []) (tp : TypeId) (p : Value) (w : World) (hvar : w.var? Tryz.prog "strconv.ErrSyntax" = some #[.iface tp p]) :
    Calls Tryz.prog 77 #[.string s] w fun e w' => ∃ N, e = .returned (.tuple #[.int .i64 0, .iface 167 (.pointer (some ⟨N, 0, none⟩))]) ∧ w.heap.size ≤ N ∧ w'.heap[N]? = some (.cells #[.string ⟨#[65, 116, 111, 105]⟩, .string s, .iface tp p] 181 (0, 0)) ∧ Below w.heap.size w w' := Any.strconv_Atoi_syntax_var Tryz.laysC172 s hlim h tp p w hvar
open Go.RowKit in
theorem Tryz.strconv_Atoi_range_var (s : ByteArray) (hlim : s.size ≤ 281474976710656) (h : Lib.atoiAll s.data.toList = .range) (tp : TypeId) (p : Value) (w : World) (hvar : w.var? Tryz.prog "strconv.ErrRange" = some #[.iface tp p]) :
    Calls Tryz.prog 77 #[.string s] w fun e w' => ∃ N, e = .returned (.tuple #[.int .i64 (Lib.atoiSat s.data.toList), .iface 167 (.pointer (some ⟨N, 0, none⟩))]) ∧ w.heap.size ≤ N ∧ w'.heap[N]? = some (.cells #[.string ⟨#[65, 116, 111, 105]⟩, .string s, .iface tp p] 181 (0, 0)) ∧ Below w.heap.size w w' := Any.strconv_Atoi_range_var Tryz.laysC172 s hlim h tp p w hvar
end Go.Proofs
set_option maxRecDepth 8000
namespace Go.Proofs.YtdmibdjokofclaaGreatDoor
open Go Go.RowKit
theorem Sim.below {A : Nat → Prop} {ρ : Nat → Loc} {H : Heap} {w w' : World} (s : Sim A ρ H w) (b : Below w.heap.size w w') : Sim A ρ H w' ∧ Fr A ρ H w A ρ H w' := by
  have hK : ∀ b' o, Kof ρ H w b' = some o → Kof ρ H w' b' = some o := fun b' o hb => by
    obtain ⟨h1, h2⟩ := zu.1 hb
    exact zu.2 ⟨h1, by rw [b.block b' (Array.getElem?_eq_some_iff.1 h2).1]; exact h2⟩
  refine ⟨⟨s.live, fun g o ho => ?_, s.inj, s.lay.mono hK⟩, ⟨fun _ h => ⟨rfl, h⟩, hK, b.os, b.tape, b.output, b.size⟩⟩
  exact (s.obj g o ho).mono (b.block _ (s.obj g o ho).block_lt) hK (fun _ h => ⟨rfl, h⟩)
theorem QC.of_calls {P : Program} {f : FuncId} {fn : Func} {c : Code} {args : List AV} {r : AV} (hf : P.funcs[f]? = some fn) (hb : fn.body = some c) (hname : (fn.name == "runtime.NumGoroutine") = false)
    (h : ∀ (K : zn) (ρ : Nat → Loc) (A : Nat → Prop) (w : World) (cargs : Array Value), LayK (fun b => w.heap[b]?) → LRel K ρ A args cargs.toList → Calls P f cargs w fun e w' => (∃ v, e = .returned v ∧ ∀ (K : zn) (ρ : Nat → Loc) (A : Nat → Prop), VRel K ρ A r v) ∧ Below w.heap.size w w') : QC P f args r := by
  intro H nx ρ w cargs s ha
  have hcall : (callFunc f cargs).run P w = .ok (.enter f cargs) w := by
    have hname' : ¬ fn.name = "runtime.NumGoroutine" := by simpa using hname
    simp [callFunc, program, Sem.run_bind, Sem.run, hf, hname', hb, pure]
  rw [hcall]
  simp only [zaa]
  refine (h _ _ _ w cargs (s.lay.mono fun b o hb => (zu.1 hb).2) ha).mono fun e w' ⟨⟨v, he, hv⟩, hw⟩ => ?_
  obtain ⟨s', f'⟩ := s.below hw
  exact ⟨v, he, r, H, nx, ρ, ⟨rfl, rfl, rfl⟩, s', hv _ _ _, f'⟩
theorem zahm : (Tryz.prog.globalNamed "internal/strconv.uint64pow10").isSome = true := by kernel_rfl
theorem LayK.tab {w : World} (h : LayK (fun b => w.heap[b]?)) : Lib.TabIs Tryz.prog w "internal/strconv.uint64pow10" .u64 Lib.pow10Tab := by
  obtain ⟨g, hg⟩ := Option.isSome_iff_exists.1 zahm
  obtain ⟨e, m, hc⟩ := h.1 g hg
  unfold Lib.TabIs World.var?
  have hc' : w.heap[g]? = _ := hc
  rw [hg, Option.bind_some, hc']
set_option maxRecDepth 8000 in
theorem zabn (n : Int) (h0 : -9223372036854775808 ≤ n) (h1 : n ≤ 9223372036854775807) : QC Tryz.prog 71 [.int .i64 n] (.str (Lib.itoa n)) := by
  refine QC.of_calls (c := zp Tryz.f71) Tryz.func71 (by kernel_rfl) (by kernel_rfl) fun K ρ A w cargs hl ha => ?_
  have hc : cargs = #[.int .i64 n] := by
    obtain ⟨hlen, hg⟩ := ha
    have hlen' : cargs.toList.length = 1 := hlen
    match he : cargs.toList, hlen' with
    | [v], _ =>
      have := hg 0 (.int .i64 n) v rfl (by rw [he]; rfl)
      cases this
      exact Array.ext' (by rw [he])
  subst hc
  refine (Tryz.strconv_Itoa n h0 h1 w hl.tab).mono fun e w' ⟨he, k, os, hw⟩ => ?_
  subst he hw
  refine ⟨⟨_, rfl, fun K ρ A => .str _⟩, ⟨rfl, rfl, rfl, ?_, fun b hb => ?_⟩⟩
  · simp [Sort.grow, World.drewN]
  · simp only [Sort.grow, World.drewN]
    rw [Array.getElem?_append_left (by simpa using hb)]
end Go.Proofs.YtdmibdjokofclaaGreatDoor
set_option maxRecDepth 8000
namespace Go.Proofs.YtdmibdjokofclaaGreatDoor
open Go Go.RowKit
theorem zln {h : List Cl} (hc : zmy h) : ∀ (d : Nat) {v : Val}, VM.WrongOk v h.length → (VM.vshow h d v).length + 3 ≤ 63 * 2 ^ d
  | d, v, hv => by
    have hp : 1 ≤ 2 ^ d := Nat.one_le_two_pow
    rcases hv.kind with k | k | k
    · rw [VM.vshow_int k]
      have := hv.int k
      have := Lib.itoa_length_le v.n (by omega) (by omega)
      omega
    · rw [VM.vshow_text k]
      have := hv.len; omega
    · cases d with
      | zero => rw [VM.vshow_dots k]; simp
      | succ d =>
        obtain ⟨h0, h1⟩ := hv.cell k
        have hlt : v.n.toNat < h.length := by omega
        obtain ⟨w1, w2⟩ := hc _ (List.getElem_mem hlt)
        have i1 := zln hc d w1
        have i2 := zln hc d w2
        rw [VM.vshow_cell k h0 (List.getElem?_eq_getElem hlt)]
        simp only [List.length_append, List.length_cons, List.length_nil]
        rw [Nat.pow_succ]; omega
set_option maxHeartbeats 2000000 in
theorem zvk {h : List Cl} (hc : zmy h) : ∀ (d : Nat) (v : Val) (deep : Int), VM.WrongOk v h.length → deep.toNat = d → d ≤ 5 → -9223372036854775808 ≤ deep → QC Tryz.prog 57 [.ro (h.map Cl.avs), .agg v.avs, .int .i64 deep] (.str (VM.vshow h d v))
  | d, v, deep, hv, hd, hd5, hlow => by
    refine QC.of' fun H nx => zut _ _ _ H nx _ ?_
    rcases hv.kind with k | k | k
    · have := hv.int k
      rw [VM.vshow_int k]
      simp [zeb, Val.avs, k]
      refine QC.call (zabn v.n (by omega) (by omega)) ?_
      simp [zqy]
    · rw [VM.vshow_text k]
      simp [zeb, Val.avs, k]
    · obtain ⟨h0, h1⟩ := hv.cell k
      have hlt : v.n.toNat < h.length := by omega
      have hn0 : ¬ v.n < 0 := by omega
      have hn1 : ¬ (h.length : Int) ≤ v.n := by omega
      cases d with
      | zero =>
        rw [VM.vshow_dots k]
        have : deep ≤ 0 := by omega
        simp [zeb, Val.avs, k, this]
      | succ d =>
        have hpos : ¬ deep ≤ 0 := by omega
        obtain ⟨w1, w2⟩ := hc _ (List.getElem_mem hlt)
        rw [VM.vshow_cell k h0 (List.getElem?_eq_getElem hlt)]
        have hget : h[v.n.toNat]? = some h[v.n.toNat] := List.getElem?_eq_getElem hlt
        generalize h[v.n.toNat] = c at *
        have l1 := zln hc d w1
        have l2 := zln hc d w2
        have hp : 2 ^ d ≤ 2 ^ 5 := Nat.pow_le_pow_right (by omega) (by omega)
        have hw : IntKind.i64.wrap (deep - 1) = deep - 1 := i64w (by omega)
        have ih1 := zvk hc d c.left (deep - 1) w1 (by omega) (by omega) (by omega)
        have ih2 := zvk hc d c.right (deep - 1) w2 (by omega) (by omega) (by omega)
        have t1 : c.avs.take 3 = c.left.avs := rfl
        have t2 : (c.avs.drop 3).take 3 = c.right.avs := rfl
        simp [zeb, Val.avs, k, hpos, hn0, hn1, hget, hw]
        refine ⟨h0, h1, ?_⟩
        rw [t1]
        refine zw.of_qc ih1 (.str _) ?_
        simp [zqw, hget, hw]
        refine ⟨by omega, by omega, h0, h1, ?_⟩
        rw [t2]
        refine zw.of_qc ih2 (.str _) ?_
        simp [zqx]
        omega
end Go.Proofs.YtdmibdjokofclaaGreatDoor
set_option maxRecDepth 8000
namespace Go.Proofs.YtdmibdjokofclaaGreatDoor
open Go Go.RowKit
def Fin (H0 H : Heap) (lo gr : Nat) (id trip : Int) (p : Prg) (frames : List Frm) (h : List Cl) (m : Pmt) (e : Evt) : Prop := ∃ gs gf ss ha cs, H gr = some (.row 13 (zc id trip p (.slc gf 0 frames.length) ha m gs e)) ∧ H gf = some (.row 4 cs) ∧ cs.take (frames.length * 4) = frow frames ss ∧ frames.length * 4 ≤ cs.length ∧
  zad H frames ss ∧ Slot H 6 h.length (rowC h) ha ∧ lo ≤ gf ∧ (∀ g ∈ own ha, lo ≤ g) ∧ (∀ g ∈ owns ss, lo ≤ g) ∧ Keep lo H H0
section
variable {H0 H : Heap} {lo n gr gs gf : Nat} {id trip : Int} {p : Prg} {s : Spt} {fs : List Frm} {ss : List (AV × AV)} {f : Frm} {va sa : AV} {h : List Cl} {ha : AV} {m : Pmt} {e : Evt}
theorem RL.fin (st : RL H0 H lo n gr gs gf id trip p s fs ss f va sa h ha m e) : Fin H0 H lo gr id trip p (fs ++ [f]) h m e := by
  obtain ⟨cs, c1, c2, c3⟩ := st.fr
  have b := st.bd
  simp only [List.mem_cons, List.mem_append] at b
  refine ⟨gs, gf, ss ++ [(va, sa)], ha, cs, by rw [st.run]; simp, c1, by rw [zbv st.frs.1]; simpa using c2, by simpa using c3, st.frs.snoc st.sv st.st, st.hp, (b gf (.inr (.inl rfl))).1, fun g hg => (b g (.inr (.inr (.inl hg)))).1, fun g hg => ?_, st.keep⟩
  rw [zbu] at hg
  rcases List.mem_append.1 hg with h | h
  · exact (b g (.inr (.inr (.inr (.inl h))))).1
  · rcases List.mem_append.1 h with h | h
    · exact (b g (.inr (.inr (.inr (.inr (.inl h)))))).1
    · exact (b g (.inr (.inr (.inr (.inr (.inr h)))))).1
theorem RL.back {gs' : List Frm} {g' : Frm} {ts : List (AV × AV)} {t : AV × AV} (st : RL H0 H lo n gr gs gf id trip p s (gs' ++ [g']) (ts ++ [t]) f va sa h ha m e) : RL H0 (H.put gr (some (.row 13 (zc id trip p (.slc gf 0 (gs'.length + 1)) ha m gs e)))) lo n gr gs gf id trip p s gs' ts g' t.1 t.2 h ha m e := by
  have ap := st.apart
  have b := st.bd
  obtain ⟨cs, c1, c2, c3⟩ := st.fr
  have hk : ∀ x, x ≠ gr → (H.put gr (some (.row 13 (zc id trip p (.slc gf 0 (gs'.length + 1)) ha m gs e)))) x = H x := fun x hx => Heap.put_ne _ _ hx
  obtain ⟨f1, f2, f3⟩ := st.frs.last
  have ow : ∀ x ∈ owns ts ++ (own t.1 ++ own t.2), x ∈ owns (ts ++ [t]) := fun x hx => by rw [zbu]; exact hx
  have wr : ∀ x ∈ owns ts ++ (own t.1 ++ own t.2), x ≠ gr := fun x hx => (ap.w x (ow x hx)).2.1
  refine ⟨Heap.put_at _ _ _, ⟨cs, by rw [hk _ ap.rf.symm]; exact c1, ?_, by simp at c3; omega⟩, f1.keep fun x hx => hk x (wr x (List.mem_append_left _ hx)), f2.keep fun x hx => hk x (wr x (List.mem_append_right _ (List.mem_append_left _ hx))), f3.keep fun x hx => hk x (wr x (List.mem_append_right _ (List.mem_append_right _ hx))),
    st.hp.keep fun x hx => hk x (ap.h x hx).2.1, by rw [hk _ ap.rs.symm]; exact st.spot, ?_, st.gsn, ?_, ?_, st.le⟩
  · have hl := zak st.frs.1
    have e1 := congrArg (List.take ((gs'.length + 1) * 4)) c2
    rw [List.take_take, Nat.min_eq_left (by simp; omega)] at e1
    rw [e1, List.take_append_of_le_length (by rw [hl]; simp), List.take_of_length_le (by rw [hl]; simp), zbv f1.1]
  · have nd := st.nd
    rw [zbu] at nd
    refine List.Sublist.nodup ?_ nd
    refine .cons_cons _ (.cons_cons _ (.cons_cons _ (List.Sublist.append (List.Sublist.refl _) ?_)))
    exact List.sublist_append_left _ _
  · intro g hg
    refine b g ?_
    simp only [List.mem_cons, List.mem_append] at hg ⊢
    rcases hg with h | h | h | h | h | h
    · exact .inl h
    · exact .inr (.inl h)
    · exact .inr (.inr (.inl h))
    · exact .inr (.inr (.inr (.inl (ow _ (by simp [h])))))
    · exact .inr (.inr (.inr (.inl (ow _ (by simp [h])))))
    · exact .inr (.inr (.inr (.inl (ow _ (by simp [h])))))
  · intro g hg
    have l1 := (b gr (by simp)).1
    rw [hk g (by omega)]
    exact st.keep g hg
theorem Slot.frzC {a : AV} {h : List Cl} (hs : Slot H 6 h.length (rowC h) a) : Frz H 0 a (.ro (h.map Cl.avs)) := by
  rcases hs with ⟨h0, rfl | rfl⟩ | ⟨g, cs, rfl, h1, h2, h3⟩
  · rw [List.eq_nil_of_length_eq_zero h0]; exact .nils
  · rw [List.eq_nil_of_length_eq_zero h0]; exact .zs
  · refine .slc g 0 _ 6 cs _ (Nat.zero_le _) h1 (by omega) (by simp) (zbq h) (fun i j => (cs[i * 6 + j]?).getD .junk) (fun i x j v hx hv => ?_) (fun i x j v hx hv => ?_)
    all_goals
      have hj : j < 6 := by
        have := (List.getElem?_eq_some_iff.1 hv).1
        rw [zbq h x (List.mem_of_getElem? hx)] at this; exact this
      have hi : i < h.length := by have := (List.getElem?_eq_some_iff.1 hx).1; simpa using this
      have e : cs[i * 6 + j]? = some v := by
        have e1 := zfy (zbq h) hx
        have e2 : (rowC h)[i * 6 + j]? = some v := by
          have := congrArg (·[j]?) e1
          simp only [List.getElem?_take, List.getElem?_drop, hj, if_true] at this
          unfold rowC; rw [this]; exact hv
        rw [← h2, List.getElem?_take, if_pos (by omega)] at e2
        exact e2
    · rw [Nat.zero_add, e]; rfl
    · rw [e]
      exact .same _ (zbf (zdu h x (List.mem_of_getElem? hx) v (List.mem_of_getElem? hv)))
theorem zw.show {a : AV} {h : List Cl} {v : Val} (hs : Slot H 6 h.length (rowC h) a) (hc : zmy h) (hv : VM.WrongOk v h.length) {nx : Nat} {k : Kt} (hk : k (.str (VM.vshow h 4 v)) (own a) [] []) : zw Tryz.prog (.clo 57 []) [a, .agg v.avs, .int .i64 4] H nx k := by
  refine zw.of_qcr (own a) (fun g hg => ?_) (fun H' n' hh => QC.reads (zvk hc 4 v 4 hv rfl (by omega) (by omega)) (by simp) (.cons (Slot.frzC (hs.keep fun g hg => (hh g hg).1)) (.cons (.same _ (zlr v)) (.cons (.same _ (.int _ _)) .nil)))) (.str _) hk
  rcases hs with ⟨_, rfl | rfl⟩ | ⟨g', cs, rfl, h1, _⟩
  · simp [own] at hg
  · simp [own] at hg
  · simp [own] at hg; subst hg; rw [h1]; rfl
set_option maxHeartbeats 1000000 in
theorem zall {st' : List Val} {v : Val} (st : RL H0 H lo n gr gs gf id trip p s fs ss f va sa h ha m e) (hf : fs.length ≤ 4096) (hs : f.stack = st' ++ [v]) (hb : st'.length ≤ 4095) (hc : zmy h) (hv : VM.WrongOk v h.length) (hg4 : ∀ g ∈ fs, g.stack.length ≤ 4095) {Q : AV → Heap → Nat → Prop}
    (h1 : fs = [] → ∀ H' n', n ≤ n' → Fin H0 H' lo gr id trip p [] h m ⟨4, VM.vshow h 4 v, 0⟩ → Q (.tup []) H' n')
    (h2 : ∀ gs' g', fs = gs' ++ [g'] → ∀ H' n' ts va' sa', n ≤ n' → RL H0 H' lo n' gr gs gf id trip p s gs' ts { g' with stack := g'.stack ++ [v] } va' sa' h ha m e → Q (.tup []) H' n') :
    za Tryz.prog 59 [.ptr gr 0] H n Q := by
  refine znr _ H n _ ?_
  unfold zjj
  refine zkw st hf hs (by omega) fun H1 n1 sa1 hn1 st1 => ?_
  have st2 := st1.temp (some (.row 3 v.avs))
  have ap := st1.apart
  have hr := st1.run
  have rn : gr ≠ n1 := by have := ap.r; omega
  have fn : gf ≠ n1 := by have := ap.f; omega
  obtain ⟨cs, c1, c2, c3⟩ := st1.fr
  have hw : IntKind.i64.wrap (fs.length : Int) = fs.length := i64w (by omega)
  have rf := ap.rf
  rcases List.eq_nil_or_concat fs with rfl | ⟨gs', g', rfl⟩
  · have hw0 : IntKind.i64.wrap 0 = 0 := i64w (by omega)
    simp [zey, hr, zc, rn, rn.symm, c1, fn, hw0]
    refine ⟨zae v, ?_⟩
    have hkk : ∀ (o : Option AObj) (x : Nat), x ≠ gr → ((H1.put n1 (some (.row 3 v.avs))).put gr o) x = (H1.put n1 (some (.row 3 v.avs))) x := fun o x hx => Heap.put_ne _ _ hx
    refine zw.show (st2.hp.keep fun g hg => hkk _ g (ap.h g hg).2.1) hc hv ?_
    simp [zjk, rn, rn.symm]
    have b := st1.bd
    simp only [List.mem_cons, List.mem_append] at b
    refine h1 rfl _ _ (by omega) ⟨gs, gf, [], ha, cs, by rw [Heap.put_at]; rfl, by rw [hkk _ _ rf.symm, Heap.put_ne _ _ fn]; exact c1, by simp [frow], by simp, ⟨rfl, fun k f s hf => by simp at hf⟩, st2.hp.keep fun g hg => hkk _ g (ap.h g hg).2.1, (b gf (.inr (.inl rfl))).1, fun g hg => (b g (.inr (.inr (.inl hg)))).1, by simp [owns], fun g hg => ?_⟩
    have l1 := (b gr (.inl rfl)).1
    have l2 := st1.le
    rw [hkk _ _ (by omega), Heap.put_ne _ _ (by omega)]
    exact st1.keep g hg
  · rw [List.concat_eq_append] at *
    have hne : ¬ ((gs'.length : Int) + 1 = 0) := by omega
    simp at hw
    simp [zey, hr, zc, rn, rn.symm, c1, fn, hw, hne]
    obtain ⟨ts, t, rfl⟩ : ∃ ts t, ss = ts ++ [t] := by
      have := st.frs.1
      rcases List.eq_nil_or_concat ss with rfl | ⟨ts, t, h⟩
      · simp at this
      · exact ⟨ts, t, by rw [h, List.concat_eq_append]⟩
    refine ⟨zae v, by omega, by omega, ?_⟩
    have st3 := st2.back
    exact zdj v st3 (by simp at hf; omega) (Nat.le_succ_of_le (hg4 g' (by simp))) fun H' n' sa' hn st4 => h2 gs' g' rfl H' n' ts t.1 sa' (by omega) st4
end
end Go.Proofs.YtdmibdjokofclaaGreatDoor
set_option maxRecDepth 8000
namespace Go.Proofs.YtdmibdjokofclaaGreatDoor
open Go Go.RowKit
section
variable {H0 H : Heap} {lo n gr gs gf : Nat} {id trip : Int} {p : Prg} {s : Spt} {fs : List Frm} {ss : List (AV × AV)} {f : Frm} {va sa : AV} {h : List Cl} {ha : AV} {m : Pmt} {e : Evt}
structure zux (H : Heap) (gr gf k j : Nat) (cs cells : List AV) (sa : AV) : Prop where
  run : ∃ rc, H gr = some (.row 13 rc) ∧ rc[4]? = some (.slc gf 0 (k + 1))
  fr : H gf = some (.row 4 cs)
  frl : (k + 1) * 4 ≤ cs.length
  cell : cs[k * 4 + 3]? = some sa
  st : Slot H 3 j cells sa
  len : cells.length = j * 3
  kb : k ≤ 4096
  jb : j ≤ 4096
  of : gf ∉ own sa
def zcv (cs : List AV) (k g j : Nat) : List AV := cs.take (k * 4 + 3) ++ AV.slc g 0 (j + 1) :: cs.drop (k * 4 + 3 + 1)
set_option maxHeartbeats 1000000 in
theorem zadd {k j : Nat} {cs cells : List AV} (v : Val) (st : zux H gr gf k j cs cells sa) (l1 : gr < n) (l2 : gf < n) (l3 : ∀ g ∈ own sa, g < n) {Q : AV → Heap → Nat → Prop}
    (hq : ∀ H' n' g', n ≤ g' → g' < n' → H' gf = some (.row 4 (zcv cs k g' j)) → H' g' = some (.row 3 (cells ++ v.avs)) → (∀ x, x < n → x ≠ gf → x ∉ own sa → H' x = H x) → Q (.tup []) H' n') : za Tryz.prog 48 [.ptr gr 0, .agg v.avs] H n Q := by
  refine zgd _ _ H n _ ?_
  simp [zet]
  obtain ⟨rc, h1, h2⟩ := st.run
  have c1 := st.fr
  have c3 := st.frl
  have c7 := st.cell
  have rn0 : gr ≠ n := by omega
  have fn0 : gf ≠ n := by omega
  refine zwl (rc := rc) (cs := cs) (k := k) (by rw [Heap.put_ne _ _ rn0]; exact h1) h2 (by rw [Heap.put_ne _ _ fn0]; exact c1) st.kb ?_
  have tv : v.avs.take 3 = v.avs := rfl
  have lv : v.avs.length = 3 := rfl
  have fnn : gf ≠ n + 1 := by omega
  have gn1 : n ≠ n + 1 := by omega
  have hlen := st.len
  have hjb := st.jb
  simp [zeu, c1, c7, tv, lv, fn0, gn1]
  have sa1 : Slot ((H.put n (some (AObj.row 3 v.avs))).put (n + 1) (some (AObj.row 3 v.avs))) 3 j cells sa := st.st.keep fun g hg => by
    have := l3 g hg
    rw [Heap.put_ne _ _ (by omega), Heap.put_ne _ _ (by omega)]
  refine Slot.append (new := v.avs) sa1 st.len (Heap.put_at _ _ _) rfl (List.all_eq_true.2 (zae v)) (by omega) fun rd D hD q1 q2 => ?_
  have hgf : (((H.put n (some (AObj.row 3 v.avs))).put (n + 1) (some (AObj.row 3 v.avs))).apply D) gf = some (.row 4 cs) := by
    rw [q2 gf st.of (by omega), Heap.put_ne _ _ fnn, Heap.put_ne _ _ fn0]; exact c1
  have hold : ∀ g, g < n → g ∉ own sa → (((H.put n (some (AObj.row 3 v.avs))).put (n + 1) (some (AObj.row 3 v.avs))).apply D) g = H g := fun g hg hs => by
    rw [q2 g hs (by omega), Heap.put_ne _ _ (by omega), Heap.put_ne _ _ (by omega)]
  generalize ((H.put n (some (AObj.row 3 v.avs))).put (n + 1) (some (AObj.row 3 v.avs))).apply D = HD at *
  simp [hgf]
  refine ⟨by omega, by omega, zbp (by simp) (hq _ _ (n + 1 + 1) (by omega) (by omega) (by rw [Heap.put_at]; rfl) (by rw [Heap.put_ne _ _ (by omega)]; exact q1) fun x h1 h2 h3 => by rw [Heap.put_ne _ _ h2]; exact hold x h1 h3)⟩
theorem RL.pushAt (st : RL H0 H lo n gr gs gf id trip p s fs ss f va sa h ha m e) (hf : fs.length ≤ 4096) (hb : f.stack.length ≤ 4096) (v : Val) : ∃ cs, zux H gr gf fs.length f.stack.length cs (rowV f.stack) sa ∧ (∀ g ∈ own sa, g < n) ∧
    ∀ H' n' g', n ≤ g' → g' < n' → H' gf = some (.row 4 (zcv cs fs.length g' f.stack.length)) → H' g' = some (.row 3 (rowV f.stack ++ v.avs)) → (∀ x, x < n → x ≠ gf → x ∉ own sa → H' x = H x) → RL H0 H' lo n' gr gs gf id trip p s fs ss { f with stack := f.stack ++ [v] } va (.slc g' 0 (f.stack.length + 1)) h ha m e := by
  obtain ⟨cs, c1, c2, c3, c4, c5, c6, c7⟩ := st.last
  have ap := st.apart
  have lv : v.avs.length = 3 := rfl
  refine ⟨cs, ⟨⟨_, st.run, rfl⟩, c1, c3, c7, st.st, by simp, hf, hb, fun h => (ap.t _ h).2.2.2.1 rfl⟩, fun g hg => (ap.t g hg).1, fun H' n' g' h1 h2 q1 q2 old => ?_⟩
  obtain ⟨d1, d2⟩ := zic (u := AV.slc g' 0 (f.stack.length + 1)) c2 (zak st.frs.1) c3 (j := 3) (by omega)
  refine st.upd (by omega) ?_ ⟨_, q1, by simpa [zcv] using d1, d2⟩ ?_ ?_ ?_ ?_ (fun g hg => .inl hg) (fun g hg => .inl hg) ?_ ?_
  · rw [old gr ap.r ap.rf (fun h => (ap.t _ h).2.1 rfl)]; exact st.run
  · exact st.sv.keep fun g hg => old g (ap.v g hg).1 (ap.v g hg).2.2.2.1 (ap.v g hg).2.2.2.2.2.2
  · refine .inr ⟨g', rowV f.stack ++ v.avs, by simp, q2, ?_, ?_⟩
    · rw [zls, List.take_of_length_le (by simp [lv]; omega)]
    · simp [lv]; omega
  · exact st.hp.keep fun g hg => old g (ap.h g hg).1 (ap.h g hg).2.2.2.1 (ap.h g hg).2.2.2.2.2.2
  · exact fun g hg _ h2 _ _ h3 => old g hg h2 h3
  · intro g hg; simp [own] at hg; subst hg; exact .inr ⟨by omega, by omega⟩
  · have := st.nd3
    simp only [List.nodup_append, List.mem_append] at this ⊢
    obtain ⟨z1, ⟨z2, _, _⟩, z4⟩ := this
    refine ⟨z1, ⟨z2, zlt _, ?_⟩, ?_⟩
    · rintro x hx y hy rfl
      simp [own] at hy
      have := (ap.v x hx).1; omega
    · rintro x hx y (hy | hy) rfl
      · exact z4 x hx x (.inl hy) rfl
      · simp [own] at hy
        have := (ap.h x hx).1; omega
def gone (sa : AV) : zj := (own sa).map fun g => (g, none)
theorem zoa {g' : Nat} {o1 o2 : Option AObj} (hne : ∀ g, g ∈ own sa → g ≠ g' ∧ g ≠ gf) (hfn : gf ≠ g') (Hx : Heap) : (Hx.apply (gone sa ++ [(gf, o1), (g', o2)])) gf = o1 ∧ (Hx.apply (gone sa ++ [(gf, o1), (g', o2)])) g' = o2 ∧
    ∀ x, x ∉ own sa → x ≠ gf → x ≠ g' → (Hx.apply (gone sa ++ [(gf, o1), (g', o2)])) x = Hx x := by
  have e : ∀ (D1 D2 : zj) (Hy : Heap), Hy.apply (D1 ++ D2) = (Hy.apply D1).apply D2 := fun D1 D2 Hy => by
    induction D1 generalizing Hy with
    | nil => rfl
    | cons d D1 ih => obtain ⟨g, o⟩ := d; exact ih (Hy.put g o)
  rw [e]
  simp only [zap, zau]
  refine ⟨by rw [Heap.put_ne _ _ hfn, Heap.put_at], by rw [Heap.put_at], fun x hx h1 h2 => ?_⟩
  rw [Heap.put_ne _ _ h2, Heap.put_ne _ _ h1]
  cases sa
  case slc g o l => simp [own] at hx; simp [gone, own, hx]
  all_goals rfl
theorem zw.push {k j : Nat} {cs cells : List AV} {v : Val} (st : zux H gr gf k j cs cells sa) (hc : ∀ c ∈ cells, scal c = true) {kt : Kt} (hne : ∀ g, g ∈ own sa → g ≠ n ∧ g ≠ gf) (hfn : gf ≠ n) (hk : kt (.tup []) (gr :: gf :: own sa) [n] (gone sa ++ [(gf, some (.row 4 (zcv cs k n j))), (n, some (.row 3 (cells ++ v.avs)))])) :
    zw Tryz.prog (.clo 48 []) [.ptr gr 0, .agg v.avs] H n kt := by
  obtain ⟨rc, h1, h2⟩ := st.run
  have c1 := st.fr
  have dg : ∀ x, x ∈ domD (gone sa) ↔ x ∈ own sa := fun x => by simp [gone, domD]
  have dD : ∀ x, x ∈ domD (gone sa ++ [(gf, some (.row 4 (zcv cs k n j))), (n, some (.row 3 (cells ++ v.avs)))]) ↔ x ∈ own sa ∨ x = gf ∨ x = n := fun x => by simp [domD, gone]
  have app : ∀ Hx : Heap, (Hx.apply (gone sa ++ [(gf, some (.row 4 (zcv cs k n j))), (n, some (.row 3 (cells ++ v.avs)))])) gf = some (.row 4 (zcv cs k n j)) ∧ (Hx.apply (gone sa ++ [(gf, some (.row 4 (zcv cs k n j))), (n, some (.row 3 (cells ++ v.avs)))])) n = some (.row 3 (cells ++ v.avs)) ∧
      ∀ x ∈ own sa, (Hx.apply (gone sa ++ [(gf, some (.row 4 (zcv cs k n j))), (n, some (.row 3 (cells ++ v.avs)))])) x = none := fun Hx => by
    have e : ∀ (D1 D2 : zj) (Hy : Heap), Hy.apply (D1 ++ D2) = (Hy.apply D1).apply D2 := fun D1 D2 Hy => by
      induction D1 generalizing Hy with
      | nil => rfl
      | cons d D1 ih => obtain ⟨g, o⟩ := d; exact ih (Hy.put g o)
    rw [e]
    simp only [zap, zau]
    refine ⟨by rw [Heap.put_ne _ _ hfn, Heap.put_at], by rw [Heap.put_at], fun x hx => ?_⟩
    obtain ⟨a, b⟩ := hne x hx
    rw [Heap.put_ne _ _ a, Heap.put_ne _ _ b]
    cases sa <;> simp [own] at hx
    subst hx
    simp [gone, own]
  refine ⟨_, gr :: gf :: own sa, [n], _, .inr (.inl rfl), LC.of_callsN (fun x hx => ?_) (fun x hx => ?_) (fun A hA hB H' n' hag => ?_), hk⟩
  · simp at hx
    rcases hx with rfl | rfl | hx
    · rw [h1]; rfl
    · rw [c1]; rfl
    · rcases st.st with ⟨_, rfl | rfl⟩ | ⟨g, gcs, rfl, g1, _⟩
      · simp [own] at hx
      · simp [own] at hx
      · simp [own] at hx; subst hx; rw [g1]; rfl
  · rcases (dD x).1 hx with h | h | h
    · exact .inl (by simp [h])
    · exact .inl (by simp [h])
    · exact .inr h
  · obtain ⟨a1, a2⟩ := hag gr (by simp)
    obtain ⟨a3, a4⟩ := hag gf (by simp)
    have st' : zux H' gr gf k j cs cells sa := ⟨⟨rc, by rw [a1]; exact h1, h2⟩, by rw [a3]; exact c1, st.frl, st.cell, st.st.keep fun g hg => (hag g (by simp [hg])).1, st.len, st.kb, st.jb, st.of⟩
    refine zadd v st' a2 a4 (fun g hg => (hag g (by simp [hg])).2) fun H'' n'' g' hg1 hg2 q1 q2 old => ?_
    obtain ⟨p1, p2, p3⟩ := app H'
    have hb := hB gf (by simp) _ c1
    refine ⟨g', hg1, hg2, .same _ (.tup _ fun j v hv => by simp at hv), fun x hx hd => ?_, fun x o hx hxn ho => ?_, ⟨_, _, p2, q2, rfl, rfl, fun j x u hx hu => ?_⟩⟩
    · have := (not_congr (dD x)).1 hd
      simp only [not_or] at this
      exact old x hx this.2.1 this.1
    · rcases (dD x).1 hx with h | h | h
      · rw [p3 x h] at ho; cases ho
      · subst h
        rw [p1] at ho
        cases ho
        refine ⟨_, q1, rfl, by simp [zcv], fun j x u hx hu => ?_⟩
        unfold zcv at hx hu
        have hl : (cs.take (k * 4 + 3)).length = k * 4 + 3 := by have := st.frl; simp; omega
        by_cases hj : j < k * 4 + 3
        · rw [List.getElem?_append_left (by omega)] at hx hu
          rw [hx] at hu; cases hu
          rw [List.getElem?_take, if_pos hj] at hx
          exact .same _ (hb j x hx)
        · rw [List.getElem?_append_right (by omega)] at hx hu
          rw [hl] at hx hu
          cases hjj : j - (k * 4 + 3) with
          | zero =>
            rw [hjj] at hx hu
            simp at hx hu; subst hx; subst hu
            exact .slc _ _
          | succ i =>
            rw [hjj] at hx hu
            simp only [List.getElem?_cons_succ] at hx hu
            rw [hx] at hu; cases hu
            rw [List.getElem?_drop] at hx
            exact .same _ (hb _ x hx)
      · exact absurd h hxn
    · rw [hx] at hu; cases hu
      have hm := List.mem_of_getElem? hx
      refine .same _ (zbf ?_)
      rcases List.mem_append.1 hm with h | h
      · exact hc x h
      · exact zbb v x h
theorem RL.pushD (v : Val) (st : RL H0 H lo n gr gs gf id trip p s fs ss f va sa h ha m e) (hf : fs.length ≤ 4096) (hb : f.stack.length ≤ 4096) {kt : Kt}
    (hk : ∀ (H' : Heap) sa' rd D, H' = H.apply D → RL H0 H' lo (n + 1) gr gs gf id trip p s fs ss { f with stack := f.stack ++ [v] } va sa' h ha m e → kt (.tup []) rd [n] D) : zw Tryz.prog (.clo 48 []) [.ptr gr 0, .agg v.avs] H n kt := by
  obtain ⟨cs, hp, hlt, hr⟩ := st.pushAt hf hb v
  have ap := st.apart
  have hne : ∀ g, g ∈ own sa → g ≠ n ∧ g ≠ gf := fun g hg => ⟨by have := hlt g hg; omega, (ap.t g hg).2.2.2.1⟩
  have hfn : gf ≠ n := by have := ap.f; omega
  refine zw.push hp (fun c hc => zhw _ c hc) hne hfn (hk _ _ _ _ rfl (hr _ (n + 1) n (Nat.le_refl _) (by omega) ?_ ?_ fun x hx h1 h2 => ?_))
  · exact (zoa hne hfn H).1
  · exact (zoa hne hfn H).2.1
  · exact (zoa hne hfn H).2.2 x h2 h1 (by omega)
end
end Go.Proofs.YtdmibdjokofclaaGreatDoor
set_option maxRecDepth 8000
namespace Go.Proofs.YtdmibdjokofclaaGreatDoor
open Go Go.RowKit
def zabz (H0 H : Heap) (lo n gr gs : Nat) (s : Spt) (r : Agt × Evt) : Prop := (r.2 = VM.ev0 ∧ ∃ gf fs ss f va sa ha, r.1.frames = fs ++ [f] ∧ RL H0 H lo n gr gs gf r.1.id r.1.trip r.1.prog s fs ss f va sa r.1.heap ha r.1.permit VM.ev0) ∨
  (r.2.kind ≠ 0 ∧ Fin H0 H lo gr r.1.id r.1.trip r.1.prog r.1.frames r.1.heap r.1.permit r.2)
theorem zfa {st : List Val} (h : 1 ≤ st.length) : st = VM.low 1 st ++ [VM.top1 st] := by
  unfold VM.low VM.top1
  have : st[st.length - 1]? = some st[st.length - 1] := List.getElem?_eq_getElem (by omega)
  rw [List.getD_eq_getElem?_getD, this]
  have e := zfu this
  rw [show st.length - 1 + 1 = st.length by omega, List.take_length] at e
  exact e
theorem zue {st : List Val} (h : 2 ≤ st.length) : st = VM.low 2 st ++ [VM.top2 st, VM.top1 st] := by
  have h1 := zfa (st := st) (by omega)
  have : st[st.length - 2]? = some st[st.length - 2] := List.getElem?_eq_getElem (by omega)
  have e := zfu this
  rw [show st.length - 2 + 1 = st.length - 1 by omega] at e
  have e2 : VM.low 1 st = VM.low 2 st ++ [VM.top2 st] := by
    unfold VM.low VM.top2
    rw [List.getD_eq_getElem?_getD, this]; exact e
  rw [e2] at h1
  simpa using h1
theorem zagg {p : Prg} {fs : List Frm} {fn : Int} (h : VM.WChain p fs fn) : ∀ g ∈ fs, ∃ k, VM.Waits p g k := by
  induction h with
  | nil => intro g hg; simp at hg
  | snoc gs g0 fn _ w ih =>
    intro g hg
    rcases List.mem_append.1 hg with h | h
    · exact ih g h
    · simp at h; subst h; exact ⟨_, w⟩
theorem zvz {a : Agt} {fs : List Frm} {f : Frm} (l : VM.Live a fs f) : ∀ g ∈ fs, g.stack.length ≤ 15 := by
  intro g hg
  obtain ⟨k, w⟩ := zagg l.chain g hg
  have ok := l.ok g (by simp [hg])
  have pr := (zag l.prog).1 _ (VM.code_mem ok.code)
  have hm := (zff pr.2.1 pr.2.2).2 _ (List.mem_of_getElem? w.hei)
  omega
theorem zxq {p : Prg} (h : VM.program p = 0) : ∀ w ∈ p.words, w.length ≤ 12 := by
  unfold VM.program at h
  split at h
  · omega
  split at h
  · omega
  split at h
  · omega
  rename_i hw
  have hw' : p.words.all VM.word = true := by simpa using hw
  intro w hm
  have := List.all_eq_true.1 hw' w hm
  unfold VM.word at this
  simp at this
  exact this.1
theorem zalq {cs : List AV} {vs : List Val} {i : Nat} {v : Val} (h1 : cs.take (vs.length * 3) = rowV vs) (h2 : vs.length * 3 ≤ cs.length) (hi : i < vs.length) :
    (cs.take (i * 3) ++ (v.avs ++ cs.drop (i * 3 + 3))).take ((vs.set i v).length * 3) = rowV (vs.set i v) ∧ (vs.set i v).length * 3 ≤ (cs.take (i * 3) ++ (v.avs ++ cs.drop (i * 3 + 3))).length := by
  have e1 : vs.set i v = vs.take i ++ ([v] ++ vs.drop (i + 1)) := by rw [List.set_eq_take_append_cons_drop, if_pos hi]; rfl
  have ecs : cs = rowV vs ++ cs.drop (vs.length * 3) := by rw [← h1, List.take_append_drop]
  have one : rowV [v] = v.avs := by simp [rowV]
  have lv : v.avs.length = 3 := rfl
  generalize cs.drop (vs.length * 3) = T at ecs
  have t1 : cs.take (i * 3) = rowV (vs.take i) := by rw [ecs, List.take_append_of_le_length (by simp; omega), zwp]
  have t2 : cs.drop (i * 3 + 3) = rowV (vs.drop (i + 1)) ++ T := by
    rw [ecs, List.drop_append_of_le_length (by simp; omega), show i * 3 + 3 = (i + 1) * 3 by omega, zqi]
  rw [t1, t2, List.length_set, e1, zku, zku, one]
  have hl : (rowV (vs.take i) ++ (v.avs ++ rowV (vs.drop (i + 1)))).length = vs.length * 3 := by simp [lv]; omega
  have e : rowV (vs.take i) ++ (v.avs ++ (rowV (vs.drop (i + 1)) ++ T)) = (rowV (vs.take i) ++ (v.avs ++ rowV (vs.drop (i + 1)))) ++ T := by simp
  rw [e]
  exact ⟨by rw [← hl, List.take_left], by rw [List.length_append, hl]; omega⟩
section
variable {H0 H : Heap} {lo n gr gs gf : Nat} {id trip : Int} {p : Prg} {s : Spt} {fs : List Frm} {ss : List (AV × AV)} {f : Frm} {va sa : AV} {h : List Cl} {ha : AV} {m : Pmt} {e : Evt}
theorem RL.setva (st : RL H0 H lo n gr gs gf id trip p s fs ss f va sa h ha m e) {vs : List Val} {g : Nat} {c : Option AObj} (hg : own va = [g]) (hs : Slot (H.put g c) 3 vs.length (rowV vs) va) : RL H0 (H.put g c) lo n gr gs gf id trip p s fs ss { f with vars := vs } va sa h ha m e := by
  have ap := st.apart
  obtain ⟨a1, a2, a3, a4, a5, a6, a7⟩ := ap.v g (by simp [hg])
  obtain ⟨cs, c1, c2⟩ := st.fr
  have hk : ∀ x, x ≠ g → (H.put g c) x = H x := fun x hx => Heap.put_ne _ _ hx
  exact st.upd (Nat.le_refl _) (by rw [hk _ (Ne.symm a2)]; exact st.run) ⟨cs, by rw [hk _ (Ne.symm a4)]; exact c1, c2⟩ hs (st.st.keep fun x hx => hk x fun e => a7 (e ▸ hx)) (st.hp.keep fun x hx => hk x fun e => a5 (e ▸ hx)) (fun x _ _ _ _ hx _ => hk x fun e => hx (by rw [hg, e]; simp)) (fun g hg => .inl hg) (fun g hg => .inl hg) (fun g hg => .inl hg) st.nd3
theorem RL.setat (st : RL H0 H lo n gr gs gf id trip p s fs ss f va sa h ha m e) {cs : List AV} (k : Int) (c1 : H gf = some (.row 4 cs)) (c2 : cs.take ((fs.length + 1) * 4) = frow fs ss ++ [.int .i64 f.fn, .int .i64 f.at_, va, sa]) (c3 : (fs.length + 1) * 4 ≤ cs.length) :
    RL H0 (H.put gf (some (.row 4 (cs.take (fs.length * 4 + 1) ++ AV.int .i64 k :: cs.drop (fs.length * 4 + 1 + 1))))) lo n gr gs gf id trip p s fs ss { f with at_ := k } va sa h ha m e := by
  obtain ⟨d1, d2⟩ := zic (u := AV.int .i64 k) c2 (zak st.frs.1) c3 (j := 1) (by omega)
  exact st.setfr (f' := { f with at_ := k }) ⟨_, rfl, by simpa using d1, d2⟩ st.sv st.st rfl rfl
end
section
variable {H0 H : Heap} {lo n gr gs gf : Nat} {a : Agt} {s : Spt} {fs : List Frm} {ss : List (AV × AV)} {f : Frm} {va sa : AV} {ha : AV}
set_option maxHeartbeats 16000000 in
set_option maxRecDepth 20000 in
theorem zakl (l : VM.Live a fs f) (hfu : a.permit.fuel ≠ 0) (st : RL H0 H lo n gr gs gf a.id a.trip a.prog s fs ss f va sa a.heap ha a.permit VM.ev0) (hname : s.name.length ≤ maxLen) (hfacts : s.facts.length ≤ 4611686018427387903) {Q : AV → Heap → Nat → Prop}
    (hq : ∀ H' n', n ≤ n' → zabz H0 H' lo n' gr gs s (VM.opDo { a with permit := { a.permit with fuel := a.permit.fuel - 1 } } s fs { f with at_ := f.at_ + 1 } (VM.insAt a.prog f)) → Q (.tup []) H' n') :
    za Tryz.prog 33 [.ptr gr 0] H n Q := by
  refine znl _ H n _ ?_
  unfold ziz
  have flen := l.flen
  refine zyp st (by omega) ?_
  have ok := l.ok f (by simp)
  have nw := l.now
  generalize VM.insAt a.prog f = i at *
  obtain ⟨iop, ia, ib⟩ := i
  have hins := nw.at_
  obtain ⟨o1, o2, o3, o4⟩ := VM.numbers_ok nw.num
  have pops := nw.pops
  have most := nw.most
  obtain ⟨cs, c1, c2, c3, c4, c5, c6, c7⟩ := st.last
  have ap := st.apart
  have hr := st.run
  have hcode := zrt ok.code
  have fn0 : gf ≠ n := by have := ap.f; omega
  have rn0 : gr ≠ n := by have := ap.r; omega
  have rf := ap.rf
  have hca : (VM.codeAt a.prog f.fn).avs = [.int .i64 (VM.codeAt a.prog f.fn).params, .int .i64 (VM.codeAt a.prog f.fn).vars, .ro ((VM.codeAt a.prog f.fn).ins.map Ins.avs)] := rfl
  have hfn1 : f.fn < (a.prog.codes.length : Int) := by have := ok.code; have := ok.fn0; omega
  have hat1 : f.at_ < ((VM.codeAt a.prog f.fn).ins.length : Int) := by have := ok.ins; have := ok.at0; omega
  obtain ⟨crange, _, _⟩ := (zag l.prog).1 _ (VM.code_mem ok.code)
  unfold VM.codeRange at crange
  rw [decide_eq_false_iff_not] at crange
  have hb := l.fuel
  have hat0 := ok.at0
  have hfn0 := ok.fn0
  have hw1 : IntKind.i64.wrap (f.at_ + 1) = f.at_ + 1 := i64w (by omega)
  have hw2 : IntKind.i64.wrap (a.permit.fuel - 1) = a.permit.fuel - 1 := i64w (by omega)
  have b2 := l.room
  have b3 := l.hops
  have b4 := l.hlen
  have oc : zmy a.heap := l.cells
  have slen : f.stack.length ≤ 17 := by
    have e := most
    unfold VM.after at e
    have e2 := zie ⟨iop, ia, ib⟩ (fun h17 => by
      have := (zag l.prog).1 _ (VM.code_mem ok.code)
      exact this.2.1 _ (List.mem_of_getElem? hins) h17)
    have := nw.next
    have hst := l.still
    unfold VM.Still VM.hts at hst
    have hm := (zff ((zag l.prog).1 _ (VM.code_mem ok.code)).2.1 ((zag l.prog).1 _ (VM.code_mem ok.code)).2.2).2 _ (List.mem_of_getElem? hst)
    omega
  have m1 : 1 ≤ f.stack.length → VM.WrongOk (VM.top1 f.stack) a.heap.length := fun h => ok.sv _ (VM.top1_mem h)
  have m2 : 2 ≤ f.stack.length → VM.WrongOk (VM.top2 f.stack) a.heap.length := fun h => ok.sv _ (VM.top2_mem h)
  have ll : ∀ k, (VM.low k f.stack).length = f.stack.length - k := fun k => VM.low_len k f.stack
  simp only at o1 o2 o3 o4 pops
  have st0 := ((st.temp (some (.row 3 [AV.int .i64 iop, .int .i64 ia, .int .i64 ib]))).setat (f.at_ + 1) (by rw [Heap.put_ne _ _ fn0]; exact c1) c2 c3).setrun { a.permit with fuel := a.permit.fuel - 1 } VM.ev0
  simp only [zc] at st0
  have hop : iop = 1 ∨ iop = 2 ∨ iop = 3 ∨ iop = 4 ∨ iop = 5 ∨ iop = 6 ∨ iop = 7 ∨ iop = 8 ∨ iop = 9 ∨ iop = 10 ∨ iop = 11 ∨ iop = 12 ∨ iop = 13 ∨ iop = 14 ∨ iop = 15 ∨ iop = 16 ∨ iop = 17 ∨ iop = 18 ∨ iop = 19 := by omega
  have go : ∀ {H' : Heap} {n' : Nat} {r : Agt × Evt}, r = VM.opDo { a with permit := { a.permit with fuel := a.permit.fuel - 1 } } s fs { f with at_ := f.at_ + 1 } ⟨iop, ia, ib⟩ → n ≤ n' → zabz H0 H' lo n' gr gs s r → Q (.tup []) H' n' := fun e hn h => hq _ _ hn (e ▸ h)
  clear hq
  rcases hop with rfl | rfl | rfl | rfl | rfl | rfl | rfl | rfl | rfl | rfl | rfl | rfl | rfl | rfl | rfl | rfl | rfl | rfl | rfl
  · -- 1
    simp [zm, hr, zc, c1, c4, c5, hcode, hca, hins, Ins.avs, fn0, rn0, rf, fn0.symm, rn0.symm, rf.symm, hw1, hw2]
    refine ⟨hfn0, hfn1, hat0, hat1, by omega, ?_⟩
    generalize hX : Heap.put (Heap.put (Heap.put H n _) gf _) gr _ = X at *
    have xn : X n = some (.row 3 [AV.int .i64 1, .int .i64 ia, .int .i64 ib]) := by rw [← hX, Heap.put_ne _ _ rn0.symm, Heap.put_ne _ _ fn0.symm, Heap.put_at]
    exact zdj ⟨0, ia, []⟩ st0 (by omega) (by simp only; omega) fun H' n' sa' hn st5 => go rfl (by omega) (.inl ⟨rfl, gf, fs, ss, _, va, sa', ha, rfl, st5⟩)
  · -- 2
    simp [zm, hr, zc, c1, c4, c5, hcode, hca, hins, Ins.avs, fn0, rn0, rf, fn0.symm, rn0.symm, rf.symm, hw1, hw2]
    refine ⟨hfn0, hfn1, hat0, hat1, by omega, ?_⟩
    generalize hX : Heap.put (Heap.put (Heap.put H n _) gf _) gr _ = X at *
    have xn : X n = some (.row 3 [AV.int .i64 2, .int .i64 ia, .int .i64 ib]) := by rw [← hX, Heap.put_ne _ _ rn0.symm, Heap.put_ne _ _ fn0.symm, Heap.put_at]
    have hn : 0 ≤ ia ∧ ia < a.prog.words.length := by unfold VM.numOk VM.isIn at o3; simpa using o3
    have hlt : ia.toNat < a.prog.words.length := by omega
    have hget : a.prog.words[ia.toNat]? = some (a.prog.words.getD ia.toNat []) := by rw [List.getD_eq_getElem?_getD, List.getElem?_eq_getElem hlt]; rfl
    have hwl := zxq l.prog _ (List.mem_of_getElem? hget)
    rw [hget]
    refine ⟨hn.1, hn.2, ?_⟩
    simp
    refine zw.of_qc (zvj (a.prog.words.getD ia.toNat []) (by simp only [maxLen]; omega)) (zlr _) ?_
    simp [zjc]
    refine st0.pushD _ (by omega) (by simp only; omega) fun H' sa' rd D hD st5 => ?_
    simp [zjd, ← hD]
    exact go rfl (by omega) (.inl ⟨rfl, gf, fs, ss, _, va, sa', ha, rfl, st5⟩)
  · -- 3
    simp [zm, hr, zc, c1, c4, c5, hcode, hca, hins, Ins.avs, fn0, rn0, rf, fn0.symm, rn0.symm, rf.symm, hw1, hw2]
    refine ⟨hfn0, hfn1, hat0, hat1, by omega, ?_⟩
    generalize hX : Heap.put (Heap.put (Heap.put H n _) gf _) gr _ = X at *
    have xn : X n = some (.row 3 [AV.int .i64 3, .int .i64 ia, .int .i64 ib]) := by rw [← hX, Heap.put_ne _ _ rn0.symm, Heap.put_ne _ _ fn0.symm, Heap.put_at]
    have hn : 0 ≤ ia ∧ ia < (VM.codeAt a.prog f.fn).vars := by unfold VM.numOk VM.isIn at o3; simpa using o3
    have okv := ok.vars
    have hlt : ia.toNat < f.vars.length := by omega
    have hget : f.vars[ia.toNat]? = some (f.vars.getD ia.toNat VM.vzero) := by rw [List.getD_eq_getElem?_getD, List.getElem?_eq_getElem hlt]; rfl
    obtain ⟨cs1, x1, _, _, _, _, x6, _⟩ := st0.last
    have xgf : X gf = some (.row 4 (cs.take (fs.length * 4 + 1) ++ AV.int .i64 (f.at_ + 1) :: cs.drop (fs.length * 4 + 1 + 1))) := by rw [← hX, Heap.put_ne _ _ rf.symm, Heap.put_at]
    rw [xgf] at x1
    cases x1
    rw [x6]
    simp
    rcases st0.sv with ⟨h0, _⟩ | ⟨g, gcs, rfl, g1, g2, g3⟩
    · simp only at h0; omega
    · have hv := zvl hget
      rw [← g2, List.drop_take, List.take_take, Nat.min_eq_left (by simp only; omega)] at hv
      simp [g1, hv]
      simp only at g3
      refine ⟨hn.1, by omega, by omega, ?_⟩
      refine st0.pushD _ (by omega) (by simp only; omega) fun H' sa' rd D hD st5 => ?_
      simp [zjb, ← hD]
      exact go rfl (by omega) (.inl ⟨rfl, gf, fs, ss, _, _, sa', ha, rfl, st5⟩)
  · -- 4
    simp [zm, hr, zc, c1, c4, c5, hcode, hca, hins, Ins.avs, fn0, rn0, rf, fn0.symm, rn0.symm, rf.symm, hw1, hw2]
    refine ⟨hfn0, hfn1, hat0, hat1, by omega, ?_⟩
    generalize hX : Heap.put (Heap.put (Heap.put H n _) gf _) gr _ = X at *
    have xn : X n = some (.row 3 [AV.int .i64 4, .int .i64 ia, .int .i64 ib]) := by rw [← hX, Heap.put_ne _ _ rn0.symm, Heap.put_ne _ _ fn0.symm, Heap.put_at]
    have hp : 1 ≤ f.stack.length := by simp [VM.effect] at pops; omega
    have e1 := zfa hp
    have hn : 0 ≤ ia ∧ ia < (VM.codeAt a.prog f.fn).vars := by unfold VM.numOk VM.isIn at o3; simpa using o3
    have okv := ok.vars
    have hlt : ia.toNat < f.vars.length := by omega
    obtain ⟨cs0, x1, _, _, _, _, x6, _⟩ := st0.last
    have xgf : X gf = some (.row 4 (cs.take (fs.length * 4 + 1) ++ AV.int .i64 (f.at_ + 1) :: cs.drop (fs.length * 4 + 1 + 1))) := by rw [← hX, Heap.put_ne _ _ rf.symm, Heap.put_at]
    rw [xgf] at x1
    cases x1
    rw [x6]
    simp
    obtain ⟨g, cs1, gcs, hsa, hpop, hg, hr5⟩ := st0.popAt (st' := VM.low 1 f.stack) (v := VM.top1 f.stack) (by omega) e1 (by rw [ll]; omega)
    have c1x := hpop.fr
    rw [xgf] at c1x
    cases c1x
    refine zw.pop hpop ?_
    have st5 := hr5 (X.put gf (some (AObj.row 4 (zgk (cs.take (fs.length * 4 + 1) ++ AV.int .i64 (f.at_ + 1) :: cs.drop (fs.length * 4 + 1 + 1)) fs.length g (VM.low 1 f.stack).length)))) (n + 1) (Nat.le_refl _) (Heap.put_at _ _ _) (fun x _ hx => Heap.put_ne _ _ hx)
    obtain ⟨cs5, y1, _, _, _, _, y6, _⟩ := st5.last
    rw [Heap.put_at] at y1
    cases y1
    rcases st5.sv with ⟨h0, _⟩ | ⟨gv, vcs, rfl, g1, g2, g3⟩
    · simp only at h0; omega
    · simp only at g2 g3
      have vf : gv ≠ gf := fun e => (st5.apart.v gv (by simp [own])).2.2.2.1 e
      rw [Heap.put_ne _ _ vf] at g1
      obtain ⟨d1, d2⟩ := zalq (v := VM.top1 f.stack) g2 g3 hlt
      simp [zja, g1, vf, fn0, y6]
      refine ⟨hn.1, by omega, by omega, zae _, ?_⟩
      have st6 := st5.setva (vs := f.vars.set ia.toNat (VM.top1 f.stack)) (g := gv) (c := some (.row 3 (vcs.take (ia.toNat * 3) ++ ((VM.top1 f.stack).avs ++ vcs.drop (ia.toNat * 3 + 3))))) (by simp [own]) (.inr ⟨gv, _, by simp, Heap.put_at _ _ _, d1, d2⟩)
      exact go (by rw [VM.opDo_4]) (by omega) (.inl ⟨rfl, gf, fs, ss, _, _, _, ha, rfl, st6⟩)
  · -- 5
    simp [zm, hr, zc, c1, c4, c5, hcode, hca, hins, Ins.avs, fn0, rn0, rf, fn0.symm, rn0.symm, rf.symm, hw1, hw2]
    refine ⟨hfn0, hfn1, hat0, hat1, by omega, ?_⟩
    generalize hX : Heap.put (Heap.put (Heap.put H n _) gf _) gr _ = X at *
    have xn : X n = some (.row 3 [AV.int .i64 5, .int .i64 ia, .int .i64 ib]) := by rw [← hX, Heap.put_ne _ _ rn0.symm, Heap.put_ne _ _ fn0.symm, Heap.put_at]
    have hp : 2 ≤ f.stack.length := by simp [VM.effect] at pops; omega
    have e2 := zue hp
    refine zals ia st0 (by omega) e2 (by rw [ll]; omega) (m1 (by omega)) (m2 hp) (fun hne H' n' sa' hn st5 => ?_) (fun he H' n' sa' hn st5 => ?_)
    · refine go (by rw [VM.opDo_5, if_neg hne]) (by omega) (.inr ⟨by simp [VM.dead], ?_⟩)
      exact st5.fin
    · exact go (by rw [VM.opDo_5, if_pos he]) (by omega) (.inl ⟨rfl, gf, fs, ss, _, va, sa', ha, rfl, st5⟩)
  · -- 6
    simp [zm, hr, zc, c1, c4, c5, hcode, hca, hins, Ins.avs, fn0, rn0, rf, fn0.symm, rn0.symm, rf.symm, hw1, hw2]
    refine ⟨hfn0, hfn1, hat0, hat1, by omega, ?_⟩
    generalize hX : Heap.put (Heap.put (Heap.put H n _) gf _) gr _ = X at *
    have xn : X n = some (.row 3 [AV.int .i64 6, .int .i64 ia, .int .i64 ib]) := by rw [← hX, Heap.put_ne _ _ rn0.symm, Heap.put_ne _ _ fn0.symm, Heap.put_at]
    have hp : 2 ≤ f.stack.length := by simp [VM.effect] at pops; omega
    have e2 := zue hp
    refine zakx st0 (by omega) e2 (by rw [ll]; omega) (by simp only; omega) (by omega) (fun hz H' n' sa' hn st5 => ?_) (fun hz H' n' sa' ha' hn st5 => ?_)
    · refine go (by rw [VM.opDo_6, if_pos (show a.permit.room = 0 from hz)]) (by omega) (.inr ⟨by simp [VM.dead], ?_⟩)
      exact st5.fin
    · exact go (by rw [VM.opDo_6, if_neg (show ¬ a.permit.room = 0 from hz)]) (by omega) (.inl ⟨rfl, gf, fs, ss, _, va, sa', ha', rfl, st5⟩)
  · -- 7
    simp [zm, hr, zc, c1, c4, c5, hcode, hca, hins, Ins.avs, fn0, rn0, rf, fn0.symm, rn0.symm, rf.symm, hw1, hw2]
    refine ⟨hfn0, hfn1, hat0, hat1, by omega, ?_⟩
    generalize hX : Heap.put (Heap.put (Heap.put H n _) gf _) gr _ = X at *
    have xn : X n = some (.row 3 [AV.int .i64 7, .int .i64 ia, .int .i64 ib]) := by rw [← hX, Heap.put_ne _ _ rn0.symm, Heap.put_ne _ _ fn0.symm, Heap.put_at]
    have hp : 1 ≤ f.stack.length := by simp [VM.effect] at pops; omega
    have e1 := zfa hp
    refine zvr st0 (by omega) e1 (by rw [ll]; omega) (m1 hp) (fun hk H' n' sa' hn st5 => ?_) (fun hk H' n' sa' g cs' hn _ st5 hha g1 g2 g3 => ?_)
    · simp [zes]
      refine go (by rw [VM.opDo_7, if_pos hk]) (by omega) (.inr ⟨by simp [VM.dead], ?_⟩)
      exact st5.fin
    · obtain ⟨w1, w2⟩ := (m1 hp).cell hk
      have hlt : (VM.top1 f.stack).n.toNat < a.heap.length := by omega
      have hcl := zabl (List.getElem?_eq_getElem hlt)
      rw [← g2, List.drop_take, List.take_take, Nat.min_eq_left (by omega)] at hcl
      have tl : ∀ c : Cl, c.avs.take 3 = c.left.avs := fun _ => rfl
      have tr : ∀ c : Cl, (c.avs.drop 3).take 3 = c.right.avs := fun _ => rfl
      have hcell : (cs'.drop ((VM.top1 f.stack).n.toNat * 6)).take 3 = (a.heap.getD (VM.top1 f.stack).n.toNat VM.cl0).left.avs := by
        rw [List.getD_eq_getElem?_getD, List.getElem?_eq_getElem hlt]
        have := congrArg (fun l => (l.drop 0).take 3) hcl
        simp only [List.drop_take, List.drop_drop, List.take_take] at this
        simpa [tl, tr] using this
      simp [zes, g1, hcell]
      refine ⟨by omega, ?_⟩
      exact zdj _ st5 (by omega) (by simp only; rw [ll]; omega) fun H'' n'' sa'' hn' st6 => go (by rw [VM.opDo_7, if_neg (by simpa using hk)]) (by omega) (.inl ⟨rfl, gf, fs, ss, _, va, sa'', ha, rfl, st6⟩)
  · -- 8
    simp [zm, hr, zc, c1, c4, c5, hcode, hca, hins, Ins.avs, fn0, rn0, rf, fn0.symm, rn0.symm, rf.symm, hw1, hw2]
    refine ⟨hfn0, hfn1, hat0, hat1, by omega, ?_⟩
    generalize hX : Heap.put (Heap.put (Heap.put H n _) gf _) gr _ = X at *
    have xn : X n = some (.row 3 [AV.int .i64 8, .int .i64 ia, .int .i64 ib]) := by rw [← hX, Heap.put_ne _ _ rn0.symm, Heap.put_ne _ _ fn0.symm, Heap.put_at]
    have hp : 1 ≤ f.stack.length := by simp [VM.effect] at pops; omega
    have e1 := zfa hp
    refine zvr st0 (by omega) e1 (by rw [ll]; omega) (m1 hp) (fun hk H' n' sa' hn st5 => ?_) (fun hk H' n' sa' g cs' hn _ st5 hha g1 g2 g3 => ?_)
    · simp [zdr]
      refine go (by rw [VM.opDo_8, if_pos hk]) (by omega) (.inr ⟨by simp [VM.dead], ?_⟩)
      exact st5.fin
    · obtain ⟨w1, w2⟩ := (m1 hp).cell hk
      have hlt : (VM.top1 f.stack).n.toNat < a.heap.length := by omega
      have hcl := zabl (List.getElem?_eq_getElem hlt)
      rw [← g2, List.drop_take, List.take_take, Nat.min_eq_left (by omega)] at hcl
      have tl : ∀ c : Cl, c.avs.take 3 = c.left.avs := fun _ => rfl
      have tr : ∀ c : Cl, (c.avs.drop 3).take 3 = c.right.avs := fun _ => rfl
      have hcell : (cs'.drop ((VM.top1 f.stack).n.toNat * 6 + 3)).take 3 = (a.heap.getD (VM.top1 f.stack).n.toNat VM.cl0).right.avs := by
        rw [List.getD_eq_getElem?_getD, List.getElem?_eq_getElem hlt]
        have := congrArg (fun l => (l.drop 3).take 3) hcl
        simp only [List.drop_take, List.drop_drop, List.take_take] at this
        simpa [tl, tr] using this
      simp [zdr, g1, hcell]
      refine ⟨by omega, ?_⟩
      exact zdj _ st5 (by omega) (by simp only; rw [ll]; omega) fun H'' n'' sa'' hn' st6 => go (by rw [VM.opDo_8, if_neg (by simpa using hk)]) (by omega) (.inl ⟨rfl, gf, fs, ss, _, va, sa'', ha, rfl, st6⟩)
  · -- 9
    simp [zm, hr, zc, c1, c4, c5, hcode, hca, hins, Ins.avs, fn0, rn0, rf, fn0.symm, rn0.symm, rf.symm, hw1, hw2]
    refine ⟨hfn0, hfn1, hat0, hat1, by omega, ?_⟩
    generalize hX : Heap.put (Heap.put (Heap.put H n _) gf _) gr _ = X at *
    have xn : X n = some (.row 3 [AV.int .i64 9, .int .i64 ia, .int .i64 ib]) := by rw [← hX, Heap.put_ne _ _ rn0.symm, Heap.put_ne _ _ fn0.symm, Heap.put_at]
    have hp : 2 ≤ f.stack.length := by simp [VM.effect] at pops; omega
    have e2 := zue hp
    refine zafd st0 (by omega) e2 (by rw [ll]; omega) (m2 hp) true (fun hk H' n' sa' hn st5 => ?_) (fun hk H' n' sa' hn st5 => ?_)
    · refine go (by rw [VM.opDo_9, if_pos hk]) (by omega) (.inr ⟨by simp [VM.dead], ?_⟩)
      exact st5.fin
    · exact go (by rw [VM.opDo_9, if_neg (by simpa using hk)]) (by omega) (.inl ⟨rfl, gf, fs, ss, _, va, sa', ha, rfl, st5⟩)
  · -- 10
    simp [zm, hr, zc, c1, c4, c5, hcode, hca, hins, Ins.avs, fn0, rn0, rf, fn0.symm, rn0.symm, rf.symm, hw1, hw2]
    refine ⟨hfn0, hfn1, hat0, hat1, by omega, ?_⟩
    generalize hX : Heap.put (Heap.put (Heap.put H n _) gf _) gr _ = X at *
    have xn : X n = some (.row 3 [AV.int .i64 10, .int .i64 ia, .int .i64 ib]) := by rw [← hX, Heap.put_ne _ _ rn0.symm, Heap.put_ne _ _ fn0.symm, Heap.put_at]
    have hp : 2 ≤ f.stack.length := by simp [VM.effect] at pops; omega
    have e2 := zue hp
    refine zafd st0 (by omega) e2 (by rw [ll]; omega) (m2 hp) false (fun hk H' n' sa' hn st5 => ?_) (fun hk H' n' sa' hn st5 => ?_)
    · refine go (by rw [VM.opDo_10, if_pos hk]) (by omega) (.inr ⟨by simp [VM.dead], ?_⟩)
      exact st5.fin
    · exact go (by rw [VM.opDo_10, if_neg (by simpa using hk)]) (by omega) (.inl ⟨rfl, gf, fs, ss, _, va, sa', ha, rfl, st5⟩)
  · -- 11
    simp [zm, hr, zc, c1, c4, c5, hcode, hca, hins, Ins.avs, fn0, rn0, rf, fn0.symm, rn0.symm, rf.symm, hw1, hw2]
    refine ⟨hfn0, hfn1, hat0, hat1, by omega, ?_⟩
    generalize hX : Heap.put (Heap.put (Heap.put H n _) gf _) gr _ = X at *
    have xn : X n = some (.row 3 [AV.int .i64 11, .int .i64 ia, .int .i64 ib]) := by rw [← hX, Heap.put_ne _ _ rn0.symm, Heap.put_ne _ _ fn0.symm, Heap.put_at]
    have hp : 1 ≤ f.stack.length := by simp [VM.effect] at pops; omega
    have e1 := zfa hp
    refine zamk st0 (by omega) e1 (by rw [ll]; omega) hfacts (fun hk H' n' sa' hn st5 => ?_) (fun hk H' n' sa' hn st5 => ?_)
    · refine go (by rw [VM.opDo_11, if_pos hk]) (by omega) (.inr ⟨by simp [VM.dead], ?_⟩)
      exact st5.fin
    · exact go (by rw [VM.opDo_11, if_neg (by simpa using hk)]) (by omega) (.inl ⟨rfl, gf, fs, ss, _, va, sa', ha, rfl, st5⟩)
  · -- 12
    simp [zm, hr, zc, c1, c4, c5, hcode, hca, hins, Ins.avs, fn0, rn0, rf, fn0.symm, rn0.symm, rf.symm, hw1, hw2]
    refine ⟨hfn0, hfn1, hat0, hat1, by omega, ?_⟩
    generalize hX : Heap.put (Heap.put (Heap.put H n _) gf _) gr _ = X at *
    have xn : X n = some (.row 3 [AV.int .i64 12, .int .i64 ia, .int .i64 ib]) := by rw [← hX, Heap.put_ne _ _ rn0.symm, Heap.put_ne _ _ fn0.symm, Heap.put_at]
    have sn0 : gs ≠ n := by have := ap.s; omega
    have hsp := st.spot
    rw [if_neg ap.rs.symm, if_neg ap.sf, if_neg sn0, hsp]
    simp [Spt.avs]
    refine QC.call (zvj s.name hname) ?_
    simp [zht]
    exact zdj _ st0 (by omega) (by simp only; omega) fun H' n' sa' hn st5 => go rfl (by omega) (.inl ⟨rfl, gf, fs, ss, _, va, sa', ha, rfl, st5⟩)
  · -- 13
    simp [zm, hr, zc, c1, c4, c5, hcode, hca, hins, Ins.avs, fn0, rn0, rf, fn0.symm, rn0.symm, rf.symm, hw1, hw2]
    refine ⟨hfn0, hfn1, hat0, hat1, by omega, ?_⟩
    generalize hX : Heap.put (Heap.put (Heap.put H n _) gf _) gr _ = X at *
    have xn : X n = some (.row 3 [AV.int .i64 13, .int .i64 ia, .int .i64 ib]) := by rw [← hX, Heap.put_ne _ _ rn0.symm, Heap.put_ne _ _ fn0.symm, Heap.put_at]
    have hp : 1 ≤ f.stack.length := by simp [VM.effect] at pops; omega
    have e1 := zfa hp
    refine zakz st0 (by omega) e1 (by rw [ll]; omega) b3 (fun hk H' n' sa' hn st5 => ?_) (fun hk hh H' n' sa' hn st5 => ?_) (fun hk hh H' n' sa' hn st5 => ?_)
    · refine go (by rw [VM.opDo_13, if_pos hk]) (by omega) (.inr ⟨by simp [VM.dead], ?_⟩)
      exact st5.fin
    · exact go (by rw [VM.opDo_13, if_neg (by simpa using hk), if_pos (show a.permit.hops = 0 from hh)]) (by omega) (.inl ⟨rfl, gf, fs, ss, _, va, sa', ha, rfl, st5⟩)
    · refine go (by rw [VM.opDo_13, if_neg (by simpa using hk), if_neg (show ¬ a.permit.hops = 0 from hh)]) (by omega) (.inr ⟨by simp, ?_⟩)
      exact st5.fin
  · -- 14
    simp [zm, hr, zc, c1, c4, c5, hcode, hca, hins, Ins.avs, fn0, rn0, rf, fn0.symm, rn0.symm, rf.symm, hw1, hw2]
    refine ⟨hfn0, hfn1, hat0, hat1, by omega, ?_⟩
    generalize hX : Heap.put (Heap.put (Heap.put H n _) gf _) gr _ = X at *
    have xn : X n = some (.row 3 [AV.int .i64 14, .int .i64 ia, .int .i64 ib]) := by rw [← hX, Heap.put_ne _ _ rn0.symm, Heap.put_ne _ _ fn0.symm, Heap.put_at]
    have hp : 1 ≤ f.stack.length := by simp [VM.effect] at pops; omega
    have e1 := zfa hp
    obtain ⟨g, cs1, gcs, hsa, hpop, hg, hr5⟩ := st0.popAt (st' := VM.low 1 f.stack) (v := VM.top1 f.stack) (by omega) e1 (by rw [ll]; omega)
    refine zw.pop hpop ?_
    have st5 := hr5 (X.put gf (some (AObj.row 4 (zgk cs1 fs.length g (VM.low 1 f.stack).length)))) (n + 1) (Nat.le_refl _) (Heap.put_at _ _ _) (fun x _ hx => Heap.put_ne _ _ hx)
    have xgr : X gr = some (.row 13 (zc a.id a.trip a.prog (.slc gf 0 (fs.length + 1)) ha { a.permit with fuel := a.permit.fuel - 1 } gs VM.ev0)) := st0.run
    simp [zhr]
    refine zw.show st5.hp oc (m1 hp) ?_
    have ap0 := st0.apart
    simp [zhs, rf, rf.symm, xgr, zc]
    refine go (by rw [VM.opDo_14]) (by omega) (.inr ⟨by simp, ?_⟩)
    exact (st5.setrun { a.permit with fuel := a.permit.fuel - 1 } ⟨2, VM.vshow a.heap 4 (VM.top1 f.stack), 0⟩).fin
  · -- 15
    simp [zm, hr, zc, c1, c4, c5, hcode, hca, hins, Ins.avs, fn0, rn0, rf, fn0.symm, rn0.symm, rf.symm, hw1, hw2]
    refine ⟨hfn0, hfn1, hat0, hat1, by omega, ?_⟩
    generalize hX : Heap.put (Heap.put (Heap.put H n _) gf _) gr _ = X at *
    have xn : X n = some (.row 3 [AV.int .i64 15, .int .i64 ia, .int .i64 ib]) := by rw [← hX, Heap.put_ne _ _ rn0.symm, Heap.put_ne _ _ fn0.symm, Heap.put_at]
    obtain ⟨cs1, x1, x2, x3, _⟩ := st0.last
    have xgf : X gf = some (.row 4 (cs.take (fs.length * 4 + 1) ++ AV.int .i64 (f.at_ + 1) :: cs.drop (fs.length * 4 + 1 + 1))) := by rw [← hX, Heap.put_ne _ _ rf.symm, Heap.put_at]
    rw [xgf] at x1
    cases x1
    have st5 := st0.setat ia xgf x2 x3
    refine ⟨by omega, ?_⟩
    exact go rfl (by omega) (.inl ⟨rfl, gf, fs, ss, _, va, sa, ha, rfl, st5⟩)
  · -- 16
    simp [zm, hr, zc, c1, c4, c5, hcode, hca, hins, Ins.avs, fn0, rn0, rf, fn0.symm, rn0.symm, rf.symm, hw1, hw2]
    refine ⟨hfn0, hfn1, hat0, hat1, by omega, ?_⟩
    generalize hX : Heap.put (Heap.put (Heap.put H n _) gf _) gr _ = X at *
    have xn : X n = some (.row 3 [AV.int .i64 16, .int .i64 ia, .int .i64 ib]) := by rw [← hX, Heap.put_ne _ _ rn0.symm, Heap.put_ne _ _ fn0.symm, Heap.put_at]
    have hp : 1 ≤ f.stack.length := by simp [VM.effect] at pops; omega
    have e1 := zfa hp
    obtain ⟨g, cs1, gcs, hsa, hpop, hg, hr5⟩ := st0.popAt (st' := VM.low 1 f.stack) (v := VM.top1 f.stack) (by omega) e1 (by rw [ll]; omega)
    have ap0 := st0.apart
    refine zhx hpop ap0.r ap0.f hg fun H1 n1 hn1 q1 q2 => ?_
    have st5 := hr5 H1 n1 hn1 q1 q2
    have st6 := st5.temp (some (.row 3 (VM.top1 f.stack).avs))
    have h1n : H1 n = some (.row 3 [AV.int .i64 16, .int .i64 ia, .int .i64 ib]) := by rw [q2 n (by omega) fn0.symm]; exact xn
    have nn1 : n ≠ n1 := by omega
    by_cases hz : (VM.top1 f.stack).kind = 0
    · by_cases hz2 : (VM.top1 f.stack).n = 0
      · obtain ⟨cs2, x1, x2, x3, _⟩ := st6.last
        have fnn : gf ≠ n1 := by have := st5.apart.f; omega
        have st7 := st6.setat ia x1 x2 x3
        rw [Heap.put_ne _ _ fnn] at x1
        simp [zck, hz, hz2, h1n, nn1, x1, fnn]
        refine ⟨zae _, by omega, ?_⟩
        have e16 : VM.opDo { a with permit := { a.permit with fuel := a.permit.fuel - 1 } } s fs { f with at_ := f.at_ + 1 } ⟨16, ia, ib⟩ = (VM.toF { a with permit := { a.permit with fuel := a.permit.fuel - 1 } } fs { f with at_ := ia, stack := VM.low 1 f.stack }, VM.ev0) := by
          rw [VM.opDo_16]; simp only; rw [if_pos ⟨hz, hz2⟩]
        exact go e16.symm (by omega) (.inl ⟨rfl, gf, fs, ss, _, va, _, ha, rfl, st7⟩)
      · simp [zck, hz, hz2]
        refine ⟨zae _, ?_⟩
        have e16 : VM.opDo { a with permit := { a.permit with fuel := a.permit.fuel - 1 } } s fs { f with at_ := f.at_ + 1 } ⟨16, ia, ib⟩ = (VM.toF { a with permit := { a.permit with fuel := a.permit.fuel - 1 } } fs { f with at_ := f.at_ + 1, stack := VM.low 1 f.stack }, VM.ev0) := by
          rw [VM.opDo_16]; simp only; rw [if_neg (fun hx => hz2 hx.2)]
        exact go e16.symm (by omega) (.inl ⟨rfl, gf, fs, ss, _, va, _, ha, rfl, st6⟩)
    · simp [zck, hz]
      refine ⟨zae _, ?_⟩
      have e16 : VM.opDo { a with permit := { a.permit with fuel := a.permit.fuel - 1 } } s fs { f with at_ := f.at_ + 1 } ⟨16, ia, ib⟩ = (VM.toF { a with permit := { a.permit with fuel := a.permit.fuel - 1 } } fs { f with at_ := f.at_ + 1, stack := VM.low 1 f.stack }, VM.ev0) := by
        rw [VM.opDo_16]; simp only; rw [if_neg (fun hx => hz hx.1)]
      exact go e16.symm (by omega) (.inl ⟨rfl, gf, fs, ss, _, va, _, ha, rfl, st6⟩)
  · -- 17
    simp [zm, hr, zc, c1, c4, c5, hcode, hca, hins, Ins.avs, fn0, rn0, rf, fn0.symm, rn0.symm, rf.symm, hw1, hw2]
    refine ⟨hfn0, hfn1, hat0, hat1, by omega, ?_⟩
    generalize hX : Heap.put (Heap.put (Heap.put H n _) gf _) gr _ = X at *
    have xn : X n = some (.row 3 [AV.int .i64 17, .int .i64 ia, .int .i64 ib]) := by rw [← hX, Heap.put_ne _ _ rn0.symm, Heap.put_ne _ _ fn0.symm, Heap.put_at]
    have hn : (0 ≤ ia ∧ ia < a.prog.codes.length) ∧ some ib = (a.prog.codes[ia.toNat]?).map (·.params) := by unfold VM.numOk VM.isIn at o3; simpa using o3
    obtain ⟨⟨n0, n1⟩, n2⟩ := hn
    have hlt : ia.toNat < a.prog.codes.length := by omega
    rw [zrt hlt] at n2
    simp at n2
    obtain ⟨cr, _, _⟩ := (zag l.prog).1 _ (VM.code_mem hlt)
    unfold VM.codeRange at cr
    rw [decide_eq_false_iff_not, ← n2] at cr
    simp [VM.effect] at pops
    refine zalf ⟨17, ia, ib⟩ st0 (by omega) ⟨by simp only; omega, pops⟩ (by simp only; omega) ⟨n0, hlt⟩ ⟨by simp only; omega, by simp only; omega⟩ (fun h12 H' n' hn st5 => ?_) (fun h12 H' n' gf' sa2 va' sa' hn st5 => ?_)
    · refine go (by rw [VM.opDo_17, if_pos h12]) (by omega) (.inr ⟨by simp [VM.dead], ?_⟩)
      exact st5.fin
    · exact go (by rw [VM.opDo_17, if_neg h12]) (by omega) (.inl ⟨rfl, gf', _, _, _, va', sa', ha, rfl, st5⟩)
  · -- 18
    simp [zm, hr, zc, c1, c4, c5, hcode, hca, hins, Ins.avs, fn0, rn0, rf, fn0.symm, rn0.symm, rf.symm, hw1, hw2]
    refine ⟨hfn0, hfn1, hat0, hat1, by omega, ?_⟩
    generalize hX : Heap.put (Heap.put (Heap.put H n _) gf _) gr _ = X at *
    have xn : X n = some (.row 3 [AV.int .i64 18, .int .i64 ia, .int .i64 ib]) := by rw [← hX, Heap.put_ne _ _ rn0.symm, Heap.put_ne _ _ fn0.symm, Heap.put_at]
    have hp : 1 ≤ f.stack.length := by simp [VM.effect] at pops; omega
    have e1 := zfa hp
    refine zall st0 (by omega) e1 (by rw [ll]; omega) oc (m1 hp) (fun g hg => ?_) (fun hz H' n' hn hfin => ?_) (fun gs' g' hfs H' n' ts va' sa' hn st5 => ?_)
    · exact Nat.le_trans (zvz l g hg) (by omega)
    · subst hz
      exact go (by rw [VM.opDo_18]) (by omega) (.inr ⟨by simp, hfin⟩)
    · subst hfs
      exact go (by rw [VM.opDo_18, List.getLast?_concat]) (by omega) (.inl ⟨rfl, gf, gs', ts, { g' with stack := g'.stack ++ [VM.top1 f.stack] }, va', sa', ha, by simp [VM.push, VM.toF], st5⟩)
  · -- 19
    simp [zm, hr, zc, c1, c4, c5, hcode, hca, hins, Ins.avs, fn0, rn0, rf, fn0.symm, rn0.symm, rf.symm, hw1, hw2]
    refine ⟨hfn0, hfn1, hat0, hat1, by omega, ?_⟩
    generalize hX : Heap.put (Heap.put (Heap.put H n _) gf _) gr _ = X at *
    have xn : X n = some (.row 3 [AV.int .i64 19, .int .i64 ia, .int .i64 ib]) := by rw [← hX, Heap.put_ne _ _ rn0.symm, Heap.put_ne _ _ fn0.symm, Heap.put_at]
    have hp : 1 ≤ f.stack.length := by simp [VM.effect] at pops; omega
    have e1 := zfa hp
    exact zkw st0 (by omega) e1 (by rw [ll]; omega) fun H' n' sa' hn st5 => go rfl (by omega) (.inl ⟨rfl, gf, fs, ss, _, va, sa', ha, rfl, st5⟩)
end
end Go.Proofs.YtdmibdjokofclaaGreatDoor
set_option maxRecDepth 8000
namespace Go.Proofs.YtdmibdjokofclaaGreatDoor
open Go Go.RowKit
theorem zuk (l : List Ins) : ∀ x ∈ l.map Ins.avs, x.length = 3 := by intro x hx; obtain ⟨v, _, rfl⟩ := List.mem_map.1 hx; rfl
theorem zud (l : List Str) : ∀ x ∈ l.map (fun w => [AV.str w]), x.length = 1 := by intro x hx; obtain ⟨v, _, rfl⟩ := List.mem_map.1 hx; rfl
theorem zwn (l : List Ins) : ∀ x ∈ l.map Ins.avs, ∀ c ∈ x, scal c = true := by
  intro x hx c hc
  obtain ⟨v, _, rfl⟩ := List.mem_map.1 hx
  simp [Ins.avs] at hc
  rcases hc with rfl | rfl | rfl <;> rfl
theorem zlq (l : List Str) : ∀ x ∈ l.map (fun w => [AV.str w]), ∀ c ∈ x, scal c = true := by
  intro x hx c hc
  obtain ⟨v, _, rfl⟩ := List.mem_map.1 hx
  simp at hc
  subst hc; rfl
theorem zyy {xs : List (List AV)} (h : ∀ x ∈ xs, ∀ c ∈ x, scal c = true) : xs.flatten.all AV.one = true := List.all_eq_true.2 fun c hc => by
  obtain ⟨x, hx, hcx⟩ := List.mem_flatten.1 hc
  exact zcq (h x hx c hcx)
def zbn (H : Heap) (R : Nat → Prop) (sz : Nat) (xs : List (List AV)) (a : AV) : Prop := (xs = [] ∧ a = .nils) ∨ ∃ g, R g ∧ a = .slc g 0 xs.length ∧ H g = some (.row sz xs.flatten)
theorem zbn.more {H H' : Heap} {R R' : Nat → Prop} {sz : Nat} {xs : List (List AV)} {a : AV} (h : zbn H R sz xs a) (hR : ∀ g, R g → R' g ∧ H' g = H g) : zbn H' R' sz xs a := by
  rcases h with h | ⟨g, h1, h3, h4⟩
  · exact .inl h
  · exact .inr ⟨g, (hR g h1).1, h3, by rw [(hR g h1).2]; exact h4⟩
theorem zbn.one {H : Heap} {R : Nat → Prop} {sz : Nat} {xs : List (List AV)} {a : AV} (h : zbn H R sz xs a) : a.cells = [a] ∧ a.one = true ∧ a.sure = true := by
  rcases h with ⟨_, rfl⟩ | ⟨g, _, rfl, _⟩ <;> exact ⟨rfl, rfl, rfl⟩
theorem Slot.one {H : Heap} {sz k : Nat} {cells : List AV} {a : AV} (h : Slot H sz k cells a) : a.cells = [a] ∧ a.one = true ∧ a.sure = true := by
  rcases h with ⟨_, rfl | rfl⟩ | ⟨g, cs, rfl, _⟩ <;> exact ⟨rfl, rfl, rfl⟩
theorem zbn.frz {H : Heap} {R : Nat → Prop} {sz : Nat} {xs : List (List AV)} {a : AV} {G : Nat → Prop} (h : zbn H R sz xs a) (hG : ∀ g, R g → G g) (hs : ∀ x ∈ xs, x.length = sz) : FrzP H G a (.ro xs) := by
  rcases h with ⟨rfl, rfl⟩ | ⟨g, h1, rfl, h4⟩
  · exact .nils
  · refine FrzP.row (hG g h1) h4 rfl hs (fun i x j v hx hv => ?_) (by rw [zdf hs]; exact Nat.le_refl _)
    have hj : j < sz := by
      have := (List.getElem?_eq_some_iff.1 hv).1
      rw [hs x (List.mem_of_getElem? hx)] at this; exact this
    have e1 := zfy hs hx
    have := congrArg (·[j]?) e1
    simp only [List.getElem?_take, List.getElem?_drop, hj, if_true] at this
    exact ⟨v, by rw [this]; exact hv, .same v⟩
theorem zbn.slot {H : Heap} {R : Nat → Prop} {sz : Nat} {xs : List (List AV)} {a : AV} (h : zbn H R sz xs a) (hs : ∀ x ∈ xs, x.length = sz) : Slot H sz xs.length xs.flatten a ∧ ∀ g ∈ own a, R g := by
  rcases h with ⟨rfl, rfl⟩ | ⟨g, h1, rfl, h4⟩
  · exact ⟨.inl ⟨rfl, .inl rfl⟩, fun g hg => by simp [own] at hg⟩
  · exact ⟨.inr ⟨g, _, rfl, h4, List.take_of_length_le (by rw [zdf hs]; exact Nat.le_refl _), by rw [zdf hs]; exact Nat.le_refl _⟩, fun x hx => by simp [own] at hx; subst hx; exact h1⟩
theorem zage {l : List Ins} (hl : l.length * 24 ≤ 140737488355328) {a : AV} {H : Heap} {nx : Nat} (ha : zaj H nx 3 (l.map Ins.avs) a) : za Tryz.prog 43 [a] H nx fun v H' nx' => nx ≤ nx' ∧ Keep nx H' H ∧ zbn H' (fun g => nx ≤ g ∧ g < nx') 3 (l.map Ins.avs) v := by
  refine zks _ H nx _ ?_
  unfold zfv
  refine zjt (Q := fun v H' nx' => nx ≤ nx' ∧ Keep nx H' H ∧ zbn H' (fun g => nx ≤ g ∧ g < nx') 3 (l.map Ins.avs) v) ha (zuk l) (zyy (zwn l)) (by simpa using hl) (fun h => ⟨Nat.le_refl _, by simp, .inl ⟨h, rfl⟩⟩) fun H' h1 h2 => ⟨by omega, h2, .inr ⟨nx + 1, ⟨by omega, by omega⟩, rfl, h1⟩⟩
theorem zagd {l : List Str} (hl : l.length * 16 ≤ 140737488355328) {a : AV} {H : Heap} {nx : Nat} (ha : zaj H nx 1 (l.map fun w => [AV.str w]) a) : za Tryz.prog 44 [a] H nx fun v H' nx' => nx ≤ nx' ∧ Keep nx H' H ∧ zbn H' (fun g => nx ≤ g ∧ g < nx') 1 (l.map fun w => [AV.str w]) v := by
  refine zgc _ H nx _ ?_
  unfold zct
  refine zjt (Q := fun v H' nx' => nx ≤ nx' ∧ Keep nx H' H ∧ zbn H' (fun g => nx ≤ g ∧ g < nx') 1 (l.map fun w => [AV.str w]) v) ha (zud l) (zyy (zlq l)) (by simpa using hl) (fun h => ⟨Nat.le_refl _, by simp, .inl ⟨h, rfl⟩⟩) fun H' h1 h2 => ⟨by omega, h2, .inr ⟨nx + 1, ⟨by omega, by omega⟩, rfl, h1⟩⟩
theorem zagf {l : List Cl} (hl : l.length * 64 ≤ 140737488355328) {a : AV} {H : Heap} {nx : Nat} (ha : zaj H nx 6 (l.map Cl.avs) a) : za Tryz.prog 46 [a] H nx fun v H' nx' => nx ≤ nx' ∧ Keep nx H' H ∧ zbn H' (fun g => nx ≤ g ∧ g < nx') 6 (l.map Cl.avs) v := by
  refine zlj _ H nx _ ?_
  unfold zgi
  refine zjt (Q := fun v H' nx' => nx ≤ nx' ∧ Keep nx H' H ∧ zbn H' (fun g => nx ≤ g ∧ g < nx') 6 (l.map Cl.avs) v) ha (zbq l) (zahx l) (by simpa using hl) (fun h => ⟨Nat.le_refl _, by simp, .inl ⟨h, rfl⟩⟩) fun H' h1 h2 => ⟨by omega, h2, .inr ⟨nx + 1, ⟨by omega, by omega⟩, rfl, h1⟩⟩
def zdl (H : Heap) (R : Nat → Prop) (cs : List Cod) (cells : List AV) : Prop := cells.length = cs.length * 3 ∧ ∀ (k : Nat) (c : Cod), cs[k]? = some c → cells[k * 3]? = some (.int .i64 c.params) ∧ cells[k * 3 + 1]? = some (.int .i64 c.vars) ∧ ∃ a, cells[k * 3 + 2]? = some a ∧ zbn H R 3 (c.ins.map Ins.avs) a
theorem zdl.more {H H' : Heap} {R R' : Nat → Prop} {cs : List Cod} {cells : List AV} (h : zdl H R cs cells) (hR : ∀ g, R g → R' g ∧ H' g = H g) : zdl H' R' cs cells :=
  ⟨h.1, fun k c hc => let ⟨a, b, x, h1, h2⟩ := h.2 k c hc; ⟨a, b, x, h1, h2.more hR⟩⟩
theorem zdl.snoc {H : Heap} {R : Nat → Prop} {cs : List Cod} {cells : List AV} {c : Cod} {a : AV} (h : zdl H R cs cells) (ha : zbn H R 3 (c.ins.map Ins.avs) a) : zdl H R (cs ++ [c]) (cells ++ [.int .i64 c.params, .int .i64 c.vars, a]) := by
  refine ⟨by simp [h.1]; omega, fun k c' hc => ?_⟩
  by_cases hk : k < cs.length
  · rw [List.getElem?_append_left hk] at hc
    obtain ⟨q1, q2, x, q3, q4⟩ := h.2 k c' hc
    have hl := h.1
    refine ⟨by rw [List.getElem?_append_left (by omega)]; exact q1, by rw [List.getElem?_append_left (by omega)]; exact q2, x, by rw [List.getElem?_append_left (by omega)]; exact q3, q4⟩
  · have hk' : k = cs.length := by have := (List.getElem?_eq_some_iff.1 hc).1; simp at this; omega
    subst hk'
    rw [List.getElem?_append_right (Nat.le_refl _)] at hc
    simp at hc
    subst hc
    have hl := h.1
    refine ⟨?_, ?_, a, ?_, ha⟩
    · rw [List.getElem?_append_right (by omega), hl]; simp
    · rw [List.getElem?_append_right (by omega), hl, show cs.length * 3 + 1 - cs.length * 3 = 1 by omega]; rfl
    · rw [List.getElem?_append_right (by omega), hl, show cs.length * 3 + 2 - cs.length * 3 = 2 by omega]; rfl
theorem zdl.frz {H : Heap} {R : Nat → Prop} {cs : List Cod} {cells : List AV} {a : AV} {G : Nat → Prop} (h : zdl H R cs cells) (hG : ∀ g, R g → G g) (ha : Slot H 3 cs.length cells a) (hA : ∀ g ∈ own a, G g) : FrzP H G a (.ro (cs.map Cod.avs)) := by
  rcases ha with ⟨h0, rfl | rfl⟩ | ⟨g, cs', rfl, h1, h2, h3⟩
  · rw [List.eq_nil_of_length_eq_zero h0]; exact .nils
  · rw [List.eq_nil_of_length_eq_zero h0]; exact .zs
  · refine FrzP.row (hA g (by simp [own])) h1 (by simp) (fun x hx => ?_) (fun i x j v hx hv => ?_) h3
    · obtain ⟨c, _, rfl⟩ := List.mem_map.1 hx; rfl
    · rw [List.getElem?_map] at hx
      obtain ⟨c, hc, rfl⟩ := Option.map_eq_some_iff.1 hx
      obtain ⟨q1, q2, y, q3, q4⟩ := h.2 i c hc
      have hi := (List.getElem?_eq_some_iff.1 hc).1
      have up : ∀ (j : Nat) (u : AV), j < 3 → cells[i * 3 + j]? = some u → cs'[i * 3 + j]? = some u := fun j u hj hu => by
        rw [← h2, List.getElem?_take, if_pos (by omega)] at hu; exact hu
      match j, hv with
      | 0, hv => cases hv; exact ⟨_, up 0 _ (by omega) q1, .same _⟩
      | 1, hv => cases hv; exact ⟨_, up 1 _ (by omega) q2, .same _⟩
      | 2, hv => cases hv; exact ⟨y, up 2 _ (by omega) q3, q4.frz hG (zuk _)⟩
      | j + 3, hv => simp [Cod.avs] at hv
theorem FrzP.keep {H H' : Heap} {G : Nat → Prop} {v u : AV} (h : FrzP H G v u) (hk : ∀ g, G g → H' g = H g) : FrzP H' G v u := by
  induction h with
  | same v => exact .same v
  | nils => exact .nils
  | zs => exact .zs
  | slc g off len sz cells xs hg hH hle hl hsz U hU _ ih => exact .slc g off len sz cells xs hg (by rw [hk g hg]; exact hH) hle hl hsz U hU ih
  | agg xs ys hl _ ih => exact .agg xs ys hl ih
theorem FrzP.wide {H : Heap} {G G' : Nat → Prop} {v u : AV} (h : FrzP H G v u) (hG : ∀ g, G g → G' g) : FrzP H G' v u := by
  induction h with
  | same v => exact .same v
  | nils => exact .nils
  | zs => exact .zs
  | slc g off len sz cells xs hg hH hle hl hsz U hU _ ih => exact .slc g off len sz cells xs (hG g hg) hH hle hl hsz U hU ih
  | agg xs ys hl _ ih => exact .agg xs ys hl ih
theorem za.nil_zs {P : Program} {f : FuncId} {args : List AV} {H : Heap} {nx : Nat} {Q : Heap → Nat → Prop} (h : za P f args H nx fun v H' nx' => (v = .nils ∨ v = .zs) ∧ Q H' nx') : za P f args H nx fun v H' nx' => v = .zs ∧ Q H' nx' := by
  intro ρ w cargs s ha
  refine zo (h ρ w cargs s ha) fun cv w' ⟨v, H', nx', ρ', ⟨hv, hq⟩, q2, q3, q4⟩ => ⟨.zs, H', nx', ρ', ⟨rfl, hq⟩, q2, ?_, q4⟩
  rcases hv with rfl | rfl
  · cases q3; exact .zs _
  · exact q3
theorem zaml {esz bytes nx : Nat} {x : AV} {H : Heap} {kk : AV → Heap → Nat → Prop} : APP esz bytes .zs x H nx kk = OPTK (zi esz H x) fun p => p.2.1.all AV.one = true ∧
    (p.1 = 0 → kk .zs H nx) ∧ (p.1 ≠ 0 → p.1 * bytes ≤ 140737488355328 ∧ kk (.slc nx 0 p.1) (H.put nx (some (.row esz p.2.1))) (nx + 1)) := by
  simp only [APP, zah, OPTK]
  cases hs : zi esz H x with
  | none => simp
  | some p => obtain ⟨m, news, rd⟩ := p; simp [Heap.apply]
theorem zw.cloneV {l : List Val} (hl : l.length * 32 ≤ 140737488355328) {H : Heap} {nx : Nat} {k : Kt}
    (h0 : l = [] → k .zs [] [] []) (h1 : l ≠ [] → k (.slc nx 0 l.length) [] [nx] [(nx, some (.row 3 (rowV l)))]) : zw Tryz.prog (.clo 45 []) [.ro (l.map Val.avs)] H nx k := by
  by_cases he : l = []
  · subst he
    refine ⟨_, [], [], [], .inl rfl, LC.of_qcr (r := .zs) (by simp) (fun H' n _ => ?_) .zs, h0 rfl⟩
    refine za.tidy fun hlive => ?_
    have h0 : za Tryz.prog 45 [.ro []] H' n fun v H'' nx' => (v = .nils ∨ v = .zs) ∧ Keep n H'' H' := by
      refine zjo _ H' n _ ?_
      simp [zfb, zaml]
    refine (za.gc (R := fun v H'' => v = AV.zs ∧ H'' = H') h0.nil_zs fun v H'' nx' ⟨hv, hk⟩ => ⟨.zs, H', ⟨rfl, rfl⟩, by rw [hv]; exact .same _ .zs, fun g o ho => ⟨hlive g o ho, by rw [hk g (hlive g o ho)]; exact ho, .inl ho⟩⟩).mono fun v H'' nx' ⟨⟨a, b⟩, c⟩ => ⟨a, b, c⟩
  · refine ⟨_, [], [nx], _, .inr (.inl rfl), LC.of_callsN (by simp) (by simp) (fun A hA hB H' n' hag => ?_), h1 he⟩
    refine (zxa l hl .ro).mono fun v H'' n'' ⟨q1, q2, q3⟩ => ?_
    rcases q3 with ⟨h, _⟩ | ⟨g, g1, g2, rfl, g3⟩
    · exact absurd h he
    · refine ⟨g, g1, g2, .slc _ _, fun x hx _ => q2 x hx, fun x o hx hxn => ?_, ⟨.row 3 (rowV l), _, by simp only [zap, zau]; rw [Heap.put_at], g3, rfl, rfl, fun j v u hv hu => ?_⟩⟩
      · exact absurd (by simpa using hx) hxn
      · rw [hv] at hu; cases hu; exact .same _ (zbf (zhw l _ (List.mem_of_getElem? hv)))
end Go.Proofs.YtdmibdjokofclaaGreatDoor
set_option maxRecDepth 8000
namespace Go.Proofs.YtdmibdjokofclaaGreatDoor
open Go Go.RowKit
structure zjw (H : Heap) (lo n : Nat) (fs : List Frm) (ss : List (AV × AV)) (fa : AV) (h : List Cl) (ha : AV) : Prop where
  frs : zad H fs ss
  row : Slot H 4 fs.length (frow fs ss) fa
  hp : Slot H 6 h.length (rowC h) ha
  nd : (own fa ++ (own ha ++ owns ss)).Nodup
  bd : ∀ g ∈ own fa ++ (own ha ++ owns ss), lo ≤ g ∧ g < n
structure zlh (H : Heap) (lo n : Nat) (fs : List Frm) (ss : List (AV × AV)) (fa : AV) : Prop where
  frs : zad H fs ss
  row : Slot H 4 fs.length (frow fs ss) fa
  nd : (own fa ++ owns ss).Nodup
  bd : ∀ g ∈ own fa ++ owns ss, lo ≤ g ∧ g < n
theorem zlh.snoc {H X : Heap} {lo n N m : Nat} {fs : List Frm} {ss : List (AV × AV)} {fa : AV} {f : Frm} {va sa : AV} (h : zlh H lo n fs ss fa) (hn : n ≤ N) (hN : N ≤ m) (hlo : lo ≤ N) (hlen : (fs.length + 1) * 64 ≤ 140737488355328)
    (old : ∀ g, g < n → X g = H g) (hv : Slot X 3 f.vars.length (rowV f.vars) va) (hs : Slot X 3 f.stack.length (rowV f.stack) sa) (nd : (own va ++ own sa).Nodup) (bd : ∀ g ∈ own va ++ own sa, N ≤ g ∧ g < m)
    {t : Nat} (ht : X t = some (.row 4 [.int .i64 f.fn, .int .i64 f.at_, va, sa])) {kk : AV → Heap → Nat → Prop}
    (hk : ∀ H' a', (∀ g, g < lo → H' g = X g) → zlh H' lo (m + 1) (fs ++ [f]) (ss ++ [(va, sa)]) a' → kk a' H' (m + 1)) : APP 4 64 fa (.slc t 0 1) X m kk := by
  have hbf : ∀ g ∈ own fa, lo ≤ g ∧ g < n := fun g hg => h.bd g (List.mem_append_left _ hg)
  have hbs : ∀ g ∈ owns ss, lo ≤ g ∧ g < n := fun g hg => h.bd g (List.mem_append_right _ hg)
  obtain ⟨nd1, nd2, nd3⟩ := List.nodup_append.1 h.nd
  have hx := (h.row.keep (H' := X) fun g hg => old g (hbf g hg).2)
  refine Slot.app (bytes := 64) (nx := m) (new := [.int .i64 f.fn, .int .i64 f.at_, va, sa]) hx (zak h.frs.1) ht rfl (by simp [hv.one, hs.one]) hlen fun H' h1 h2 => ?_
  have keep : ∀ g, g ∈ owns ss → H' g = H g := fun g hg => by
    have := hbs g hg
    rw [h2 g (fun hx => nd3 g hx g hg rfl) (by omega)]; exact old g this.2
  have keep2 : ∀ g, g ∈ own va ++ own sa → H' g = X g := fun g hg => by
    have := bd g hg
    exact h2 g (fun hx => by have := hbf g hx; omega) (by omega)
  refine hk H' _ (fun g hg => h2 g (fun hx => by have := hbf g hx; omega) (by omega)) ⟨(h.frs.keep keep).snoc (hv.keep fun g hg => keep2 g (List.mem_append_left _ hg)) (hs.keep fun g hg => keep2 g (List.mem_append_right _ hg)), ?_, ?_, ?_⟩
  · refine .inr ⟨m, _, by simp, h1, ?_, ?_⟩
    · rw [zbv h.frs.1]; exact List.take_of_length_le (by simp [zak h.frs.1]; omega)
    · simp [zak h.frs.1]; omega
  · rw [zbu]
    have e0 : own (AV.slc m 0 (fs.length + 1)) = [m] := rfl
    simp only [List.length_append, List.length_singleton, e0]
    refine List.nodup_append.2 ⟨by simp, List.nodup_append.2 ⟨nd2, nd, fun a ha b hb e => ?_⟩, fun a ha b hb e => ?_⟩
    · have := hbs a ha; have := bd b hb; omega
    · simp at ha; subst ha; subst e
      rcases List.mem_append.1 hb with hb | hb
      · have := hbs _ hb; omega
      · have := bd _ hb; omega
  · intro g hg
    rw [zbu] at hg
    have e0 : own (AV.slc m 0 (fs.length + 1)) = [m] := rfl
    rcases List.mem_append.1 hg with hg | hg
    · simp [own] at hg; omega
    · rcases List.mem_append.1 hg with hg | hg
      · have := hbs g hg; omega
      · have := bd g hg; omega
set_option maxHeartbeats 2000000 in
theorem zadh {fs : List Frm} {csv wv : AV} {id trip fuel room hops : Int} {h : List Cl} {H1 : Heap} {p mid : Nat} {Q : AV → Heap → Nat → Prop} (hl : fs.length * 64 ≤ 140737488355328) (hh : h.length * 64 ≤ 140737488355328) (hfl : ∀ f ∈ fs, f.vars.length * 32 ≤ 140737488355328 ∧ f.stack.length * 32 ≤ 140737488355328) (hp : p + 2 ≤ mid)
    (r1 : H1 p = some (.row 9 [.int .i64 id, .int .i64 trip, csv, wv, .ro (fs.map Frm.avs), .ro (h.map Cl.avs), .int .i64 fuel, .int .i64 room, .int .i64 hops])) (r2 : ∃ z, H1 (p + 1) = some (.row 9 z) ∧ z.length = 9)
    (c1 : csv.cells = [csv] ∧ csv.one = true ∧ csv.sure = true) (w1 : wv.cells = [wv] ∧ wv.one = true ∧ wv.sure = true)
    (hq : ∀ H' n' ss fa ha, mid ≤ n' → (∀ g, g < mid → g ≠ p → g ≠ p + 1 → H' g = H1 g) → zjw H' mid n' fs ss fa h ha → Q (.agg [.int .i64 id, .int .i64 trip, csv, wv, fa, ha, .int .i64 fuel, .int .i64 room, .int .i64 hops]) H' n') :
    LP (zlp Q) [.ptr p 0, .ptr (p + 1) 0, .nils, .ro (fs.map Frm.avs), .int .i64 fs.length, .int .i64 0] H1 mid := by
  refine LP.mk (fun k xs H' n' => ∃ (i : Nat) (ss : List (AV × AV)) (fa : AV), k = fs.length - i ∧ i ≤ fs.length ∧ mid ≤ n' ∧ xs = [.ptr p 0, .ptr (p + 1) 0, fa, .ro (fs.map Frm.avs), .int .i64 fs.length, .int .i64 i] ∧ (∀ g, g < mid → H' g = H1 g) ∧
    zlh H' mid n' (fs.take i) ss fa) fs.length ⟨0, [], .nils, rfl, by omega, Nat.le_refl _, rfl, fun _ _ => rfl, ⟨⟨rfl, fun k f s hf => by simp at hf⟩, .inl ⟨by simp, .inl rfl⟩, by simp [own, owns], by simp [own, owns]⟩⟩ ?_
  rintro k xs H' n' ⟨i, ss, fa, rfl, hi, hn', rfl, hkeep, st⟩
  have p0 : p ≠ n' := by omega
  have p1 : p + 1 ≠ n' := by omega
  by_cases hil : i < fs.length
  · have hmem : fs[i] ∈ fs := List.getElem_mem hil
    obtain ⟨hv, hs⟩ := hfl _ hmem
    have htk : fs.take (i + 1) = fs.take i ++ [fs[i]] := (List.take_append_getElem hil).symm
    have tl : (fs.take i).length = i := by simp; omega
    have lv : (Frm.avs fs[i]).length = 4 := rfl
    have fin : ∀ {X : Heap} {N : Nat} {va sa : AV} {kk : AV → Heap → Nat → Prop}, n' + 1 ≤ N → (∀ g, g < n' → X g = H' g) → Slot X 3 fs[i].vars.length (rowV fs[i].vars) va → Slot X 3 fs[i].stack.length (rowV fs[i].stack) sa → (own va ++ own sa).Nodup → (∀ g ∈ own va ++ own sa, n' + 1 ≤ g ∧ g < N) →
        (∀ a' H3 m', mid ≤ m' → (∀ g, g < mid → H3 g = H1 g) → zlh H3 mid m' (fs.take (i + 1)) (ss ++ [(va, sa)]) a' → kk a' H3 m') →
        APP 4 64 fa (.slc N 0 1) (X.put N (some (.row 4 [.int .i64 fs[i].fn, .int .i64 fs[i].at_, va, sa]))) (N + 1) kk := by
      intro X N va sa kk hN hold h1 h2 h3 h4 hkk
      refine st.snoc (f := fs[i]) (va := va) (sa := sa) (N := n' + 1) (by omega) (by omega) (by omega) (by rw [tl]; omega) (fun g hg => ?_) (h1.keep fun g hg => ?_) (h2.keep fun g hg => ?_) h3 (fun g hg => by have := h4 g hg; omega) (Heap.put_at _ _ _) fun H3 a' q1 q2 => ?_
      · rw [Heap.put_ne _ _ (by omega)]; exact hold g hg
      · exact Heap.put_ne _ _ (by have := h4 g (List.mem_append_left _ hg); omega)
      · exact Heap.put_ne _ _ (by have := h4 g (List.mem_append_right _ hg); omega)
      · exact hkk _ _ _ (by omega) (fun g hg => by rw [q1 g hg, Heap.put_ne _ _ (by omega), hold g (by omega)]; exact hkeep g hg) (by rw [htk]; exact q2)
    have nn : n' ≠ n' + 1 + 1 := by omega
    have fin2 : ∀ {v64 : AV} {H65 : Heap} {nx66 : Nat} {ss' : List (AV × AV)}, mid ≤ nx66 → (∀ g, g < mid → H65 g = H1 g) → zlh H65 mid nx66 (fs.take (i + 1)) ss' v64 →
        ∃ m, m < fs.length - i ∧ ∃ i_1, m = fs.length - i_1 ∧ i_1 ≤ fs.length ∧ mid ≤ nx66 ∧ ∃ x x_1, (v64 = x_1 ∧ IntKind.i64.wrap ((i : Int) + 1) = (i_1 : Int)) ∧ (∀ (g : Nat), g < mid → H65 g = H1 g) ∧ zlh H65 mid nx66 (List.take i_1 fs) x x_1 :=
      fun h1 h2 h3 => ⟨fs.length - (i + 1), by omega, i + 1, rfl, by omega, h1, _, _, ⟨rfl, i64w (by omega)⟩, h2, h3⟩
    have nil : ∀ {l : List Val} {X : Heap}, l = [] → Slot X 3 l.length (rowV l) .zs := fun h => .inl ⟨by simp [h], .inr rfl⟩
    have row : ∀ {l : List Val} {X : Heap} {g : Nat}, X g = some (.row 3 (rowV l)) → Slot X 3 l.length (rowV l) (.slc g 0 l.length) := fun h => .inr ⟨_, _, rfl, h, List.take_of_length_le (by simp), by simp⟩
    simp [zlp, hil, Frm.avs]
    refine zw.cloneV hv (fun ve => ?_) (fun vne => ?_)
    · simp [zqa]
      refine zw.cloneV hs (fun se => ?_) (fun sne => ?_)
      · simp [zhu]
        exact fin (by omega) (fun g hg => Heap.put_ne _ _ (by omega)) (nil ve) (nil se) (by simp [own]) (by simp [own]) fun a' H3 m' h1 h2 h3 => fin2 h1 h2 h3
      · simp [zhu]
        exact fin (by omega) (fun g hg => by rw [Heap.put_ne _ _ (by omega), Heap.put_ne _ _ (by omega), Heap.put_ne _ _ (by omega)]) (nil ve) (row (by rw [Heap.put_ne _ _ (by omega), Heap.put_at])) (by simp [own]) (by simp [own]) fun a' H3 m' h1 h2 h3 => fin2 h1 h2 h3
    · simp [zqa]
      refine zw.cloneV hs (fun se => ?_) (fun sne => ?_)
      · simp [zhu]
        exact fin (by omega) (fun g hg => by rw [Heap.put_ne _ _ (by omega), Heap.put_ne _ _ (by omega), Heap.put_ne _ _ (by omega)]) (row (by rw [Heap.put_ne _ _ (by omega), Heap.put_at])) (nil se) (by simp [own]) (by simp [own]) fun a' H3 m' h1 h2 h3 => fin2 h1 h2 h3
      · simp [zhu, nn]
        exact fin (by omega) (fun g hg => by rw [Heap.put_ne _ _ (by omega), Heap.put_ne _ _ (by omega), Heap.put_ne _ _ (by omega), Heap.put_ne _ _ (by omega)]) (row (by rw [Heap.put_ne _ _ (by omega), Heap.put_ne _ _ (by omega), Heap.put_at])) (row (by rw [Heap.put_ne _ _ (by omega), Heap.put_at])) (by simp [own]) (by simp [own]) fun a' H3 m' h1 h2 h3 => fin2 h1 h2 h3
  · obtain rfl : i = fs.length := by omega
    obtain ⟨z, r2, z9⟩ := r2
    rw [← hkeep p (by omega)] at r1
    rw [← hkeep (p + 1) (by omega)] at r2
    simp [zlp, r1]
    refine (zagf hh .ro).mono fun hv H5 n5 ⟨hn5, k5, hc⟩ => ?_
    have e1 : H5 p = _ := (k5 p (by omega)).trans r1
    have e2 : H5 (p + 1) = _ := (k5 (p + 1) (by omega)).trans r2
    obtain ⟨s1, s2⟩ := hc.slot (zbq h)
    simp [zwh, e1, e2, z9, st.row.one.1, st.row.one.2, hc.one.1, hc.one.2, c1.1, c1.2, w1.1, w1.2]
    rw [List.take_length] at st
    obtain ⟨f1, f2, f3, f4⟩ := st
    have same : ∀ {X : Heap}, (∀ g, g ≠ p → g ≠ p + 1 → X g = H5 g) → ∀ g, mid ≤ g → g < n' → X g = H' g := fun hX g h1 h2 => by rw [hX g (by omega) (by omega)]; exact k5 g h2
    have s1' : Slot H5 6 h.length (rowC h) hv := by simpa [rowC] using s1
    refine hq _ _ ss fa hv (by omega) (fun g h1 h2 h3 => ?_) ⟨f1.keep fun g hg => ?_, f2.keep fun g hg => ?_, s1'.keep fun g hg => ?_, ?_, fun g hg => ?_⟩
    · rw [Heap.put_ne _ _ h3, Heap.put_ne _ _ h2, k5 g (by omega)]; exact hkeep g h1
    · have := f4 g (List.mem_append_right _ hg)
      exact same (fun g h1 h2 => by rw [Heap.put_ne _ _ h2, Heap.put_ne _ _ h1]) g this.1 this.2
    · have := f4 g (List.mem_append_left _ hg)
      exact same (fun g h1 h2 => by rw [Heap.put_ne _ _ h2, Heap.put_ne _ _ h1]) g this.1 this.2
    · have := s2 g hg
      rw [Heap.put_ne _ _ (by omega), Heap.put_ne _ _ (by omega)]
    · obtain ⟨d1, d2, d3⟩ := List.nodup_append.1 f3
      refine List.nodup_append.2 ⟨d1, List.nodup_append.2 ⟨zlt _, d2, fun a ha b hb e => ?_⟩, fun a ha b hb e => ?_⟩
      · have := s2 a ha; have := f4 b (List.mem_append_right _ hb); omega
      · rcases List.mem_append.1 hb with hb | hb
        · have := s2 b hb; have := f4 a (List.mem_append_left _ ha); omega
        · exact d3 a ha b hb e
    · rcases List.mem_append.1 hg with hg | hg
      · have := f4 g (List.mem_append_left _ hg); omega
      · rcases List.mem_append.1 hg with hg | hg
        · have := s2 g hg; omega
        · have := f4 g (List.mem_append_right _ hg); omega
end Go.Proofs.YtdmibdjokofclaaGreatDoor
