/- DERIVED: THE SHELF's CONTRACTS AT THIS DUMP, IN PLAIN WORDS (tools/lay-plain.mjs out of 'YtejohcohkgcmhaaDoorShelf0.lean', which tools/lay-shelf.mjs wrote): THE SAME DECLARATIONS UNDER THE SAME NAMES: 'import', 'namespace', 'open', 'def', 'theorem' AND NOTHING ELSE: no command of the shelf's: FOR A HAND-IN. Each laying: the table of numbers ('.._ren') and one theorem, a field a fact of the dump's own or the kernel's comparison; each contract: ONE APPLICATION. strconv.Itoa: a number's digits. A value as a text: the program's function, and the document's. What is made of two values: the program's function, and the document's. What is made of two values: the document's function. Lists of values, and of cells, that are the same; and that may be. The laws' first question, asked of closed facts. The same, seen from outside: the law's function. A law's arguments, read as abstract values; and a law's call, out of an abstract one. Values, and cells of values, read as data. -/
import Derived.Shelf.Strconv.Itoa0
import Derived.Shelf.Strconv.Itoa1
import Derived.Shelf.LaysM
import Derived.Shelf.Strconv.Itoa2
import Derived.Shelf.Strconv.Itoa3
import Derived.Ground.Names2Prog
import Derived.Test.YtejohcohkgcmhaaDoorProg
import Derived.Test.YtejohcohkgcmhaaDoorG7
import Derived.Test.YtejohcohkgcmhaaDoorG5
import Derived.Lib.ItoaLen
import Derived.Test.YtejohcohkgcmhaaDoorG8
import Derived.Deep.Slices
import Derived.SizedLaws
import Derived.ChangeSame
namespace Go.Proofs
open Go.Shelf
def Tryd.laysM171_ren : Go.Shelf.Ren := ⟨fun | 171 => 42 | 243 => 52 | 246 => 69 | 283 => 71 | 284 => 72 | 285 => 73 | 286 => 74 | 129 => 76 | 317 => 75 | 318 => 77 | 319 => 78 | 320 => 79 | 337 => 80 | 338 => 81 | n => n, fun | 3 => 3 | 9 => 9 | 2 => 2 | 4 => 4 | 171 => 116 | 0 => 0 | 53 => 117 | 37 => 120 | 5 => 5 | 173 => 121 | 212 => 124 | 51 => 125 | 20 => 20 | 213 => 126 | 46 => 128 | 232 => 131 | 233 => 132 | n => n, fun | 17 => 0 | 18 => 1 | 19 => 2 | n => n⟩
theorem Tryd.laysM171 : Go.Proofs.LaysM.n171 Tryd.prog Tryd.laysM171_ren := {
  mixed := by kernel_rfl
  f129 := Tryd.func76.trans (congrArg some (by kernel_rfl))
  f171 := Tryd.func42.trans (congrArg some (by kernel_rfl))
  f243 := Tryd.func52.trans (congrArg some (by kernel_rfl))
  f246 := Tryd.func69.trans (congrArg some (by kernel_rfl))
  f283 := Tryd.func71.trans (congrArg some (by kernel_rfl))
  f284 := Tryd.func72.trans (congrArg some (by kernel_rfl))
  f285 := Tryd.func73.trans (congrArg some (by kernel_rfl))
  f286 := Tryd.func74.trans (congrArg some (by kernel_rfl))
  f317 := Tryd.func75.trans (congrArg some (by kernel_rfl))
  f318 := Tryd.func77.trans (congrArg some (by kernel_rfl))
  f319 := Tryd.func78.trans (congrArg some (by kernel_rfl))
  f320 := Tryd.func79.trans (congrArg some (by kernel_rfl))
  f337 := Tryd.func80.trans (congrArg some (by kernel_rfl))
  f338 := Tryd.func81.trans (congrArg some (by kernel_rfl))
  t0 := Tryd.underlying0
  a0 := Tryd.isAgg0
  z0 := Tryd.sizeOf0
  v0 := Tryd.zeroValue0
  t2 := Tryd.underlying2
  a2 := Tryd.isAgg2
  z2 := Tryd.sizeOf2
  v2 := Tryd.zeroValue2
  t3 := Tryd.underlying3
  a3 := Tryd.isAgg3
  z3 := Tryd.sizeOf3
  v3 := Tryd.zeroValue3
  t4 := Tryd.underlying4
  a4 := Tryd.isAgg4
  z4 := Tryd.sizeOf4
  v4 := Tryd.zeroValue4
  t5 := Tryd.underlying5
  a5 := Tryd.isAgg5
  z5 := Tryd.sizeOf5
  v5 := Tryd.zeroValue5
  t9 := Tryd.underlying9
  a9 := Tryd.isAgg9
  z9 := Tryd.sizeOf9
  v9 := Tryd.zeroValue9
  t20 := Tryd.underlying20
  a20 := Tryd.isAgg20
  z20 := Tryd.sizeOf20
  v20 := Tryd.zeroValue20
  t37 := Tryd.underlying120
  a37 := Tryd.isAgg120
  z37 := Tryd.sizeOf120
  v37 := Tryd.zeroValue120
  t46 := Tryd.underlying128
  a46 := Tryd.isAgg128
  z46 := Tryd.sizeOf128
  v46 := Tryd.zeroValue128
  t51 := Tryd.underlying125
  a51 := Tryd.isAgg125
  z51 := Tryd.sizeOf125
  v51 := Tryd.zeroValue125
  t53 := Tryd.underlying117
  a53 := Tryd.isAgg117
  z53 := Tryd.sizeOf117
  v53 := Tryd.zeroValue117
  t171 := Tryd.underlying116
  a171 := Tryd.isAgg116
  z171 := Tryd.sizeOf116
  v171 := Tryd.zeroValue116
  t173 := Tryd.underlying121
  a173 := Tryd.isAgg121
  z173 := Tryd.sizeOf121
  v173 := Tryd.zeroValue121
  t212 := Tryd.underlying124
  a212 := Tryd.isAgg124
  z212 := Tryd.sizeOf124
  v212 := Tryd.zeroValue124
  t213 := Tryd.underlying126
  a213 := Tryd.isAgg126
  z213 := Tryd.sizeOf126
  t232 := Tryd.underlying131
  a232 := Tryd.isAgg131
  z232 := Tryd.sizeOf131
  v232 := Tryd.zeroValue131
  t233 := Tryd.underlying132
  a233 := Tryd.isAgg132
  z233 := Tryd.sizeOf132
  v233 := Tryd.zeroValue132
  g17 := by kernel_rfl
  g18 := by kernel_rfl
  g19 := by kernel_rfl
  i0 := by kernel_rfl
  i2 := by kernel_rfl
  i3 := by kernel_rfl
  i4 := by kernel_rfl
  i5 := by kernel_rfl
  i9 := by kernel_rfl
  i20 := by kernel_rfl
  i37 := by kernel_rfl
  i46 := by kernel_rfl
  i51 := by kernel_rfl
  i53 := by kernel_rfl
  i171 := by kernel_rfl
  i173 := by kernel_rfl
  i212 := by kernel_rfl
  i232 := by kernel_rfl
  i233 := by kernel_rfl
  m17 := by kernel_rfl
  m18 := by kernel_rfl
  m19 := by kernel_rfl }
open Go.RowKit Go.Sort Go.Lib in
/-- strconv.Itoa: "Itoa is equivalent to FormatInt(int64(i), 10).": i's DECIMAL NUMERAL ('Lib.itoa': a '-' where i is negative, then the digits), FOR EVERY int. The world behind the call: the world before it, new blocks behind the heap (the library's 'var a [24]byte'), draws. (LAID: no walk: one application.) -/
theorem Tryd.strconv_Itoa (n : Int) (h0 : -9223372036854775808 ≤ n) (h1 : n ≤ 9223372036854775807) (w : World) (htab : Lib.TabIs Tryd.prog w "internal/strconv.uint64pow10" .u64 Lib.pow10Tab) :
    Calls Tryd.prog 42 #[.int .i64 n] w fun e w' => e = .returned (.string ⟨(Lib.itoa n).toArray⟩) ∧ ∃ k os, w' = grow (w.drewN k) os := Any.strconv_Itoa Tryd.laysM171 n h0 h1 w htab
end Go.Proofs
namespace Go.Proofs.YtejohcohkgcmhaaDoor
open Go Go.RowKit

/-- Old blocks stand: what stood for memory does so still. -/
theorem Sim.below {A : Nat → Prop} {ρ : Nat → Loc} {H : Heap} {w w' : World} (s : Sim A ρ H w) (b : Below w.heap.size w w') : Sim A ρ H w' ∧ Fr A ρ H w A ρ H w' := by
  have hK : ∀ b' o, Kof ρ H w b' = some o → Kof ρ H w' b' = some o := fun b' o hb => by
    obtain ⟨h1, h2⟩ := Kof_some.1 hb
    exact Kof_some.2 ⟨h1, by rw [b.block b' (Array.getElem?_eq_some_iff.1 h2).1]; exact h2⟩
  refine ⟨⟨s.live, fun g o ho => ?_, s.inj, s.lay.mono hK⟩, ⟨fun _ h => ⟨rfl, h⟩, hK, b.os, b.tape, b.output, b.size⟩⟩
  exact (s.obj g o ho).mono (b.block _ (s.obj g o ho).block_lt) hK (fun _ h => ⟨rfl, h⟩)
theorem QC.of_calls {P : Program} {f : FuncId} {fn : Func} {c : Code} {args : List AV} {r : AV} (hf : P.funcs[f]? = some fn) (hb : fn.body = some c) (hname : (fn.name == "runtime.NumGoroutine") = false)
    (h : ∀ (K : KHeap) (ρ : Nat → Loc) (A : Nat → Prop) (w : World) (cargs : Array Value), LayK (fun b => w.heap[b]?) → LRel K ρ A args cargs.toList → Calls P f cargs w fun e w' => (∃ v, e = .returned v ∧ ∀ (K : KHeap) (ρ : Nat → Loc) (A : Nat → Prop), VRel K ρ A r v) ∧ Below w.heap.size w w') : QC P f args r := by
  intro H nx ρ w cargs s ha
  have hcall : (callFunc f cargs).run P w = .ok (.enter f cargs) w := by
    have hname' : ¬ fn.name = "runtime.NumGoroutine" := by simpa using hname
    simp [callFunc, program, Sem.run_bind, Sem.run, hf, hname', hb, pure]
  rw [hcall]
  simp only [flowUpon]
  refine (h _ _ _ w cargs (s.lay.mono fun b o hb => (Kof_some.1 hb).2) ha).mono fun e w' ⟨⟨v, he, hv⟩, hw⟩ => ?_
  obtain ⟨s', f'⟩ := s.below hw
  exact ⟨v, he, r, H, nx, ρ, ⟨rfl, rfl, rfl⟩, s', hv _ _ _, f'⟩

theorem tabThere : (Tryd.prog.globalNamed "internal/strconv.uint64pow10").isSome = true := by kernel_rfl
theorem LayK.tab {w : World} (h : LayK (fun b => w.heap[b]?)) : Lib.TabIs Tryd.prog w "internal/strconv.uint64pow10" .u64 Lib.pow10Tab := by
  obtain ⟨g, hg⟩ := Option.isSome_iff_exists.1 tabThere
  obtain ⟨e, m, hc⟩ := h g hg
  unfold Lib.TabIs World.var?
  have hc' : w.heap[g]? = _ := hc
  rw [hg, Option.bind_some, hc']

theorem itoa_qc (n : Int) (h0 : -9223372036854775808 ≤ n) (h1 : n ≤ 9223372036854775807) : QC Tryd.prog 42 [.int .i64 n] (.str (Lib.itoa n)) := by
  refine QC.of_calls (c := codeOf Tryd.f42) Tryd.func42 (by kernel_rfl) (by kernel_rfl) fun K ρ A w cargs hl ha => ?_
  have hc : cargs = #[.int .i64 n] := by
    obtain ⟨hlen, hg⟩ := ha
    have hlen' : cargs.toList.length = 1 := hlen
    match he : cargs.toList, hlen' with
    | [v], _ =>
      have := hg 0 (.int .i64 n) v rfl (by rw [he]; rfl)
      cases this
      exact Array.ext' (by rw [he])
  subst hc
  refine (Tryd.strconv_Itoa n h0 h1 w hl.tab).mono fun e w' ⟨he, k, os, hw⟩ => ?_
  subst he hw
  refine ⟨⟨_, rfl, fun K ρ A => .str _⟩, ⟨rfl, rfl, rfl, ?_, fun b hb => ?_⟩⟩
  · simp [Sort.grow, World.drewN]
  · simp only [Sort.grow, World.drewN]
    rw [Array.getElem?_append_left (by simpa using hb)]
end Go.Proofs.YtejohcohkgcmhaaDoor
namespace Go.Proofs.YtejohcohkgcmhaaDoor
open Go Go.RowKit

def OkCells (h : List Cl) : Prop := ∀ c ∈ h, VM.WrongOk c.left h.length ∧ VM.WrongOk c.right h.length
theorem vshow_len {h : List Cl} (hc : OkCells h) : ∀ (d : Nat) {v : Val}, VM.WrongOk v h.length → (VM.vshow h d v).length + 3 ≤ 63 * 2 ^ d
  | d, v, hv => by
    have hp : 1 ≤ 2 ^ d := Nat.one_le_two_pow
    rcases hv.kind with k | k | k
    · rw [VM.vshow_int k]
      have := hv.int k
      have := Lib.itoa_length_le v.n (by omega) (by omega)
      omega
    · rw [VM.vshow_text k]
      have := hv.len; omega
    · cases d with
      | zero => rw [VM.vshow_dots k]; simp
      | succ d =>
        obtain ⟨h0, h1⟩ := hv.cell k
        have hlt : v.n.toNat < h.length := by omega
        obtain ⟨w1, w2⟩ := hc _ (List.getElem_mem hlt)
        have i1 := vshow_len hc d w1
        have i2 := vshow_len hc d w2
        rw [VM.vshow_cell k h0 (List.getElem?_eq_getElem hlt)]
        simp only [List.length_append, List.length_cons, List.length_nil]
        rw [Nat.pow_succ]; omega

set_option maxHeartbeats 2000000 in
theorem show_qc {h : List Cl} (hc : OkCells h) : ∀ (d : Nat) (v : Val) (deep : Int), VM.WrongOk v h.length → deep.toNat = d → d ≤ 5 → -9223372036854775808 ≤ deep → QC Tryd.prog 18 [.ro (h.map Cl.avs), .agg v.avs, .int .i64 deep] (.str (VM.vshow h d v))
  | d, v, deep, hv, hd, hd5, hlow => by
    refine QC.of' fun H nx => cell_Show_calls _ _ _ H nx _ ?_
    rcases hv.kind with k | k | k
    · have := hv.int k
      rw [VM.vshow_int k]
      simp [cell_Show_vc, Val.avs, k]
      refine QC.call (itoa_qc v.n (by omega) (by omega)) ?_
      simp [cell_Show_k1]
    · rw [VM.vshow_text k]
      simp [cell_Show_vc, Val.avs, k]
    · obtain ⟨h0, h1⟩ := hv.cell k
      have hlt : v.n.toNat < h.length := by omega
      have hn0 : ¬ v.n < 0 := by omega
      have hn1 : ¬ (h.length : Int) ≤ v.n := by omega
      cases d with
      | zero =>
        rw [VM.vshow_dots k]
        have : deep ≤ 0 := by omega
        simp [cell_Show_vc, Val.avs, k, this]
      | succ d =>
        have hpos : ¬ deep ≤ 0 := by omega
        obtain ⟨w1, w2⟩ := hc _ (List.getElem_mem hlt)
        rw [VM.vshow_cell k h0 (List.getElem?_eq_getElem hlt)]
        have hget : h[v.n.toNat]? = some h[v.n.toNat] := List.getElem?_eq_getElem hlt
        generalize h[v.n.toNat] = c at *
        have l1 := vshow_len hc d w1
        have l2 := vshow_len hc d w2
        have hp : 2 ^ d ≤ 2 ^ 5 := Nat.pow_le_pow_right (by omega) (by omega)
        have hw : IntKind.i64.wrap (deep - 1) = deep - 1 := i64w (by omega)
        have ih1 := show_qc hc d c.left (deep - 1) w1 (by omega) (by omega) (by omega)
        have ih2 := show_qc hc d c.right (deep - 1) w2 (by omega) (by omega) (by omega)
        have t1 : c.avs.take 3 = c.left.avs := rfl
        have t2 : (c.avs.drop 3).take 3 = c.right.avs := rfl
        simp [cell_Show_vc, Val.avs, k, hpos, hn0, hn1, hget, hw]
        refine ⟨h0, h1, ?_⟩
        rw [t1]
        refine CALLD.of_qc ih1 (.str _) ?_
        simp [cell_Show_k3, hget, hw]
        refine ⟨by omega, by omega, h0, h1, ?_⟩
        rw [t2]
        refine CALLD.of_qc ih2 (.str _) ?_
        simp [cell_Show_k2]
        omega

set_option maxHeartbeats 2000000 in
theorem show1_qc {h : List Cl} (hc : OkCells h) : ∀ (d : Nat) (v : Val) (deep : Int), VM.WrongOk v h.length → deep.toNat = d → d ≤ 5 → -9223372036854775808 ≤ deep → QC Tryd.prog 19 [.ro (h.map Cl.avs), .agg v.avs, .int .i64 deep] (.str (VM.vshow h d v))
  | d, v, deep, hv, hd, hd5, hlow => by
    refine QC.of' fun H nx => zwref1_Show_calls _ _ _ H nx _ ?_
    rcases hv.kind with k | k | k
    · have := hv.int k
      rw [VM.vshow_int k]
      simp [zwref1_Show_vc, Val.avs, k]
      refine QC.call (itoa_qc v.n (by omega) (by omega)) ?_
      simp [zwref1_Show_k1]
    · rw [VM.vshow_text k]
      simp [zwref1_Show_vc, Val.avs, k]
    · obtain ⟨h0, h1⟩ := hv.cell k
      have hlt : v.n.toNat < h.length := by omega
      have hn0 : ¬ v.n < 0 := by omega
      have hn1 : ¬ (h.length : Int) ≤ v.n := by omega
      cases d with
      | zero =>
        rw [VM.vshow_dots k]
        have : deep < 1 := by omega
        simp [zwref1_Show_vc, Val.avs, k, this]
      | succ d =>
        have hpos : ¬ deep < 1 := by omega
        obtain ⟨w1, w2⟩ := hc _ (List.getElem_mem hlt)
        rw [VM.vshow_cell k h0 (List.getElem?_eq_getElem hlt)]
        have hget : h[v.n.toNat]? = some h[v.n.toNat] := List.getElem?_eq_getElem hlt
        generalize h[v.n.toNat] = c at *
        have l1 := vshow_len hc d w1
        have l2 := vshow_len hc d w2
        have hp : 2 ^ d ≤ 2 ^ 5 := Nat.pow_le_pow_right (by omega) (by omega)
        have hw : IntKind.i64.wrap (deep - 1) = deep - 1 := i64w (by omega)
        have ih1 := show1_qc hc d c.left (deep - 1) w1 (by omega) (by omega) (by omega)
        have ih2 := show1_qc hc d c.right (deep - 1) w2 (by omega) (by omega) (by omega)
        have t1 : c.avs.take 3 = c.left.avs := rfl
        have t2 : (c.avs.drop 3).take 3 = c.right.avs := rfl
        simp [zwref1_Show_vc, Val.avs, k, hpos, hn0, hn1, hget, hw]
        have t3 : c.avs.take 6 = c.left.avs ++ c.right.avs := rfl
        have t4 : (c.left.avs ++ c.right.avs).take 3 = c.left.avs := rfl
        have t5 : ((c.left.avs ++ c.right.avs).drop 3).take 3 = c.right.avs := rfl
        rw [t3]
        refine ⟨h0, h1, fun x hx => scal_one (scal_cl c x hx), ?_⟩
        rw [t4]
        refine CALLD.of_qc ih1 (.str _) ?_
        simp [zwref1_Show_k3, hget, hw]
        refine ⟨by omega, by omega, ?_⟩
        rw [t5]
        refine CALLD.of_qc ih2 (.str _) ?_
        simp [zwref1_Show_k2]
        omega
end Go.Proofs.YtejohcohkgcmhaaDoor
namespace Go.Proofs.YtejohcohkgcmhaaDoor
open Go Go.RowKit

set_option maxHeartbeats 4000000 in
theorem two_qc (op : Int) (a b : Val) (N M : Int) (ha : VM.wrong a N = 0) (hb : VM.wrong b M = 0) : QC Tryd.prog 13 [.int .i64 op, .agg a.avs, .agg b.avs] (.tup [.agg (VM.two op a b).1.avs, .int .i64 (VM.two op a b).2]) := by
  have wa := VM.wrong_ok ha
  have wb := VM.wrong_ok hb
  obtain ⟨ka, na, sa⟩ := a
  obtain ⟨kb, nb, sb⟩ := b
  obtain ⟨a1, a2, a3, _, _, a6⟩ := wa
  obtain ⟨b1, b2, b3, _, _, b6⟩ := wb
  simp only at a1 a2 a3 a6 b1 b2 b3 b6
  refine QC.of' fun H nx => cell_Two_calls _ _ _ H nx _ ?_
  by_cases h0 : op < 1 ∨ 5 < op
  · have e : VM.two op ⟨ka, na, sa⟩ ⟨kb, nb, sb⟩ = (VM.vzero, 1) := if_pos h0
    rw [e]
    by_cases h1 : op < 1
    · simp [cell_Two_vc, Val.avs]
      refine JN.same ?_
      simp [cell_Two_b3, h1, cell_Two_j3, VM.vzero]
    · have h2 : 5 < op := by omega
      simp [cell_Two_vc, Val.avs]
      refine JN.same ?_
      simp [cell_Two_b3, h1, h2, cell_Two_j3, VM.vzero]
  have h1 : ¬ op < 1 := by omega
  have h2 : ¬ 5 < op := by omega
  simp [cell_Two_vc, Val.avs]
  refine JN.same ?_
  simp [cell_Two_b3, h1, h2, cell_Two_j3]
  refine ⟨fun h5 => ?_, fun h5 => ?_⟩
  · refine QC.call (yes_qc _) ?_
    have e : VM.two op ⟨ka, na, sa⟩ ⟨kb, nb, sb⟩ = (VM.bit (decide (ka = kb ∧ na = nb ∧ sa = sb)), 0) := by
      unfold VM.two; rw [if_neg h0, if_pos h5]; simp
    rw [e]
    have e2 : (decide (ka = kb ∧ na = nb ∧ sa = sb)) = (ka == kb && (na == nb && sa == sb)) := by rw [Bool.eq_iff_iff]; simp
    rw [e2]
    simp [cell_Two_k1, Val.avs]
  refine JN.same ?_
  by_cases hk : ka = 1 ∧ kb = 1
  · obtain ⟨rfl, rfl⟩ := hk
    simp [cell_Two_b2, cell_Two_j2]
    refine ⟨fun h => ?_, fun h => ?_⟩
    · subst h
      refine ⟨by omega, ?_⟩
      refine QC.call (text_qc _ (by simp only [maxLen, List.length_append]; omega)) ?_
      have e : VM.two 1 ⟨1, na, sa⟩ ⟨1, nb, sb⟩ = (VM.cText (sa ++ sb), 0) := rfl
      rw [e]
      simp [cell_Two_k2, Val.avs]
    · refine JN.same ?_
      simp [cell_Two_b1, cell_Two_j1, CALL]
      refine ⟨fun h4 => ?_, fun h4 => ?_⟩
      · subst h4
        refine QC.call (yes_qc _) ?_
        have e : VM.two 4 ⟨1, na, sa⟩ ⟨1, nb, sb⟩ = (VM.bit (Op.bytesLess sa sb), 0) := rfl
        rw [e]
        simp [cell_Two_k3, Val.avs]
      · have e : VM.two op ⟨1, na, sa⟩ ⟨1, nb, sb⟩ = (VM.vzero, 11) := by
          unfold VM.two; rw [if_neg h0, if_neg h5, if_neg (by simp [h]), if_neg (by simp [h4]), if_pos (by simp)]
        rw [e]
        simp [VM.vzero]
  have e1 : VM.two op ⟨ka, na, sa⟩ ⟨kb, nb, sb⟩ = if ka ≠ 0 ∨ kb ≠ 0 then (VM.vzero, 11) else if op = 1 then (VM.cInt (na + nb), 0) else if op = 2 then (VM.cInt (na - nb), 0) else if op = 3 then (VM.cInt (na * nb), 0) else (VM.bit (decide (na < nb)), 0) := by
    unfold VM.two; rw [if_neg h0, if_neg h5, if_neg (fun h => hk h.1), if_neg (fun h => hk h.1)]
  generalize VM.two op ⟨ka, na, sa⟩ ⟨kb, nb, sb⟩ = r at *
  have fin : ∀ H2 : Heap, H2 nx = some (.row 3 [.int .i64 ka, .int .i64 na, .str sa]) → H2 (nx + 1) = some (.row 3 [.int .i64 kb, .int .i64 nb, .str sb]) → H2 (nx + 2) = some (.row 3 [.int .i64 0, .int .i64 0, .str []]) → Keep nx H2 H →
      cell_Two_j1 (fun v H' _ => Frz H' nx v (.tup [.agg r.1.avs, .int .i64 r.2]) ∧ Keep nx H' H)
        [.int .i64 op, .ptr nx 0, .ptr (nx + 1) 0, .ptr (nx + 2) 0, .clo 36 [], .bool false] H2 (nx + 3) := by
    intro H2 g1 g2 g3 hK
    rw [e1]
    by_cases hka : ka = 0
    · by_cases hkb : kb = 0
      · obtain ⟨p1, p2⟩ := a2 hka
        obtain ⟨q1, q2⟩ := b2 hkb
        subst hka hkb
        have hmul : -1152921504606846976 ≤ na * nb ∧ na * nb ≤ 1152921504606846976 := by
          have m1 : na * nb ≤ 1073741824 * 1073741824 := by
            rcases Int.le_total 0 na with h | h <;> rcases Int.le_total 0 nb with h' | h'
            · exact Int.mul_le_mul p2 q2 h' (by omega)
            · have := Int.mul_nonpos_of_nonneg_of_nonpos h h'; omega
            · have := Int.mul_nonpos_of_nonpos_of_nonneg h h'; omega
            · have : (-na) * (-nb) ≤ 1073741824 * 1073741824 := Int.mul_le_mul (by omega) (by omega) (by omega) (by omega)
              rwa [Int.neg_mul_neg] at this
          have m2 : -(na * nb) ≤ 1073741824 * 1073741824 := by
            rcases Int.le_total 0 na with h | h <;> rcases Int.le_total 0 nb with h' | h'
            · have := Int.mul_nonneg h h'; omega
            · have : na * (-nb) ≤ 1073741824 * 1073741824 := Int.mul_le_mul (by omega) (by omega) (by omega) (by omega)
              rwa [Int.mul_neg] at this
            · have : (-na) * nb ≤ 1073741824 * 1073741824 := Int.mul_le_mul (by omega) (by omega) (by omega) (by omega)
              rwa [Int.neg_mul] at this
            · have := Int.mul_nonneg_of_nonpos_of_nonpos h h'; omega
          omega
        have w1 : IntKind.i64.wrap (na + nb) = na + nb := i64w (by omega)
        have w2 : IntKind.i64.wrap (na - nb) = na - nb := i64w (by omega)
        have w3 : IntKind.i64.wrap (na * nb) = na * nb := i64w (by omega)
        simp [cell_Two_j1, g1, g2, w1, w2, w3, CALL]
        refine ⟨fun h => ?_, fun h => ⟨fun h' => ?_, fun h' => ⟨fun h'' => ?_, fun h'' => ?_⟩⟩⟩
        · refine QC.call (int_qc _) ?_
          simp [cell_Two_k4, g3, Val.avs, h, hK, Keep.put]
        · refine QC.call (int_qc _) ?_
          simp [cell_Two_k5, g3, Val.avs, h, h', hK, Keep.put]
        · refine QC.call (int_qc _) ?_
          simp [cell_Two_k6, g3, Val.avs, h, h', h'', hK, Keep.put]
        · refine QC.call (yes_qc _) ?_
          simp [cell_Two_k7, g3, Val.avs, h, h', h'', hK, Keep.put]
      · simp [cell_Two_j1, g1, g2, g3, hka, hkb, VM.vzero, hK, Keep.put, Val.avs]
    · simp [cell_Two_j1, g1, g2, g3, hka, VM.vzero, hK, Keep.put, Val.avs]
  by_cases hka : ka = 1
  · have hkb : ¬ kb = 1 := fun h => hk ⟨hka, h⟩
    simp [cell_Two_b2, cell_Two_j2, hka, hkb]
    refine JN.same ?_
    simp [cell_Two_b1, hka, hkb]
    exact fin _ (by simp [hka]) (by simp) (by simp) (by simp)
  · simp [cell_Two_b2, cell_Two_j2, hka]
    refine JN.same ?_
    simp [cell_Two_b1, hka]
    exact fin _ (by simp) (by simp) (by simp) (by simp)
end Go.Proofs.YtejohcohkgcmhaaDoor
namespace Go.Proofs.YtejohcohkgcmhaaDoor
open Go Go.RowKit

set_option maxHeartbeats 4000000 in
theorem two1_qc (op : Int) (a b : Val) (N M : Int) (ha : VM.wrong a N = 0) (hb : VM.wrong b M = 0) : QC Tryd.prog 14 [.int .i64 op, .agg a.avs, .agg b.avs] (.tup [.agg (VM.two op a b).1.avs, .int .i64 (VM.two op a b).2]) := by
  have wa := VM.wrong_ok ha
  have wb := VM.wrong_ok hb
  obtain ⟨ka, na, sa⟩ := a
  obtain ⟨kb, nb, sb⟩ := b
  obtain ⟨a1, a2, a3, _, _, a6⟩ := wa
  obtain ⟨b1, b2, b3, _, _, b6⟩ := wb
  simp only at a1 a2 a3 a6 b1 b2 b3 b6
  refine QC.of' fun H nx => zwref1_Two_calls _ _ _ H nx _ ?_
  by_cases h0 : op < 1 ∨ 5 < op
  · have e : VM.two op ⟨ka, na, sa⟩ ⟨kb, nb, sb⟩ = (VM.vzero, 1) := if_pos h0
    rw [e]
    by_cases h1 : op < 1
    · simp [zwref1_Two_vc, Val.avs]
      refine JN.same ?_
      simp [zwref1_Two_b2, h1, zwref1_Two_j2, VM.vzero]
    · have h2 : 5 < op := by omega
      simp [zwref1_Two_vc, Val.avs]
      refine JN.same ?_
      simp [zwref1_Two_b2, h1, h2, zwref1_Two_j2, VM.vzero]
  have h1 : ¬ op < 1 := by omega
  have h2 : ¬ 5 < op := by omega
  simp [zwref1_Two_vc, Val.avs]
  refine JN.same ?_
  simp [zwref1_Two_b2, h1, h2, zwref1_Two_j2, CALL]
  refine ⟨fun h5 => ?_, fun h5 => ?_⟩
  · have e : VM.two op ⟨ka, na, sa⟩ ⟨kb, nb, sb⟩ = (VM.bit (decide (ka = kb ∧ na = nb ∧ sa = sb)), 0) := by
      unfold VM.two; rw [if_neg h0, if_pos h5]; simp
    rw [e]
    refine ⟨fun g1 => ⟨fun g2 => ?_, fun g2 => ?_⟩, fun g1 => ?_⟩
    · refine QC.call (bit_qc _) ?_
      simp [zwref1_Two_k1, Val.avs, g1, g2]
    · refine QC.call (bit_qc _) ?_
      simp [zwref1_Two_k2, Val.avs, g1, g2]
    · refine QC.call (bit_qc _) ?_
      simp [zwref1_Two_k3, Val.avs, g1]
  refine JN.same ?_
  have rest : ¬ (ka = 1 ∧ kb = 1 ∧ (op = 1 ∨ op = 4)) → ∀ H2 : Heap, H2 nx = some (.row 3 [.int .i64 ka, .int .i64 na, .str sa]) → H2 (nx + 1) = some (.row 3 [.int .i64 kb, .int .i64 nb, .str sb]) → H2 (nx + 2) = some (.row 3 [.int .i64 0, .int .i64 0, .str []]) → Keep nx H2 H →
      zwref1_Two_j1 (fun v H' _ => Frz H' nx v (.tup [.agg (VM.two op ⟨ka, na, sa⟩ ⟨kb, nb, sb⟩).1.avs, .int .i64 (VM.two op ⟨ka, na, sa⟩ ⟨kb, nb, sb⟩).2]) ∧ Keep nx H' H)
        [.int .i64 op, .ptr nx 0, .ptr (nx + 1) 0, .ptr (nx + 2) 0, .clo 37 []] H2 (nx + 3) := by
    intro hk H2 g1 g2 g3 hK
    have e1 : VM.two op ⟨ka, na, sa⟩ ⟨kb, nb, sb⟩ = if ka ≠ 0 ∨ kb ≠ 0 then (VM.vzero, 11) else if op = 1 then (VM.cInt (na + nb), 0) else if op = 2 then (VM.cInt (na - nb), 0) else if op = 3 then (VM.cInt (na * nb), 0) else (VM.bit (decide (na < nb)), 0) := by
      unfold VM.two; rw [if_neg h0, if_neg h5, if_neg (fun h => hk ⟨h.1.1, h.1.2, .inl h.2⟩), if_neg (fun h => hk ⟨h.1.1, h.1.2, .inr h.2⟩)]
    rw [e1]
    have w0 : IntKind.i64.wrap (ka + kb) = ka + kb := i64w (by omega)
    by_cases hka : ka = 0
    · by_cases hkb : kb = 0
      · obtain ⟨p1, p2⟩ := a2 hka
        obtain ⟨q1, q2⟩ := b2 hkb
        subst hka hkb
        have hmul : -1152921504606846976 ≤ na * nb ∧ na * nb ≤ 1152921504606846976 := by
          have m1 : na * nb ≤ 1073741824 * 1073741824 := by
            rcases Int.le_total 0 na with h | h <;> rcases Int.le_total 0 nb with h' | h'
            · exact Int.mul_le_mul p2 q2 h' (by omega)
            · have := Int.mul_nonpos_of_nonneg_of_nonpos h h'; omega
            · have := Int.mul_nonpos_of_nonpos_of_nonneg h h'; omega
            · have : (-na) * (-nb) ≤ 1073741824 * 1073741824 := Int.mul_le_mul (by omega) (by omega) (by omega) (by omega)
              rwa [Int.neg_mul_neg] at this
          have m2 : -(na * nb) ≤ 1073741824 * 1073741824 := by
            rcases Int.le_total 0 na with h | h <;> rcases Int.le_total 0 nb with h' | h'
            · have := Int.mul_nonneg h h'; omega
            · have : na * (-nb) ≤ 1073741824 * 1073741824 := Int.mul_le_mul (by omega) (by omega) (by omega) (by omega)
              rwa [Int.mul_neg] at this
            · have : (-na) * nb ≤ 1073741824 * 1073741824 := Int.mul_le_mul (by omega) (by omega) (by omega) (by omega)
              rwa [Int.neg_mul] at this
            · have := Int.mul_nonneg_of_nonpos_of_nonpos h h'; omega
          omega
        have w1 : IntKind.i64.wrap (na + nb) = na + nb := i64w (by omega)
        have w2 : IntKind.i64.wrap (na - nb) = na - nb := i64w (by omega)
        have w3 : IntKind.i64.wrap (na * nb) = na * nb := i64w (by omega)
        have w4 : IntKind.i64.wrap 0 = 0 := i64w (by omega)
        simp [zwref1_Two_j1, g1, g2, w1, w2, w3, w4, CALL]
        refine ⟨fun h => ?_, fun h => ⟨fun h' => ?_, fun h' => ⟨fun h'' => ?_, fun h'' => ?_⟩⟩⟩
        · refine QC.call (int1_qc _ (by simp only [I64]; omega)) ?_
          simp [zwref1_Two_k4, g3, Val.avs, h, hK, Keep.put]
        · refine QC.call (int1_qc _ (by simp only [I64]; omega)) ?_
          simp [zwref1_Two_k5, g3, Val.avs, h', hK, Keep.put]
        · refine QC.call (int1_qc _ (by simp only [I64]; omega)) ?_
          simp [zwref1_Two_k6, g3, Val.avs, h'', hK, Keep.put]
        · refine QC.call (bit_qc _) ?_
          simp [zwref1_Two_k7, g3, Val.avs, h, h', h'', hK, Keep.put]
      · have : ¬ ka + kb = 0 := by omega
        have n0 : ¬ kb = 0 := hkb
        subst hka
        simp only [Int.zero_add] at w0
        simp [zwref1_Two_j1, g1, g2, g3, w0, hkb, VM.vzero, hK, Keep.put, Val.avs]
    · have : ¬ ka + kb = 0 := by omega
      simp [zwref1_Two_j1, g1, g2, g3, w0, this, hka, VM.vzero, hK, Keep.put, Val.avs]
  by_cases hk : ka = 1 ∧ kb = 1
  · obtain ⟨rfl, rfl⟩ := hk
    simp [zwref1_Two_b1, CALL]
    refine ⟨fun h => ?_, fun h => ⟨fun h4 => ?_, fun h4 => ?_⟩⟩
    · subst h
      refine ⟨by omega, ?_⟩
      refine QC.call (text1_qc _ (by simp only [maxLen, List.length_append]; omega)) ?_
      have e : VM.two 1 ⟨1, na, sa⟩ ⟨1, nb, sb⟩ = (VM.cText (sa ++ sb), 0) := rfl
      rw [e]
      simp [zwref1_Two_k8, Val.avs]
    · subst h4
      refine QC.call (bit_qc _) ?_
      have e : VM.two 4 ⟨1, na, sa⟩ ⟨1, nb, sb⟩ = (VM.bit (Op.bytesLess sa sb), 0) := rfl
      rw [e]
      simp [zwref1_Two_k9, Val.avs]
    · exact rest (by rintro ⟨_, _, h' | h'⟩ <;> contradiction) _ (by simp) (by simp) (by simp) (by simp)
  · have rest' := rest (fun h => hk ⟨h.1, h.2.1⟩)
    by_cases hka : ka = 1
    · have hkb : ¬ kb = 1 := fun h => hk ⟨hka, h⟩
      simp [zwref1_Two_b1, hka, hkb]
      rw [hka] at rest'
      exact rest' _ (by simp) (by simp) (by simp) (by simp)
    · simp [zwref1_Two_b1, hka]
      exact rest' _ (by simp) (by simp) (by simp) (by simp)
end Go.Proofs.YtejohcohkgcmhaaDoor
namespace Go.Proofs.YtejohcohkgcmhaaDoor
open Go Go.RowKit

theorem same_step {α : Type} {a b : List α} {i : Nat} (h1 : i < a.length) (h2 : i < b.length) : (a.drop i = b.drop i) ↔ (a[i] = b[i] ∧ a.drop (i + 1) = b.drop (i + 1)) := by
  rw [List.drop_eq_getElem_cons h1, List.drop_eq_getElem_cons h2, List.cons.injEq]
set_option maxHeartbeats 1000000 in
theorem sameV_qc (a b : List Val) (ha : a.length ≤ 4611686018427387904) : QC Tryd.prog 20 [.ro (a.map Val.avs), .ro (b.map Val.avs)] (.bool (decide (a = b))) := by
  refine fun H nx => zwref1_SameValues_calls _ _ H nx _ ?_
  by_cases hl : a.length = b.length
  case neg =>
    have : ¬ ((a.length : Int) = b.length) := by omega
    have hab : ¬ a = b := fun h => hl (by rw [h])
    simp [zwref1_SameValues_vc, this, hab]
  simp [zwref1_SameValues_vc, hl]
  refine LP.mk (fun m xs H' nx' => ∃ i : Nat, i ≤ b.length ∧ m = b.length - i ∧ xs = [.ro (a.map Val.avs), .ro (b.map Val.avs), .int .i64 b.length, .int .i64 i] ∧ H = H' ∧ nx = nx' ∧ (a = b ↔ a.drop i = b.drop i)) b.length ⟨0, by omega, by omega, rfl, rfl, rfl, by simp⟩ ?_
  rintro m xs H' nx' ⟨i, hi, rfl, rfl, rfl, rfl, hd⟩
  by_cases h : i < b.length
  · have h1 : i < a.length := by omega
    have hia : a[i]? = some a[i] := List.getElem?_eq_getElem h1
    have hib : b[i]? = some b[i] := List.getElem?_eq_getElem h
    rw [same_step h1 h] at hd
    generalize a[i] = x at *
    generalize b[i] = y at *
    obtain ⟨_, hia'⟩ := List.getElem?_eq_some_iff.1 hia
    obtain ⟨_, hib'⟩ := List.getElem?_eq_some_iff.1 hib
    clear hia hib
    obtain ⟨kx, nx', sx⟩ := x
    obtain ⟨ky, ny, sy⟩ := y
    simp [zwref1_SameValues_l1, h, h1, hl, hia', hib', Val.avs]
    refine ⟨fun hne => ?_, fun h1 h2 h3 => ?_⟩
    · rw [hd]
      rintro ⟨he, _⟩
      cases he
      simp at hne
    · subst h1 h2 h3
      rw [i64w (by omega)]
      exact ⟨b.length - (i + 1), by omega, i + 1, by omega, rfl, by simp, by rw [hd]; simp⟩
  · simp [zwref1_SameValues_l1, h]
    rw [hd, List.drop_of_length_le (by omega), List.drop_of_length_le (by omega)]
set_option maxHeartbeats 1000000 in
theorem sameC_qc (a b : List Cl) (ha : a.length ≤ 4611686018427387904) : QC Tryd.prog 21 [.ro (a.map Cl.avs), .ro (b.map Cl.avs)] (.bool (decide (a = b))) := by
  refine fun H nx => zwref1_SameCells_calls _ _ H nx _ ?_
  by_cases hl : a.length = b.length
  case neg =>
    have : ¬ ((a.length : Int) = b.length) := by omega
    have hab : ¬ a = b := fun h => hl (by rw [h])
    simp [zwref1_SameCells_vc, this, hab]
  simp [zwref1_SameCells_vc, hl]
  refine LP.mk (fun m xs H' nx' => ∃ i : Nat, i ≤ b.length ∧ m = b.length - i ∧ xs = [.ro (a.map Cl.avs), .ro (b.map Cl.avs), .int .i64 b.length, .int .i64 i] ∧ H = H' ∧ nx = nx' ∧ (a = b ↔ a.drop i = b.drop i)) b.length ⟨0, by omega, by omega, rfl, rfl, rfl, by simp⟩ ?_
  rintro m xs H' nx' ⟨i, hi, rfl, rfl, rfl, rfl, hd⟩
  by_cases h : i < b.length
  · have h1 : i < a.length := by omega
    have hia : a[i]? = some a[i] := List.getElem?_eq_getElem h1
    have hib : b[i]? = some b[i] := List.getElem?_eq_getElem h
    rw [same_step h1 h] at hd
    generalize a[i] = x at *
    generalize b[i] = y at *
    obtain ⟨_, hia'⟩ := List.getElem?_eq_some_iff.1 hia
    obtain ⟨_, hib'⟩ := List.getElem?_eq_some_iff.1 hib
    clear hia hib
    obtain ⟨⟨kx, nx', sx⟩, ⟨kx2, nx2, sx2⟩⟩ := x
    obtain ⟨⟨ky, ny, sy⟩, ⟨ky2, ny2, sy2⟩⟩ := y
    simp [zwref1_SameCells_l1, h, h1, hl, hia', hib', Cl.avs, Val.avs]
    refine ⟨fun hne => ?_, fun h1 h2 h3 h4 h5 h6 => ?_⟩
    · rw [hd]
      rintro ⟨he, _⟩
      cases he
      simp at hne
    · subst h1 h2 h3 h4 h5 h6
      rw [i64w (by omega)]
      exact ⟨b.length - (i + 1), by omega, i + 1, by omega, rfl, by simp, by rw [hd]; simp⟩
  · simp [zwref1_SameCells_l1, h]
    rw [hd, List.drop_of_length_le (by omega), List.drop_of_length_le (by omega)]

theorem all_step {α : Type} {p : α → Bool} {a : List α} {i : Nat} (h1 : i < a.length) : (a.drop i).all p = (p a[i] && (a.drop (i + 1)).all p) := by
  rw [List.drop_eq_getElem_cons h1, List.all_cons]
set_option maxHeartbeats 1000000 in
theorem right_qc (h : List Cl) (l : List Val) (hh : h.length ≤ 4611686018427387904) (hl : l.length ≤ 4611686018427387904) : QC Tryd.prog 15 [.ro (h.map Cl.avs), .ro (l.map Val.avs)] (.bool (VM.right h l)) := by
  refine QC.of' fun H nx => zwref1_Right_calls _ _ H nx _ ?_
  simp [zwref1_Right_vc]
  refine LP.mk (fun m xs H' nx' => ∃ i : Nat, i ≤ l.length ∧ m = l.length - i ∧ xs = [.ro (h.map Cl.avs), .ro (l.map Val.avs), .int .i64 l.length, .int .i64 i] ∧ Keep nx H' H ∧ nx ≤ nx' ∧ VM.right h l = VM.right h (l.drop i)) l.length ⟨0, by omega, by omega, rfl, by simp, by omega, by simp⟩ ?_
  rintro m xs H1 n1 ⟨i, hi, rfl, rfl, hK, hn, hd⟩
  by_cases hi2 : i < l.length
  · have hia : l[i]? = some l[i] := List.getElem?_eq_getElem hi2
    have hd' : VM.right h l = (decide (VM.wrong l[i] h.length = 0) && VM.right h (l.drop (i + 1))) := by
      rw [hd]; unfold VM.right; rw [all_step hi2, Bool.and_assoc]
    generalize l[i] = x at *
    obtain ⟨_, hia'⟩ := List.getElem?_eq_some_iff.1 hia
    clear hia
    obtain ⟨kx, mx, sx⟩ := x
    simp [zwref1_Right_l2, hi2, hia', Val.avs]
    refine QC.call (wrong1_qc ⟨kx, mx, sx⟩ h.length) ?_
    have hK2 : Keep nx (H1.put n1 (some (.row 3 [.int .i64 kx, .int .i64 mx, .str sx]))) H := by rw [Keep.put hn]; exact hK
    simp [zwref1_Right_k1]
    refine ⟨fun hw => ?_, fun hw => ?_⟩
    · exact ⟨by rw [hd']; simp [hw], hK2⟩
    · rw [i64w (by omega)]
      exact ⟨l.length - (i + 1), by omega, i + 1, by omega, rfl, by simp, hK2, by omega, by rw [hd']; simp [hw]⟩
  obtain rfl : i = l.length := by omega
  have hd2 : VM.right h l = h.all (fun c => decide (VM.wrong c.left h.length = 0) && decide (VM.wrong c.right h.length = 0)) := by
    rw [hd]; unfold VM.right; simp
  simp [zwref1_Right_l2]
  refine LP.mk (fun m xs H' nx' => ∃ i : Nat, i ≤ h.length ∧ m = h.length - i ∧ xs = [.ro (h.map Cl.avs), .ro (h.map Cl.avs), .int .i64 h.length, .int .i64 i] ∧ Keep nx H' H ∧ nx ≤ nx' ∧ VM.right h l = (h.drop i).all (fun c => decide (VM.wrong c.left h.length = 0) && decide (VM.wrong c.right h.length = 0))) h.length ⟨0, by omega, by omega, rfl, hK, by omega, by simpa using hd2⟩ ?_
  rintro m xs H2 n2 ⟨j, hj, rfl, rfl, hK, hn, hd⟩
  by_cases hj2 : j < h.length
  · have hia : h[j]? = some h[j] := List.getElem?_eq_getElem hj2
    rw [all_step hj2] at hd
    generalize h[j] = x at *
    obtain ⟨_, hia'⟩ := List.getElem?_eq_some_iff.1 hia
    clear hia
    obtain ⟨⟨kx, mx, sx⟩, ⟨ky, my, sy⟩⟩ := x
    simp [zwref1_Right_l1, hj2, hia', Cl.avs, Val.avs]
    refine QC.call (wrong1_qc ⟨kx, mx, sx⟩ h.length) ?_
    have hK2 : Keep nx (H2.put n2 (some (.row 6 [.int .i64 kx, .int .i64 mx, .str sx, .int .i64 ky, .int .i64 my, .str sy]))) H := by rw [Keep.put hn]; exact hK
    simp [zwref1_Right_k3]
    refine ⟨fun hw => ?_, fun hw => ?_⟩
    · exact ⟨by rw [hd]; simp [hw], hK2⟩
    refine QC.call (wrong1_qc ⟨ky, my, sy⟩ h.length) ?_
    simp [zwref1_Right_k2]
    refine ⟨fun hw2 => ?_, fun hw2 => ?_⟩
    · exact ⟨by rw [hd]; simp [hw2], hK2⟩
    · rw [i64w (by omega)]
      exact ⟨h.length - (j + 1), by omega, j + 1, by omega, rfl, by simp, hK2, by omega, by rw [hd]; simp [hw, hw2]⟩
  · obtain rfl : j = h.length := by omega
    simp [zwref1_Right_l1, hK]
    rw [hd]; simp
end Go.Proofs.YtejohcohkgcmhaaDoor
namespace Go.Proofs.YtejohcohkgcmhaaDoor
open Go Go.RowKit

theorem canon_qc (h : List Cl) (l : List Val) (hr : VM.right h l = true) (hs : h.length * 64 ≤ 140737488355328) (hl : l.length * 32 ≤ 140737488355328) : QC Tryd.prog 16 [.ro (h.map Cl.avs), .ro (l.map Val.avs)] (.tup [.ro ((VM.canonV h l).map Val.avs), .ro ((VM.canonC h l).map Cl.avs)]) :=
  QC.of' fun H nx => canon_ac h l hr hs hl .ro .ro
def aliveH : List Cl := [⟨VM.cInt 9, VM.vzero⟩, ⟨VM.cText [97], ⟨2, 1, []⟩⟩]
def aliveL : List Val := [⟨2, 1, []⟩]
set_option maxHeartbeats 2000000 in
set_option maxRecDepth 20000 in
theorem alive_qc : QC Tryd.prog 22 [] (.bool true) := by
  refine QC.of' fun H nx => zwlaw1_alive_calls H nx _ ?_
  refine QC.call (int_qc 2) ?_
  refine QC.call (int_qc 3) ?_
  refine QC.call (two_qc 1 (VM.cInt 2) (VM.cInt 3) 0 0 (by decide) (by decide)) ?_
  have e : VM.two 1 (VM.cInt 2) (VM.cInt 3) = (⟨0, 5, []⟩, 0) := by decide
  rw [e]
  simp [zwlaw1_alive_k7, Val.avs]
  refine QC.call (int_qc 9) ?_
  refine QC.call (text_qc [97] (by simp [maxLen])) ?_
  have e1 : VM.cInt 9 = ⟨0, 9, []⟩ := by decide
  have e2 : VM.cText [97] = ⟨1, 0, [97]⟩ := by decide
  simp [zwlaw1_alive_k5, Val.avs, e1, e2]
  have f1 : nx ≠ nx + 1 + 1 := by omega
  have f2 : nx ≠ nx + 1 := by omega
  have f3 : nx + 1 ≠ nx + 1 + 1 := by omega
  have rH : ∀ n, nx + 1 < n → ∀ H', H' (nx + 1) = some (AObj.row 6 (rowC aliveH)) → RowArg H' n 6 (aliveH.map Cl.avs) (.slc (nx + 1) 0 2) := fun n hn H' h => .slc (nx + 1) hn h
  have rL : ∀ n, nx + 1 + 1 < n → ∀ H', H' (nx + 1 + 1) = some (AObj.row 3 (rowV aliveL)) → RowArg H' n 3 (aliveL.map Val.avs) (.slc (nx + 1 + 1) 0 1) := fun n hn H' h => .slc (nx + 1 + 1) hn h
  have cH : rowC aliveH = [AV.int IntKind.i64 0, AV.int IntKind.i64 9, AV.str [], AV.int IntKind.i64 0, AV.int IntKind.i64 0, AV.str [], AV.int IntKind.i64 1, AV.int IntKind.i64 0, AV.str [97], AV.int IntKind.i64 2, AV.int IntKind.i64 1, AV.str []] := by
    simp [rowC, aliveH, e1, e2, Cl.avs, Val.avs, VM.vzero]
  have cL : rowV aliveL = [AV.int IntKind.i64 2, AV.int IntKind.i64 1, AV.str []] := by simp [rowV, aliveL, Val.avs]
  refine ACalls.pure_call (canon_ac aliveH aliveL (by decide) (by simp [aliveH]) (by simp [aliveL]) (rH _ (by omega) _ (by simp [f3, cH])) (rL _ (by omega) _ (by simp [cL]))) ?_
  have e3 : VM.canonV aliveH aliveL = [⟨2, 0, []⟩] := by decide
  have e4 : VM.canonC aliveH aliveL = [⟨⟨1, 0, [97]⟩, ⟨2, 0, []⟩⟩] := by decide
  rw [e3, e4]
  simp [zwlaw1_alive_k4, Val.avs, Cl.avs, f1, f2]
  have e5 : VM.cInt 5 = ⟨0, 5, []⟩ := by decide
  refine CALLD.of_qc (int_qc 5) (.agg _ fun j x hx => scal_bel (scal_val _ x (List.mem_of_getElem? hx))) ?_
  simp [zwlaw1_alive_k3, Val.avs, e5, f1, f2]
  have okA : OkCells aliveH := VM.right_okC (l := []) (by decide)
  refine CALLD.of_qcr [nx + 1] (by simp [f3]) (fun H' n' ha => QC.reads (show_qc okA 2 ⟨2, 1, []⟩ 2 (VM.wrong_ok (by decide)) rfl (by omega) (by omega)) (by simp) (.cons (RowArg.frzC (nx := n') (l := aliveH) (rH _ (ha _ (by simp)).2 _ ?_)) (.cons (.same _ ?_) (.cons (.same _ ?_) .nil)))) (.str _) ?_
  · rw [(ha _ (by simp)).1]; simp [f3, cH]
  · exact .agg _ fun j x hx => scal_bel (scal_val ⟨2, 1, []⟩ x (List.mem_of_getElem? hx))
  · exact .int _ _
  have e6 : VM.vshow aliveH 2 ⟨2, 1, []⟩ = [40, 97, 32, 40, 97, 32, 46, 46, 41, 41] := by decide
  simp [zwlaw1_alive_k2, e6]
  refine CALLD.of_qc (wrong_qc ⟨2, 2, []⟩ 2) (.int _ _) ?_
  have e7 : VM.wrong ⟨2, 2, []⟩ 2 = 6 := by decide
  rw [e7]
  simp [zwlaw1_alive_k1]
  intro g hg
  rw [Heap.put_ne _ _ (by omega), Heap.put_ne _ _ (by omega), Heap.put_ne _ _ (by omega)]
end Go.Proofs.YtejohcohkgcmhaaDoor
namespace Go.Proofs.YtejohcohkgcmhaaDoor
open Go Go.RowKit

theorem scal_belV (v : Val) {A : Nat → Prop} : Bel A (.agg v.avs) := .agg _ fun j x hx => scal_bel (scal_val _ x (List.mem_of_getElem? hx))
set_option maxHeartbeats 2000000 in
set_option maxRecDepth 20000 in
theorem cellCanon_qc (h : List Cl) (l : List Val) (deep : Int) (hs : h.length * 64 ≤ 140737488355328) (hl : l.length * 32 ≤ 140737488355328) (hd : I64 deep) : QC Tryd.prog 4 [.ro (h.map Cl.avs), .ro (l.map Val.avs), .int .i64 deep] (.bool true) := by
  refine QC.of' fun H nx => zwlaw1_CellCanon_calls _ _ _ H nx _ ?_
  refine QC.call alive_qc ?_
  simp [zwlaw1_CellCanon_k9]
  refine QC.call (right_qc h l (by omega) (by omega)) ?_
  cases hr : VM.right h l with
  | false => simp [zwlaw1_CellCanon_k8]
  | true =>
    by_cases h5 : 5 < deep
    · simp [zwlaw1_CellCanon_k8, h5]
    obtain ⟨p1, p2, p3, p4, p5, p6⟩ := VM.canon_law hr
    simp [zwlaw1_CellCanon_k8, h5]
    refine QC.call (canon_qc h l hr hs hl) ?_
    have hnl : ¬ h.length < (VM.canonC h l).length := by omega
    simp [zwlaw1_CellCanon_k7, p1, hnl]
    refine QC.call (right_qc (VM.canonC h l) (VM.canonV h l) (by omega) (by omega)) ?_
    simp [zwlaw1_CellCanon_k6, p3]
    have okh : OkCells h := VM.right_okC hr
    have okk : OkCells (VM.canonC h l) := VM.right_okC p3
    have okl := VM.right_okV hr
    have okx := VM.right_okV p3
    refine LP.mk (fun m xs H' n' => ∃ i : Nat, m = l.length - i ∧ i ≤ l.length ∧ H' = H ∧ n' = nx ∧ xs = [.ro (h.map Cl.avs), .ro (l.map Val.avs), .int .i64 deep, .ro ((VM.canonV h l).map Val.avs), .ro ((VM.canonC h l).map Cl.avs), .int .i64 l.length, .int .i64 i]) l.length ⟨0, by omega, by omega, rfl, rfl, rfl⟩ ?_
    rintro m xs H' n' ⟨i, rfl, hi, rfl, rfl, rfl⟩
    by_cases hil : i < l.length
    case neg =>
      obtain rfl : i = l.length := by omega
      simp [zwlaw1_CellCanon_l1]
      refine QC.call (canon_qc _ _ p3 (by omega) (by omega)) ?_
      rw [p5, p6]
      simp [zwlaw1_CellCanon_k5]
      refine QC.call (sameV_qc _ _ (by omega)) ?_
      simp [zwlaw1_CellCanon_k4]
      refine QC.call (sameC_qc _ _ (by omega)) ?_
      simp [zwlaw1_CellCanon_k3]
    have hv : l[i]? = some l[i] := List.getElem?_eq_getElem hil
    obtain ⟨u, hu, hshow⟩ := p4 deep.toNat i _ hv
    have w1 := okl _ (List.mem_of_getElem? hv)
    have w2 := okx _ (List.mem_of_getElem? hu)
    obtain ⟨hu1, hu2⟩ := List.getElem?_eq_some_iff.1 hu
    simp [zwlaw1_CellCanon_l1, hil]
    have t1 : l[i].avs.take 3 = l[i].avs := rfl
    have t2 : u.avs.take 3 = u.avs := rfl
    rw [t1]
    refine CALLD.of_qc (show1_qc okh deep.toNat l[i] deep w1 rfl (by omega) (by unfold I64 at hd; omega)) (.str _) ?_
    simp [zwlaw1_CellCanon_k2, hu]
    refine ⟨by omega, ?_⟩
    rw [t2]
    refine CALLD.of_qc (show1_qc okk deep.toNat u deep w2 rfl (by omega) (by unfold I64 at hd; omega)) (.str _) ?_
    rw [hshow]
    simp [zwlaw1_CellCanon_k1]
    rw [i64w (by omega)]
    exact ⟨_, by omega, i + 1, rfl, by omega, by simp⟩
end Go.Proofs.YtejohcohkgcmhaaDoor
namespace Go.Proofs.YtejohcohkgcmhaaDoor
open Go Go.RowKit

theorem LRel.one {K : KHeap} {ρ : Nat → Loc} {A : Nat → Prop} {v : AV} {c : Value} (h : VRel K ρ A v c) : LRel K ρ A [v] [c] := LRel.cons h LRel.nil

theorem kcell_of {w : World} {b o : Nat} {s} {v : Value} (h : w.cell? ⟨b, o, s⟩ = some v) : kcell (fun b => w.heap[b]?) b o = some v ∧ s = none := by
  unfold World.cell? at h
  unfold kcell
  simp only at h ⊢
  split at h
  · rename_i c _ _ he
    rw [he]
    split at h
    · cases h
    · rename_i hs; exact ⟨h, by simpa using hs⟩
  · cases h

/-- An argument of such a type is such a datum. -/
structure OpA (P : Program) (t : TypeId) {α : Type} (av : α → List AV) (ok : α → Prop) : Prop where
  len : ∀ x, ok x → (av x).length = P.cellsOf t
  get : ∀ {H : Type} (enc : TypeId × Value → H) (w : World) (base : Nat) (sp : Nat → Bool) (held : Bool) (fuel : Nat) (cs : List Value) (x : DataW H × List MemPlace),
    DataW.trod enc P w base sp held fuel t cs = some x → (∀ n ∈ x.1.weights P t, n ≤ reachBytes) → ∃ y, ok y ∧ ∀ ρ A, LRel (fun b => w.heap[b]?) ρ A (av y) cs

theorem opa_int {P : Program} {t : TypeId} (ht : P.underlying t = some (.int .i64)) (hc : P.cellsOf t = 1) : OpA P t (fun n : Int => [.int .i64 n]) (fun n => -9223372036854775808 ≤ n ∧ n ≤ 9223372036854775807) :=
  ⟨fun _ _ => hc.symm, fun enc w base sp held fuel cs x h _ => by
    obtain ⟨n, rfl, _, hw⟩ := DataW.trod_int ht h
    exact ⟨n, by simpa [Lit.wf, IntKind.min, IntKind.max, IntKind.signed, IntKind.bits] using hw, fun ρ A => LRel.one (.int _ _)⟩⟩
theorem opa_bool {P : Program} {t : TypeId} (ht : P.underlying t = some .bool) (hc : P.cellsOf t = 1) : OpA P t (fun n : Bool => [.bool n]) (fun _ => True) :=
  ⟨fun _ _ => hc.symm, fun enc w base sp held fuel cs x h _ => by
    obtain ⟨n, rfl, _⟩ := DataW.trod_bool ht h
    exact ⟨n, trivial, fun ρ A => LRel.one (.bool _)⟩⟩
theorem opa_str {P : Program} {t : TypeId} (ht : P.underlying t = some .string) (hc : P.cellsOf t = 1) : OpA P t (fun s : List UInt8 => [.str s]) (fun s => s.length ≤ reachBytes) :=
  ⟨fun _ _ => hc.symm, fun enc w base sp held fuel cs x h hw => by
    obtain ⟨s, rfl, rfl, _⟩ := DataW.trod_string ht h
    exact ⟨s.data.toList, hw _ (by simp [DataW.weights]), fun ρ A => LRel.one (.str _)⟩⟩
theorem opa_byte {P : Program} {t : TypeId} (ht : P.underlying t = some (.int .u8)) (hc : P.cellsOf t = 1) : OpA P t (fun b : UInt8 => [.int .u8 (b.toNat : Int)]) (fun _ => True) :=
  ⟨fun _ _ => hc.symm, fun enc w base sp held fuel cs x h _ => by
    obtain ⟨n, rfl, _, hw⟩ := DataW.trod_int ht h
    have hb : 0 ≤ n ∧ n ≤ 255 := by simpa [Lit.wf, IntKind.min, IntKind.max, IntKind.signed, IntKind.bits] using hw
    have e : ((UInt8.ofNat n.toNat).toNat : Int) = n := by simp [UInt8.toNat_ofNat']; omega
    exact ⟨UInt8.ofNat n.toNat, trivial, fun ρ A => LRel.one (by simp only [e]; exact .int _ _)⟩⟩

theorem weightsAll_mem' {H : Type} {P : Program} {e : TypeId} : ∀ {l : List (DataW H)} {d : DataW H}, d ∈ l → ∀ n ∈ d.weights P e, n ∈ DataW.weightsAll P e l
  | d' :: r, d, hd, n, hn => by
    simp only [DataW.weightsAll, List.mem_append]
    rcases List.mem_cons.1 hd with rfl | h
    · exact Or.inl hn
    · exact Or.inr (weightsAll_mem' h n hn)
theorem weightsEach_mem {H : Type} {P : Program} : ∀ {ts : List TypeId} {l : List (DataW H)} {i : Nat} {t : TypeId} {d : DataW H}, ts[i]? = some t → l[i]? = some d → ∀ n ∈ d.weights P t, n ∈ DataW.weightsEach P ts l
  | t' :: ts, d' :: r, 0, t, d, ht, hd, n, hn => by
    simp only [List.getElem?_cons_zero, Option.some.injEq] at ht hd
    subst ht; subst hd
    simp only [DataW.weightsEach, List.mem_append]
    exact Or.inl hn
  | t' :: ts, d' :: r, i + 1, t, d, ht, hd, n, hn => by
    simp only [DataW.weightsEach, List.mem_append]
    exact Or.inr (weightsEach_mem (by simpa using ht) (by simpa using hd) n hn)
  | [], _, i, t, d, ht, hd, n, hn => by simp at ht
  | t' :: ts, [], i, t, d, ht, hd, n, hn => by simp at hd

theorem opa_slice {P : Program} {α : Type} {av : α → List AV} {ok : α → Prop} {t e : TypeId} (ht : P.underlying t = some (.slice e)) (hc : P.cellsOf t = 1) (hE : OpA P e av ok) (hpos : 0 < P.cellsOf e) :
    OpA P t (fun l : List α => [.ro (l.map av)]) (fun l => (∀ x ∈ l, ok x) ∧ l.length * P.bytesOf e ≤ reachBytes) :=
  ⟨fun _ _ => hc.symm, fun enc w base sp held fuel cs x h hw => by
    rcases Go.Deep.open_slice ht h with ⟨rfl, _⟩ | ⟨a, len, cap, m, n, D, Pl, rfl, hb, hl, hm, hmm, hx, hel⟩
    · refine ⟨[], ⟨fun x hx => by simp at hx, by simp⟩, fun ρ A => LRel.one ?_⟩
      exact .ro [] none 0 0 0 0 0 (fun _ _ => undef) rfl (Nat.le_refl _) (fun h => absurd rfl h) (fun x hx => by cases hx) (fun i x j v hx => by simp at hx) (fun i x j v hx => by simp at hx)
    · have hlm : len ≤ m := by rw [hmm]; split <;> omega
      have hwl : len * P.bytesOf e ≤ reachBytes := by
        have := hw ((len + (m - len)) * P.bytesOf e) (by rw [hx]; simp [DataW.weights, ht])
        have h2 : len * P.bytesOf e ≤ (len + (m - len)) * P.bytesOf e := Nat.mul_le_mul_right _ (by omega)
        omega
      have hel' : ∀ i, i < len → ∃ y : α, ok y ∧ ∃ ec, w.cells? base (a.add (i * P.cellsOf e)) (P.cellsOf e) = some ec ∧ ∀ ρ A, LRel (fun b => w.heap[b]?) ρ A (av y) ec := by
        intro i hi
        obtain ⟨cs', h1, h2⟩ := hel i (by omega)
        obtain ⟨y, hy, hr⟩ := hE.get enc w base sp held n cs' _ h2 (fun k hk => hw k (by
          rw [hx]
          simp only [DataW.weights, ht, List.mem_cons, List.mem_append]
          exact .inr (.inl (weightsAll_mem' (List.mem_map.2 ⟨i, List.mem_range.2 hi, rfl⟩) k hk))))
        exact ⟨y, hy, cs', h1, hr⟩
      by_cases h0 : len = 0
      · subst h0
        refine ⟨[], ⟨fun x hx => by simp at hx, by simp⟩, fun ρ A => LRel.one ?_⟩
        exact .ro [] (some a) 0 cap 0 0 0 (fun _ _ => undef) rfl (Nat.zero_le _) (fun h => absurd rfl h) (fun x hx => by cases hx) (fun i x j v hx => by simp at hx) (fun i x j v hx => by simp at hx)
      · obtain ⟨y0, hy0, ec0, hc0, hR0⟩ := hel' 0 (by omega)
        haveI : Inhabited α := ⟨y0⟩
        obtain ⟨f, hf⟩ : ∃ f : Nat → α, ∀ i, i < len → ok (f i) ∧ ∃ ec, w.cells? base (a.add (i * P.cellsOf e)) (P.cellsOf e) = some ec ∧ ∀ ρ A, LRel (fun b => w.heap[b]?) ρ A (av (f i)) ec := Go.Deep.choose_lt hel'
        obtain ⟨F, hF⟩ : ∃ F : Nat → List Value, ∀ i, i < len → w.cells? base (a.add (i * P.cellsOf e)) (P.cellsOf e) = some (F i) ∧ ∀ ρ A, LRel (fun b => w.heap[b]?) ρ A (av (f i)) (F i) := Go.Deep.choose_lt fun i hi => (hf i hi).2
        have cellAt : ∀ (i : Nat), i < len → ∀ (j : Nat) v, (F i)[j]? = some v → w.cell? ((a.add (i * P.cellsOf e)).add j) = some v := by
          intro i hi j v hv
          have := (hF i hi).1
          unfold World.cells? at this
          split at this
          · have hl := mapM_some_length this
            have hj : j < P.cellsOf e := by
              have := (List.getElem?_eq_some_iff.1 hv).1
              simp at hl; omega
            rw [mapM_some_get this j j (by simp [hj]), hv]
          · cases this
        have hlen : ∀ i, i < len → (av (f i)).length = P.cellsOf e := fun i hi => hE.len _ (hf i hi).1
        have hlen2 : ∀ i, i < len → (F i).length = P.cellsOf e := fun i hi => by
          have h1 := ((hF i hi).2 (fun _ => default) (fun _ => False)).1
          rw [h1, hlen i hi]
        have hsp : a.spot = none := by
          have h1 : 0 < (F 0).length := by rw [hlen2 0 (by omega)]; exact hpos
          have h2 := cellAt 0 (by omega) 0 _ (List.getElem?_eq_getElem h1)
          obtain ⟨b, o, s⟩ := a
          simp [Addr.add] at h2
          exact (kcell_of h2).2
        obtain ⟨b, off, sp⟩ := a
        simp only at hsp
        subst hsp
        have hcellk : ∀ (i : Nat), i < len → ∀ (j : Nat) v, (F i)[j]? = some v → kcell (fun b => w.heap[b]?) b (off + i * P.cellsOf e + j) = some v := by
          intro i hi j v hv
          have := cellAt i hi j v hv
          rw [Go.Deep.add_add] at this
          unfold Addr.add at this
          split at this
          · rename_i h00
            have e1 : i * P.cellsOf e = 0 := by omega
            have e2 : j = 0 := by omega
            rw [e1, e2]; exact (kcell_of this).1
          · rw [Nat.add_assoc]; exact (kcell_of this).1
        refine ⟨(List.range len).map f, ⟨fun x hx => ?_, by simpa using hwl⟩, fun ρ A => LRel.one ?_⟩
        · obtain ⟨i, hi, rfl⟩ := List.mem_map.1 hx
          exact (hf i (List.mem_range.1 hi)).1
        · refine .ro _ (some ⟨b, off, none⟩) len cap (P.cellsOf e) b off (fun i j => ((F i)[j]?).getD undef) (by simp) hl (fun _ => rfl) (fun x hx => ?_) (fun i x j v hx hv => ?_) (fun i x j v hx hv => ?_)
          · obtain ⟨y, hy, rfl⟩ := List.mem_map.1 hx
            obtain ⟨i, hi, rfl⟩ := List.mem_map.1 hy
            exact hlen i (List.mem_range.1 hi)
          · have hi : i < len := by have := (List.getElem?_eq_some_iff.1 hx).1; simpa using this
            have hxi : x = av (f i) := by simpa [hi] using hx.symm
            subst hxi
            have hj : j < (F i).length := by
              have := (List.getElem?_eq_some_iff.1 hv).1
              rw [hlen2 i hi, ← hlen i hi]; exact this
            have := hcellk i hi j _ (List.getElem?_eq_getElem hj)
            rw [this, List.getElem?_eq_getElem hj]; rfl
          · have hi : i < len := by have := (List.getElem?_eq_some_iff.1 hx).1; simpa using this
            have hxi : x = av (f i) := by simpa [hi] using hx.symm
            subst hxi
            have hj : j < (F i).length := by
              have := (List.getElem?_eq_some_iff.1 hv).1
              rw [hlen2 i hi, ← hlen i hi]; exact this
            rw [List.getElem?_eq_getElem hj]
            exact ((hF i hi).2 ρ A).2 j v _ hv (List.getElem?_eq_getElem hj)⟩

/-- A structure's fields. -/
theorem struct_field {H : Type} {P : Program} {enc : TypeId × Value → H} {w : World} {base fuel : Nat} {sp : Nat → Bool} {held : Bool} {t : TypeId} {fs : Array Field} {cs : List Value} {x : DataW H × List MemPlace} (ht : P.underlying t = some (.struct fs))
    (h : DataW.trod enc P w base sp held fuel t cs = some x) (hw : ∀ n ∈ x.1.weights P t, n ≤ reachBytes) : cs.length = P.cellsOf t ∧
    ∀ (i t' off n' : Nat), (fs[i]?).map (fun f => (f.type, f.offset)) = some (t', off) → P.cellsOf t' = n' → ∀ {α : Type} {av : α → List AV} {ok : α → Prop}, OpA P t' av ok → ∃ y, ok y ∧ ∀ ρ A, LRel (fun b => w.heap[b]?) ρ A (av y) ((cs.drop off).take n') := by
  obtain ⟨xs, n, _, rfl, hl, hlen, hf⟩ := DataW.trod_struct ht h
  refine ⟨hl, fun i t' off n' hm hn' α av ok hO => ?_⟩
  obtain ⟨f, hfi, he⟩ := Option.map_eq_some_iff.1 hm
  obtain ⟨rfl, rfl⟩ := Prod.mk.inj he
  subst hn'
  have hi : i < xs.length := by rw [hlen]; exact (Array.getElem?_eq_some_iff.1 hfi).1
  have h1 := hf i f hfi
  rw [List.getElem?_eq_getElem hi] at h1
  refine hO.get enc w base sp held n _ _ h1 fun k hk => hw k ?_
  simp only [DataW.weights, ht]
  exact weightsEach_mem (i := i) (t := f.type) (d := (xs[i]).1) (by simp [hfi]) (by simp [hi]) k hk

/-- A law's call. -/
theorem ACalls.law {P : Program} {f : FuncId} {args : List AV} {r : AV} {cargs : Array Value} {w : World} {fn : Func} {c : Code} (hf : P.funcs[f]? = some fn) (hb : fn.body = some c) (hname : (fn.name == "runtime.NumGoroutine") = false)
    (hlay : LayK (fun b => w.heap[b]?)) (h : ∀ H nx, ACalls P f args H nx fun v _ _ => v = r) (ha : ∀ ρ A, LRel (fun b => w.heap[b]?) ρ A args cargs.toList) :
    Calls P f cargs w fun e w' => ∃ v, e = .returned v ∧ (∃ K ρ A, VRel K ρ A r v) ∧ Below w.heap.size w w' := by
  have hk : Kof (fun _ => default) (fun _ => none) w = fun b => w.heap[b]? := by
    funext b
    unfold Kof
    rw [if_neg (by rintro ⟨g, hg, _⟩; simp at hg)]
  have s : Sim (fun x => x < 0) (fun _ => default) (fun _ => none) w := ⟨fun g o h => (by cases h), fun g o h => (by cases h), fun g g' h _ _ => (by cases h), by rw [hk]; exact hlay⟩
  have := h (fun _ => none) 0 (fun _ => default) w cargs s (by rw [hk]; exact ha _ _)
  have hcall : (callFunc f cargs).run P w = .ok (.enter f cargs) w := by
    have hname' : ¬ fn.name = "runtime.NumGoroutine" := by simpa using hname
    simp [callFunc, program, Sem.run_bind, Sem.run, hf, hname', hb, pure]
  rw [hcall] at this
  simp only [flowUpon] at this
  refine this.mono fun e w' ⟨v, he, r', H', nx', ρ', q0, q1, q2, q3⟩ => ?_
  subst q0
  refine ⟨v, he, ⟨_, _, _, q2⟩, ⟨q3.os, q3.tape, q3.output, q3.size, fun k hk' => ?_⟩⟩
  have := q3.k k (w.heap[k]) (by rw [hk]; exact Array.getElem?_eq_getElem hk')
  rw [(Kof_some.1 this).2, Array.getElem?_eq_getElem hk']
end Go.Proofs.YtejohcohkgcmhaaDoor
namespace Go.Proofs.YtejohcohkgcmhaaDoor
open Go Go.RowKit
theorem cInt : Tryd.prog.cellsOf 3 = 1 := by kernel_rfl
theorem cStr : Tryd.prog.cellsOf 9 = 1 := by kernel_rfl
theorem cVal : Tryd.prog.cellsOf 25 = 3 := by kernel_rfl
theorem cCl : Tryd.prog.cellsOf 43 = 6 := by kernel_rfl
theorem cVals : Tryd.prog.cellsOf 23 = 1 := by kernel_rfl
theorem cCls : Tryd.prog.cellsOf 22 = 1 := by kernel_rfl

def I64ok (n : Int) : Prop := -9223372036854775808 ≤ n ∧ n ≤ 9223372036854775807
theorem oInt : OpA Tryd.prog 3 (fun n : Int => [.int .i64 n]) I64ok := opa_int Tryd.underlying3 cInt
theorem oStr : OpA Tryd.prog 9 (fun s : List UInt8 => [.str s]) (fun s => s.length ≤ reachBytes) := opa_str Tryd.underlying9 cStr

def Val.rd (v : Val) : Prop := I64ok v.kind ∧ I64ok v.n ∧ v.text.length ≤ reachBytes
theorem oVal : OpA Tryd.prog 25 Val.avs Val.rd :=
  ⟨fun _ _ => cVal.symm, fun enc w base sp held fuel cs x h hw => by
    obtain ⟨hl, hf⟩ := struct_field Tryd.underlying25 h hw
    rw [cVal] at hl
    obtain ⟨k, hk, rk⟩ := hf 0 3 0 1 (by kernel_rfl) cInt oInt
    obtain ⟨n, hn, rn⟩ := hf 1 3 1 1 (by kernel_rfl) cInt oInt
    obtain ⟨s, hs, rs⟩ := hf 2 9 2 1 (by kernel_rfl) cStr oStr
    match cs, hl with
    | [c0, c1, c2], _ => exact ⟨⟨k, n, s⟩, ⟨hk, hn, hs⟩, fun ρ A => (rk ρ A).append ((rn ρ A).append (rs ρ A))⟩⟩
def rdL {α : Type} (ok : α → Prop) (n : Nat) (l : List α) : Prop := (∀ x ∈ l, ok x) ∧ l.length * n ≤ reachBytes
theorem oVals : OpA Tryd.prog 23 (fun l : List Val => [.ro (l.map Val.avs)]) (rdL Val.rd (Tryd.prog.bytesOf 25)) := opa_slice Tryd.underlying23 cVals oVal (by rw [cVal]; decide)
def Cl.rd (c : Cl) : Prop := c.left.rd ∧ c.right.rd
theorem oCl : OpA Tryd.prog 43 Cl.avs Cl.rd :=
  ⟨fun _ _ => cCl.symm, fun enc w base sp held fuel cs x h hw => by
    obtain ⟨hl, hf⟩ := struct_field Tryd.underlying43 h hw
    rw [cCl] at hl
    obtain ⟨k, hk, rk⟩ := hf 0 25 0 3 (by kernel_rfl) cVal oVal
    obtain ⟨n, hn, rn⟩ := hf 1 25 3 3 (by kernel_rfl) cVal oVal
    match cs, hl with
    | [c0, c1, c2, c3, c4, c5], _ => exact ⟨⟨k, n⟩, ⟨hk, hn⟩, fun ρ A => (rk ρ A).append (rn ρ A)⟩⟩
theorem oCls : OpA Tryd.prog 22 (fun l : List Cl => [.ro (l.map Cl.avs)]) (rdL Cl.rd (Tryd.prog.bytesOf 43)) := opa_slice Tryd.underlying22 cCls oCl (by rw [cCl]; decide)
end Go.Proofs.YtejohcohkgcmhaaDoor
