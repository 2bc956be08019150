/- DERIVED: THE SHELF's CONTRACTS AT THIS DUMP, IN PLAIN WORDS (tools/lay-plain.mjs out of 'YtejohcohkgcmhaaDoorShelf0.lean', which tools/lay-shelf.mjs wrote): THE SAME DECLARATIONS UNDER THE SAME NAMES: 'import', 'namespace', 'open', 'def', 'theorem' AND NOTHING ELSE: no command of the shelf's: FOR A HAND-IN. Each laying: the table of numbers ('.._ren') and one theorem, a field a fact of the dump's own or the kernel's comparison; each contract: ONE APPLICATION. strconv.Itoa: a number's digits. A value as a text: the program's function, and the document's. Cells numbered as they are come to: the document's closures. Cells numbered as they are come to: the document's function, its first part. Cells numbered as they are come to: the document's function, its loops. What is made of two values: the program's function, and the document's. What is made of two values: the document's function. Lists of values, and of cells, that are the same; and that may be. The laws' first question, asked of closed facts. The same, seen from outside: the law's function. Rows that are built by appending. Cells numbered as they are come to: the document's function, all of it. Cells numbered as they are come to: the document's answer. What is to be shown of each function, written out. -/
import Derived.Shelf.Strconv.Itoa0
import Derived.Shelf.Strconv.Itoa1
import Derived.Shelf.LaysM
import Derived.Shelf.Strconv.Itoa2
import Derived.Shelf.Strconv.Itoa3
import Derived.Ground.Names2Prog
import Derived.Test.YtejohcohkgcmhaaDoorProg
import Derived.Test.YtejohcohkgcmhaaDoorG7
import Derived.Test.YtejohcohkgcmhaaDoorG5
import Derived.Lib.ItoaLen
import Derived.Test.YtejohcohkgcmhaaDoorG8
import Derived.Test.YtejohcohkgcmhaaDoorG6
namespace Go.Proofs
open Go.Shelf
def Tryd.laysM171_ren : Go.Shelf.Ren := ⟨fun | 171 => 42 | 243 => 52 | 246 => 69 | 283 => 71 | 284 => 72 | 285 => 73 | 286 => 74 | 129 => 76 | 317 => 75 | 318 => 77 | 319 => 78 | 320 => 79 | 337 => 80 | 338 => 81 | n => n, fun | 3 => 3 | 9 => 9 | 2 => 2 | 4 => 4 | 171 => 116 | 0 => 0 | 53 => 117 | 37 => 120 | 5 => 5 | 173 => 121 | 212 => 124 | 51 => 125 | 20 => 20 | 213 => 126 | 46 => 128 | 232 => 131 | 233 => 132 | n => n, fun | 17 => 0 | 18 => 1 | 19 => 2 | n => n⟩
theorem Tryd.laysM171 : Go.Proofs.LaysM.n171 Tryd.prog Tryd.laysM171_ren := {
  mixed := by kernel_rfl
  f129 := Tryd.func76.trans (congrArg some (by kernel_rfl))
  f171 := Tryd.func42.trans (congrArg some (by kernel_rfl))
  f243 := Tryd.func52.trans (congrArg some (by kernel_rfl))
  f246 := Tryd.func69.trans (congrArg some (by kernel_rfl))
  f283 := Tryd.func71.trans (congrArg some (by kernel_rfl))
  f284 := Tryd.func72.trans (congrArg some (by kernel_rfl))
  f285 := Tryd.func73.trans (congrArg some (by kernel_rfl))
  f286 := Tryd.func74.trans (congrArg some (by kernel_rfl))
  f317 := Tryd.func75.trans (congrArg some (by kernel_rfl))
  f318 := Tryd.func77.trans (congrArg some (by kernel_rfl))
  f319 := Tryd.func78.trans (congrArg some (by kernel_rfl))
  f320 := Tryd.func79.trans (congrArg some (by kernel_rfl))
  f337 := Tryd.func80.trans (congrArg some (by kernel_rfl))
  f338 := Tryd.func81.trans (congrArg some (by kernel_rfl))
  t0 := Tryd.underlying0
  a0 := Tryd.isAgg0
  z0 := Tryd.sizeOf0
  v0 := Tryd.zeroValue0
  t2 := Tryd.underlying2
  a2 := Tryd.isAgg2
  z2 := Tryd.sizeOf2
  v2 := Tryd.zeroValue2
  t3 := Tryd.underlying3
  a3 := Tryd.isAgg3
  z3 := Tryd.sizeOf3
  v3 := Tryd.zeroValue3
  t4 := Tryd.underlying4
  a4 := Tryd.isAgg4
  z4 := Tryd.sizeOf4
  v4 := Tryd.zeroValue4
  t5 := Tryd.underlying5
  a5 := Tryd.isAgg5
  z5 := Tryd.sizeOf5
  v5 := Tryd.zeroValue5
  t9 := Tryd.underlying9
  a9 := Tryd.isAgg9
  z9 := Tryd.sizeOf9
  v9 := Tryd.zeroValue9
  t20 := Tryd.underlying20
  a20 := Tryd.isAgg20
  z20 := Tryd.sizeOf20
  v20 := Tryd.zeroValue20
  t37 := Tryd.underlying120
  a37 := Tryd.isAgg120
  z37 := Tryd.sizeOf120
  v37 := Tryd.zeroValue120
  t46 := Tryd.underlying128
  a46 := Tryd.isAgg128
  z46 := Tryd.sizeOf128
  v46 := Tryd.zeroValue128
  t51 := Tryd.underlying125
  a51 := Tryd.isAgg125
  z51 := Tryd.sizeOf125
  v51 := Tryd.zeroValue125
  t53 := Tryd.underlying117
  a53 := Tryd.isAgg117
  z53 := Tryd.sizeOf117
  v53 := Tryd.zeroValue117
  t171 := Tryd.underlying116
  a171 := Tryd.isAgg116
  z171 := Tryd.sizeOf116
  v171 := Tryd.zeroValue116
  t173 := Tryd.underlying121
  a173 := Tryd.isAgg121
  z173 := Tryd.sizeOf121
  v173 := Tryd.zeroValue121
  t212 := Tryd.underlying124
  a212 := Tryd.isAgg124
  z212 := Tryd.sizeOf124
  v212 := Tryd.zeroValue124
  t213 := Tryd.underlying126
  a213 := Tryd.isAgg126
  z213 := Tryd.sizeOf126
  t232 := Tryd.underlying131
  a232 := Tryd.isAgg131
  z232 := Tryd.sizeOf131
  v232 := Tryd.zeroValue131
  t233 := Tryd.underlying132
  a233 := Tryd.isAgg132
  z233 := Tryd.sizeOf132
  v233 := Tryd.zeroValue132
  g17 := by kernel_rfl
  g18 := by kernel_rfl
  g19 := by kernel_rfl
  i0 := by kernel_rfl
  i2 := by kernel_rfl
  i3 := by kernel_rfl
  i4 := by kernel_rfl
  i5 := by kernel_rfl
  i9 := by kernel_rfl
  i20 := by kernel_rfl
  i37 := by kernel_rfl
  i46 := by kernel_rfl
  i51 := by kernel_rfl
  i53 := by kernel_rfl
  i171 := by kernel_rfl
  i173 := by kernel_rfl
  i212 := by kernel_rfl
  i232 := by kernel_rfl
  i233 := by kernel_rfl
  m17 := by kernel_rfl
  m18 := by kernel_rfl
  m19 := by kernel_rfl }
open Go.RowKit Go.Sort Go.Lib in
/-- strconv.Itoa: "Itoa is equivalent to FormatInt(int64(i), 10).": i's DECIMAL NUMERAL ('Lib.itoa': a '-' where i is negative, then the digits), FOR EVERY int. The world behind the call: the world before it, new blocks behind the heap (the library's 'var a [24]byte'), draws. (LAID: no walk: one application.) -/
theorem Tryd.strconv_Itoa (n : Int) (h0 : -9223372036854775808 ≤ n) (h1 : n ≤ 9223372036854775807) (w : World) (htab : Lib.TabIs Tryd.prog w "internal/strconv.uint64pow10" .u64 Lib.pow10Tab) :
    Calls Tryd.prog 42 #[.int .i64 n] w fun e w' => e = .returned (.string ⟨(Lib.itoa n).toArray⟩) ∧ ∃ k os, w' = grow (w.drewN k) os := Any.strconv_Itoa Tryd.laysM171 n h0 h1 w htab
end Go.Proofs
namespace Go.Proofs.YtejohcohkgcmhaaDoor
open Go Go.RowKit

/-- Old blocks stand: what stood for memory does so still. -/
theorem Sim.below {A : Nat → Prop} {ρ : Nat → Loc} {H : Heap} {w w' : World} (s : Sim A ρ H w) (b : Below w.heap.size w w') : Sim A ρ H w' ∧ Fr A ρ H w A ρ H w' := by
  have hK : ∀ b' o, Kof ρ H w b' = some o → Kof ρ H w' b' = some o := fun b' o hb => by
    obtain ⟨h1, h2⟩ := Kof_some.1 hb
    exact Kof_some.2 ⟨h1, by rw [b.block b' (Array.getElem?_eq_some_iff.1 h2).1]; exact h2⟩
  refine ⟨⟨s.live, fun g o ho => ?_, s.inj, s.lay.mono hK⟩, ⟨fun _ h => ⟨rfl, h⟩, hK, b.os, b.tape, b.output, b.size⟩⟩
  exact (s.obj g o ho).mono (b.block _ (s.obj g o ho).block_lt) hK (fun _ h => ⟨rfl, h⟩)
theorem QC.of_calls {P : Program} {f : FuncId} {fn : Func} {c : Code} {args : List AV} {r : AV} (hf : P.funcs[f]? = some fn) (hb : fn.body = some c) (hname : (fn.name == "runtime.NumGoroutine") = false)
    (h : ∀ (K : KHeap) (ρ : Nat → Loc) (A : Nat → Prop) (w : World) (cargs : Array Value), LayK (fun b => w.heap[b]?) → LRel K ρ A args cargs.toList → Calls P f cargs w fun e w' => (∃ v, e = .returned v ∧ ∀ (K : KHeap) (ρ : Nat → Loc) (A : Nat → Prop), VRel K ρ A r v) ∧ Below w.heap.size w w') : QC P f args r := by
  intro H nx ρ w cargs s ha
  have hcall : (callFunc f cargs).run P w = .ok (.enter f cargs) w := by
    have hname' : ¬ fn.name = "runtime.NumGoroutine" := by simpa using hname
    simp [callFunc, program, Sem.run_bind, Sem.run, hf, hname', hb, pure]
  rw [hcall]
  simp only [flowUpon]
  refine (h _ _ _ w cargs (s.lay.mono fun b o hb => (Kof_some.1 hb).2) ha).mono fun e w' ⟨⟨v, he, hv⟩, hw⟩ => ?_
  obtain ⟨s', f'⟩ := s.below hw
  exact ⟨v, he, r, H, nx, ρ, ⟨rfl, rfl, rfl⟩, s', hv _ _ _, f'⟩

theorem tabThere : (Tryd.prog.globalNamed "internal/strconv.uint64pow10").isSome = true := by kernel_rfl
theorem LayK.tab {w : World} (h : LayK (fun b => w.heap[b]?)) : Lib.TabIs Tryd.prog w "internal/strconv.uint64pow10" .u64 Lib.pow10Tab := by
  obtain ⟨g, hg⟩ := Option.isSome_iff_exists.1 tabThere
  obtain ⟨e, m, hc⟩ := h g hg
  unfold Lib.TabIs World.var?
  have hc' : w.heap[g]? = _ := hc
  rw [hg, Option.bind_some, hc']

theorem itoa_qc (n : Int) (h0 : -9223372036854775808 ≤ n) (h1 : n ≤ 9223372036854775807) : QC Tryd.prog 42 [.int .i64 n] (.str (Lib.itoa n)) := by
  refine QC.of_calls (c := codeOf Tryd.f42) Tryd.func42 (by kernel_rfl) (by kernel_rfl) fun K ρ A w cargs hl ha => ?_
  have hc : cargs = #[.int .i64 n] := by
    obtain ⟨hlen, hg⟩ := ha
    have hlen' : cargs.toList.length = 1 := hlen
    match he : cargs.toList, hlen' with
    | [v], _ =>
      have := hg 0 (.int .i64 n) v rfl (by rw [he]; rfl)
      cases this
      exact Array.ext' (by rw [he])
  subst hc
  refine (Tryd.strconv_Itoa n h0 h1 w hl.tab).mono fun e w' ⟨he, k, os, hw⟩ => ?_
  subst he hw
  refine ⟨⟨_, rfl, fun K ρ A => .str _⟩, ⟨rfl, rfl, rfl, ?_, fun b hb => ?_⟩⟩
  · simp [Sort.grow, World.drewN]
  · simp only [Sort.grow, World.drewN]
    rw [Array.getElem?_append_left (by simpa using hb)]
end Go.Proofs.YtejohcohkgcmhaaDoor
namespace Go.Proofs.YtejohcohkgcmhaaDoor
open Go Go.RowKit

def OkCells (h : List Cl) : Prop := ∀ c ∈ h, VM.WrongOk c.left h.length ∧ VM.WrongOk c.right h.length
theorem vshow_len {h : List Cl} (hc : OkCells h) : ∀ (d : Nat) {v : Val}, VM.WrongOk v h.length → (VM.vshow h d v).length + 3 ≤ 63 * 2 ^ d
  | d, v, hv => by
    have hp : 1 ≤ 2 ^ d := Nat.one_le_two_pow
    rcases hv.kind with k | k | k
    · rw [VM.vshow_int k]
      have := hv.int k
      have := Lib.itoa_length_le v.n (by omega) (by omega)
      omega
    · rw [VM.vshow_text k]
      have := hv.len; omega
    · cases d with
      | zero => rw [VM.vshow_dots k]; simp
      | succ d =>
        obtain ⟨h0, h1⟩ := hv.cell k
        have hlt : v.n.toNat < h.length := by omega
        obtain ⟨w1, w2⟩ := hc _ (List.getElem_mem hlt)
        have i1 := vshow_len hc d w1
        have i2 := vshow_len hc d w2
        rw [VM.vshow_cell k h0 (List.getElem?_eq_getElem hlt)]
        simp only [List.length_append, List.length_cons, List.length_nil]
        rw [Nat.pow_succ]; omega

set_option maxHeartbeats 2000000 in
theorem show_qc {h : List Cl} (hc : OkCells h) : ∀ (d : Nat) (v : Val) (deep : Int), VM.WrongOk v h.length → deep.toNat = d → d ≤ 5 → -9223372036854775808 ≤ deep → QC Tryd.prog 18 [.ro (h.map Cl.avs), .agg v.avs, .int .i64 deep] (.str (VM.vshow h d v))
  | d, v, deep, hv, hd, hd5, hlow => by
    refine QC.of' fun H nx => cell_Show_calls _ _ _ H nx _ ?_
    rcases hv.kind with k | k | k
    · have := hv.int k
      rw [VM.vshow_int k]
      simp [cell_Show_vc, Val.avs, k]
      refine QC.call (itoa_qc v.n (by omega) (by omega)) ?_
      simp [cell_Show_k1]
    · rw [VM.vshow_text k]
      simp [cell_Show_vc, Val.avs, k]
    · obtain ⟨h0, h1⟩ := hv.cell k
      have hlt : v.n.toNat < h.length := by omega
      have hn0 : ¬ v.n < 0 := by omega
      have hn1 : ¬ (h.length : Int) ≤ v.n := by omega
      cases d with
      | zero =>
        rw [VM.vshow_dots k]
        have : deep ≤ 0 := by omega
        simp [cell_Show_vc, Val.avs, k, this]
      | succ d =>
        have hpos : ¬ deep ≤ 0 := by omega
        obtain ⟨w1, w2⟩ := hc _ (List.getElem_mem hlt)
        rw [VM.vshow_cell k h0 (List.getElem?_eq_getElem hlt)]
        have hget : h[v.n.toNat]? = some h[v.n.toNat] := List.getElem?_eq_getElem hlt
        generalize h[v.n.toNat] = c at *
        have l1 := vshow_len hc d w1
        have l2 := vshow_len hc d w2
        have hp : 2 ^ d ≤ 2 ^ 5 := Nat.pow_le_pow_right (by omega) (by omega)
        have hw : IntKind.i64.wrap (deep - 1) = deep - 1 := i64w (by omega)
        have ih1 := show_qc hc d c.left (deep - 1) w1 (by omega) (by omega) (by omega)
        have ih2 := show_qc hc d c.right (deep - 1) w2 (by omega) (by omega) (by omega)
        have t1 : c.avs.take 3 = c.left.avs := rfl
        have t2 : (c.avs.drop 3).take 3 = c.right.avs := rfl
        simp [cell_Show_vc, Val.avs, k, hpos, hn0, hn1, hget, hw]
        refine ⟨h0, h1, ?_⟩
        rw [t1]
        refine CALLD.of_qc ih1 (.str _) ?_
        simp [cell_Show_k3, hget, hw]
        refine ⟨by omega, by omega, h0, h1, ?_⟩
        rw [t2]
        refine CALLD.of_qc ih2 (.str _) ?_
        simp [cell_Show_k2]
        omega

set_option maxHeartbeats 2000000 in
theorem show1_qc {h : List Cl} (hc : OkCells h) : ∀ (d : Nat) (v : Val) (deep : Int), VM.WrongOk v h.length → deep.toNat = d → d ≤ 5 → -9223372036854775808 ≤ deep → QC Tryd.prog 19 [.ro (h.map Cl.avs), .agg v.avs, .int .i64 deep] (.str (VM.vshow h d v))
  | d, v, deep, hv, hd, hd5, hlow => by
    refine QC.of' fun H nx => zwref1_Show_calls _ _ _ H nx _ ?_
    rcases hv.kind with k | k | k
    · have := hv.int k
      rw [VM.vshow_int k]
      simp [zwref1_Show_vc, Val.avs, k]
      refine QC.call (itoa_qc v.n (by omega) (by omega)) ?_
      simp [zwref1_Show_k1]
    · rw [VM.vshow_text k]
      simp [zwref1_Show_vc, Val.avs, k]
    · obtain ⟨h0, h1⟩ := hv.cell k
      have hlt : v.n.toNat < h.length := by omega
      have hn0 : ¬ v.n < 0 := by omega
      have hn1 : ¬ (h.length : Int) ≤ v.n := by omega
      cases d with
      | zero =>
        rw [VM.vshow_dots k]
        have : deep < 1 := by omega
        simp [zwref1_Show_vc, Val.avs, k, this]
      | succ d =>
        have hpos : ¬ deep < 1 := by omega
        obtain ⟨w1, w2⟩ := hc _ (List.getElem_mem hlt)
        rw [VM.vshow_cell k h0 (List.getElem?_eq_getElem hlt)]
        have hget : h[v.n.toNat]? = some h[v.n.toNat] := List.getElem?_eq_getElem hlt
        generalize h[v.n.toNat] = c at *
        have l1 := vshow_len hc d w1
        have l2 := vshow_len hc d w2
        have hp : 2 ^ d ≤ 2 ^ 5 := Nat.pow_le_pow_right (by omega) (by omega)
        have hw : IntKind.i64.wrap (deep - 1) = deep - 1 := i64w (by omega)
        have ih1 := show1_qc hc d c.left (deep - 1) w1 (by omega) (by omega) (by omega)
        have ih2 := show1_qc hc d c.right (deep - 1) w2 (by omega) (by omega) (by omega)
        have t1 : c.avs.take 3 = c.left.avs := rfl
        have t2 : (c.avs.drop 3).take 3 = c.right.avs := rfl
        simp [zwref1_Show_vc, Val.avs, k, hpos, hn0, hn1, hget, hw]
        have t3 : c.avs.take 6 = c.left.avs ++ c.right.avs := rfl
        have t4 : (c.left.avs ++ c.right.avs).take 3 = c.left.avs := rfl
        have t5 : ((c.left.avs ++ c.right.avs).drop 3).take 3 = c.right.avs := rfl
        rw [t3]
        refine ⟨h0, h1, fun x hx => scal_one (scal_cl c x hx), ?_⟩
        rw [t4]
        refine CALLD.of_qc ih1 (.str _) ?_
        simp [zwref1_Show_k3, hget, hw]
        refine ⟨by omega, by omega, ?_⟩
        rw [t5]
        refine CALLD.of_qc ih2 (.str _) ?_
        simp [zwref1_Show_k2]
        omega
end Go.Proofs.YtejohcohkgcmhaaDoor
namespace Go.Proofs.YtejohcohkgcmhaaDoor
open Go Go.RowKit

def placeRow (o : List Nat) (N : Nat) : List AV := (List.range N).map fun n => .int .i64 (if n ∈ o then (o.idxOf n : Int) else -1)
@[simp] theorem placeRow_len (o : List Nat) (N : Nat) : (placeRow o N).length = N := by simp [placeRow]
theorem placeRow_at {o : List Nat} {N n : Nat} (h : n < N) : (placeRow o N)[n]? = some (.int .i64 (if n ∈ o then (o.idxOf n : Int) else -1)) := by simp [placeRow, h]
theorem placeRow_set {o : List Nat} {N m : Nat} (hm : m < N) (hn : m ∉ o) : (placeRow o N).take m ++ AV.int .i64 o.length :: (placeRow o N).drop (m + 1) = placeRow (o ++ [m]) N := by
  have e : (placeRow o N).take m ++ AV.int .i64 o.length :: (placeRow o N).drop (m + 1) = (placeRow o N).set m (.int .i64 o.length) := by
    rw [List.set_eq_take_append_cons_drop, if_pos (by simpa using hm)]
  rw [e]
  apply List.ext_getElem?
  intro n
  by_cases hN : n < N
  · rw [placeRow_at hN]
    by_cases hnm : n = m
    · subst hnm
      rw [List.getElem?_set_self (by simpa using hm)]
      simp [hn, List.idxOf_append]
    · rw [List.getElem?_set_ne (fun h => hnm h.symm), placeRow_at hN]
      by_cases ho : n ∈ o
      · simp [ho, List.idxOf_append]
      · simp [ho, hnm]
  · rw [List.getElem?_eq_none (by simp; omega), List.getElem?_eq_none (by simp; omega)]

/-- What the document's closures' variables hold. -/
structure RefSt (H : Heap) (gp go gpl gr N : Nat) (o : List Nat) : Prop where
  p : H gp = some (.row 1 [.slc gpl 0 N])
  pl : H gpl = some (.row 1 (placeRow o N))
  oo : H go = some (.row 1 [if o = [] then .nils else .slc gr 0 o.length])
  rr : o ≠ [] → H gr = some (.row 1 (numRow o))
  d1 : gp ≠ go
  d2 : gp ≠ gpl
  d3 : go ≠ gpl
  d4 : o ≠ [] → gr ≠ gp ∧ gr ≠ go ∧ gr ≠ gpl

theorem refput_ac (v : Val) (o : List Nat) (N : Nat) (hv : VM.WrongOk v N) (hin : VM.In o v) {H : Heap} {nx gp gpl : Nat} (h1 : H gp = some (.row 1 [.slc gpl 0 N])) (h2 : H gpl = some (.row 1 (placeRow o N))) (l1 : gp < nx) (l2 : gpl < nx) :
    ACalls Tryd.prog 41 [.agg v.avs, .ptr gp 0] H nx fun r H' _ => r = .agg (VM.put o v).avs ∧ Keep nx H' H := by
  refine zwref1_Canon_2_calls _ _ H nx _ ?_
  have n0 : gp ≠ nx ∧ gpl ≠ nx ∧ nx ≠ nx + 1 ∧ gp ≠ nx + 1 ∧ gpl ≠ nx + 1 := by omega
  by_cases hk : v.kind = 2
  · obtain ⟨c1, c2⟩ := hv.cell hk
    have hm := hin hk
    have hlt : v.n.toNat < N := by omega
    have e1 : (VM.put o v).kind = 2 := by unfold VM.put; rw [if_pos hk]; exact hk
    have e2 : (VM.put o v).n = (o.idxOf v.n.toNat : Nat) := by unfold VM.put; rw [if_pos hk]
    have e3 : (VM.put o v).text = v.text := by unfold VM.put; rw [if_pos hk]
    simp [zwref1_Canon_2_vc, Val.avs, hk, n0, h1, h2, e1, e2, e3, placeRow_at hlt, hm]
    omega
  · have e : VM.put o v = v := by unfold VM.put; rw [if_neg hk]
    simp [zwref1_Canon_2_vc, Val.avs, hk, n0, e]
theorem meet_ac (v : Val) (o : List Nat) (N : Nat) (hv : VM.WrongOk v N) (ho : (o.length + 1) * 8 ≤ 140737488355328) {H : Heap} {nx gp go gpl gr : Nat} (st : RefSt H gp go gpl gr N o) (l1 : gp < nx) (l2 : go < nx) (l3 : gpl < nx) (lr : o ≠ [] → gr < nx) :
    ACalls Tryd.prog 40 [.agg v.avs, .ptr gp 0, .ptr go 0] H nx fun r H' nx' => r = .tup [] ∧ nx ≤ nx' ∧ ∃ gr', RefSt H' gp go gpl gr' N (VM.meet o v) ∧ (VM.meet o v ≠ [] → gr' < nx' ∧ ((o ≠ [] ∧ gr' = gr) ∨ nx ≤ gr')) ∧
      ∀ g, g < nx → g ≠ gpl → g ≠ go → (o ≠ [] → g ≠ gr) → H' g = H g := by
  refine zwref1_Canon_1_calls _ _ _ H nx _ ?_
  obtain ⟨s1, s2, s3, s4, d1, d2, d3, d4⟩ := st
  have n0 : gp ≠ nx ∧ gpl ≠ nx ∧ go ≠ nx ∧ gp ≠ nx + 1 ∧ gpl ≠ nx + 1 ∧ go ≠ nx + 1 ∧ nx ≠ nx + 1 := by omega
  have same : VM.meet o v = o → ∃ gr', RefSt (H.put nx (some (.row 3 v.avs))) gp go gpl gr' N (VM.meet o v) ∧ (VM.meet o v ≠ [] → gr' < nx + 1 ∧ ((o ≠ [] ∧ gr' = gr) ∨ nx ≤ gr')) ∧ ∀ g, g < nx → g ≠ gpl → g ≠ go → (o ≠ [] → g ≠ gr) → (H.put nx (some (.row 3 v.avs))) g = H g := by
    intro e
    rw [e]
    refine ⟨gr, ⟨by rw [Heap.put_ne _ _ (by omega)]; exact s1, by rw [Heap.put_ne _ _ (by omega)]; exact s2, by rw [Heap.put_ne _ _ (by omega)]; exact s3, fun h => by rw [Heap.put_ne _ _ (by have := lr h; omega)]; exact s4 h, d1, d2, d3, d4⟩, fun h => ⟨by have := lr h; omega, .inl ⟨h, rfl⟩⟩, fun g hg _ _ _ => Heap.put_ne _ _ (by omega)⟩
  by_cases hk : v.kind = 2
  · obtain ⟨c1, c2⟩ := hv.cell hk
    obtain ⟨k, n, s⟩ := v
    simp only at hk c1 c2
    subst hk
    obtain ⟨m, rfl⟩ : ∃ m : Nat, n = m := ⟨n.toNat, by omega⟩
    have hlt : m < N := by omega
    by_cases hm : m ∈ o
    · have e : VM.meet o ⟨2, m, s⟩ = o := meet_old (by simp [hm])
      have nn : ¬ ((o.idxOf m : Nat) : Int) < 0 := by omega
      simp [zwref1_Canon_1_vc, Val.avs, n0, s1, s2, placeRow_at hlt, hm, nn]
      have := same e
      simp [Val.avs] at this
      exact ⟨hlt, this⟩
    · have e : VM.meet o ⟨2, m, s⟩ = o ++ [m] := meet_new (by simp [hm])
      have ps := placeRow_set hlt hm
      rw [e]
      by_cases h0 : o = []
      · subst h0
        simp at s3
        have ne_0 : gp ≠ go ∧ go ≠ gp ∧ gp ≠ gpl ∧ gpl ≠ gp ∧ gp ≠ nx ∧ nx ≠ gp ∧ go ≠ gpl ∧ gpl ≠ go ∧ go ≠ nx ∧ nx ≠ go ∧ gpl ≠ nx ∧ nx ≠ gpl ∧ gp ≠ nx + 1 ∧ nx + 1 ≠ gp ∧ gp ≠ nx + 2 ∧ nx + 2 ≠ gp ∧ gp ≠ nx + 3 ∧ nx + 3 ≠ gp ∧ go ≠ nx + 1 ∧ nx + 1 ≠ go ∧ go ≠ nx + 2 ∧ nx + 2 ≠ go ∧ go ≠ nx + 3 ∧ nx + 3 ≠ go ∧ gpl ≠ nx + 1 ∧ nx + 1 ≠ gpl ∧ gpl ≠ nx + 2 ∧ nx + 2 ≠ gpl ∧ gpl ≠ nx + 3 ∧ nx + 3 ≠ gpl ∧ nx ≠ nx + 1 ∧ nx + 1 ≠ nx ∧ nx ≠ nx + 2 ∧ nx + 2 ≠ nx ∧ nx ≠ nx + 3 ∧ nx + 3 ≠ nx := ⟨by omega, by omega, by omega, by omega, by omega, by omega, by omega, by omega, by omega, by omega, by omega, by omega, by omega, by omega, by omega, by omega, by omega, by omega, by omega, by omega, by omega, by omega, by omega, by omega, by omega, by omega, by omega, by omega, by omega, by omega, by omega, by omega, by omega, by omega, by omega, by omega⟩
        simp [zwref1_Canon_1_vc, Val.avs, n0, s1, s2, s3, placeRow_at hlt, hm, ne_0]
        refine ⟨hlt, by omega, by omega, nx + 2, ⟨?_, ?_, ?_, fun _ => ?_, d1, d2, d3, fun _ => by omega⟩, by omega, fun g hg a b => ?_⟩
        · simp [ne_0, s1]
        · simp [ne_0]; simpa using ps
        · simp [ne_0]
        · simp [ne_0, numRow]
        · repeat rw [if_neg (by omega)]
      · have r4 := d4 h0
        have lr' := lr h0
        rw [if_neg h0] at s3
        have s4' := s4 h0
        have ne_1 : gr ≠ gp ∧ gp ≠ gr ∧ gr ≠ go ∧ go ≠ gr ∧ gr ≠ gpl ∧ gpl ≠ gr ∧ gr ≠ nx ∧ nx ≠ gr ∧ gp ≠ go ∧ go ≠ gp ∧ gp ≠ gpl ∧ gpl ≠ gp ∧ gp ≠ nx ∧ nx ≠ gp ∧ go ≠ gpl ∧ gpl ≠ go ∧ go ≠ nx ∧ nx ≠ go ∧ gpl ≠ nx ∧ nx ≠ gpl ∧ gr ≠ nx + 1 ∧ nx + 1 ≠ gr ∧ gr ≠ nx + 2 ∧ nx + 2 ≠ gr ∧ gr ≠ nx + 3 ∧ nx + 3 ≠ gr ∧ gp ≠ nx + 1 ∧ nx + 1 ≠ gp ∧ gp ≠ nx + 2 ∧ nx + 2 ≠ gp ∧ gp ≠ nx + 3 ∧ nx + 3 ≠ gp ∧ go ≠ nx + 1 ∧ nx + 1 ≠ go ∧ go ≠ nx + 2 ∧ nx + 2 ≠ go ∧ go ≠ nx + 3 ∧ nx + 3 ≠ go ∧ gpl ≠ nx + 1 ∧ nx + 1 ≠ gpl ∧ gpl ≠ nx + 2 ∧ nx + 2 ≠ gpl ∧ gpl ≠ nx + 3 ∧ nx + 3 ≠ gpl ∧ nx ≠ nx + 1 ∧ nx + 1 ≠ nx ∧ nx ≠ nx + 2 ∧ nx + 2 ≠ nx ∧ nx ≠ nx + 3 ∧ nx + 3 ≠ nx := ⟨by omega, by omega, by omega, by omega, by omega, by omega, by omega, by omega, by omega, by omega, by omega, by omega, by omega, by omega, by omega, by omega, by omega, by omega, by omega, by omega, by omega, by omega, by omega, by omega, by omega, by omega, by omega, by omega, by omega, by omega, by omega, by omega, by omega, by omega, by omega, by omega, by omega, by omega, by omega, by omega, by omega, by omega, by omega, by omega, by omega, by omega, by omega, by omega, by omega, by omega⟩
        simp [zwref1_Canon_1_vc, Val.avs, n0, s1, s2, s3, s4', placeRow_at hlt, hm, ne_1]
        have htk : List.take o.length (numRow o) = numRow o := List.take_of_length_le (by simp)
        simp only [htk]
        refine ⟨hlt, by omega, ho, by omega, nx + 2, ⟨?_, ?_, ?_, fun _ => ?_, d1, d2, d3, fun _ => by omega⟩, by omega, fun g hg a b c => ?_⟩
        · simp [ne_1, s1]
        · simp [ne_1]; simpa using ps
        · simp [ne_1]
        · simp [ne_1, numRow]
        · have := c h0
          repeat rw [if_neg (by omega)]
  · have e : VM.meet o v = o := meet_old (by simp [hk])
    simp [zwref1_Canon_1_vc, Val.avs, hk, n0]
    have := same e
    simp [Val.avs] at this
    exact this
end Go.Proofs.YtejohcohkgcmhaaDoor
namespace Go.Proofs.YtejohcohkgcmhaaDoor
open Go Go.RowKit

structure RCan (h : List Cl) (H0 : Heap) (nx : Nat) (o : List Nat) (H : Heap) (n gr : Nat) : Prop where
  st : RefSt H (nx + 1) (nx + 2) nx gr h.length o
  lr : o ≠ [] → nx + 3 ≤ gr ∧ gr < n
  keep : Keep nx H H0
  good : VM.Good h.length o
  le : nx + 3 ≤ n
theorem RCan.more {h : List Cl} {H0 H H' : Heap} {nx n n' gr : Nat} {o : List Nat} (c : RCan h H0 nx o H n gr) (hn : n ≤ n') (hk : ∀ g, g < n → H' g = H g) : RCan h H0 nx o H' n' gr := by
  have l := c.le
  refine ⟨⟨by rw [hk _ (by omega)]; exact c.st.p, by rw [hk _ (by omega)]; exact c.st.pl, by rw [hk _ (by omega)]; exact c.st.oo, fun ho => by rw [hk _ (c.lr ho).2]; exact c.st.rr ho, c.st.d1, c.st.d2, c.st.d3, c.st.d4⟩, fun ho => by have := c.lr ho; omega, fun g hg => by rw [hk _ (by omega)]; exact c.keep g hg, c.good, by omega⟩
theorem RCan.meet {h : List Cl} {H0 H : Heap} {nx n gr : Nat} {o : List Nat} (c : RCan h H0 nx o H n gr) (hs : h.length * 64 ≤ 140737488355328) {v : Val} (hv : VM.WrongOk v h.length) {Q : AV → Heap → Nat → Prop} (hq : ∀ H' n' gr', n ≤ n' → RCan h H0 nx (VM.meet o v) H' n' gr' → Q (.tup []) H' n') :
    ACalls Tryd.prog 40 [.agg v.avs, .ptr (nx + 1) 0, .ptr (nx + 2) 0] H n Q := by
  have l := c.le
  have g := c.good.len
  refine (meet_ac v o h.length hv (by omega) c.st (by omega) (by omega) (by omega) (fun ho => (c.lr ho).2)).mono ?_
  rintro r H' n' ⟨rfl, hn, gr', st, q1, q2⟩
  refine hq H' n' gr' hn ⟨st, fun ho => ?_, fun x hx => ?_, c.good.meet hv.okV, by omega⟩
  · obtain ⟨a, b⟩ := q1 ho
    rcases b with ⟨b1, rfl⟩ | b
    · have := c.lr b1; omega
    · omega
  · rw [q2 x (by omega) (by omega) (by omega) (fun ho => by have := c.lr ho; omega)]; exact c.keep x hx

def avI (l : List Int) : List AV := l.map (AV.int .i64)
theorem place_nil (N : Nat) : avI (List.replicate N (-1)) = placeRow [] N := by
  unfold avI placeRow
  rw [List.map_replicate]
  apply List.ext_getElem?
  intro i
  by_cases h : i < N
  · simp [h]
  · rw [List.getElem?_eq_none (by simp; omega), List.getElem?_eq_none (by simp; omega)]
theorem fill_one (n i : Nat) (h : i < n) : List.take i (avI (List.replicate i (-1) ++ List.replicate (n - i) 0)) ++ AV.int .i64 (-1) :: List.drop (i + 1) (avI (List.replicate i (-1) ++ List.replicate (n - i) 0)) = avI (List.replicate (i + 1) (-1) ++ List.replicate (n - (i + 1)) 0) := by
  have e : n - i = (n - (i + 1)) + 1 := by omega
  rw [e, List.replicate_succ, List.replicate_succ']
  simp [avI, List.take_append, List.drop_append]
/-- The table of places is laid. -/
theorem refcanon_start {h : List Cl} {l : List Val} (hr : VM.right h l = true) (hs : h.length * 64 ≤ 140737488355328) (hl : l.length * 32 ≤ 140737488355328) {H : Heap} {nx : Nat} {Q : AV → Heap → Nat → Prop}
    (hq : ∀ H' , RCan h H nx [] H' (nx + 3) 0 → LP (zwref1_Canon_l4 Q) [.ro (h.map Cl.avs), .ro (l.map Val.avs), .ptr (nx + 1) 0, .ptr (nx + 2) 0, .clo 40 [.ptr (nx + 1) 0, .ptr (nx + 2) 0], .int .i64 0, .ro (l.map Val.avs), .int .i64 l.length, .int .i64 0] H' (nx + 3)) :
    zwref1_Canon_vc (.ro (h.map Cl.avs)) (.ro (l.map Val.avs)) H nx Q := by
  simp [zwref1_Canon_vc]
  refine ⟨by omega, by omega, ?_⟩
  refine LP.mk (fun m xs H' n' => ∃ i, m = h.length - i ∧ i ≤ h.length ∧ n' = nx + 2 ∧ xs = [.ro (h.map Cl.avs), .ro (l.map Val.avs), .ptr (nx + 1) 0, .int .i64 h.length, .int .i64 i] ∧ H' (nx + 1) = some (.row 1 [.slc nx 0 h.length]) ∧ H' nx = some (.row 1 (avI (List.replicate i (-1) ++ List.replicate (h.length - i) 0))) ∧ Keep nx H' H) h.length
    ⟨0, by omega, by omega, rfl, rfl, ?_, ?_, ?_⟩ ?_
  · rw [Heap.put_at]
  · rw [Heap.put_ne _ _ (by omega), Heap.put_at]
    simp [avI]
  · intro g hg; rw [Heap.put_ne _ _ (by omega), Heap.put_ne _ _ (by omega)]
  rintro m xs H' n' ⟨i, rfl, hi, rfl, rfl, h1, h2, hk⟩
  by_cases hil : i < h.length
  · simp [zwref1_Canon_l5, hil, h1, h2]
    refine ⟨by simp [avI]; omega, h.length - (i + 1), by omega, i + 1, rfl, by omega, i64w (by omega), fill_one _ _ hil, hk⟩
  · obtain rfl : i = h.length := by omega
    simp [zwref1_Canon_l5]
    refine hq _ ⟨⟨?_, ?_, ?_, fun ho => absurd rfl ho, by omega, by omega, by omega, fun ho => absurd rfl ho⟩, fun ho => absurd rfl ho, ?_, VM.Good.nil, Nat.le_refl _⟩
    · rw [Heap.put_ne _ _ (by omega)]; exact h1
    · rw [Heap.put_ne _ _ (by omega), h2, ← place_nil]; simp
    · rw [Heap.put_at]; rfl
    · intro g hg; rw [Heap.put_ne _ _ (by omega)]; exact hk g hg
end Go.Proofs.YtejohcohkgcmhaaDoor
namespace Go.Proofs.YtejohcohkgcmhaaDoor
open Go Go.RowKit

theorem getElem_pre {o o' : List Nat} (h : o <+: o') {d n : Nat} (hd : o[d]? = some n) : o'[d]? = some n := by
  obtain ⟨t, rfl⟩ := h
  rw [List.getElem?_append_left (List.getElem?_eq_some_iff.1 hd).1]; exact hd
set_option maxHeartbeats 2000000 in
set_option maxRecDepth 20000 in
theorem refcanon_inner (h : List Cl) (l : List Val) (hr : VM.right h l = true) (hs : h.length * 64 ≤ 140737488355328) (hl : l.length * 32 ≤ 140737488355328) {H0 : Heap} {nx i : Nat} (hi : i < l.length) (K16 : J3)
    (hK : ∀ H n gr o, RCan h H0 nx o H n gr → VM.orderGo h (l.drop (i + 1)) o = VM.order h l →
      K16 [.ro (h.map Cl.avs), .ro (l.map Val.avs), .ptr (nx + 1) 0, .ptr (nx + 2) 0, .clo 40 [.ptr (nx + 1) 0, .ptr (nx + 2) 0], .int .i64 o.length, .ro (l.map Val.avs), .int .i64 l.length, .int .i64 (i + 1 : Nat)] H n)
    (H : Heap) (n gr : Nat) (o : List Nat) (d : Nat) (hdo : d ≤ o.length) (st : RCan h H0 nx o H n gr) (hF : VM.orderGo h (l.drop (i + 1)) (VM.drain h (h.length - d) o d) = VM.order h l) :
    LP (zwref1_Canon_l1 K16) [.ro (h.map Cl.avs), .ro (l.map Val.avs), .ptr (nx + 1) 0, .ptr (nx + 2) 0, .clo 40 [.ptr (nx + 1) 0, .ptr (nx + 2) 0], .int .i64 d, .ro (l.map Val.avs), .int .i64 l.length, .int .i64 i] H n := by
  refine LP.mk (fun m xs H n => ∃ d gr o, m = h.length - d ∧ d ≤ o.length ∧ xs = [.ro (h.map Cl.avs), .ro (l.map Val.avs), .ptr (nx + 1) 0, .ptr (nx + 2) 0, .clo 40 [.ptr (nx + 1) 0, .ptr (nx + 2) 0], .int .i64 d, .ro (l.map Val.avs), .int .i64 l.length, .int .i64 i] ∧ RCan h H0 nx o H n gr ∧
    VM.orderGo h (l.drop (i + 1)) (VM.drain h (h.length - d) o d) = VM.order h l) (h.length - d) ⟨d, gr, o, rfl, hdo, rfl, st, hF⟩ ?_
  clear st hF hdo
  rintro m xs H n ⟨d, gr, o, rfl, hdo, rfl, st, hF⟩
  by_cases hd : d < o.length
  case neg =>
    obtain rfl : d = o.length := by omega
    simp [zwref1_Canon_l1, st.st.oo, lnl_ord]
    rw [i64w (by omega)]
    rw [VM.drain_end (Nat.le_refl _)] at hF
    exact hK H n gr o st hF
  obtain ⟨c0, hc0⟩ : ∃ n0, o[d]? = some n0 := ⟨_, List.getElem?_eq_getElem hd⟩
  have hc0l : c0 < h.length := st.good.lt c0 (List.mem_of_getElem? hc0)
  have hc : h[c0]? = some h[c0] := List.getElem?_eq_getElem hc0l
  have ho : o ≠ [] := by intro e; subst e; simp at hd
  obtain ⟨w1, w2⟩ := VM.right_okC hr _ (List.mem_of_getElem? hc)
  have hol := st.good.len
  have oo := st.st.oo
  rw [if_neg ho] at oo
  have hrow : (numRow o)[d]? = some (.int .i64 c0) := numRow_at hc0
  obtain ⟨hdr, hrow'⟩ := List.getElem?_eq_some_iff.1 hrow
  suffices key : ∀ K28 : J3, (∀ H n gr o, RCan h H0 nx o H n gr → d + 1 ≤ o.length → VM.orderGo h (l.drop (i + 1)) (VM.drain h (h.length - (d + 1)) o (d + 1)) = VM.order h l →
      K28 [.ro (h.map Cl.avs), .ro (l.map Val.avs), .ptr (nx + 1) 0, .ptr (nx + 2) 0, .clo 40 [.ptr (nx + 1) 0, .ptr (nx + 2) 0], .int .i64 (d + 1 : Nat), .ro (l.map Val.avs), .int .i64 l.length, .int .i64 i] H n) →
      zwref1_Canon_l1 K16 K28 [.ro (h.map Cl.avs), .ro (l.map Val.avs), .ptr (nx + 1) 0, .ptr (nx + 2) 0, .clo 40 [.ptr (nx + 1) 0, .ptr (nx + 2) 0], .int .i64 d, .ro (l.map Val.avs), .int .i64 l.length, .int .i64 i] H n from
    key _ fun H n gr o st' hdo' hF' => ⟨_, by omega, d + 1, gr, o, rfl, hdo', rfl, st', hF'⟩
  intro K28 hK28
  rw [show h.length - d = (h.length - (d + 1)) + 1 by omega, VM.drain_step hc0 hc] at hF
  have t1 : h[c0].avs.take 3 = h[c0].left.avs := rfl
  have t2 : (h[c0].avs.drop 3).take 3 = h[c0].right.avs := rfl
  simp [zwref1_Canon_l1, oo, hd, st.st.rr ho, hrow', lnl_ord, hc0l, t1, CALL]
  refine st.meet hs w1 fun H2 n2 gr2 hn2 st2 => ?_
  have p1 := VM.meet_pre o h[c0].left
  have hc1 := getElem_pre p1 hc0
  have ho1 : VM.meet o h[c0].left ≠ [] := by intro e; rw [e] at hc1; simp at hc1
  have oo2 := st2.st.oo
  rw [if_neg ho1] at oo2
  obtain ⟨hdr2, hrow2⟩ := List.getElem?_eq_some_iff.1 (numRow_at hc1)
  have hd1 := (List.getElem?_eq_some_iff.1 hc1).1
  simp [zwref1_Canon_k2, oo2, st2.st.rr ho1, hrow2, hd1, hc0l, t2, CALL]
  refine st2.meet hs w2 fun H3 n3 gr3 hn3 st3 => ?_
  simp [zwref1_Canon_k1]
  rw [i64w (by omega)]
  have p2 := VM.meet_pre (VM.meet o h[c0].left) h[c0].right
  exact hK28 H3 n3 gr3 _ st3 (by have := p2.length_le; omega) hF
end Go.Proofs.YtejohcohkgcmhaaDoor
namespace Go.Proofs.YtejohcohkgcmhaaDoor
open Go Go.RowKit

set_option maxHeartbeats 4000000 in
theorem two_qc (op : Int) (a b : Val) (N M : Int) (ha : VM.wrong a N = 0) (hb : VM.wrong b M = 0) : QC Tryd.prog 13 [.int .i64 op, .agg a.avs, .agg b.avs] (.tup [.agg (VM.two op a b).1.avs, .int .i64 (VM.two op a b).2]) := by
  have wa := VM.wrong_ok ha
  have wb := VM.wrong_ok hb
  obtain ⟨ka, na, sa⟩ := a
  obtain ⟨kb, nb, sb⟩ := b
  obtain ⟨a1, a2, a3, _, _, a6⟩ := wa
  obtain ⟨b1, b2, b3, _, _, b6⟩ := wb
  simp only at a1 a2 a3 a6 b1 b2 b3 b6
  refine QC.of' fun H nx => cell_Two_calls _ _ _ H nx _ ?_
  by_cases h0 : op < 1 ∨ 5 < op
  · have e : VM.two op ⟨ka, na, sa⟩ ⟨kb, nb, sb⟩ = (VM.vzero, 1) := if_pos h0
    rw [e]
    by_cases h1 : op < 1
    · simp [cell_Two_vc, Val.avs]
      refine JN.same ?_
      simp [cell_Two_b3, h1, cell_Two_j3, VM.vzero]
    · have h2 : 5 < op := by omega
      simp [cell_Two_vc, Val.avs]
      refine JN.same ?_
      simp [cell_Two_b3, h1, h2, cell_Two_j3, VM.vzero]
  have h1 : ¬ op < 1 := by omega
  have h2 : ¬ 5 < op := by omega
  simp [cell_Two_vc, Val.avs]
  refine JN.same ?_
  simp [cell_Two_b3, h1, h2, cell_Two_j3]
  refine ⟨fun h5 => ?_, fun h5 => ?_⟩
  · refine QC.call (yes_qc _) ?_
    have e : VM.two op ⟨ka, na, sa⟩ ⟨kb, nb, sb⟩ = (VM.bit (decide (ka = kb ∧ na = nb ∧ sa = sb)), 0) := by
      unfold VM.two; rw [if_neg h0, if_pos h5]; simp
    rw [e]
    have e2 : (decide (ka = kb ∧ na = nb ∧ sa = sb)) = (ka == kb && (na == nb && sa == sb)) := by rw [Bool.eq_iff_iff]; simp
    rw [e2]
    simp [cell_Two_k1, Val.avs]
  refine JN.same ?_
  by_cases hk : ka = 1 ∧ kb = 1
  · obtain ⟨rfl, rfl⟩ := hk
    simp [cell_Two_b2, cell_Two_j2]
    refine ⟨fun h => ?_, fun h => ?_⟩
    · subst h
      refine ⟨by omega, ?_⟩
      refine QC.call (text_qc _ (by simp only [maxLen, List.length_append]; omega)) ?_
      have e : VM.two 1 ⟨1, na, sa⟩ ⟨1, nb, sb⟩ = (VM.cText (sa ++ sb), 0) := rfl
      rw [e]
      simp [cell_Two_k2, Val.avs]
    · refine JN.same ?_
      simp [cell_Two_b1, cell_Two_j1, CALL]
      refine ⟨fun h4 => ?_, fun h4 => ?_⟩
      · subst h4
        refine QC.call (yes_qc _) ?_
        have e : VM.two 4 ⟨1, na, sa⟩ ⟨1, nb, sb⟩ = (VM.bit (Op.bytesLess sa sb), 0) := rfl
        rw [e]
        simp [cell_Two_k3, Val.avs]
      · have e : VM.two op ⟨1, na, sa⟩ ⟨1, nb, sb⟩ = (VM.vzero, 11) := by
          unfold VM.two; rw [if_neg h0, if_neg h5, if_neg (by simp [h]), if_neg (by simp [h4]), if_pos (by simp)]
        rw [e]
        simp [VM.vzero]
  have e1 : VM.two op ⟨ka, na, sa⟩ ⟨kb, nb, sb⟩ = if ka ≠ 0 ∨ kb ≠ 0 then (VM.vzero, 11) else if op = 1 then (VM.cInt (na + nb), 0) else if op = 2 then (VM.cInt (na - nb), 0) else if op = 3 then (VM.cInt (na * nb), 0) else (VM.bit (decide (na < nb)), 0) := by
    unfold VM.two; rw [if_neg h0, if_neg h5, if_neg (fun h => hk h.1), if_neg (fun h => hk h.1)]
  generalize VM.two op ⟨ka, na, sa⟩ ⟨kb, nb, sb⟩ = r at *
  have fin : ∀ H2 : Heap, H2 nx = some (.row 3 [.int .i64 ka, .int .i64 na, .str sa]) → H2 (nx + 1) = some (.row 3 [.int .i64 kb, .int .i64 nb, .str sb]) → H2 (nx + 2) = some (.row 3 [.int .i64 0, .int .i64 0, .str []]) → Keep nx H2 H →
      cell_Two_j1 (fun v H' _ => Frz H' nx v (.tup [.agg r.1.avs, .int .i64 r.2]) ∧ Keep nx H' H)
        [.int .i64 op, .ptr nx 0, .ptr (nx + 1) 0, .ptr (nx + 2) 0, .clo 36 [], .bool false] H2 (nx + 3) := by
    intro H2 g1 g2 g3 hK
    rw [e1]
    by_cases hka : ka = 0
    · by_cases hkb : kb = 0
      · obtain ⟨p1, p2⟩ := a2 hka
        obtain ⟨q1, q2⟩ := b2 hkb
        subst hka hkb
        have hmul : -1152921504606846976 ≤ na * nb ∧ na * nb ≤ 1152921504606846976 := by
          have m1 : na * nb ≤ 1073741824 * 1073741824 := by
            rcases Int.le_total 0 na with h | h <;> rcases Int.le_total 0 nb with h' | h'
            · exact Int.mul_le_mul p2 q2 h' (by omega)
            · have := Int.mul_nonpos_of_nonneg_of_nonpos h h'; omega
            · have := Int.mul_nonpos_of_nonpos_of_nonneg h h'; omega
            · have : (-na) * (-nb) ≤ 1073741824 * 1073741824 := Int.mul_le_mul (by omega) (by omega) (by omega) (by omega)
              rwa [Int.neg_mul_neg] at this
          have m2 : -(na * nb) ≤ 1073741824 * 1073741824 := by
            rcases Int.le_total 0 na with h | h <;> rcases Int.le_total 0 nb with h' | h'
            · have := Int.mul_nonneg h h'; omega
            · have : na * (-nb) ≤ 1073741824 * 1073741824 := Int.mul_le_mul (by omega) (by omega) (by omega) (by omega)
              rwa [Int.mul_neg] at this
            · have : (-na) * nb ≤ 1073741824 * 1073741824 := Int.mul_le_mul (by omega) (by omega) (by omega) (by omega)
              rwa [Int.neg_mul] at this
            · have := Int.mul_nonneg_of_nonpos_of_nonpos h h'; omega
          omega
        have w1 : IntKind.i64.wrap (na + nb) = na + nb := i64w (by omega)
        have w2 : IntKind.i64.wrap (na - nb) = na - nb := i64w (by omega)
        have w3 : IntKind.i64.wrap (na * nb) = na * nb := i64w (by omega)
        simp [cell_Two_j1, g1, g2, w1, w2, w3, CALL]
        refine ⟨fun h => ?_, fun h => ⟨fun h' => ?_, fun h' => ⟨fun h'' => ?_, fun h'' => ?_⟩⟩⟩
        · refine QC.call (int_qc _) ?_
          simp [cell_Two_k4, g3, Val.avs, h, hK, Keep.put]
        · refine QC.call (int_qc _) ?_
          simp [cell_Two_k5, g3, Val.avs, h, h', hK, Keep.put]
        · refine QC.call (int_qc _) ?_
          simp [cell_Two_k6, g3, Val.avs, h, h', h'', hK, Keep.put]
        · refine QC.call (yes_qc _) ?_
          simp [cell_Two_k7, g3, Val.avs, h, h', h'', hK, Keep.put]
      · simp [cell_Two_j1, g1, g2, g3, hka, hkb, VM.vzero, hK, Keep.put, Val.avs]
    · simp [cell_Two_j1, g1, g2, g3, hka, VM.vzero, hK, Keep.put, Val.avs]
  by_cases hka : ka = 1
  · have hkb : ¬ kb = 1 := fun h => hk ⟨hka, h⟩
    simp [cell_Two_b2, cell_Two_j2, hka, hkb]
    refine JN.same ?_
    simp [cell_Two_b1, hka, hkb]
    exact fin _ (by simp [hka]) (by simp) (by simp) (by simp)
  · simp [cell_Two_b2, cell_Two_j2, hka]
    refine JN.same ?_
    simp [cell_Two_b1, hka]
    exact fin _ (by simp) (by simp) (by simp) (by simp)
end Go.Proofs.YtejohcohkgcmhaaDoor
namespace Go.Proofs.YtejohcohkgcmhaaDoor
open Go Go.RowKit

set_option maxHeartbeats 4000000 in
theorem two1_qc (op : Int) (a b : Val) (N M : Int) (ha : VM.wrong a N = 0) (hb : VM.wrong b M = 0) : QC Tryd.prog 14 [.int .i64 op, .agg a.avs, .agg b.avs] (.tup [.agg (VM.two op a b).1.avs, .int .i64 (VM.two op a b).2]) := by
  have wa := VM.wrong_ok ha
  have wb := VM.wrong_ok hb
  obtain ⟨ka, na, sa⟩ := a
  obtain ⟨kb, nb, sb⟩ := b
  obtain ⟨a1, a2, a3, _, _, a6⟩ := wa
  obtain ⟨b1, b2, b3, _, _, b6⟩ := wb
  simp only at a1 a2 a3 a6 b1 b2 b3 b6
  refine QC.of' fun H nx => zwref1_Two_calls _ _ _ H nx _ ?_
  by_cases h0 : op < 1 ∨ 5 < op
  · have e : VM.two op ⟨ka, na, sa⟩ ⟨kb, nb, sb⟩ = (VM.vzero, 1) := if_pos h0
    rw [e]
    by_cases h1 : op < 1
    · simp [zwref1_Two_vc, Val.avs]
      refine JN.same ?_
      simp [zwref1_Two_b2, h1, zwref1_Two_j2, VM.vzero]
    · have h2 : 5 < op := by omega
      simp [zwref1_Two_vc, Val.avs]
      refine JN.same ?_
      simp [zwref1_Two_b2, h1, h2, zwref1_Two_j2, VM.vzero]
  have h1 : ¬ op < 1 := by omega
  have h2 : ¬ 5 < op := by omega
  simp [zwref1_Two_vc, Val.avs]
  refine JN.same ?_
  simp [zwref1_Two_b2, h1, h2, zwref1_Two_j2, CALL]
  refine ⟨fun h5 => ?_, fun h5 => ?_⟩
  · have e : VM.two op ⟨ka, na, sa⟩ ⟨kb, nb, sb⟩ = (VM.bit (decide (ka = kb ∧ na = nb ∧ sa = sb)), 0) := by
      unfold VM.two; rw [if_neg h0, if_pos h5]; simp
    rw [e]
    refine ⟨fun g1 => ⟨fun g2 => ?_, fun g2 => ?_⟩, fun g1 => ?_⟩
    · refine QC.call (bit_qc _) ?_
      simp [zwref1_Two_k1, Val.avs, g1, g2]
    · refine QC.call (bit_qc _) ?_
      simp [zwref1_Two_k2, Val.avs, g1, g2]
    · refine QC.call (bit_qc _) ?_
      simp [zwref1_Two_k3, Val.avs, g1]
  refine JN.same ?_
  have rest : ¬ (ka = 1 ∧ kb = 1 ∧ (op = 1 ∨ op = 4)) → ∀ H2 : Heap, H2 nx = some (.row 3 [.int .i64 ka, .int .i64 na, .str sa]) → H2 (nx + 1) = some (.row 3 [.int .i64 kb, .int .i64 nb, .str sb]) → H2 (nx + 2) = some (.row 3 [.int .i64 0, .int .i64 0, .str []]) → Keep nx H2 H →
      zwref1_Two_j1 (fun v H' _ => Frz H' nx v (.tup [.agg (VM.two op ⟨ka, na, sa⟩ ⟨kb, nb, sb⟩).1.avs, .int .i64 (VM.two op ⟨ka, na, sa⟩ ⟨kb, nb, sb⟩).2]) ∧ Keep nx H' H)
        [.int .i64 op, .ptr nx 0, .ptr (nx + 1) 0, .ptr (nx + 2) 0, .clo 37 []] H2 (nx + 3) := by
    intro hk H2 g1 g2 g3 hK
    have e1 : VM.two op ⟨ka, na, sa⟩ ⟨kb, nb, sb⟩ = if ka ≠ 0 ∨ kb ≠ 0 then (VM.vzero, 11) else if op = 1 then (VM.cInt (na + nb), 0) else if op = 2 then (VM.cInt (na - nb), 0) else if op = 3 then (VM.cInt (na * nb), 0) else (VM.bit (decide (na < nb)), 0) := by
      unfold VM.two; rw [if_neg h0, if_neg h5, if_neg (fun h => hk ⟨h.1.1, h.1.2, .inl h.2⟩), if_neg (fun h => hk ⟨h.1.1, h.1.2, .inr h.2⟩)]
    rw [e1]
    have w0 : IntKind.i64.wrap (ka + kb) = ka + kb := i64w (by omega)
    by_cases hka : ka = 0
    · by_cases hkb : kb = 0
      · obtain ⟨p1, p2⟩ := a2 hka
        obtain ⟨q1, q2⟩ := b2 hkb
        subst hka hkb
        have hmul : -1152921504606846976 ≤ na * nb ∧ na * nb ≤ 1152921504606846976 := by
          have m1 : na * nb ≤ 1073741824 * 1073741824 := by
            rcases Int.le_total 0 na with h | h <;> rcases Int.le_total 0 nb with h' | h'
            · exact Int.mul_le_mul p2 q2 h' (by omega)
            · have := Int.mul_nonpos_of_nonneg_of_nonpos h h'; omega
            · have := Int.mul_nonpos_of_nonpos_of_nonneg h h'; omega
            · have : (-na) * (-nb) ≤ 1073741824 * 1073741824 := Int.mul_le_mul (by omega) (by omega) (by omega) (by omega)
              rwa [Int.neg_mul_neg] at this
          have m2 : -(na * nb) ≤ 1073741824 * 1073741824 := by
            rcases Int.le_total 0 na with h | h <;> rcases Int.le_total 0 nb with h' | h'
            · have := Int.mul_nonneg h h'; omega
            · have : na * (-nb) ≤ 1073741824 * 1073741824 := Int.mul_le_mul (by omega) (by omega) (by omega) (by omega)
              rwa [Int.mul_neg] at this
            · have : (-na) * nb ≤ 1073741824 * 1073741824 := Int.mul_le_mul (by omega) (by omega) (by omega) (by omega)
              rwa [Int.neg_mul] at this
            · have := Int.mul_nonneg_of_nonpos_of_nonpos h h'; omega
          omega
        have w1 : IntKind.i64.wrap (na + nb) = na + nb := i64w (by omega)
        have w2 : IntKind.i64.wrap (na - nb) = na - nb := i64w (by omega)
        have w3 : IntKind.i64.wrap (na * nb) = na * nb := i64w (by omega)
        have w4 : IntKind.i64.wrap 0 = 0 := i64w (by omega)
        simp [zwref1_Two_j1, g1, g2, w1, w2, w3, w4, CALL]
        refine ⟨fun h => ?_, fun h => ⟨fun h' => ?_, fun h' => ⟨fun h'' => ?_, fun h'' => ?_⟩⟩⟩
        · refine QC.call (int1_qc _ (by simp only [I64]; omega)) ?_
          simp [zwref1_Two_k4, g3, Val.avs, h, hK, Keep.put]
        · refine QC.call (int1_qc _ (by simp only [I64]; omega)) ?_
          simp [zwref1_Two_k5, g3, Val.avs, h', hK, Keep.put]
        · refine QC.call (int1_qc _ (by simp only [I64]; omega)) ?_
          simp [zwref1_Two_k6, g3, Val.avs, h'', hK, Keep.put]
        · refine QC.call (bit_qc _) ?_
          simp [zwref1_Two_k7, g3, Val.avs, h, h', h'', hK, Keep.put]
      · have : ¬ ka + kb = 0 := by omega
        have n0 : ¬ kb = 0 := hkb
        subst hka
        simp only [Int.zero_add] at w0
        simp [zwref1_Two_j1, g1, g2, g3, w0, hkb, VM.vzero, hK, Keep.put, Val.avs]
    · have : ¬ ka + kb = 0 := by omega
      simp [zwref1_Two_j1, g1, g2, g3, w0, this, hka, VM.vzero, hK, Keep.put, Val.avs]
  by_cases hk : ka = 1 ∧ kb = 1
  · obtain ⟨rfl, rfl⟩ := hk
    simp [zwref1_Two_b1, CALL]
    refine ⟨fun h => ?_, fun h => ⟨fun h4 => ?_, fun h4 => ?_⟩⟩
    · subst h
      refine ⟨by omega, ?_⟩
      refine QC.call (text1_qc _ (by simp only [maxLen, List.length_append]; omega)) ?_
      have e : VM.two 1 ⟨1, na, sa⟩ ⟨1, nb, sb⟩ = (VM.cText (sa ++ sb), 0) := rfl
      rw [e]
      simp [zwref1_Two_k8, Val.avs]
    · subst h4
      refine QC.call (bit_qc _) ?_
      have e : VM.two 4 ⟨1, na, sa⟩ ⟨1, nb, sb⟩ = (VM.bit (Op.bytesLess sa sb), 0) := rfl
      rw [e]
      simp [zwref1_Two_k9, Val.avs]
    · exact rest (by rintro ⟨_, _, h' | h'⟩ <;> contradiction) _ (by simp) (by simp) (by simp) (by simp)
  · have rest' := rest (fun h => hk ⟨h.1, h.2.1⟩)
    by_cases hka : ka = 1
    · have hkb : ¬ kb = 1 := fun h => hk ⟨hka, h⟩
      simp [zwref1_Two_b1, hka, hkb]
      rw [hka] at rest'
      exact rest' _ (by simp) (by simp) (by simp) (by simp)
    · simp [zwref1_Two_b1, hka]
      exact rest' _ (by simp) (by simp) (by simp) (by simp)
end Go.Proofs.YtejohcohkgcmhaaDoor
namespace Go.Proofs.YtejohcohkgcmhaaDoor
open Go Go.RowKit

theorem same_step {α : Type} {a b : List α} {i : Nat} (h1 : i < a.length) (h2 : i < b.length) : (a.drop i = b.drop i) ↔ (a[i] = b[i] ∧ a.drop (i + 1) = b.drop (i + 1)) := by
  rw [List.drop_eq_getElem_cons h1, List.drop_eq_getElem_cons h2, List.cons.injEq]
set_option maxHeartbeats 1000000 in
theorem sameV_qc (a b : List Val) (ha : a.length ≤ 4611686018427387904) : QC Tryd.prog 20 [.ro (a.map Val.avs), .ro (b.map Val.avs)] (.bool (decide (a = b))) := by
  refine fun H nx => zwref1_SameValues_calls _ _ H nx _ ?_
  by_cases hl : a.length = b.length
  case neg =>
    have : ¬ ((a.length : Int) = b.length) := by omega
    have hab : ¬ a = b := fun h => hl (by rw [h])
    simp [zwref1_SameValues_vc, this, hab]
  simp [zwref1_SameValues_vc, hl]
  refine LP.mk (fun m xs H' nx' => ∃ i : Nat, i ≤ b.length ∧ m = b.length - i ∧ xs = [.ro (a.map Val.avs), .ro (b.map Val.avs), .int .i64 b.length, .int .i64 i] ∧ H = H' ∧ nx = nx' ∧ (a = b ↔ a.drop i = b.drop i)) b.length ⟨0, by omega, by omega, rfl, rfl, rfl, by simp⟩ ?_
  rintro m xs H' nx' ⟨i, hi, rfl, rfl, rfl, rfl, hd⟩
  by_cases h : i < b.length
  · have h1 : i < a.length := by omega
    have hia : a[i]? = some a[i] := List.getElem?_eq_getElem h1
    have hib : b[i]? = some b[i] := List.getElem?_eq_getElem h
    rw [same_step h1 h] at hd
    generalize a[i] = x at *
    generalize b[i] = y at *
    obtain ⟨_, hia'⟩ := List.getElem?_eq_some_iff.1 hia
    obtain ⟨_, hib'⟩ := List.getElem?_eq_some_iff.1 hib
    clear hia hib
    obtain ⟨kx, nx', sx⟩ := x
    obtain ⟨ky, ny, sy⟩ := y
    simp [zwref1_SameValues_l1, h, h1, hl, hia', hib', Val.avs]
    refine ⟨fun hne => ?_, fun h1 h2 h3 => ?_⟩
    · rw [hd]
      rintro ⟨he, _⟩
      cases he
      simp at hne
    · subst h1 h2 h3
      rw [i64w (by omega)]
      exact ⟨b.length - (i + 1), by omega, i + 1, by omega, rfl, by simp, by rw [hd]; simp⟩
  · simp [zwref1_SameValues_l1, h]
    rw [hd, List.drop_of_length_le (by omega), List.drop_of_length_le (by omega)]
set_option maxHeartbeats 1000000 in
theorem sameC_qc (a b : List Cl) (ha : a.length ≤ 4611686018427387904) : QC Tryd.prog 21 [.ro (a.map Cl.avs), .ro (b.map Cl.avs)] (.bool (decide (a = b))) := by
  refine fun H nx => zwref1_SameCells_calls _ _ H nx _ ?_
  by_cases hl : a.length = b.length
  case neg =>
    have : ¬ ((a.length : Int) = b.length) := by omega
    have hab : ¬ a = b := fun h => hl (by rw [h])
    simp [zwref1_SameCells_vc, this, hab]
  simp [zwref1_SameCells_vc, hl]
  refine LP.mk (fun m xs H' nx' => ∃ i : Nat, i ≤ b.length ∧ m = b.length - i ∧ xs = [.ro (a.map Cl.avs), .ro (b.map Cl.avs), .int .i64 b.length, .int .i64 i] ∧ H = H' ∧ nx = nx' ∧ (a = b ↔ a.drop i = b.drop i)) b.length ⟨0, by omega, by omega, rfl, rfl, rfl, by simp⟩ ?_
  rintro m xs H' nx' ⟨i, hi, rfl, rfl, rfl, rfl, hd⟩
  by_cases h : i < b.length
  · have h1 : i < a.length := by omega
    have hia : a[i]? = some a[i] := List.getElem?_eq_getElem h1
    have hib : b[i]? = some b[i] := List.getElem?_eq_getElem h
    rw [same_step h1 h] at hd
    generalize a[i] = x at *
    generalize b[i] = y at *
    obtain ⟨_, hia'⟩ := List.getElem?_eq_some_iff.1 hia
    obtain ⟨_, hib'⟩ := List.getElem?_eq_some_iff.1 hib
    clear hia hib
    obtain ⟨⟨kx, nx', sx⟩, ⟨kx2, nx2, sx2⟩⟩ := x
    obtain ⟨⟨ky, ny, sy⟩, ⟨ky2, ny2, sy2⟩⟩ := y
    simp [zwref1_SameCells_l1, h, h1, hl, hia', hib', Cl.avs, Val.avs]
    refine ⟨fun hne => ?_, fun h1 h2 h3 h4 h5 h6 => ?_⟩
    · rw [hd]
      rintro ⟨he, _⟩
      cases he
      simp at hne
    · subst h1 h2 h3 h4 h5 h6
      rw [i64w (by omega)]
      exact ⟨b.length - (i + 1), by omega, i + 1, by omega, rfl, by simp, by rw [hd]; simp⟩
  · simp [zwref1_SameCells_l1, h]
    rw [hd, List.drop_of_length_le (by omega), List.drop_of_length_le (by omega)]

theorem all_step {α : Type} {p : α → Bool} {a : List α} {i : Nat} (h1 : i < a.length) : (a.drop i).all p = (p a[i] && (a.drop (i + 1)).all p) := by
  rw [List.drop_eq_getElem_cons h1, List.all_cons]
set_option maxHeartbeats 1000000 in
theorem right_qc (h : List Cl) (l : List Val) (hh : h.length ≤ 4611686018427387904) (hl : l.length ≤ 4611686018427387904) : QC Tryd.prog 15 [.ro (h.map Cl.avs), .ro (l.map Val.avs)] (.bool (VM.right h l)) := by
  refine QC.of' fun H nx => zwref1_Right_calls _ _ H nx _ ?_
  simp [zwref1_Right_vc]
  refine LP.mk (fun m xs H' nx' => ∃ i : Nat, i ≤ l.length ∧ m = l.length - i ∧ xs = [.ro (h.map Cl.avs), .ro (l.map Val.avs), .int .i64 l.length, .int .i64 i] ∧ Keep nx H' H ∧ nx ≤ nx' ∧ VM.right h l = VM.right h (l.drop i)) l.length ⟨0, by omega, by omega, rfl, by simp, by omega, by simp⟩ ?_
  rintro m xs H1 n1 ⟨i, hi, rfl, rfl, hK, hn, hd⟩
  by_cases hi2 : i < l.length
  · have hia : l[i]? = some l[i] := List.getElem?_eq_getElem hi2
    have hd' : VM.right h l = (decide (VM.wrong l[i] h.length = 0) && VM.right h (l.drop (i + 1))) := by
      rw [hd]; unfold VM.right; rw [all_step hi2, Bool.and_assoc]
    generalize l[i] = x at *
    obtain ⟨_, hia'⟩ := List.getElem?_eq_some_iff.1 hia
    clear hia
    obtain ⟨kx, mx, sx⟩ := x
    simp [zwref1_Right_l2, hi2, hia', Val.avs]
    refine QC.call (wrong1_qc ⟨kx, mx, sx⟩ h.length) ?_
    have hK2 : Keep nx (H1.put n1 (some (.row 3 [.int .i64 kx, .int .i64 mx, .str sx]))) H := by rw [Keep.put hn]; exact hK
    simp [zwref1_Right_k1]
    refine ⟨fun hw => ?_, fun hw => ?_⟩
    · exact ⟨by rw [hd']; simp [hw], hK2⟩
    · rw [i64w (by omega)]
      exact ⟨l.length - (i + 1), by omega, i + 1, by omega, rfl, by simp, hK2, by omega, by rw [hd']; simp [hw]⟩
  obtain rfl : i = l.length := by omega
  have hd2 : VM.right h l = h.all (fun c => decide (VM.wrong c.left h.length = 0) && decide (VM.wrong c.right h.length = 0)) := by
    rw [hd]; unfold VM.right; simp
  simp [zwref1_Right_l2]
  refine LP.mk (fun m xs H' nx' => ∃ i : Nat, i ≤ h.length ∧ m = h.length - i ∧ xs = [.ro (h.map Cl.avs), .ro (h.map Cl.avs), .int .i64 h.length, .int .i64 i] ∧ Keep nx H' H ∧ nx ≤ nx' ∧ VM.right h l = (h.drop i).all (fun c => decide (VM.wrong c.left h.length = 0) && decide (VM.wrong c.right h.length = 0))) h.length ⟨0, by omega, by omega, rfl, hK, by omega, by simpa using hd2⟩ ?_
  rintro m xs H2 n2 ⟨j, hj, rfl, rfl, hK, hn, hd⟩
  by_cases hj2 : j < h.length
  · have hia : h[j]? = some h[j] := List.getElem?_eq_getElem hj2
    rw [all_step hj2] at hd
    generalize h[j] = x at *
    obtain ⟨_, hia'⟩ := List.getElem?_eq_some_iff.1 hia
    clear hia
    obtain ⟨⟨kx, mx, sx⟩, ⟨ky, my, sy⟩⟩ := x
    simp [zwref1_Right_l1, hj2, hia', Cl.avs, Val.avs]
    refine QC.call (wrong1_qc ⟨kx, mx, sx⟩ h.length) ?_
    have hK2 : Keep nx (H2.put n2 (some (.row 6 [.int .i64 kx, .int .i64 mx, .str sx, .int .i64 ky, .int .i64 my, .str sy]))) H := by rw [Keep.put hn]; exact hK
    simp [zwref1_Right_k3]
    refine ⟨fun hw => ?_, fun hw => ?_⟩
    · exact ⟨by rw [hd]; simp [hw], hK2⟩
    refine QC.call (wrong1_qc ⟨ky, my, sy⟩ h.length) ?_
    simp [zwref1_Right_k2]
    refine ⟨fun hw2 => ?_, fun hw2 => ?_⟩
    · exact ⟨by rw [hd]; simp [hw2], hK2⟩
    · rw [i64w (by omega)]
      exact ⟨h.length - (j + 1), by omega, j + 1, by omega, rfl, by simp, hK2, by omega, by rw [hd]; simp [hw, hw2]⟩
  · obtain rfl : j = h.length := by omega
    simp [zwref1_Right_l1, hK]
    rw [hd]; simp
end Go.Proofs.YtejohcohkgcmhaaDoor
namespace Go.Proofs.YtejohcohkgcmhaaDoor
open Go Go.RowKit

theorem canon_qc (h : List Cl) (l : List Val) (hr : VM.right h l = true) (hs : h.length * 64 ≤ 140737488355328) (hl : l.length * 32 ≤ 140737488355328) : QC Tryd.prog 16 [.ro (h.map Cl.avs), .ro (l.map Val.avs)] (.tup [.ro ((VM.canonV h l).map Val.avs), .ro ((VM.canonC h l).map Cl.avs)]) :=
  QC.of' fun H nx => canon_ac h l hr hs hl .ro .ro
def aliveH : List Cl := [⟨VM.cInt 9, VM.vzero⟩, ⟨VM.cText [97], ⟨2, 1, []⟩⟩]
def aliveL : List Val := [⟨2, 1, []⟩]
set_option maxHeartbeats 2000000 in
set_option maxRecDepth 20000 in
theorem alive_qc : QC Tryd.prog 22 [] (.bool true) := by
  refine QC.of' fun H nx => zwlaw1_alive_calls H nx _ ?_
  refine QC.call (int_qc 2) ?_
  refine QC.call (int_qc 3) ?_
  refine QC.call (two_qc 1 (VM.cInt 2) (VM.cInt 3) 0 0 (by decide) (by decide)) ?_
  have e : VM.two 1 (VM.cInt 2) (VM.cInt 3) = (⟨0, 5, []⟩, 0) := by decide
  rw [e]
  simp [zwlaw1_alive_k7, Val.avs]
  refine QC.call (int_qc 9) ?_
  refine QC.call (text_qc [97] (by simp [maxLen])) ?_
  have e1 : VM.cInt 9 = ⟨0, 9, []⟩ := by decide
  have e2 : VM.cText [97] = ⟨1, 0, [97]⟩ := by decide
  simp [zwlaw1_alive_k5, Val.avs, e1, e2]
  have f1 : nx ≠ nx + 1 + 1 := by omega
  have f2 : nx ≠ nx + 1 := by omega
  have f3 : nx + 1 ≠ nx + 1 + 1 := by omega
  have rH : ∀ n, nx + 1 < n → ∀ H', H' (nx + 1) = some (AObj.row 6 (rowC aliveH)) → RowArg H' n 6 (aliveH.map Cl.avs) (.slc (nx + 1) 0 2) := fun n hn H' h => .slc (nx + 1) hn h
  have rL : ∀ n, nx + 1 + 1 < n → ∀ H', H' (nx + 1 + 1) = some (AObj.row 3 (rowV aliveL)) → RowArg H' n 3 (aliveL.map Val.avs) (.slc (nx + 1 + 1) 0 1) := fun n hn H' h => .slc (nx + 1 + 1) hn h
  have cH : rowC aliveH = [AV.int IntKind.i64 0, AV.int IntKind.i64 9, AV.str [], AV.int IntKind.i64 0, AV.int IntKind.i64 0, AV.str [], AV.int IntKind.i64 1, AV.int IntKind.i64 0, AV.str [97], AV.int IntKind.i64 2, AV.int IntKind.i64 1, AV.str []] := by
    simp [rowC, aliveH, e1, e2, Cl.avs, Val.avs, VM.vzero]
  have cL : rowV aliveL = [AV.int IntKind.i64 2, AV.int IntKind.i64 1, AV.str []] := by simp [rowV, aliveL, Val.avs]
  refine ACalls.pure_call (canon_ac aliveH aliveL (by decide) (by simp [aliveH]) (by simp [aliveL]) (rH _ (by omega) _ (by simp [f3, cH])) (rL _ (by omega) _ (by simp [cL]))) ?_
  have e3 : VM.canonV aliveH aliveL = [⟨2, 0, []⟩] := by decide
  have e4 : VM.canonC aliveH aliveL = [⟨⟨1, 0, [97]⟩, ⟨2, 0, []⟩⟩] := by decide
  rw [e3, e4]
  simp [zwlaw1_alive_k4, Val.avs, Cl.avs, f1, f2]
  have e5 : VM.cInt 5 = ⟨0, 5, []⟩ := by decide
  refine CALLD.of_qc (int_qc 5) (.agg _ fun j x hx => scal_bel (scal_val _ x (List.mem_of_getElem? hx))) ?_
  simp [zwlaw1_alive_k3, Val.avs, e5, f1, f2]
  have okA : OkCells aliveH := VM.right_okC (l := []) (by decide)
  refine CALLD.of_qcr [nx + 1] (by simp [f3]) (fun H' n' ha => QC.reads (show_qc okA 2 ⟨2, 1, []⟩ 2 (VM.wrong_ok (by decide)) rfl (by omega) (by omega)) (by simp) (.cons (RowArg.frzC (nx := n') (l := aliveH) (rH _ (ha _ (by simp)).2 _ ?_)) (.cons (.same _ ?_) (.cons (.same _ ?_) .nil)))) (.str _) ?_
  · rw [(ha _ (by simp)).1]; simp [f3, cH]
  · exact .agg _ fun j x hx => scal_bel (scal_val ⟨2, 1, []⟩ x (List.mem_of_getElem? hx))
  · exact .int _ _
  have e6 : VM.vshow aliveH 2 ⟨2, 1, []⟩ = [40, 97, 32, 40, 97, 32, 46, 46, 41, 41] := by decide
  simp [zwlaw1_alive_k2, e6]
  refine CALLD.of_qc (wrong_qc ⟨2, 2, []⟩ 2) (.int _ _) ?_
  have e7 : VM.wrong ⟨2, 2, []⟩ 2 = 6 := by decide
  rw [e7]
  simp [zwlaw1_alive_k1]
  intro g hg
  rw [Heap.put_ne _ _ (by omega), Heap.put_ne _ _ (by omega), Heap.put_ne _ _ (by omega)]
end Go.Proofs.YtejohcohkgcmhaaDoor
namespace Go.Proofs.YtejohcohkgcmhaaDoor
open Go Go.RowKit

theorem scal_belV (v : Val) {A : Nat → Prop} : Bel A (.agg v.avs) := .agg _ fun j x hx => scal_bel (scal_val _ x (List.mem_of_getElem? hx))
set_option maxHeartbeats 2000000 in
set_option maxRecDepth 20000 in
theorem cellCanon_qc (h : List Cl) (l : List Val) (deep : Int) (hs : h.length * 64 ≤ 140737488355328) (hl : l.length * 32 ≤ 140737488355328) (hd : I64 deep) : QC Tryd.prog 4 [.ro (h.map Cl.avs), .ro (l.map Val.avs), .int .i64 deep] (.bool true) := by
  refine QC.of' fun H nx => zwlaw1_CellCanon_calls _ _ _ H nx _ ?_
  refine QC.call alive_qc ?_
  simp [zwlaw1_CellCanon_k9]
  refine QC.call (right_qc h l (by omega) (by omega)) ?_
  cases hr : VM.right h l with
  | false => simp [zwlaw1_CellCanon_k8]
  | true =>
    by_cases h5 : 5 < deep
    · simp [zwlaw1_CellCanon_k8, h5]
    obtain ⟨p1, p2, p3, p4, p5, p6⟩ := VM.canon_law hr
    simp [zwlaw1_CellCanon_k8, h5]
    refine QC.call (canon_qc h l hr hs hl) ?_
    have hnl : ¬ h.length < (VM.canonC h l).length := by omega
    simp [zwlaw1_CellCanon_k7, p1, hnl]
    refine QC.call (right_qc (VM.canonC h l) (VM.canonV h l) (by omega) (by omega)) ?_
    simp [zwlaw1_CellCanon_k6, p3]
    have okh : OkCells h := VM.right_okC hr
    have okk : OkCells (VM.canonC h l) := VM.right_okC p3
    have okl := VM.right_okV hr
    have okx := VM.right_okV p3
    refine LP.mk (fun m xs H' n' => ∃ i : Nat, m = l.length - i ∧ i ≤ l.length ∧ H' = H ∧ n' = nx ∧ xs = [.ro (h.map Cl.avs), .ro (l.map Val.avs), .int .i64 deep, .ro ((VM.canonV h l).map Val.avs), .ro ((VM.canonC h l).map Cl.avs), .int .i64 l.length, .int .i64 i]) l.length ⟨0, by omega, by omega, rfl, rfl, rfl⟩ ?_
    rintro m xs H' n' ⟨i, rfl, hi, rfl, rfl, rfl⟩
    by_cases hil : i < l.length
    case neg =>
      obtain rfl : i = l.length := by omega
      simp [zwlaw1_CellCanon_l1]
      refine QC.call (canon_qc _ _ p3 (by omega) (by omega)) ?_
      rw [p5, p6]
      simp [zwlaw1_CellCanon_k5]
      refine QC.call (sameV_qc _ _ (by omega)) ?_
      simp [zwlaw1_CellCanon_k4]
      refine QC.call (sameC_qc _ _ (by omega)) ?_
      simp [zwlaw1_CellCanon_k3]
    have hv : l[i]? = some l[i] := List.getElem?_eq_getElem hil
    obtain ⟨u, hu, hshow⟩ := p4 deep.toNat i _ hv
    have w1 := okl _ (List.mem_of_getElem? hv)
    have w2 := okx _ (List.mem_of_getElem? hu)
    obtain ⟨hu1, hu2⟩ := List.getElem?_eq_some_iff.1 hu
    simp [zwlaw1_CellCanon_l1, hil]
    have t1 : l[i].avs.take 3 = l[i].avs := rfl
    have t2 : u.avs.take 3 = u.avs := rfl
    rw [t1]
    refine CALLD.of_qc (show1_qc okh deep.toNat l[i] deep w1 rfl (by omega) (by unfold I64 at hd; omega)) (.str _) ?_
    simp [zwlaw1_CellCanon_k2, hu]
    refine ⟨by omega, ?_⟩
    rw [t2]
    refine CALLD.of_qc (show1_qc okk deep.toNat u deep w2 rfl (by omega) (by unfold I64 at hd; omega)) (.str _) ?_
    rw [hshow]
    simp [zwlaw1_CellCanon_k1]
    rw [i64w (by omega)]
    exact ⟨_, by omega, i + 1, rfl, by omega, by simp⟩
end Go.Proofs.YtejohcohkgcmhaaDoor
namespace Go.Proofs.YtejohcohkgcmhaaDoor
open Go Go.RowKit

/-- A row that is built by appending: k parts so far, in memory from lo on. -/
def Grow (H : Heap) (lo n sz k : Nat) (cells : List AV) (a : AV) : Prop := (k = 0 ∧ a = .nils) ∨ (0 < k ∧ ∃ g, lo ≤ g ∧ g < n ∧ a = .slc g 0 k ∧ H g = some (.row sz cells))
theorem Grow.zero {H : Heap} {lo n sz : Nat} {cells : List AV} : Grow H lo n sz 0 cells .nils := .inl ⟨rfl, rfl⟩
theorem Grow.more {H H' : Heap} {lo n n' sz k : Nat} {cells : List AV} {a : AV} (h : Grow H lo n sz k cells a) (hn : n ≤ n') (hk : ∀ g, lo ≤ g → g < n → H' g = H g) : Grow H' lo n' sz k cells a := by
  rcases h with h | ⟨h0, g, h1, h2, h3, h4⟩
  · exact .inl h
  · exact .inr ⟨h0, g, h1, by omega, h3, by rw [hk g h1 h2]; exact h4⟩
theorem Grow.len {H : Heap} {lo n sz k : Nat} {cells : List AV} {a : AV} (h : Grow H lo n sz k cells a) {q : AV → Prop} : LNL a q = q (.int .i64 k) := by
  rcases h with ⟨rfl, rfl⟩ | ⟨h0, g, h1, h2, rfl, h4⟩ <;> simp
theorem Grow.app {H : Heap} {lo n sz k bytes t nx : Nat} {cells new : List AV} {a : AV} {kk : AV → Heap → Nat → Prop} (hg : Grow H lo n sz k cells a) (hlen : cells.length = k * sz) (ht : H t = some (.row sz new)) (hnl : new.length = sz) (hone : new.all AV.one = true)
    (hb : (k + 1) * bytes ≤ 140737488355328) (hn : n ≤ nx) (hlo : lo ≤ nx) (hk : ∀ H', Keep lo H' H → Grow H' lo (nx + 1) sz (k + 1) (cells ++ new) (.slc nx 0 (k + 1)) → kk (.slc nx 0 (k + 1)) H' (nx + 1)) : APP sz bytes a (.slc t 0 1) H nx kk := by
  have hs : srcCells sz H (.slc t 0 1) = some (1, new, [t]) := by
    simp only [srcCells, ht]
    rw [if_pos (by omega)]
    simp [← hnl]
  rcases hg with ⟨rfl, rfl⟩ | ⟨h0, g, h1, h2, rfl, h4⟩
  · rw [app_nils, hs, optk]
    have hc : cells = [] := List.eq_nil_of_length_eq_zero (by omega)
    subst hc
    refine ⟨hone, fun h => absurd h Nat.one_ne_zero, fun _ => ?_⟩
    exact ⟨by simpa using hb, hk _ (fun x hx => Heap.put_ne _ _ (by omega)) (.inr ⟨by omega, nx, hlo, by omega, rfl, by rw [Heap.put_at]; rfl⟩)⟩
  · rw [app_slc, hs, optk, h4, rowk]
    refine ⟨rfl, hone, by omega, hb, hk _ (fun x hx => ?_) (.inr ⟨by omega, nx, hlo, by omega, rfl, ?_⟩)⟩
    · rw [Heap.put_ne _ _ (by omega), Heap.put_ne _ _ (by omega)]
    · rw [Heap.put_at, List.drop_zero, List.take_of_length_le (by omega)]
theorem Grow.append {H : Heap} {lo n sz k bytes t nx : Nat} {cells new : List AV} {a : AV} {kt : Kt} (hg : Grow H lo n sz k cells a) (hlen : cells.length = k * sz) (ht : H t = some (.row sz new)) (hnl : new.length = sz) (hone : new.all AV.one = true)
    (hb : (k + 1) * bytes ≤ 140737488355328) (hn : n ≤ nx) (hlo : lo ≤ nx) (hk : ∀ rd D, (∀ g ∈ domD D, lo ≤ g) → Keep lo (H.apply D) H → Grow (H.apply D) lo (nx + 1) sz (k + 1) (cells ++ new) (.slc nx 0 (k + 1)) → kt (.slc nx 0 (k + 1)) rd [nx] D) : APPEND sz bytes a (.slc t 0 1) H nx kt := by
  have hs : srcCells sz H (.slc t 0 1) = some (1, new, [t]) := by
    simp only [srcCells, ht]
    rw [if_pos (by omega)]
    simp [← hnl]
  rcases hg with ⟨rfl, rfl⟩ | ⟨h0, g, h1, h2, rfl, h4⟩
  · rw [append_nils, hs, optk]
    have hc : cells = [] := List.eq_nil_of_length_eq_zero (by omega)
    subst hc
    refine ⟨hone, fun h => absurd h Nat.one_ne_zero, fun _ => ?_⟩
    exact ⟨by simpa using hb, hk _ _ (by simpa using hlo) (fun x hx => Heap.put_ne _ _ (by omega)) (.inr ⟨by omega, nx, hlo, by omega, rfl, by simp only [app_cons, app_nil, Heap.put_at]; rfl⟩)⟩
  · rw [append_slc, hs, optk, h4, rowk]
    refine ⟨rfl, hone, by omega, hb, hk _ _ (by simp; omega) (fun x hx => ?_) (.inr ⟨by omega, nx, hlo, by omega, rfl, ?_⟩)⟩
    · simp only [app_cons, app_nil]; rw [Heap.put_ne _ _ (by omega), Heap.put_ne _ _ (by omega)]
    · simp only [app_cons, app_nil]; rw [Heap.put_at, List.drop_zero, List.take_of_length_le (by omega)]
theorem Grow.frz {H : Heap} {lo n sz k nx : Nat} {cells : List AV} {a : AV} {xs : List (List AV)} (h : Grow H lo n sz k cells a) (hnx : nx ≤ lo) (hl : xs.length = k) (hs : ∀ x ∈ xs, x.length = sz) (hc : xs.flatten = cells) (hb : ∀ c ∈ cells, Bel (· < nx) c) : Frz H nx a (.ro xs) := by
  rcases h with ⟨rfl, rfl⟩ | ⟨h0, g, h1, h2, rfl, h4⟩
  · rw [List.eq_nil_of_length_eq_zero hl]; exact .nils
  · exact Frz.row (by omega) h4 hl hs hc hb
end Go.Proofs.YtejohcohkgcmhaaDoor
namespace Go.Proofs.YtejohcohkgcmhaaDoor
open Go Go.RowKit

theorem refput_pure (v : Val) (o : List Nat) (N : Nat) (hv : VM.WrongOk v N) (hin : VM.In o v) {H : Heap} {nx gp gpl : Nat} (h1 : H gp = some (.row 1 [.slc gpl 0 N])) (h2 : H gpl = some (.row 1 (placeRow o N))) (l1 : gp < nx) (l2 : gpl < nx) :
    ACalls Tryd.prog 41 [.agg v.avs, .ptr gp 0] H nx fun r H' _ => Frz H' nx r (.agg (VM.put o v).avs) ∧ Keep nx H' H :=
  (refput_ac v o N hv hin h1 h2 l1 l2).mono fun r H' _ hh => ⟨by rw [hh.1]; exact .same _ (scal_belV _), hh.2⟩
theorem CALLD.put {v : Val} {o : List Nat} {N : Nat} (hv : VM.WrongOk v N) (hin : VM.In o v) {H : Heap} {gp gpl n : Nat} (h1 : H gp = some (.row 1 [.slc gpl 0 N])) (h2 : H gpl = some (.row 1 (placeRow o N))) {k : Kt} (hk : k (.agg (VM.put o v).avs) [gp, gpl] [] []) :
    CALLD Tryd.prog (.clo 41 [.ptr gp 0]) [.agg v.avs] H n k := by
  refine CALLD.of_qcr [gp, gpl] (by simp [h1, h2]) (fun H' n' ha => ?_) (scal_belV _) hk
  obtain ⟨a1, a2⟩ := ha gp (by simp)
  obtain ⟨a3, a4⟩ := ha gpl (by simp)
  exact ACalls.pure (refput_pure v o N hv hin (by rw [a1]; exact h1) (by rw [a3]; exact h2) a2 a4)
set_option maxHeartbeats 2000000 in
set_option maxRecDepth 20000 in
/-- The cells, numbered. -/
theorem refcanon_out (h : List Cl) (F : List Nat) (hF : VM.Good h.length F) (hok : OkCells h) (hsh : VM.Shut h F F.length) (hs : h.length * 64 ≤ 140737488355328) {H0 : Heap} {nx : Nat} (a2 a4 : AV) (Q : AV → Heap → Nat → Prop) {H1 : Heap} {n1 gr : Nat} (st : RCan h H0 nx F H1 n1 gr)
    (h4 : a4 = if F = [] then AV.nils else .slc gr 0 F.length)
    (hQ : ∀ a3 H' n', n1 ≤ n' → Keep n1 H' H1 → Grow H' n1 n' 6 F.length (rowC (F.map (cellOf F h))) a3 → Q (.tup [a2, a3]) H' n') :
    LP (zwref1_Canon_l2 Q) [.ro (h.map Cl.avs), .clo 41 [.ptr (nx + 1) 0], a2, .nils, a4, .int .i64 F.length, .int .i64 0] H1 n1 := by
  have hFl := hF.len
  refine LP.mk (fun m xs H' n' => ∃ i a3, m = F.length - i ∧ i ≤ F.length ∧ n1 ≤ n' ∧ Keep n1 H' H1 ∧ Grow H' n1 n' 6 i (rowC ((F.take i).map (cellOf F h))) a3 ∧ xs = [.ro (h.map Cl.avs), .clo 41 [.ptr (nx + 1) 0], a2, a3, a4, .int .i64 F.length, .int .i64 i]) F.length
    ⟨0, .nils, by omega, by omega, Nat.le_refl _, by simp, .inl ⟨rfl, rfl⟩, rfl⟩ ?_
  rintro m xs H n ⟨i, a3, rfl, hi, hn, hk, hg, rfl⟩
  by_cases hil : i < F.length
  case neg =>
    obtain rfl : i = F.length := by omega
    simp [zwref1_Canon_l2]
    rw [List.take_length] at hg
    exact hQ a3 H n hn hk hg
  suffices key : ∀ K75 : J3, (∀ a3 H n, n1 ≤ n → Keep n1 H H1 → Grow H n1 n 6 (i + 1) (rowC ((F.take (i + 1)).map (cellOf F h))) a3 → K75 [.ro (h.map Cl.avs), .clo 41 [.ptr (nx + 1) 0], a2, a3, a4, .int .i64 F.length, .int .i64 (i + 1 : Nat)] H n) →
      zwref1_Canon_l2 Q K75 [.ro (h.map Cl.avs), .clo 41 [.ptr (nx + 1) 0], a2, a3, a4, .int .i64 F.length, .int .i64 i] H n from
    key _ fun a3 H n h1 h2 h3 => ⟨_, by omega, i + 1, a3, rfl, by omega, h1, h2, h3, rfl⟩
  intro K75 hK75
  have hc0 : F[i]? = some F[i] := List.getElem?_eq_getElem hil
  have hc0l := hF.lt F[i] (List.mem_of_getElem? hc0)
  have hc : h[F[i]]? = some h[F[i]] := List.getElem?_eq_getElem hc0l
  obtain ⟨i1, i2⟩ := hsh i F[i] _ hil hc0 hc
  obtain ⟨w1, w2⟩ := hok _ (List.mem_of_getElem? hc)
  have hne : F ≠ [] := by intro e; subst e; simp at hil
  rw [if_neg hne] at h4
  subst h4
  have l := st.le
  obtain ⟨r1, r2⟩ := st.lr hne
  have kk : ∀ g, g < n1 → H g = H1 g := hk
  have hr : H gr = some (.row 1 (numRow F)) := by rw [kk _ r2]; exact st.st.rr hne
  have hp : H (nx + 1) = some (.row 1 [.slc nx 0 h.length]) := by rw [kk _ (by omega)]; exact st.st.p
  have hpl : H nx = some (.row 1 (placeRow F h.length)) := by rw [kk _ (by omega)]; exact st.st.pl
  obtain ⟨hdr, hrow'⟩ := List.getElem?_eq_some_iff.1 (numRow_at hc0)
  have t1 : h[F[i]].avs.take 3 = h[F[i]].left.avs := rfl
  have t2 : (h[F[i]].avs.drop 3).take 3 = h[F[i]].right.avs := rfl
  have hcell : cellOf F h F[i] = ⟨VM.put F h[F[i]].left, VM.put F h[F[i]].right⟩ := by unfold cellOf VM.putC; rw [hc]; rfl
  simp [zwref1_Canon_l2, hil, hr, hrow', hc0l, t1]
  refine CALLD.put w1 i1 hp hpl ?_
  simp [zwref1_Canon_k6, hc0l, t2]
  refine CALLD.put w2 i2 hp hpl ?_
  have hsn : rowC ((F.take (i + 1)).map (cellOf F h)) = rowC ((F.take i).map (cellOf F h)) ++ ((VM.put F h[F[i]].left).avs ++ (VM.put F h[F[i]].right).avs) := by
    rw [take_succ_map _ hc0, rowC_snoc, hcell]; rfl
  generalize VM.put F h[F[i]].left = pl at *
  generalize VM.put F h[F[i]].right = pr at *
  simp [zwref1_Canon_k5, Val.avs]
  refine Grow.append (new := pl.avs ++ pr.avs) (hg.more (n' := n) (Nat.le_refl _) fun g _ h2 => Heap.put_ne _ _ (by omega)) (by simp; omega) (by rw [Heap.put_at]; rfl) rfl (by simp [Val.avs]) (by omega) (by omega) (by omega) fun rd D hD hk2 hg2 => ?_
  rw [← hsn] at hg2
  rw [i64w (by omega)]
  have := hK75 _ _ _ (by omega) (fun g hg => (hk2 g hg).trans ((Heap.put_ne _ _ (by omega)).trans (hk g hg))) hg2
  simpa [Val.avs] using this
end Go.Proofs.YtejohcohkgcmhaaDoor
namespace Go.Proofs.YtejohcohkgcmhaaDoor
open Go Go.RowKit

set_option maxHeartbeats 2000000 in
set_option maxRecDepth 20000 in
theorem refcanon_vs (h : List Cl) (l : List Val) (F : List Nat) (hl : l.length * 32 ≤ 140737488355328) (hs : h.length * 64 ≤ 140737488355328) (hF : VM.Good h.length F) (hok : OkCells h) (hsh : VM.Shut h F F.length) (hv : ∀ v ∈ l, VM.WrongOk v h.length) (hin : ∀ v ∈ l, VM.In F v) {H0 : Heap} {nx : Nat} (Q : AV → Heap → Nat → Prop) {H1 : Heap} {n1 gr : Nat} (st : RCan h H0 nx F H1 n1 gr)
    (hQ : ∀ a2 a3 H' n' n2, Keep n1 H' H1 → n1 ≤ n2 → n2 ≤ n' → Grow H' n1 n2 3 l.length (rowV (l.map (VM.put F))) a2 → Grow H' n2 n' 6 F.length (rowC (F.map (cellOf F h))) a3 → Q (.tup [a2, a3]) H' n') :
    LP (zwref1_Canon_l3 Q) [.ro (h.map Cl.avs), .ptr (nx + 2) 0, .clo 41 [.ptr (nx + 1) 0], .nils, .ro (l.map Val.avs), .int .i64 l.length, .int .i64 0] H1 n1 := by
  have hFl := hF.len
  refine LP.mk (fun m xs H' n' => ∃ i a3, m = l.length - i ∧ i ≤ l.length ∧ n1 ≤ n' ∧ Keep n1 H' H1 ∧ Grow H' n1 n' 3 i (rowV ((l.take i).map (VM.put F))) a3 ∧ xs = [.ro (h.map Cl.avs), .ptr (nx + 2) 0, .clo 41 [.ptr (nx + 1) 0], a3, .ro (l.map Val.avs), .int .i64 l.length, .int .i64 i]) l.length
    ⟨0, .nils, by omega, by omega, Nat.le_refl _, by simp, .zero, rfl⟩ ?_
  rintro m xs H n ⟨i, a3, rfl, hi, hn, hk, hg, rfl⟩
  have hk' : ∀ g, g < n1 → H g = H1 g := hk
  have stn : RCan h H0 nx F H n gr := by
    have l0 := st.le
    exact ⟨⟨by rw [hk' _ (by omega)]; exact st.st.p, by rw [hk' _ (by omega)]; exact st.st.pl, by rw [hk' _ (by omega)]; exact st.st.oo, fun ho => by rw [hk' _ (st.lr ho).2]; exact st.st.rr ho, st.st.d1, st.st.d2, st.st.d3, st.st.d4⟩, fun ho => by have := st.lr ho; omega, fun g hg => by rw [hk' _ (by omega)]; exact st.keep g hg, st.good, by omega⟩
  by_cases hil : i < l.length
  case neg =>
    obtain rfl : i = l.length := by omega
    rw [List.take_length] at hg
    simp [zwref1_Canon_l3, stn.st.oo, lnl_ord]
    refine refcanon_out h F hF hok hsh hs a3 _ Q stn rfl fun a4 H' n' hn2 hk2 hg2 => ?_
    refine hQ a3 a4 H' n' n (fun g hg => (hk2 g (by omega)).trans (hk g hg)) hn hn2 (hg.more (Nat.le_refl _) fun g _ h2 => hk2 g h2) hg2
  suffices key : ∀ K56 : J3, (∀ a3 H n, n1 ≤ n → Keep n1 H H1 → Grow H n1 n 3 (i + 1) (rowV ((l.take (i + 1)).map (VM.put F))) a3 → K56 [.ro (h.map Cl.avs), .ptr (nx + 2) 0, .clo 41 [.ptr (nx + 1) 0], a3, .ro (l.map Val.avs), .int .i64 l.length, .int .i64 (i + 1 : Nat)] H n) →
      zwref1_Canon_l3 Q K56 [.ro (h.map Cl.avs), .ptr (nx + 2) 0, .clo 41 [.ptr (nx + 1) 0], a3, .ro (l.map Val.avs), .int .i64 l.length, .int .i64 i] H n from
    key _ fun a3 H n h1 h2 h3 => ⟨_, by omega, i + 1, a3, rfl, by omega, h1, h2, h3, rfl⟩
  intro K56 hK56
  have hvl : l[i]? = some l[i] := List.getElem?_eq_getElem hil
  have w := hv _ (List.mem_of_getElem? hvl)
  have hi1 := hin _ (List.mem_of_getElem? hvl)
  have tv : l[i].avs.take 3 = l[i].avs := rfl
  have l0 := stn.le
  simp [zwref1_Canon_l3, hil, tv, CALL]
  refine ⟨fun x hx => scal_one (scal_val _ x hx), ?_⟩
  refine ACalls.pure_call (refput_pure l[i] F h.length w hi1 (gp := nx + 1) (gpl := nx) (by rw [Heap.put_ne _ _ (by omega)]; exact stn.st.p) (by rw [Heap.put_ne _ _ (by omega)]; exact stn.st.pl) (by omega) (by omega)) ?_
  have hsn : rowV ((l.take (i + 1)).map (VM.put F)) = rowV ((l.take i).map (VM.put F)) ++ (VM.put F l[i]).avs := by rw [take_snoc hvl, List.map_append, List.map_singleton, rowV_snoc]
  generalize VM.put F l[i] = rv at *
  have tr : rv.avs.take 3 = rv.avs := rfl
  simp [zwref1_Canon_k4, tr]
  refine Grow.app (new := rv.avs) (hg.more (n' := n) (Nat.le_refl _) fun g _ h2 => ?_) (by simp; omega) (Heap.put_at _ _ _) rfl (List.all_eq_true.2 fun x hx => scal_one (scal_val _ x hx)) (by omega) (by omega) (by omega) fun H' hk2 hg2 => ?_
  · rw [Heap.put_ne _ _ (by omega), Heap.put_ne _ _ (by omega)]
  rw [← hsn] at hg2
  rw [i64w (by omega)]
  exact hK56 _ _ _ (by omega) (fun g hg => (hk2 g hg).trans (by rw [Heap.put_ne _ _ (by omega), Heap.put_ne _ _ (by omega)]; exact hk g hg)) hg2

set_option maxHeartbeats 2000000 in
set_option maxRecDepth 20000 in
theorem refcanon_qc (h : List Cl) (l : List Val) (hr : VM.right h l = true) (hs : h.length * 64 ≤ 140737488355328) (hl : l.length * 32 ≤ 140737488355328) : QC Tryd.prog 17 [.ro (h.map Cl.avs), .ro (l.map Val.avs)] (.tup [.ro ((VM.canonV h l).map Val.avs), .ro ((VM.canonC h l).map Cl.avs)]) := by
  refine QC.of' fun H nx => zwref1_Canon_calls _ _ H nx _ ?_
  refine refcanon_start hr hs hl fun H1 st0 => ?_
  have hok : OkCells h := VM.right_okC hr
  have hv := VM.right_okV hr
  refine LP.mk (fun m xs H' n' => ∃ i gr o, m = l.length - i ∧ i ≤ l.length ∧ xs = [.ro (h.map Cl.avs), .ro (l.map Val.avs), .ptr (nx + 1) 0, .ptr (nx + 2) 0, .clo 40 [.ptr (nx + 1) 0, .ptr (nx + 2) 0], .int .i64 o.length, .ro (l.map Val.avs), .int .i64 l.length, .int .i64 i] ∧
    RCan h H nx o H' n' gr ∧ VM.orderGo h (l.drop i) o = VM.order h l) l.length ⟨0, 0, [], by omega, by omega, rfl, st0, rfl⟩ ?_
  rintro m xs H2 n2 ⟨i, gr, o, rfl, hi, rfl, st, hF⟩
  by_cases hil : i < l.length
  case neg =>
    obtain rfl : i = l.length := by omega
    have hFo : o = VM.order h l := by rw [← hF, List.drop_length]; rfl
    obtain ⟨hsh, hin⟩ := VM.orderGo_shut (VM.okH hok) l [] (fun v hx => (hv v hx).okV) VM.Good.nil (fun j n c hj => by simp at hj)
    have hsh' : VM.Shut h (VM.order h l) (VM.order h l).length := hsh
    have hin' : ∀ v ∈ l, VM.In (VM.order h l) v := hin
    have hg := st.good
    subst hFo
    simp [zwref1_Canon_l4]
    refine refcanon_vs h l _ hl hs hg hok hsh' hv hin' _ st fun a2 a3 H' n' n3 hk hn3 hn' hg1 hg2 => ?_
    have l0 := st.le
    refine ⟨?_, fun g hg => (hk g (by omega)).trans (st.keep g hg)⟩
    rw [canonC_eq hg.lt]
    refine Frz.tup2 (hg1.frz (by omega) (by simp [VM.canonV]) (avsV_len _) rfl fun c hc => scal_bel (scal_rowV _ c hc)) (hg2.frz (by omega) (by simp) (avsC_len _) rfl fun c hc => scal_bel (scal_rowC _ c hc))
  have hvl : l[i]? = some l[i] := List.getElem?_eq_getElem hil
  have w := hv _ (List.mem_of_getElem? hvl)
  have tv : l[i].avs.take 3 = l[i].avs := rfl
  have hdrop : l.drop i = l[i] :: l.drop (i + 1) := List.drop_eq_getElem_cons hil
  rw [hdrop] at hF
  have hF' : VM.orderGo h (l.drop (i + 1)) (VM.drain h (h.length - o.length) (VM.meet o l[i]) o.length) = VM.order h l := hF
  have l0 := st.le
  suffices key : ∀ K16 : J3, (∀ H' n' gr o, RCan h H nx o H' n' gr → VM.orderGo h (l.drop (i + 1)) o = VM.order h l →
      K16 [.ro (h.map Cl.avs), .ro (l.map Val.avs), .ptr (nx + 1) 0, .ptr (nx + 2) 0, .clo 40 [.ptr (nx + 1) 0, .ptr (nx + 2) 0], .int .i64 o.length, .ro (l.map Val.avs), .int .i64 l.length, .int .i64 (i + 1 : Nat)] H' n') →
      zwref1_Canon_l4 (fun v H' _ => Frz H' nx v (.tup [.ro ((VM.canonV h l).map Val.avs), .ro ((VM.canonC h l).map Cl.avs)]) ∧ Keep nx H' H) K16 [.ro (h.map Cl.avs), .ro (l.map Val.avs), .ptr (nx + 1) 0, .ptr (nx + 2) 0, .clo 40 [.ptr (nx + 1) 0, .ptr (nx + 2) 0], .int .i64 o.length, .ro (l.map Val.avs), .int .i64 l.length, .int .i64 i] H2 n2 from
    key _ fun H' n' gr o h1 h2 => ⟨_, by omega, i + 1, gr, o, rfl, by omega, rfl, h1, h2⟩
  intro K16 hK16
  simp [zwref1_Canon_l4, hil, tv, CALL]
  refine ⟨fun x hx => scal_one (scal_val _ x hx), ?_⟩
  refine (st.more (H' := H2.put n2 (some (AObj.row 3 l[i].avs))) (n' := n2 + 1) (by omega) (fun g hg => Heap.put_ne _ _ (by omega))).meet hs w fun H3 n3 gr3 hn3 st3 => ?_
  simp [zwref1_Canon_k3]
  exact refcanon_inner h l hr hs hl hil K16 (fun H' n' gr o h1 h2 => hK16 H' n' gr o h1 h2) H3 n3 gr3 _ o.length (VM.meet_pre o l[i]).length_le st3 hF'
end Go.Proofs.YtejohcohkgcmhaaDoor
namespace Go.Proofs.YtejohcohkgcmhaaDoor
open Go Go.RowKit

/-- wanderstaff/zwlaw1.CellTells -/
def cellTellsJ_lv : List (Nat × Nat × List Nat) := [(0, 1, [0, 1, 4, 7, 10, 11, 45]), (0, 3, [0, 1, 4, 7, 10, 11, 53]), (0, 6, [0, 1, 7, 11, 75]), (0, 8, [0, 1, 7, 11, 88]), (0, 12, [16]), (3, 8, [0, 1, 7, 11])]
def cellTellsJ_k1 (D32 : Delta) (rd34 : List Nat) (j26 : J3) (H19 : Heap) (D38 : Delta) (D43 : Delta) (nx20 : Nat) (fr31 : List Nat) (fr37 : List Nat) (fr42 : List Nat) (v44 : AV) (rd45 : List Nat) (fr46 : List Nat) (D47 : Delta) : Prop :=
  disjK (domD D32) [] (
  disjK (domD D32) [] (
  disjK (domD D32) rd34 (
  disjK (domD D32) [] (
  disjK (domD D32) [] (
  disjK (domD D32) [] (
  j26 [v44] ((((H19.apply D32).apply D38).apply D43).apply D47) ((((nx20 + fr31.length) + fr37.length) + fr42.length) + fr46.length)))))))
def cellTellsJ_k2 (v17 : AV) (v22 : AV) (H19 : Heap) (D32 : Delta) (D38 : Delta) (nx20 : Nat) (fr31 : List Nat) (fr37 : List Nat) (rd34 : List Nat) (j26 : J3) (v40 : AV) (rd41 : List Nat) (fr42 : List Nat) (D43 : Delta) : Prop :=
  CND v40
  (CALLD Tryd.prog (AV.clo 21 []) [v17, v22] (((H19.apply D32).apply D38).apply D43) (((nx20 + fr31.length) + fr37.length) + fr42.length) (cellTellsJ_k1 D32 rd34 j26 H19 D38 D43 nx20 fr31 fr37 fr42))
  (disjK (domD D32) [] (
  disjK (domD D32) [] (
  disjK (domD D32) rd34 (
  disjK (domD D32) [] (
  disjK (domD D32) [] (
  disjK (domD D32) [] (
  j26 [AV.bool false] (((H19.apply D32).apply D38).apply D43) (((nx20 + fr31.length) + fr37.length) + fr42.length))))))))
def cellTellsJ_k3 (v29 : AV) (v16 : AV) (v21 : AV) (H19 : Heap) (D32 : Delta) (nx20 : Nat) (fr31 : List Nat) (v17 : AV) (v22 : AV) (rd34 : List Nat) (j26 : J3) (v35 : AV) (rd36 : List Nat) (fr37 : List Nat) (D38 : Delta) : Prop :=
  BS BinOp.eql v29 v35 fun v39 =>
  CND v39
  (CALLD Tryd.prog (AV.clo 20 []) [v16, v21] ((H19.apply D32).apply D38) ((nx20 + fr31.length) + fr37.length) (cellTellsJ_k2 v17 v22 H19 D32 D38 nx20 fr31 fr37 rd34 j26))
  (disjK (domD D32) [] (
  disjK (domD D32) [] (
  disjK (domD D32) rd34 (
  disjK (domD D32) [] (
  disjK (domD D32) [] (
  disjK (domD D32) [] (
  j26 [AV.bool false] ((H19.apply D32).apply D38) ((nx20 + fr31.length) + fr37.length))))))))
def cellTellsJ_k4 (xs9 : List AV) (H19 : Heap) (nx20 : Nat) (v16 : AV) (v21 : AV) (v17 : AV) (v22 : AV) (j26 : J3) (v29 : AV) (rd30 : List Nat) (fr31 : List Nat) (D32 : Delta) : Prop :=
  LDR true 3 (nth xs9 3) (H19.apply D32) fun v33 rd34 =>
  CALLD Tryd.prog (AV.clo 19 []) [nth xs9 0, v33, nth xs9 2] (H19.apply D32) (nx20 + fr31.length) (cellTellsJ_k3 v29 v16 v21 H19 D32 nx20 fr31 v17 v22 rd34 j26)
def cellTellsJ_j1 (Q : AV → Heap → Nat → Prop) (xs23 : List AV) (H24 : Heap) (nx25 : Nat) : Prop :=
  Q (nth xs23 0) H24 nx25
def cellTellsJ_b1 (xs9 : List AV) (H19 : Heap) (nx20 : Nat) (v16 : AV) (v21 : AV) (v17 : AV) (v22 : AV) (j26 : J3) : Prop :=
  LDR true 3 (nth xs9 3) H19 fun v27 rd28 =>
  CALLD Tryd.prog (AV.clo 18 []) [nth xs9 0, v27, nth xs9 2] H19 nx20 (cellTellsJ_k4 xs9 H19 nx20 v16 v21 v17 v22 j26)
def cellTellsJ_k5 (Q : AV → Heap → Nat → Prop) (xs9 : List AV) (v16 : AV) (v17 : AV) (v18 : AV) (H19 : Heap) (nx20 : Nat) : Prop :=
  EX v18 0 fun v21 =>
  EX v18 1 fun v22 =>
  JN (cellTellsJ_j1 Q) (cellTellsJ_b1 xs9 H19 nx20 v16 v21 v17 v22)
def cellTellsJ_k6 (xs9 : List AV) (Q : AV → Heap → Nat → Prop) (v13 : AV) (H14 : Heap) (nx15 : Nat) : Prop :=
  EX v13 0 fun v16 =>
  EX v13 1 fun v17 =>
  ACalls Tryd.prog 17 [nth xs9 0, nth xs9 1] H14 nx15 (cellTellsJ_k5 Q xs9 v16 v17)
def cellTellsJ_k7 (nx7 : Nat) (D51 : Delta) (rd53 : List Nat) (fr50 : List Nat) (rd49 : List Nat) (D58 : Delta) (j12 : J3) (xs5 : List AV) (H6 : Heap) (cells54 : List AV) (fr57 : List Nat) (v59 : AV) (rd60 : List Nat) (fr61 : List Nat) (D62 : Delta) : Prop :=
  UO UnOp.not v59 fun v63 =>
  CND v63
  (nx7 ∉ [] ∧
  nx7 ∉ [] ∧
  nx7 ∉ [] ∧
  disjK (domD D51) [] (
  nx7 ∉ rd53 ∧
  nx7 ∉ [] ∧
  disjK (domD D51) rd53 (
  disjK (domD D51) [] (
  ((nx7 + 1) + fr50.length) ∉ [] ∧
  nx7 ∉ [] ∧
  nx7 ∉ [((nx7 + 1) + fr50.length)] ∧
  ((nx7 + 1) + fr50.length) ∉ [] ∧
  ((nx7 + 1) + fr50.length) ∉ [] ∧
  disjK (domD D51) [] (
  disjK (domD D51) [((nx7 + 1) + fr50.length)] (
  ((nx7 + 1) + fr50.length) ∉ rd49 ∧
  disjK (domD D58) [] (
  j12 [nth xs5 0, nth xs5 1, nth xs5 2, nth xs5 3, AV.bool true] (((((H6.put nx7 (some (AObj.row 3 []))).apply D51).put (((nx7 + 1) + fr50.length)) (some (AObj.row 3 cells54))).apply D58).apply D62) (((((nx7 + 1) + fr50.length) + 1) + fr57.length) + fr61.length))))))))
  (BI BinOp.gtr (nth xs5 2) (AV.int IntKind.i64 5) fun v64 =>
  nx7 ∉ [] ∧
  nx7 ∉ [] ∧
  nx7 ∉ [] ∧
  disjK (domD D51) [] (
  nx7 ∉ rd53 ∧
  nx7 ∉ [] ∧
  disjK (domD D51) rd53 (
  disjK (domD D51) [] (
  ((nx7 + 1) + fr50.length) ∉ [] ∧
  nx7 ∉ [] ∧
  nx7 ∉ [((nx7 + 1) + fr50.length)] ∧
  ((nx7 + 1) + fr50.length) ∉ [] ∧
  ((nx7 + 1) + fr50.length) ∉ [] ∧
  disjK (domD D51) [] (
  disjK (domD D51) [((nx7 + 1) + fr50.length)] (
  ((nx7 + 1) + fr50.length) ∉ rd49 ∧
  disjK (domD D58) [] (
  j12 [nth xs5 0, nth xs5 1, nth xs5 2, nth xs5 3, v64] (((((H6.put nx7 (some (AObj.row 3 []))).apply D51).put (((nx7 + 1) + fr50.length)) (some (AObj.row 3 cells54))).apply D58).apply D62) (((((nx7 + 1) + fr50.length) + 1) + fr57.length) + fr61.length))))))))
def cellTellsJ_j2 (Q : AV → Heap → Nat → Prop) (xs9 : List AV) (H10 : Heap) (nx11 : Nat) : Prop :=
  CNDC (nth xs9 4)
  (Q (AV.bool true) H10 nx11)
  (ACalls Tryd.prog 16 [nth xs9 0, nth xs9 1] H10 nx11 (cellTellsJ_k6 xs9 Q))
def cellTellsJ_b2 (nx7 : Nat) (xs5 : List AV) (H6 : Heap) (j12 : J3) : Prop :=
  APPEND 3 32 (AV.slc nx7 0 0) (nth xs5 1) (H6.put nx7 (some (AObj.row 3 []))) (nx7 + 1) fun v48 rd49 fr50 D51 =>
  LDR true 3 (nth xs5 3) ((H6.put nx7 (some (AObj.row 3 []))).apply D51) fun v52 rd53 =>
  BSL 1 3 [AV.int IntKind.i64 0, AV.int IntKind.i64 0, AV.str []] [(0, v52)] fun cells54 =>
  APPEND 3 32 v48 (AV.slc ((nx7 + 1) + fr50.length) 0 1) (((H6.put nx7 (some (AObj.row 3 []))).apply D51).put (((nx7 + 1) + fr50.length)) (some (AObj.row 3 cells54))) (((nx7 + 1) + fr50.length) + 1) fun v55 rd56 fr57 D58 =>
  CALLD Tryd.prog (AV.clo 15 []) [nth xs5 0, v55] ((((H6.put nx7 (some (AObj.row 3 []))).apply D51).put (((nx7 + 1) + fr50.length)) (some (AObj.row 3 cells54))).apply D58) ((((nx7 + 1) + fr50.length) + 1) + fr57.length) (cellTellsJ_k7 nx7 D51 rd53 fr50 rd49 D58 j12 xs5 H6 cells54 fr57)
def cellTellsJ_j3 (Q : AV → Heap → Nat → Prop) (j8 : J3) (xs85 : List AV) (H86 : Heap) (nx87 : Nat) : Prop :=
  CNDC (nth xs85 4)
  (Q (AV.bool false) H86 nx87)
  (j8 [nth xs85 0, nth xs85 1, nth xs85 2, nth xs85 3] H86 nx87)
def cellTellsJ_b3 (v75 : AV) (v83 : AV) (xs65 : List AV) (H84 : Heap) (nx81 : Nat) (nx73 : Nat) (j88 : J3) : Prop :=
  BI BinOp.neq v75 v83 fun v89 =>
  CND v89
  (j88 [nth xs65 0, nth xs65 1, nth xs65 3, nth xs65 5, AV.bool true] H84 (nx81 + 1))
  (LD true 3 (AV.ptr nx73 0) H84 fun v90 =>
  LD true 3 (AV.ptr nx81 0) H84 fun v91 =>
  gd (eqsT 25) (
  BA [AV.int IntKind.i64 0, AV.int IntKind.i64 0, AV.str []] BinOp.neq v90 v91 fun v92 =>
  j88 [nth xs65 0, nth xs65 1, nth xs65 3, nth xs65 5, v92] H84 (nx81 + 1)))
def cellTellsJ_k8 (Q : AV → Heap → Nat → Prop) (j8 : J3) (v75 : AV) (xs65 : List AV) (nx73 : Nat) (v79 : AV) (H80 : Heap) (nx81 : Nat) : Prop :=
  EX v79 0 fun v82 =>
  EX v79 1 fun v83 =>
  ST 3 (AV.ptr nx81 0) v82 (H80.put nx81 (some (AObj.row 3 [AV.int IntKind.i64 0, AV.int IntKind.i64 0, AV.str []]))) fun H84 =>
  JN (cellTellsJ_j3 Q j8) (cellTellsJ_b3 v75 v83 xs65 H84 nx81 nx73)
def cellTellsJ_k9 (xs65 : List AV) (Q : AV → Heap → Nat → Prop) (j8 : J3) (v71 : AV) (H72 : Heap) (nx73 : Nat) : Prop :=
  EX v71 0 fun v74 =>
  EX v71 1 fun v75 =>
  ST 3 (AV.ptr nx73 0) v74 (H72.put nx73 (some (AObj.row 3 [AV.int IntKind.i64 0, AV.int IntKind.i64 0, AV.str []]))) fun H76 =>
  LD true 3 (nth xs65 4) H76 fun v77 =>
  LD true 3 (nth xs65 5) H76 fun v78 =>
  ACalls Tryd.prog 14 [nth xs65 2, v77, v78] H76 (nx73 + 1) (cellTellsJ_k8 Q j8 v75 xs65 nx73)
def cellTellsJ_k10 (j68 : J3) (xs1 : List AV) (v99 : AV) (H100 : Heap) (nx101 : Nat) : Prop :=
  BI BinOp.eql v99 (AV.int IntKind.i64 0) fun v102 =>
  j68 [nth xs1 0, nth xs1 1, nth xs1 2, nth xs1 3, nth xs1 4, nth xs1 5, v102] H100 nx101
def cellTellsJ_k11 (xs1 : List AV) (j68 : J3) (v94 : AV) (H95 : Heap) (nx96 : Nat) : Prop :=
  BI BinOp.eql v94 (AV.int IntKind.i64 0) fun v97 =>
  CND v97
  (LD true 3 (nth xs1 5) H95 fun v98 =>
  ACalls Tryd.prog 12 [v98, AV.int IntKind.i64 1073741824] H95 nx96 (cellTellsJ_k10 j68 xs1))
  (j68 [nth xs1 0, nth xs1 1, nth xs1 2, nth xs1 3, nth xs1 4, nth xs1 5, AV.bool false] H95 nx96)
def cellTellsJ_j4 (Q : AV → Heap → Nat → Prop) (j8 : J3) (xs65 : List AV) (H66 : Heap) (nx67 : Nat) : Prop :=
  CNDC (nth xs65 6)
  (LD true 3 (nth xs65 4) H66 fun v69 =>
  LD true 3 (nth xs65 5) H66 fun v70 =>
  ACalls Tryd.prog 13 [nth xs65 2, v69, v70] H66 nx67 (cellTellsJ_k9 xs65 Q j8))
  (j8 [nth xs65 0, nth xs65 1, nth xs65 3, nth xs65 5] H66 nx67)
def cellTellsJ_b4 (xs1 : List AV) (H2 : Heap) (nx3 : Nat) (j68 : J3) : Prop :=
  LD true 3 (nth xs1 4) H2 fun v93 =>
  ACalls Tryd.prog 12 [v93, AV.int IntKind.i64 1073741824] H2 nx3 (cellTellsJ_k11 xs1 j68)
def cellTellsJ_j5 (Q : AV → Heap → Nat → Prop) (xs5 : List AV) (H6 : Heap) (nx7 : Nat) : Prop :=
  JN (cellTellsJ_j2 Q) (cellTellsJ_b2 nx7 xs5 H6)
def cellTellsJ_b5 (Q : AV → Heap → Nat → Prop) (xs1 : List AV) (H2 : Heap) (nx3 : Nat) (j8 : J3) : Prop :=
  JN (cellTellsJ_j4 Q j8) (cellTellsJ_b4 xs1 H2 nx3)
def cellTellsJ_k12 (v123 : AV) (D106 : Delta) (D115 : Delta) (D126 : Delta) (rd128 : List Nat) (j4 : J3) (a0 : AV) (a1 : AV) (a4 : AV) (a7 : AV) (nx : Nat) (H : Heap) (a2 : AV) (a3 : AV) (D110 : Delta) (D119 : Delta) (fr105 : List Nat) (fr109 : List Nat) (fr114 : List Nat) (fr118 : List Nat) (fr125 : List Nat) (v129 : AV) (rd130 : List Nat) (fr131 : List Nat) (D132 : Delta) : Prop :=
  BI BinOp.neq v123 v129 fun v133 =>
  disjK (domD D106) [] (
  disjK (domD D106) [] (
  disjK (domD D115) [] (
  disjK (domD D115) [] (
  disjK (domD D126) rd128 (
  disjK (domD D126) [] (
  disjK (domD D126) [] (
  disjK (domD D126) [] (
  j4 [a0, a1, a4, a7, AV.ptr nx 0, AV.ptr (nx + 1) 0, v133] ((((((((H.put nx (some (AObj.row a2.cells.length a2.cells))).put ((nx + 1)) (some (AObj.row a3.cells.length a3.cells))).apply D106).apply D110).apply D115).apply D119).apply D126).apply D132) (((((((nx + 2) + fr105.length) + fr109.length) + fr114.length) + fr118.length) + fr125.length) + fr131.length)))))))))
def cellTellsJ_k13 (nx : Nat) (H : Heap) (a2 : AV) (a3 : AV) (D106 : Delta) (D110 : Delta) (D115 : Delta) (D119 : Delta) (a5 : AV) (fr105 : List Nat) (fr109 : List Nat) (fr114 : List Nat) (fr118 : List Nat) (j4 : J3) (a0 : AV) (a1 : AV) (a4 : AV) (a7 : AV) (v123 : AV) (rd124 : List Nat) (fr125 : List Nat) (D126 : Delta) : Prop :=
  LDR true 3 (AV.ptr nx 0) (((((((H.put nx (some (AObj.row a2.cells.length a2.cells))).put ((nx + 1)) (some (AObj.row a3.cells.length a3.cells))).apply D106).apply D110).apply D115).apply D119).apply D126) fun v127 rd128 =>
  CALLD Tryd.prog (AV.clo 12 []) [v127, a5] (((((((H.put nx (some (AObj.row a2.cells.length a2.cells))).put ((nx + 1)) (some (AObj.row a3.cells.length a3.cells))).apply D106).apply D110).apply D115).apply D119).apply D126) ((((((nx + 2) + fr105.length) + fr109.length) + fr114.length) + fr118.length) + fr125.length) (cellTellsJ_k12 v123 D106 D115 D126 rd128 j4 a0 a1 a4 a7 nx H a2 a3 D110 D119 fr105 fr109 fr114 fr118 fr125)
def cellTellsJ_k14 (v112 : AV) (D106 : Delta) (D115 : Delta) (j4 : J3) (a0 : AV) (a1 : AV) (a4 : AV) (a7 : AV) (nx : Nat) (H : Heap) (a2 : AV) (a3 : AV) (D110 : Delta) (fr105 : List Nat) (fr109 : List Nat) (fr114 : List Nat) (a5 : AV) (v116 : AV) (rd117 : List Nat) (fr118 : List Nat) (D119 : Delta) : Prop :=
  gd (eqsT 25) (
  BA [AV.int IntKind.i64 0, AV.int IntKind.i64 0, AV.str []] BinOp.neq v112 v116 fun v120 =>
  CND v120
  (disjK (domD D106) [] (
  disjK (domD D106) [] (
  disjK (domD D115) [] (
  disjK (domD D115) [] (
  j4 [a0, a1, a4, a7, AV.ptr nx 0, AV.ptr (nx + 1) 0, AV.bool true] ((((((H.put nx (some (AObj.row a2.cells.length a2.cells))).put ((nx + 1)) (some (AObj.row a3.cells.length a3.cells))).apply D106).apply D110).apply D115).apply D119) (((((nx + 2) + fr105.length) + fr109.length) + fr114.length) + fr118.length))))))
  (LDR true 3 (AV.ptr nx 0) ((((((H.put nx (some (AObj.row a2.cells.length a2.cells))).put ((nx + 1)) (some (AObj.row a3.cells.length a3.cells))).apply D106).apply D110).apply D115).apply D119) fun v121 rd122 =>
  CALLD Tryd.prog (AV.clo 11 []) [v121, a5] ((((((H.put nx (some (AObj.row a2.cells.length a2.cells))).put ((nx + 1)) (some (AObj.row a3.cells.length a3.cells))).apply D106).apply D110).apply D115).apply D119) (((((nx + 2) + fr105.length) + fr109.length) + fr114.length) + fr118.length) (cellTellsJ_k13 nx H a2 a3 D106 D110 D115 D119 a5 fr105 fr109 fr114 fr118 j4 a0 a1 a4 a7)))
def cellTellsJ_k15 (a6 : AV) (H : Heap) (nx : Nat) (a2 : AV) (a3 : AV) (D106 : Delta) (D110 : Delta) (fr105 : List Nat) (fr109 : List Nat) (j4 : J3) (a0 : AV) (a1 : AV) (a4 : AV) (a7 : AV) (a5 : AV) (v112 : AV) (rd113 : List Nat) (fr114 : List Nat) (D115 : Delta) : Prop :=
  CALLD Tryd.prog (AV.clo 10 []) [a6] (((((H.put nx (some (AObj.row a2.cells.length a2.cells))).put ((nx + 1)) (some (AObj.row a3.cells.length a3.cells))).apply D106).apply D110).apply D115) ((((nx + 2) + fr105.length) + fr109.length) + fr114.length) (cellTellsJ_k14 v112 D106 D115 j4 a0 a1 a4 a7 nx H a2 a3 D110 fr105 fr109 fr114 a5)
def cellTellsJ_k16 (v103 : AV) (D106 : Delta) (j4 : J3) (a0 : AV) (a1 : AV) (a4 : AV) (a7 : AV) (nx : Nat) (H : Heap) (a2 : AV) (a3 : AV) (fr105 : List Nat) (a6 : AV) (a5 : AV) (v107 : AV) (rd108 : List Nat) (fr109 : List Nat) (D110 : Delta) : Prop :=
  gd (eqsT 25) (
  BA [AV.int IntKind.i64 0, AV.int IntKind.i64 0, AV.str []] BinOp.neq v103 v107 fun v111 =>
  CND v111
  (disjK (domD D106) [] (
  disjK (domD D106) [] (
  j4 [a0, a1, a4, a7, AV.ptr nx 0, AV.ptr (nx + 1) 0, AV.bool true] ((((H.put nx (some (AObj.row a2.cells.length a2.cells))).put ((nx + 1)) (some (AObj.row a3.cells.length a3.cells))).apply D106).apply D110) (((nx + 2) + fr105.length) + fr109.length))))
  (CALLD Tryd.prog (AV.clo 9 []) [a6] ((((H.put nx (some (AObj.row a2.cells.length a2.cells))).put ((nx + 1)) (some (AObj.row a3.cells.length a3.cells))).apply D106).apply D110) (((nx + 2) + fr105.length) + fr109.length) (cellTellsJ_k15 a6 H nx a2 a3 D106 D110 fr105 fr109 j4 a0 a1 a4 a7 a5)))
def cellTellsJ_k17 (a5 : AV) (H : Heap) (nx : Nat) (a2 : AV) (a3 : AV) (j4 : J3) (a0 : AV) (a1 : AV) (a4 : AV) (a7 : AV) (a6 : AV) (v103 : AV) (rd104 : List Nat) (fr105 : List Nat) (D106 : Delta) : Prop :=
  CALLD Tryd.prog (AV.clo 8 []) [a5] (((H.put nx (some (AObj.row a2.cells.length a2.cells))).put ((nx + 1)) (some (AObj.row a3.cells.length a3.cells))).apply D106) ((nx + 2) + fr105.length) (cellTellsJ_k16 v103 D106 j4 a0 a1 a4 a7 nx H a2 a3 fr105 a6 a5)
def cellTellsJ_j6 (Q : AV → Heap → Nat → Prop) (xs1 : List AV) (H2 : Heap) (nx3 : Nat) : Prop :=
  CNDC (nth xs1 6)
  (Q (AV.bool false) H2 nx3)
  (JN (cellTellsJ_j5 Q) (cellTellsJ_b5 Q xs1 H2 nx3))
def cellTellsJ_b6 (a5 : AV) (H : Heap) (nx : Nat) (a2 : AV) (a3 : AV) (a0 : AV) (a1 : AV) (a4 : AV) (a7 : AV) (a6 : AV) (j4 : J3) : Prop :=
  CALLD Tryd.prog (AV.clo 7 []) [a5] ((H.put nx (some (AObj.row a2.cells.length a2.cells))).put ((nx + 1)) (some (AObj.row a3.cells.length a3.cells))) (nx + 2) (cellTellsJ_k17 a5 H nx a2 a3 j4 a0 a1 a4 a7 a6)
def cellTellsJ_vc (a0 a1 a2 a3 a4 a5 a6 a7 : AV) (H : Heap) (nx : Nat) (Q : AV → Heap → Nat → Prop) : Prop :=
  a2.sure = true ∧
  a3.sure = true ∧
  JN (cellTellsJ_j6 Q) (cellTellsJ_b6 a5 H nx a2 a3 a0 a1 a4 a7 a6)
theorem cellTellsJ_eq (a0 a1 a2 a3 a4 a5 a6 a7 : AV) (H : Heap) (nx : Nat) (Q : AV → Heap → Nat → Prop) : body Tryd.prog tab eqsT (lvOf cellTellsJ_lv) Tryd.f3 (codeOf Tryd.f3) [a0, a1, a2, a3, a4, a5, a6, a7] H nx Q = cellTellsJ_vc a0 a1 a2 a3 a4 a5 a6 a7 H nx Q := by kernel_rfl
theorem cellTellsJ_calls (a0 a1 a2 a3 a4 a5 a6 a7 : AV) (H : Heap) (nx : Nat) (Q : AV → Heap → Nat → Prop) : cellTellsJ_vc a0 a1 a2 a3 a4 a5 a6 a7 H nx Q → ACalls Tryd.prog 3 [a0, a1, a2, a3, a4, a5, a6, a7] H nx Q :=
  acalls_eq (lv := lvOf cellTellsJ_lv) (c := codeOf Tryd.f3) tabOk eqsOk mixed Tryd.func3 (by kernel_rfl) (by kernel_rfl) (by kernel_rfl) (by kernel_rfl) (cellTellsJ_eq a0 a1 a2 a3 a4 a5 a6 a7 H nx Q)

end Go.Proofs.YtejohcohkgcmhaaDoor
