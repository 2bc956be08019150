/- Programs, and agents, as they lie in memory. A call that changes what it is handed by address, where the order is drawn. Cells numbered as they are come to: the program's closure. Rows that are read: by value, or owned. Rows copied. Cells numbered as they are come to: plain laws. Cells numbered as they are come to: the closure, where the order is drawn. Cells numbered as they are come to: the program's function. Cells numbered as they are come to: what holds between the closure's calls. Cells numbered anew: what stays. Cells numbered as they are come to: the program's function. Cells numbered as they are come to: the program's function, all of it. DERIVED: THE SHELF's CONTRACTS AT THIS DUMP, IN PLAIN WORDS (tools/lay-plain.mjs out of 'YtobioljjoipimaaDoorShelf0.lean', which tools/lay-shelf.mjs wrote): THE SAME DECLARATIONS UNDER THE SAME NAMES: 'import', 'namespace', 'open', 'def', 'theorem' AND NOTHING ELSE: no command of the shelf's: FOR A HAND-IN. Each laying: the table of numbers ('.._ren') and one theorem, a field a fact of the dump's own or the kernel's comparison; each contract: ONE APPLICATION. strconv.Itoa: a number's digits. A value as a text: the program's function, and the document's. Rows that are built by appending. What a call has made is read by value from now on, in part. The machine in memory: who owns what. The machine in memory: what changes, and what stays. A call that changes what it is handed by address, where the order is drawn: what it leaves names no more than what was there named. The machine's small functions: top, dead, pop, push. -/
import Derived.Test.YtobioljjoipimaaDoorG8
import Derived.Test.YtobioljjoipimaaDoorG6
import Derived.Shelf.Strconv.Atoi
import Derived.Shelf.Strconv.Itoa0
import Derived.Shelf.Strconv.Itoa1
import Derived.Shelf.LaysM
import Derived.Shelf.Strconv.Itoa2
import Derived.Shelf.Strconv.Itoa3
import Derived.Shelf.Strconv.AtoiErrFast
import Derived.Shelf.Strconv.ParseIntEmpty
import Derived.Shelf.Strconv.AtoiFail
import Derived.Shelf.Strconv.Clone
import Derived.Shelf.Strconv.SyntaxError
import Derived.Shelf.LaysC
import Derived.Shelf.Strconv.ToError
import Derived.Shelf.Strconv.Lower
import Derived.Shelf.Strconv.ParseUint10
import Derived.Shelf.Strconv.ParseUint10Empty
import Derived.Shelf.Strconv.ParseUint10Any
import Derived.Shelf.Strconv.ParseInt10
import Derived.Shelf.Strconv.AtoiLong
import Derived.Shelf.Strconv.AtoiInnerAll
import Derived.Shelf.Strconv.RangeError
import Derived.Shelf.Strconv.ToErrorRange
import Derived.Shelf.Strconv.AtoiAll
import Derived.Shelf.Strconv.ErrVarAll
import Derived.Ground.Names2Prog
import Derived.Test.YtobioljjoipimaaDoorProg
import Derived.Test.YtobioljjoipimaaDoorG5
import Derived.Lib.ItoaLen
import Derived.Test.YtobioljjoipimaaDoorG7
set_option linter.unusedSimpArgs false
set_option linter.unusedVariables false
set_option maxRecDepth 8000
namespace Go.Proofs.YtobioljjoipimaaDoor
open Go Go.RowKit
end Go.Proofs.YtobioljjoipimaaDoor
set_option maxRecDepth 8000
namespace Go.Proofs.YtobioljjoipimaaDoor
open Go Go.RowKit
inductive Rn (R : Nat → Prop) (gn g0 : Nat) : AV → AV → Prop
  | same (v : AV) : Bel R v → Rn R gn g0 v v
  | slc (off len : Nat) : Rn R gn g0 (.slc gn off len) (.slc g0 off len)
  | ptr (off : Nat) : Rn R gn g0 (.ptr gn off) (.ptr g0 off)
  | amap : Rn R gn g0 (.amap gn) (.amap g0)
  | agg (xs ys : List AV) : ys.length = xs.length → (∀ (j : Nat) (v u : AV), xs[j]? = some v → ys[j]? = some u → Rn R gn g0 v u) → Rn R gn g0 (.agg xs) (.agg ys)
def RnO (R : Nat → Prop) (gn g0 : Nat) : AObj → AObj → Prop
  | .row s cs, .row s' ds => s' = s ∧ ds.length = cs.length ∧ ∀ (j : Nat) (v u : AV), cs[j]? = some v → ds[j]? = some u → Rn R gn g0 v u
  | .mp es, .mp fs => fs.length = es.length ∧ ∀ (j : Nat) (v u : AV × AV), es[j]? = some v → fs[j]? = some u → Rn R gn g0 v.1 u.1 ∧ Rn R gn g0 v.2 u.2
  | _, _ => False
theorem VRel.rn {K : zl} {ρ ρ2 : Nat → Loc} {A A2 R : Nat → Prop} {gn g0 : Nat} {v u : AV} {c : Value} (h : VRel K ρ A v c) (hr : Rn R gn g0 v u) (hR : ∀ g, R g → A g → ρ2 g = ρ g ∧ A2 g) (hA : ∀ g, R g → A g) (hg : ρ2 g0 = ρ gn ∧ A2 g0) : VRel K ρ2 A2 u c := by
  induction hr generalizing c with
  | same _ hb => exact (h.restrict hb).mono (fun _ _ h => h) fun g hg => hR g hg (hA g hg)
  | slc off len =>
    cases h with
    | slc _ _ _ cap a h1 h2 h3 => exact .slc g0 off len cap a hg.2 h2 (by rw [hg.1]; exact h3)
  | ptr off =>
    cases h with
    | ptr _ _ a h1 h2 => exact .ptr g0 off a hg.2 (by rw [hg.1]; exact h2)
  | amap =>
    cases h with
    | amap _ r h1 h2 => exact .amap g0 r hg.2 (by rw [hg.1]; exact h2)
  | agg xs ys hl _ ih =>
    cases h with
    | agg _ cs h1 h2 =>
      exact .agg ys cs (by omega) fun j u c hu hc => by
        have hlt := (List.getElem?_eq_some_iff.1 hu).1
        have hx : xs[j]? = some (xs[j]'(by omega)) := List.getElem?_eq_getElem (by omega)
        exact ih j _ u hx hu (h2 j _ c hx hc)
theorem zal.rn {K : zl} {ρ ρ2 : Nat → Loc} {A A2 R : Nat → Prop} {gn g0 : Nat} {o o' : AObj} {w : World} {l : Loc} (h : zal K ρ A w l o) (hr : RnO R gn g0 o o') (hR : ∀ g, R g → A g → ρ2 g = ρ g ∧ A2 g) (hA : ∀ g, R g → A g) (hg : ρ2 g0 = ρ gn ∧ A2 g0) : zal K ρ2 A2 w l o' := by
  cases o with
  | row s cs =>
    cases o' with
    | mp fs | it _ _ _ => exact hr.elim
    | row s' ds =>
      obtain ⟨rfl, hl, hc⟩ := hr
      obtain ⟨c, e, lo, hi, h1, h0, h2, h3, h4, h5⟩ := h
      refine ⟨c, e, lo, hi, h1, h0, h2, h3, by rw [hl]; exact h4, fun j u hu => ?_⟩
      have hj : j < cs.length := by have := (List.getElem?_eq_some_iff.1 hu).1; omega
      have hv : cs[j]? = some cs[j] := List.getElem?_eq_getElem hj
      obtain ⟨cv, a1, a2⟩ := h5 j _ hv
      exact ⟨cv, a1, a2.rn (hc j _ u hv hu) hR hA hg⟩
  | mp es =>
    cases o' with
    | row s' ds | it _ _ _ => exact hr.elim
    | mp fs =>
      obtain ⟨hl, hc⟩ := hr
      obtain ⟨en, cl, h1, h2, h3, h4⟩ := h
      refine ⟨en, cl, h1, by rw [hl]; exact h2, fun j u e hu he => ?_, h4⟩
      have hj : j < es.length := by have := (List.getElem?_eq_some_iff.1 hu).1; omega
      have hv : es[j]? = some es[j] := List.getElem?_eq_getElem hj
      obtain ⟨a1, a2⟩ := h3 j _ e hv he
      obtain ⟨b1, b2⟩ := hc j _ u hv hu
      exact ⟨a1.rn b1 hR hA hg, a2.rn b2 hR hA hg⟩
  | it _ _ _ => exact hr.elim
theorem zlm {D : zj} : ∀ {H : Heap} {g : Nat}, g ∉ domD D → (H.apply D) g = H g := by
  induction D with
  | nil => intros; rfl
  | cons d r ih =>
    obtain ⟨g', o⟩ := d
    intro H g hg
    simp only [domD, List.map_cons, List.mem_cons, not_or] at hg
    show ((H.put g' o).apply r) g = H g
    rw [ih (by simpa [domD] using hg.2), Heap.put_ne _ _ hg.1]
end Go.Proofs.YtobioljjoipimaaDoor
set_option maxRecDepth 8000
namespace Go.Proofs.YtobioljjoipimaaDoor
open Go Go.RowKit
def zsy : Nat → List Nat → List (AV × AV)
  | _, [] => []
  | k, n :: r => (.int .i64 n, .int .i64 k) :: zsy (k + 1) r
def zada (o : List Nat) : List (AV × AV) := zsy 0 o
def zsx (o : List Nat) : List AV := o.map fun (n : Nat) => AV.int .i64 (n : Int)
@[simp] theorem zakc (o : List Nat) : (zsx o).length = o.length := by simp [zsx]
structure zlo (H : Heap) (g1 g2 gm gr : Nat) (o : List Nat) : Prop where
  m1 : H g1 = some (.row 1 [.amap gm])
  mm : H gm = some (.mp (zada o))
  m2 : H g2 = some (.row 1 [if o = [] then .nils else .slc gr 0 o.length])
  mr : o ≠ [] → H gr = some (.row 1 (zsx o))
  d12 : g1 ≠ g2
  d1m : g1 ≠ gm
  d2m : g2 ≠ gm
  dr : o ≠ [] → gr ≠ g1 ∧ gr ≠ g2 ∧ gr ≠ gm
end Go.Proofs.YtobioljjoipimaaDoor
set_option maxRecDepth 8000
namespace Go.Proofs.YtobioljjoipimaaDoor
open Go Go.RowKit
theorem zdm {sz : Nat} : ∀ {xs : List (List AV)}, (∀ x ∈ xs, x.length = sz) → xs.flatten.length = xs.length * sz
  | [], _ => by simp
  | y :: r, hs => by rw [List.flatten_cons, List.length_append, zdm fun z hz => hs z (by simp [hz]), hs y (by simp), List.length_cons, Nat.succ_mul, Nat.add_comm]
theorem zgk {sz : Nat} : ∀ {xs : List (List AV)}, (∀ x ∈ xs, x.length = sz) → ∀ {i : Nat} {x : List AV}, xs[i]? = some x → (xs.flatten.drop (i * sz)).take sz = x
  | [], _, i, x, hx => by simp at hx
  | y :: r, hs, 0, x, hx => by
    simp at hx; subst hx
    rw [Nat.zero_mul, List.drop_zero, List.flatten_cons, List.take_append_of_le_length (by rw [hs y (by simp)]; omega), List.take_of_length_le (by rw [hs y (by simp)]; omega)]
  | y :: r, hs, i + 1, x, hx => by
    have hy : y.length = sz := hs y (by simp)
    rw [List.flatten_cons, Nat.succ_mul, List.drop_append, List.drop_of_length_le (by omega), List.nil_append, show i * sz + sz - y.length = i * sz by omega]
    exact zgk (fun z hz => hs z (by simp [hz])) (by simpa using hx)
inductive zah (H : Heap) (nx sz : Nat) (xs : List (List AV)) : AV → Prop
  | ro : zah H nx sz xs (.ro xs)
  | slc (g : Nat) : g < nx → H g = some (.row sz xs.flatten) → zah H nx sz xs (.slc g 0 xs.length)
  | nils : xs = [] → zah H nx sz xs .nils
theorem zah.keep {H H' : Heap} {nx nx' sz : Nat} {xs : List (List AV)} {a : AV} (h : zah H nx sz xs a) (hk : ∀ g, g < nx → H' g = H g) (hn : nx ≤ nx') : zah H' nx' sz xs a := by
  cases h with
  | ro => exact .ro
  | slc g h1 h2 => exact .slc g (by omega) (by rw [hk g h1]; exact h2)
  | nils h => exact .nils h
theorem zah.len {H : Heap} {nx sz : Nat} {xs : List (List AV)} {a : AV} (h : zah H nx sz xs a) {k : AV → Prop} : LNL a k = k (.int .i64 xs.length) := by
  cases h with
  | ro => simp
  | slc g h1 h2 => simp
  | nils h => subst h; simp
theorem zah.ld {H : Heap} {nx sz : Nat} {xs : List (List AV)} {a : AV} (h : zah H nx sz xs a) (hs : ∀ x ∈ xs, x.length = sz) {ki : IntKind} {i : Nat} {x : List AV} (hx : xs[i]? = some x) {k : AV → Prop} (hk : k (.agg x)) : IA sz a (.int ki i) fun p => LD true sz p H k := by
  obtain ⟨hi, hx'⟩ := List.getElem?_eq_some_iff.1 hx
  have hxl : x.length = sz := hs x (List.mem_of_getElem? hx)
  cases h with
  | ro =>
    rw [zahk]
    have e : xs.getD i [] = x := by simp [List.getD_eq_getElem?_getD, hx]
    simp only [Int.toNat_natCast, e, zabg]
    refine ⟨by omega, by omega, hxl, by omega, ?_⟩
    rw [List.drop_zero, List.take_of_length_le (by omega)]
    exact hk
  | slc g h1 h2 =>
    rw [zaja]
    simp only [Int.toNat_natCast, zafu, h2, rowk]
    refine ⟨by omega, by omega, ?_, ?_⟩
    · rw [zdm hs]
      have : (i + 1) * sz ≤ xs.length * sz := Nat.mul_le_mul_right _ hi
      rw [Nat.succ_mul] at this; omega
    · rw [Nat.zero_add, zgk hs hx]; exact hk
  | nils h => subst h; simp at hx
theorem zah.src {H : Heap} {nx sz : Nat} {xs : List (List AV)} {a : AV} (h : zah H nx sz xs a) (hs : ∀ x ∈ xs, x.length = sz) : ∃ rd, zf sz H a = some (xs.length, xs.flatten, rd) := by
  cases h with
  | ro => exact ⟨[], zss hs⟩
  | slc g h1 h2 =>
    refine ⟨[g], ?_⟩
    have hl := zdm hs
    simp only [zf, h2, Nat.zero_add, List.drop_zero]
    rw [if_pos (by omega), List.take_of_length_le (by omega)]
  | nils h => subst h; exact ⟨[], rfl⟩
theorem zah.frz {H : Heap} {nx sz : Nat} {xs : List (List AV)} {a : AV} (h : zah H nx sz xs a) (hs : ∀ x ∈ xs, x.length = sz) (hf : ∀ x ∈ xs, ∀ v ∈ x, flat v = true ∧ Bel (fun _ => False) v) (hro : Bel (fun _ => False) (.ro xs)) : Frz H 0 a (.ro xs) := by
  have hb : ∀ c ∈ xs.flatten, Bel (fun x => x < 0) c := by
    intro c hc
    obtain ⟨x, hx, hcx⟩ := List.mem_flatten.1 hc
    exact (hf x hx c hcx).2.mono fun _ h => h.elim
  cases h with
  | ro => exact .same _ (hro.mono fun _ h => h.elim)
  | slc g h1 h2 => exact Frz.row (Nat.zero_le _) h2 rfl hs rfl hb
  | nils h => subst h; exact .nils
end Go.Proofs.YtobioljjoipimaaDoor
set_option maxRecDepth 8000
namespace Go.Proofs.YtobioljjoipimaaDoor
open Go Go.RowKit
def rowV (l : List Val) : List AV := (l.map Val.avs).flatten
def rowC (h : List Cl) : List AV := (h.map Cl.avs).flatten
theorem zkh (l : List Val) : ∀ x ∈ l.map Val.avs, x.length = 3 := by intro x hx; obtain ⟨v, _, rfl⟩ := List.mem_map.1 hx; rfl
theorem zct (l : List Cl) : ∀ x ∈ l.map Cl.avs, x.length = 6 := by intro x hx; obtain ⟨v, _, rfl⟩ := List.mem_map.1 hx; rfl
@[simp] theorem zamz (l : List Val) : (rowV l).length = l.length * 3 := by rw [rowV, zdm (zkh l)]; simp
@[simp] theorem zana (l : List Cl) : (rowC l).length = l.length * 6 := by rw [rowC, zdm (zct l)]; simp
theorem zcb (v : Val) : ∀ c ∈ v.avs, scal c = true := by intro c hc; simp [Val.avs] at hc; rcases hc with rfl | rfl | rfl <;> rfl
theorem zzb (c : Cl) : ∀ x ∈ c.avs, scal x = true := by
  intro x hx
  rcases List.mem_append.1 hx with h | h
  · exact zcb _ _ h
  · exact zcb _ _ h
theorem zpc (l : List Val) : ∀ c ∈ rowV l, scal c = true := by
  intro c hc
  obtain ⟨x, hx, hcx⟩ := List.mem_flatten.1 hc
  obtain ⟨v, _, rfl⟩ := List.mem_map.1 hx
  exact zcb v c hcx
theorem zacr (l : List Cl) : ∀ c ∈ rowC l, scal c = true := by
  intro c hc
  obtain ⟨x, hx, hcx⟩ := List.mem_flatten.1 hc
  obtain ⟨v, _, rfl⟩ := List.mem_map.1 hx
  exact zzb v c hcx
theorem zfc {c : AV} (h : scal c = true) : c.one = true := by cases c <;> first | (cases h; done) | rfl
theorem zvd {c : AV} (h : scal c = true) : flat c = true := by cases c <;> first | (cases h; done) | simp
theorem zdi {c : AV} {A : Nat → Prop} (h : scal c = true) : Bel A c := by cases c <;> first | (cases h; done) | exact .int _ _ | exact .str _ | exact .bool _
theorem zxe (l : List Val) : (rowV l).all AV.one = true := List.all_eq_true.2 fun c hc => zfc (zpc l c hc)
theorem zafq (l : List Cl) : (rowC l).all AV.one = true := List.all_eq_true.2 fun c hc => zfc (zacr l c hc)
theorem ztk {xs : List (List AV)} {A : Nat → Prop} (h : ∀ x ∈ xs, ∀ c ∈ x, scal c = true) : Bel A (.ro xs) := .ro xs fun i x j v hx hv => zdi (h x (List.mem_of_getElem? hx) v (List.mem_of_getElem? hv))
theorem zld (l : List Val) : ∀ x ∈ l.map Val.avs, ∀ c ∈ x, scal c = true := by intro x hx; obtain ⟨v, _, rfl⟩ := List.mem_map.1 hx; exact zcb v
theorem zgz (l : List Cl) : ∀ x ∈ l.map Cl.avs, ∀ c ∈ x, scal c = true := by intro x hx; obtain ⟨v, _, rfl⟩ := List.mem_map.1 hx; exact zzb v
theorem zah.frzV {H : Heap} {nx : Nat} {l : List Val} {a : AV} (h : zah H nx 3 (l.map Val.avs) a) : Frz H 0 a (.ro (l.map Val.avs)) :=
  h.frz (zkh l) (fun x hx v hv => ⟨zvd (zld l x hx v hv), zdi (zld l x hx v hv)⟩) (ztk (zld l))
theorem zah.frzC {H : Heap} {nx : Nat} {l : List Cl} {a : AV} (h : zah H nx 6 (l.map Cl.avs) a) : Frz H 0 a (.ro (l.map Cl.avs)) :=
  h.frz (zct l) (fun x hx v hv => ⟨zvd (zgz l x hx v hv), zdi (zgz l x hx v hv)⟩) (ztk (zgz l))
theorem ziz {esz bytes : Nat} {xs : List (List AV)} {a : AV} {H : Heap} {nx : Nat} (ha : zah H nx esz xs a) (hs : ∀ x ∈ xs, x.length = esz) (ho : xs.flatten.all AV.one = true) (hb : xs.length * bytes ≤ 140737488355328)
    {Q : AV → Heap → Nat → Prop} (h0 : xs = [] → Q .nils H nx) (h1 : ∀ H', H' (nx + 1) = some (.row esz xs.flatten) → (∀ g, g < nx → H' g = H g) → Q (.slc (nx + 1) 0 xs.length) H' (nx + 2)) :
    BL BinOp.eql a AV.nils fun v1 => CNDC v1 (Q AV.nils H nx) (APP esz bytes (AV.slc nx 0 0) a (H.put nx (some (AObj.row esz []))) (nx + 1) fun v2 H3 nx4 => Q v2 H3 nx4) := by
  have app : APP esz bytes (AV.slc nx 0 0) a (H.put nx (some (AObj.row esz []))) (nx + 1) fun v2 H3 nx4 => Q v2 H3 nx4 := by
    obtain ⟨rd, hsrc⟩ := (ha.keep (H' := H.put nx (some (AObj.row esz []))) (nx' := nx + 1) (fun g hg => Heap.put_ne _ _ (by omega)) (by omega)).src hs
    rw [zfg, hsrc]
    simp only [optk, Heap.put_at, rowk, Nat.zero_mul, Nat.zero_add, List.length_nil, List.drop_zero, List.take_nil, List.nil_append]
    refine ⟨trivial, ho, by omega, by omega, ?_⟩
    refine h1 _ (Heap.put_at _ _ _) fun g hg => ?_
    rw [Heap.put_ne _ _ (by omega), Heap.put_ne _ _ (by omega), Heap.put_ne _ _ (by omega)]
  cases ha with
  | ro =>
    rw [zaku]
    refine ⟨fun h => ?_, fun h => ?_⟩
    · rw [zxt]; exact ⟨h0 h, app⟩
    · rw [zadu]; exact app
  | slc g g1 g2 =>
    rw [zajj]
    refine ⟨fun h => ?_, fun h => ?_⟩
    · rw [zxt]; exact ⟨h0 (List.eq_nil_of_length_eq_zero h), app⟩
    · rw [zadu]; exact app
  | nils h => rw [zajk, zajd]; exact h0 h
theorem zadw {l : List Val} (hl : l.length * 32 ≤ 140737488355328) {a : AV} {H : Heap} {nx : Nat} (ha : zah H nx 3 (l.map Val.avs) a) {Q : AV → Heap → Nat → Prop}
    (h0 : l.map Val.avs = [] → Q .nils H nx) (h1 : ∀ H', H' (nx + 1) = some (.row 3 (l.map Val.avs).flatten) → (∀ g, g < nx → H' g = H g) → Q (.slc (nx + 1) 0 (l.map Val.avs).length) H' (nx + 2)) : zci a H nx Q := by
  unfold zci
  exact ziz (Q := Q) ha (zkh l) (zxe l) (by simpa using hl) h0 h1
theorem zadx (l : List Val) (hl : l.length * 32 ≤ 140737488355328) {a : AV} {H : Heap} {nx : Nat} (ha : zah H nx 3 (l.map Val.avs) a) :
    za Tryd.prog 80 [a] H nx fun v H' nx' => nx ≤ nx' ∧ Keep nx H' H ∧ ((l = [] ∧ v = .nils) ∨ ∃ g, nx ≤ g ∧ g < nx' ∧ v = .slc g 0 l.length ∧ H' g = some (.row 3 (rowV l))) := by
  refine zjx _ H nx _ ?_
  refine zadw hl ha (fun h => ?_) fun H' h1 h2 => ?_
  · exact ⟨by omega, by simp, .inl ⟨by simpa using h, rfl⟩⟩
  · exact ⟨by omega, h2, .inr ⟨nx + 1, by omega, by omega, by simp, h1⟩⟩
end Go.Proofs.YtobioljjoipimaaDoor
namespace Go.Proofs.YtobioljjoipimaaDoor
namespace VM
def OkV (N : Nat) (v : Val) : Prop := v.kind = 2 → 0 ≤ v.n ∧ v.n.toNat < N
structure Good (N : Nat) (o : List Nat) : Prop where
  nd : o.Nodup
  lt : ∀ n ∈ o, n < N
theorem Good.len {N : Nat} {o : List Nat} (h : Good N o) : o.length ≤ N := by
  have := h.nd.length_le_of_subset (l₂ := List.range N) (fun n hn => List.mem_range.2 (h.lt n hn))
  simpa using this
theorem Good.nil {N : Nat} : Good N [] := ⟨List.nodup_nil, fun n h => by simp at h⟩
theorem Good.meet {N : Nat} {o : List Nat} {v : Val} (h : Good N o) (hv : OkV N v) : Good N (meet o v) := by
  unfold VM.meet
  split
  · rename_i hc
    refine ⟨?_, fun n hn => ?_⟩
    · rw [List.nodup_append]
      exact ⟨h.nd, by simp, fun a ha b hb e => hc.2 (by simp at hb; rw [← hb, ← e]; exact ha)⟩
    · rcases List.mem_append.1 hn with h' | h'
      · exact h.lt n h'
      · simp at h'; rw [h']; exact (hv hc.1).2
  · exact h
theorem meet_pre (o : List Nat) (v : Val) : o <+: meet o v := by
  unfold meet; split
  · exact List.prefix_append _ _
  · exact List.prefix_refl _
def In (o : List Nat) (v : Val) : Prop := v.kind = 2 → v.n.toNat ∈ o
theorem In.pre {o F : List Nat} {v : Val} (h : In o v) (p : o <+: F) : In F v := fun hk => p.subset (h hk)
end VM
end Go.Proofs.YtobioljjoipimaaDoor
set_option maxRecDepth 8000
namespace Go.Proofs.YtobioljjoipimaaDoor
open Go Go.RowKit
end Go.Proofs.YtobioljjoipimaaDoor
set_option maxRecDepth 8000
namespace Go.Proofs.YtobioljjoipimaaDoor
open Go Go.RowKit
theorem zzc {L : List Val} {i : Nat} {v : Val} (h : L[i]? = some v) : ((rowV L).drop (i * 3)).take 3 = v.avs := zgk (zkh L) (by rw [List.getElem?_map, h]; rfl)
theorem zzd {L : List Cl} {i : Nat} {v : Cl} (h : L[i]? = some v) : ((rowC L).drop (i * 6)).take 6 = v.avs := zgk (zct L) (by rw [List.getElem?_map, h]; rfl)
theorem zph (v : Val) (L : List Val) : rowV (v :: L) = v.avs ++ rowV L := by simp [rowV]
theorem zvh (v : Cl) (L : List Cl) : rowC (v :: L) = v.avs ++ rowC L := by simp [rowC]
theorem zacu (L : List Cl) (c : Cl) : rowC (L ++ [c]) = rowC L ++ c.avs := by simp [rowC]
theorem zpf (L : List Val) (c : Val) : rowV (L ++ [c]) = rowV L ++ c.avs := by simp [rowV]
def zaji (F : List Nat) (h : List Cl) (n : Nat) : Cl := VM.putC F ((h[n]?).getD ⟨VM.vzero, VM.vzero⟩)
theorem zlo.keep {H H' : Heap} {g1 g2 gm gr nx : Nat} {o : List Nat} (h : zlo H g1 g2 gm gr o) (l1 : g1 < nx) (l2 : g2 < nx) (lm : gm < nx) (lr : o ≠ [] → gr < nx) (hk : ∀ g, g < nx → H' g = H g) : zlo H' g1 g2 gm gr o :=
  ⟨by rw [hk g1 l1]; exact h.m1, by rw [hk gm lm]; exact h.mm, by rw [hk g2 l2]; exact h.m2, fun ho => by rw [hk gr (lr ho)]; exact h.mr ho, h.d12, h.d1m, h.d2m, h.dr⟩
theorem zlo.next {H H' : Heap} {g1 g2 gm gr gn nx : Nat} {o : List Nat} {n : Nat} (h : zlo H g1 g2 gm gr o) (l1 : g1 < nx) (l2 : g2 < nx) (lm : gm < nx) (lr : o ≠ [] → gr < nx) (hgn : nx ≤ gn) (p3 : H' gm = some (.mp (zada (o ++ [n])))) (p4 : H' g2 = some (.row 1 [.slc gn 0 (o.length + 1)]))
    (p5 : H' gn = some (.row 1 (zsx (o ++ [n])))) (p7 : H' g1 = H g1) : zlo H' g1 g2 gm gn (o ++ [n]) :=
  ⟨by rw [p7]; exact h.m1, p3, by rw [p4]; simp, fun _ => p5, h.d12, h.d1m, h.d2m, fun _ => ⟨by omega, by omega, by omega⟩⟩
end Go.Proofs.YtobioljjoipimaaDoor
set_option maxRecDepth 8000
namespace Go.Proofs.YtobioljjoipimaaDoor
open Go Go.RowKit
structure zql (h : List Cl) (l : List Val) (F : List Nat) (H0 : Heap) (nx i d : Nat) (o : List Nat) (a2 : AV) (H : Heap) (n gr go gv : Nat) : Prop where
  num : zlo H (nx + 1) (nx + 2) nx gr o
  lr : o ≠ [] → nx + 3 ≤ gr ∧ gr < n ∧ gv ≠ gr
  out : (d = 0 ∧ a2 = .nils) ∨ (0 < d ∧ a2 = .slc go 0 d ∧ H go = some (.row 6 (rowC ((o.take d).map (zaji F h)))) ∧ nx + 3 ≤ go ∧ go < n ∧ go ≠ gv ∧ go ≠ gr)
  vs : H gv = some (.row 3 (rowV ((l.take i).map (VM.put F) ++ l.drop i)))
  lv : nx + 3 ≤ gv ∧ gv < n
  keep : Keep nx H H0
  good : VM.Good h.length o
  dle : d ≤ o.length
theorem zql.more {h : List Cl} {l : List Val} {F : List Nat} {H0 : Heap} {nx i d : Nat} {o : List Nat} {a2 : AV} {H : Heap} {n gr go gv : Nat} (st : zql h l F H0 nx i d o a2 H n gr go gv) {H1 : Heap} {n1 : Nat} (hn : n ≤ n1) (hk : ∀ g, g < n → H1 g = H g) : zql h l F H0 nx i d o a2 H1 n1 gr go gv := by
  have l1 := st.lv
  refine ⟨st.num.keep (nx := n) (by omega) (by omega) (by omega) (fun ho => (st.lr ho).2.1) hk, fun ho => ?_, ?_, by rw [hk gv l1.2]; exact st.vs, by omega, fun g hg => by rw [hk g (by omega)]; exact st.keep g hg, st.good, st.dle⟩
  · have := st.lr ho; omega
  · rcases st.out with h | ⟨p1, p2, p3, p4, p5, p6⟩
    · exact .inl h
    · exact .inr ⟨p1, p2, by rw [hk go p5]; exact p3, p4, by omega, p6⟩
theorem zafe {o o' : List Nat} (h : o <+: o') {d : Nat} (hd : d ≤ o.length) : o'.take d = o.take d := by
  obtain ⟨t, rfl⟩ := h
  rw [List.take_append_of_le_length hd]
theorem zql.meet {h : List Cl} {l : List Val} {F : List Nat} {H0 : Heap} {nx i d : Nat} {o : List Nat} {a2 : AV} {H : Heap} {n gr go gv : Nat} (st : zql h l F H0 nx i d o a2 H n gr go gv) {v : Val} (hv : VM.OkV h.length v) {H' : Heap} {n' gr' : Nat} (hn : n ≤ n')
    (q1 : zlo H' (nx + 1) (nx + 2) nx gr' (VM.meet o v)) (q2 : VM.meet o v ≠ [] → gr' < n' ∧ ((o ≠ [] ∧ gr' = gr) ∨ n ≤ gr')) (q3 : ∀ g, g < n → g ≠ nx → g ≠ nx + 2 → (o ≠ [] → g ≠ gr) → H' g = H g) : zql h l F H0 nx i d (VM.meet o v) a2 H' n' gr' go gv := by
  have l1 := st.lv
  have p := VM.meet_pre o v
  have hgv : H' gv = H gv := q3 gv l1.2 (by omega) (by omega) fun ho => (st.lr ho).2.2
  refine ⟨q1, fun ho => ?_, ?_, by rw [hgv]; exact st.vs, by omega, fun g hg => ?_, st.good.meet hv, Nat.le_trans st.dle p.length_le⟩
  · obtain ⟨a, b⟩ := q2 ho
    rcases b with ⟨b1, rfl⟩ | b
    · have := st.lr b1; omega
    · omega
  · rcases st.out with h | ⟨p1, p2, p3, p4, p5, p6, p7⟩
    · exact .inl h
    · have ho : o ≠ [] := by intro e; subst e; have := st.dle; simp at this; omega
      refine .inr ⟨p1, p2, ?_, p4, by omega, p6, ?_⟩
      · rw [q3 go p5 (by omega) (by omega) fun _ => p7, zafe p st.dle]; exact p3
      · have hm : VM.meet o v ≠ [] := by
          intro e; rw [e] at p; exact ho (List.prefix_nil.1 p)
        rcases (q2 hm).2 with ⟨_, rfl⟩ | b
        · exact p7
        · omega
  · rw [q3 g (by omega) (by omega) (by omega) fun ho => by have := st.lr ho; omega]; exact st.keep g hg
theorem znq {A : Prop} {m : List Nat} : ∀ {l : List Nat}, (∀ g ∈ l, g ∉ m) → A → zg l m A
  | [], _, a => by rw [zadt]; exact a
  | g :: r, h, a => by rw [zabv]; exact ⟨h g (by simp), znq (fun x hx => h x (by simp [hx])) a⟩
theorem zva {α : Type} {l : List α} {i : Nat} {v : α} (h : l[i]? = some v) : l.take (i + 1) = l.take i ++ [v] := by
  rw [List.take_add_one, h]; rfl
end Go.Proofs.YtobioljjoipimaaDoor
namespace Go.Proofs.YtobioljjoipimaaDoor
namespace VM
theorem vshow_int {h : List Cl} {d : Nat} {v : Val} (k : v.kind = 0) : vshow h d v = Lib.itoa v.n := by cases d <;> simp [vshow, k]
theorem vshow_text {h : List Cl} {d : Nat} {v : Val} (k : v.kind = 1) : vshow h d v = v.text := by cases d <;> simp [vshow, k]
theorem vshow_dots {h : List Cl} {v : Val} (k : v.kind = 2) : vshow h 0 v = [46, 46] := by simp [vshow, k]
theorem vshow_cell {h : List Cl} {d : Nat} {v : Val} {c : Cl} (k : v.kind = 2) (hn : 0 ≤ v.n) (hc : h[v.n.toNat]? = some c) : vshow h (d + 1) v = [40] ++ vshow h d c.left ++ [32] ++ vshow h d c.right ++ [41] := by simp [vshow, k, hn, hc]
end VM
end Go.Proofs.YtobioljjoipimaaDoor
namespace Go.Proofs.YtobioljjoipimaaDoor
open Go Go.RowKit
end Go.Proofs.YtobioljjoipimaaDoor
namespace Go.Proofs.YtobioljjoipimaaDoor
open Go Go.RowKit
end Go.Proofs.YtobioljjoipimaaDoor
namespace Go.Proofs
open Go.Shelf
def Tryd.laysM171_ren : Go.Shelf.Ren := ⟨fun | 171 => 76 | 243 => 103 | 246 => 111 | 283 => 117 | 284 => 118 | 285 => 119 | 286 => 120 | 129 => 127 | 317 => 126 | 318 => 128 | 319 => 129 | 320 => 130 | 337 => 134 | 338 => 135 | n => n, fun | 3 => 3 | 9 => 9 | 2 => 2 | 4 => 4 | 171 => 188 | 0 => 0 | 53 => 189 | 37 => 192 | 5 => 5 | 173 => 193 | 212 => 202 | 51 => 203 | 20 => 20 | 213 => 204 | 46 => 205 | 232 => 219 | 233 => 220 | n => n, fun | 17 => 0 | 18 => 3 | 19 => 4 | n => n⟩
theorem Tryd.laysM171 : Go.Proofs.LaysM.n171 Tryd.prog Tryd.laysM171_ren := {
  mixed := by kernel_rfl
  f129 := Tryd.func127.trans (congrArg some (by kernel_rfl))
  f171 := Tryd.func76.trans (congrArg some (by kernel_rfl))
  f243 := Tryd.func103.trans (congrArg some (by kernel_rfl))
  f246 := Tryd.func111.trans (congrArg some (by kernel_rfl))
  f283 := Tryd.func117.trans (congrArg some (by kernel_rfl))
  f284 := Tryd.func118.trans (congrArg some (by kernel_rfl))
  f285 := Tryd.func119.trans (congrArg some (by kernel_rfl))
  f286 := Tryd.func120.trans (congrArg some (by kernel_rfl))
  f317 := Tryd.func126.trans (congrArg some (by kernel_rfl))
  f318 := Tryd.func128.trans (congrArg some (by kernel_rfl))
  f319 := Tryd.func129.trans (congrArg some (by kernel_rfl))
  f320 := Tryd.func130.trans (congrArg some (by kernel_rfl))
  f337 := Tryd.func134.trans (congrArg some (by kernel_rfl))
  f338 := Tryd.func135.trans (congrArg some (by kernel_rfl))
  t0 := Tryd.underlying0
  a0 := Tryd.isAgg0
  z0 := Tryd.sizeOf0
  v0 := Tryd.zeroValue0
  t2 := Tryd.underlying2
  a2 := Tryd.isAgg2
  z2 := Tryd.sizeOf2
  v2 := Tryd.zeroValue2
  t3 := Tryd.underlying3
  a3 := Tryd.isAgg3
  z3 := Tryd.sizeOf3
  v3 := Tryd.zeroValue3
  t4 := Tryd.underlying4
  a4 := Tryd.isAgg4
  z4 := Tryd.sizeOf4
  v4 := Tryd.zeroValue4
  t5 := Tryd.underlying5
  a5 := Tryd.isAgg5
  z5 := Tryd.sizeOf5
  v5 := Tryd.zeroValue5
  t9 := Tryd.underlying9
  a9 := Tryd.isAgg9
  z9 := Tryd.sizeOf9
  v9 := Tryd.zeroValue9
  t20 := Tryd.underlying20
  a20 := Tryd.isAgg20
  z20 := Tryd.sizeOf20
  v20 := Tryd.zeroValue20
  t37 := Tryd.underlying192
  a37 := Tryd.isAgg192
  z37 := Tryd.sizeOf192
  v37 := Tryd.zeroValue192
  t46 := Tryd.underlying205
  a46 := Tryd.isAgg205
  z46 := Tryd.sizeOf205
  v46 := Tryd.zeroValue205
  t51 := Tryd.underlying203
  a51 := Tryd.isAgg203
  z51 := Tryd.sizeOf203
  v51 := Tryd.zeroValue203
  t53 := Tryd.underlying189
  a53 := Tryd.isAgg189
  z53 := Tryd.sizeOf189
  v53 := Tryd.zeroValue189
  t171 := Tryd.underlying188
  a171 := Tryd.isAgg188
  z171 := Tryd.sizeOf188
  v171 := Tryd.zeroValue188
  t173 := Tryd.underlying193
  a173 := Tryd.isAgg193
  z173 := Tryd.sizeOf193
  v173 := Tryd.zeroValue193
  t212 := Tryd.underlying202
  a212 := Tryd.isAgg202
  z212 := Tryd.sizeOf202
  v212 := Tryd.zeroValue202
  t213 := Tryd.underlying204
  a213 := Tryd.isAgg204
  z213 := Tryd.sizeOf204
  t232 := Tryd.underlying219
  a232 := Tryd.isAgg219
  z232 := Tryd.sizeOf219
  v232 := Tryd.zeroValue219
  t233 := Tryd.underlying220
  a233 := Tryd.isAgg220
  z233 := Tryd.sizeOf220
  v233 := Tryd.zeroValue220
  g17 := by kernel_rfl
  g18 := by kernel_rfl
  g19 := by kernel_rfl
  i0 := by kernel_rfl
  i2 := by kernel_rfl
  i3 := by kernel_rfl
  i4 := by kernel_rfl
  i5 := by kernel_rfl
  i9 := by kernel_rfl
  i20 := by kernel_rfl
  i37 := by kernel_rfl
  i46 := by kernel_rfl
  i51 := by kernel_rfl
  i53 := by kernel_rfl
  i171 := by kernel_rfl
  i173 := by kernel_rfl
  i212 := by kernel_rfl
  i232 := by kernel_rfl
  i233 := by kernel_rfl
  m17 := by kernel_rfl
  m18 := by kernel_rfl
  m19 := by kernel_rfl }
open Go.RowKit Go.Sort Go.Lib in
theorem Tryd.strconv_Itoa (n : Int) (h0 : -9223372036854775808 ≤ n) (h1 : n ≤ 9223372036854775807) (w : World) (htab : Lib.TabIs Tryd.prog w "internal/strconv.uint64pow10" .u64 Lib.pow10Tab) :
    Calls Tryd.prog 76 #[.int .i64 n] w fun e w' => e = .returned (.string ⟨(Lib.itoa n).toArray⟩) ∧ ∃ k os, w' = grow (w.drewN k) os := Any.strconv_Itoa Tryd.laysM171 n h0 h1 w htab
def Tryd.laysC172_ren : Go.Shelf.Ren := ⟨fun | 172 => 106 | 244 => 114 | 245 => 115 | 247 => 121 | 279 => 122 | 280 => 123 | 281 => 124 | 282 => 125 | 287 => 131 | 316 => 132 | 171 => 76 | 205 => 133 | 321 => 136 | 322 => 137 | 243 => 103 | 246 => 111 | 283 => 117 | 284 => 118 | 285 => 119 | 286 => 120 | 129 => 127 | 317 => 126 | 318 => 128 | 319 => 129 | 320 => 130 | 337 => 134 | 338 => 135 | n => n, fun | 9 => 9 | 3 => 3 | 75 => 180 | 76 => 181 | 4 => 4 | 5 => 5 | 167 => 195 | 37 => 192 | 0 => 0 | 85 => 196 | 2 => 2 | 168 => 198 | 53 => 189 | 175 => 207 | 46 => 205 | 210 => 211 | 127 => 215 | 145 => 218 | 143 => 216 | 21 => 21 | 171 => 188 | 173 => 193 | 212 => 202 | 51 => 203 | 20 => 20 | 213 => 204 | 232 => 219 | 233 => 220 | 80 => 66 | n => n, fun | 15 => 1 | 16 => 2 | 17 => 0 | 18 => 3 | 19 => 4 | n => n⟩
theorem Tryd.laysC172 : Go.Proofs.LaysC.n172 Tryd.prog Tryd.laysC172_ren := {
  mixed := by kernel_rfl
  f129 := Tryd.func127.trans (congrArg some (by kernel_rfl))
  f171 := Tryd.func76.trans (congrArg some (by kernel_rfl))
  f172 := Tryd.func106.trans (congrArg some (by kernel_rfl))
  f205 := Tryd.func133.trans (congrArg some (by kernel_rfl))
  f243 := Tryd.func103.trans (congrArg some (by kernel_rfl))
  f244 := Tryd.func114.trans (congrArg some (by kernel_rfl))
  f245 := Tryd.func115.trans (congrArg some (by kernel_rfl))
  f246 := Tryd.func111.trans (congrArg some (by kernel_rfl))
  f247 := Tryd.func121.trans (congrArg some (by kernel_rfl))
  f279 := Tryd.func122.trans (congrArg some (by kernel_rfl))
  f280 := Tryd.func123.trans (congrArg some (by kernel_rfl))
  f281 := Tryd.func124.trans (congrArg some (by kernel_rfl))
  f282 := Tryd.func125.trans (congrArg some (by kernel_rfl))
  f283 := Tryd.func117.trans (congrArg some (by kernel_rfl))
  f284 := Tryd.func118.trans (congrArg some (by kernel_rfl))
  f285 := Tryd.func119.trans (congrArg some (by kernel_rfl))
  f286 := Tryd.func120.trans (congrArg some (by kernel_rfl))
  f287 := Tryd.func131.trans (congrArg some (by kernel_rfl))
  f316 := Tryd.func132.trans (congrArg some (by kernel_rfl))
  f317 := Tryd.func126.trans (congrArg some (by kernel_rfl))
  f318 := Tryd.func128.trans (congrArg some (by kernel_rfl))
  f319 := Tryd.func129.trans (congrArg some (by kernel_rfl))
  f320 := Tryd.func130.trans (congrArg some (by kernel_rfl))
  f321 := Tryd.func136.trans (congrArg some (by kernel_rfl))
  f322 := Tryd.func137.trans (congrArg some (by kernel_rfl))
  f337 := Tryd.func134.trans (congrArg some (by kernel_rfl))
  f338 := Tryd.func135.trans (congrArg some (by kernel_rfl))
  t0 := Tryd.underlying0
  a0 := Tryd.isAgg0
  z0 := Tryd.sizeOf0
  v0 := Tryd.zeroValue0
  t2 := Tryd.underlying2
  a2 := Tryd.isAgg2
  z2 := Tryd.sizeOf2
  v2 := Tryd.zeroValue2
  t3 := Tryd.underlying3
  a3 := Tryd.isAgg3
  z3 := Tryd.sizeOf3
  v3 := Tryd.zeroValue3
  t4 := Tryd.underlying4
  a4 := Tryd.isAgg4
  z4 := Tryd.sizeOf4
  v4 := Tryd.zeroValue4
  t5 := Tryd.underlying5
  a5 := Tryd.isAgg5
  z5 := Tryd.sizeOf5
  v5 := Tryd.zeroValue5
  t9 := Tryd.underlying9
  a9 := Tryd.isAgg9
  z9 := Tryd.sizeOf9
  v9 := Tryd.zeroValue9
  t20 := Tryd.underlying20
  a20 := Tryd.isAgg20
  z20 := Tryd.sizeOf20
  v20 := Tryd.zeroValue20
  t21 := Tryd.underlying21
  a21 := Tryd.isAgg21
  z21 := Tryd.sizeOf21
  v21 := Tryd.zeroValue21
  t37 := Tryd.underlying192
  a37 := Tryd.isAgg192
  z37 := Tryd.sizeOf192
  v37 := Tryd.zeroValue192
  t46 := Tryd.underlying205
  a46 := Tryd.isAgg205
  z46 := Tryd.sizeOf205
  v46 := Tryd.zeroValue205
  t51 := Tryd.underlying203
  a51 := Tryd.isAgg203
  z51 := Tryd.sizeOf203
  v51 := Tryd.zeroValue203
  t53 := Tryd.underlying189
  a53 := Tryd.isAgg189
  z53 := Tryd.sizeOf189
  v53 := Tryd.zeroValue189
  t75 := Tryd.underlying180
  a75 := Tryd.isAgg180
  z75 := Tryd.sizeOf180
  v75 := Tryd.zeroValue180
  t76 := Tryd.underlying181
  a76 := Tryd.isAgg181
  z76 := Tryd.sizeOf181
  v76 := Tryd.zeroValue181
  t85 := Tryd.underlying196
  a85 := Tryd.isAgg196
  z85 := Tryd.sizeOf196
  v85 := Tryd.zeroValue196
  t127 := Tryd.underlying215
  a127 := Tryd.isAgg215
  z127 := Tryd.sizeOf215
  v127 := Tryd.zeroValue215
  t143 := Tryd.underlying216
  a143 := Tryd.isAgg216
  z143 := Tryd.sizeOf216
  v143 := Tryd.zeroValue216
  t145 := Tryd.underlying218
  a145 := Tryd.isAgg218
  z145 := Tryd.sizeOf218
  v145 := Tryd.zeroValue218
  t167 := Tryd.underlying195
  a167 := Tryd.isAgg195
  z167 := Tryd.sizeOf195
  v167 := Tryd.zeroValue195
  t168 := Tryd.underlying198
  a168 := Tryd.isAgg198
  z168 := Tryd.sizeOf198
  v168 := Tryd.zeroValue198
  t171 := Tryd.underlying188
  a171 := Tryd.isAgg188
  z171 := Tryd.sizeOf188
  v171 := Tryd.zeroValue188
  t173 := Tryd.underlying193
  a173 := Tryd.isAgg193
  z173 := Tryd.sizeOf193
  v173 := Tryd.zeroValue193
  t175 := Tryd.underlying207
  a175 := Tryd.isAgg207
  z175 := Tryd.sizeOf207
  v175 := Tryd.zeroValue207
  t210 := Tryd.underlying211
  a210 := Tryd.isAgg211
  z210 := Tryd.sizeOf211
  v210 := Tryd.zeroValue211
  t212 := Tryd.underlying202
  a212 := Tryd.isAgg202
  z212 := Tryd.sizeOf202
  v212 := Tryd.zeroValue202
  t213 := Tryd.underlying204
  a213 := Tryd.isAgg204
  z213 := Tryd.sizeOf204
  t232 := Tryd.underlying219
  a232 := Tryd.isAgg219
  z232 := Tryd.sizeOf219
  v232 := Tryd.zeroValue219
  t233 := Tryd.underlying220
  a233 := Tryd.isAgg220
  z233 := Tryd.sizeOf220
  v233 := Tryd.zeroValue220
  g15 := by kernel_rfl
  g16 := by kernel_rfl
  g17 := by kernel_rfl
  g18 := by kernel_rfl
  g19 := by kernel_rfl
  t80 := Tryd.underlying66
  a80 := Tryd.isAgg66
  z80 := Tryd.sizeOf66
  v80 := Tryd.zeroValue66
  i0 := by kernel_rfl
  i2 := by kernel_rfl
  i3 := by kernel_rfl
  i4 := by kernel_rfl
  i5 := by kernel_rfl
  i9 := by kernel_rfl
  i20 := by kernel_rfl
  i21 := by kernel_rfl
  i37 := by kernel_rfl
  i46 := by kernel_rfl
  i51 := by kernel_rfl
  i53 := by kernel_rfl
  i75 := by kernel_rfl
  i76 := by kernel_rfl
  i80 := by kernel_rfl
  i85 := by kernel_rfl
  i127 := by kernel_rfl
  i143 := by kernel_rfl
  i145 := by kernel_rfl
  i167 := by kernel_rfl
  i168 := by kernel_rfl
  i171 := by kernel_rfl
  i173 := by kernel_rfl
  i175 := by kernel_rfl
  i210 := by kernel_rfl
  i212 := by kernel_rfl
  i232 := by kernel_rfl
  i233 := by kernel_rfl
  m15 := by kernel_rfl
  m16 := by kernel_rfl
  m17 := by kernel_rfl
  m18 := by kernel_rfl
  m19 := by kernel_rfl
  c0 := by kernel_rfl
  c2 := by kernel_rfl
  c3 := by kernel_rfl
  c4 := by kernel_rfl
  c5 := by kernel_rfl
  c9 := by kernel_rfl
  c20 := by kernel_rfl
  c21 := by kernel_rfl
  c37 := by kernel_rfl
  c46 := by kernel_rfl
  c51 := by kernel_rfl
  c53 := by kernel_rfl
  c75 := by kernel_rfl
  c76 := by kernel_rfl
  c80 := by kernel_rfl
  c85 := by kernel_rfl
  c127 := by kernel_rfl
  c143 := by kernel_rfl
  c145 := by kernel_rfl
  c167 := by kernel_rfl
  c168 := by kernel_rfl
  c171 := by kernel_rfl
  c173 := by kernel_rfl
  c175 := by kernel_rfl
  c210 := by kernel_rfl
  c212 := by kernel_rfl
  c213 := by kernel_rfl
  c232 := by kernel_rfl
  c233 := by kernel_rfl }
open Go.RowKit in
theorem Tryd.strconv_Atoi_ok (s : ByteArray) (hmax : s.size ≤ 9223372036854775806) (v : Int) (h : Lib.atoiAll s.data.toList = .ok v) (w : World) :
    Calls Tryd.prog 106 #[.string s] w fun e w' => e = .returned (.tuple #[.int .i64 v, .nilIface]) ∧ (w' = w ∨ ∃ t, w' = Lib.bytesWorld w 5 t) := Any.strconv_Atoi_ok Tryd.laysC172 s hmax v h w
open Go.RowKit in
theorem Tryd.strconv_Atoi_syntax_var (s : ByteArray) (hlim : s.size ≤ 281474976710656) (h : Lib.atoiAll s.data.toList = Lib.atoiAll []) (tp : TypeId) (p : Value) (w : World) (hvar : w.var? Tryd.prog "strconv.ErrSyntax" = some #[.iface tp p]) :
    Calls Tryd.prog 106 #[.string s] w fun e w' => ∃ N, e = .returned (.tuple #[.int .i64 0, .iface 198 (.pointer (some ⟨N, 0, none⟩))]) ∧ w.heap.size ≤ N ∧ w'.heap[N]? = some (.cells #[.string ⟨#[65, 116, 111, 105]⟩, .string s, .iface tp p] 211 (0, 0)) ∧ Below w.heap.size w w' := Any.strconv_Atoi_syntax_var Tryd.laysC172 s hlim h tp p w hvar
open Go.RowKit in
theorem Tryd.strconv_Atoi_range_var (s : ByteArray) (hlim : s.size ≤ 281474976710656) (h : Lib.atoiAll s.data.toList = .range) (tp : TypeId) (p : Value) (w : World) (hvar : w.var? Tryd.prog "strconv.ErrRange" = some #[.iface tp p]) :
    Calls Tryd.prog 106 #[.string s] w fun e w' => ∃ N, e = .returned (.tuple #[.int .i64 (Lib.atoiSat s.data.toList), .iface 198 (.pointer (some ⟨N, 0, none⟩))]) ∧ w.heap.size ≤ N ∧ w'.heap[N]? = some (.cells #[.string ⟨#[65, 116, 111, 105]⟩, .string s, .iface tp p] 211 (0, 0)) ∧ Below w.heap.size w w' := Any.strconv_Atoi_range_var Tryd.laysC172 s hlim h tp p w hvar
end Go.Proofs
namespace Go.Proofs.YtobioljjoipimaaDoor
open Go Go.RowKit
theorem Sim.below {A : Nat → Prop} {ρ : Nat → Loc} {H : Heap} {w w' : World} (s : Sim A ρ H w) (b : Below w.heap.size w w') : Sim A ρ H w' ∧ Fr A ρ H w A ρ H w' := by
  have hK : ∀ b' o, Kof ρ H w b' = some o → Kof ρ H w' b' = some o := fun b' o hb => by
    obtain ⟨h1, h2⟩ := zp.1 hb
    exact zp.2 ⟨h1, by rw [b.block b' (Array.getElem?_eq_some_iff.1 h2).1]; exact h2⟩
  refine ⟨⟨s.live, fun g o ho => ?_, s.inj, s.lay.mono hK⟩, ⟨fun _ h => ⟨rfl, h⟩, hK, b.os, b.tape, b.output, b.size⟩⟩
  exact (s.obj g o ho).mono (b.block _ (s.obj g o ho).block_lt) hK (fun _ h => ⟨rfl, h⟩)
theorem QC.of_calls {P : Program} {f : FuncId} {fn : Func} {c : Code} {args : List AV} {r : AV} (hf : P.funcs[f]? = some fn) (hb : fn.body = some c) (hname : (fn.name == "runtime.NumGoroutine") = false)
    (h : ∀ (K : zl) (ρ : Nat → Loc) (A : Nat → Prop) (w : World) (cargs : Array Value), LayK (fun b => w.heap[b]?) → LRel K ρ A args cargs.toList → Calls P f cargs w fun e w' => (∃ v, e = .returned v ∧ ∀ (K : zl) (ρ : Nat → Loc) (A : Nat → Prop), VRel K ρ A r v) ∧ Below w.heap.size w w') : QC P f args r := by
  intro H nx ρ w cargs s ha
  have hcall : (callFunc f cargs).run P w = .ok (.enter f cargs) w := by
    have hname' : ¬ fn.name = "runtime.NumGoroutine" := by simpa using hname
    simp [callFunc, program, Sem.run_bind, Sem.run, hf, hname', hb, pure]
  rw [hcall]
  simp only [zq]
  refine (h _ _ _ w cargs (s.lay.mono fun b o hb => (zp.1 hb).2) ha).mono fun e w' ⟨⟨v, he, hv⟩, hw⟩ => ?_
  obtain ⟨s', f'⟩ := s.below hw
  exact ⟨v, he, r, H, nx, ρ, ⟨rfl, rfl, rfl⟩, s', hv _ _ _, f'⟩
theorem zaff : (Tryd.prog.globalNamed "internal/strconv.uint64pow10").isSome = true := by kernel_rfl
theorem LayK.tab {w : World} (h : LayK (fun b => w.heap[b]?)) : Lib.TabIs Tryd.prog w "internal/strconv.uint64pow10" .u64 Lib.pow10Tab := by
  obtain ⟨g, hg⟩ := Option.isSome_iff_exists.1 zaff
  obtain ⟨e, m, hc⟩ := h.1 g hg
  unfold Lib.TabIs World.var?
  have hc' : w.heap[g]? = _ := hc
  rw [hg, Option.bind_some, hc']
set_option maxRecDepth 8000 in
theorem zzg (n : Int) (h0 : -9223372036854775808 ≤ n) (h1 : n ≤ 9223372036854775807) : QC Tryd.prog 76 [.int .i64 n] (.str (Lib.itoa n)) := by
  refine QC.of_calls (c := zn Tryd.f76) Tryd.func76 (by kernel_rfl) (by kernel_rfl) fun K ρ A w cargs hl ha => ?_
  have hc : cargs = #[.int .i64 n] := by
    obtain ⟨hlen, hg⟩ := ha
    have hlen' : cargs.toList.length = 1 := hlen
    match he : cargs.toList, hlen' with
    | [v], _ =>
      have := hg 0 (.int .i64 n) v rfl (by rw [he]; rfl)
      cases this
      exact Array.ext' (by rw [he])
  subst hc
  refine (Tryd.strconv_Itoa n h0 h1 w hl.tab).mono fun e w' ⟨he, k, os, hw⟩ => ?_
  subst he hw
  refine ⟨⟨_, rfl, fun K ρ A => .str _⟩, ⟨rfl, rfl, rfl, ?_, fun b hb => ?_⟩⟩
  · simp [Sort.grow, World.drewN]
  · simp only [Sort.grow, World.drewN]
    rw [Array.getElem?_append_left (by simpa using hb)]
end Go.Proofs.YtobioljjoipimaaDoor
set_option maxRecDepth 8000
namespace Go.Proofs.YtobioljjoipimaaDoor
open Go Go.RowKit
theorem zle (v : Val) {A : Nat → Prop} : Bel A (.agg v.avs) := .agg _ fun j x hx => zdi (zcb _ x (List.mem_of_getElem? hx))
def zmj (h : List Cl) : Prop := ∀ c ∈ h, VM.WrongOk c.left h.length ∧ VM.WrongOk c.right h.length
theorem zla {h : List Cl} (hc : zmj h) : ∀ (d : Nat) {v : Val}, VM.WrongOk v h.length → (VM.vshow h d v).length + 3 ≤ 63 * 2 ^ d
  | d, v, hv => by
    have hp : 1 ≤ 2 ^ d := Nat.one_le_two_pow
    rcases hv.kind with k | k | k
    · rw [VM.vshow_int k]
      have := hv.int k
      have := Lib.itoa_length_le v.n (by omega) (by omega)
      omega
    · rw [VM.vshow_text k]
      have := hv.len; omega
    · cases d with
      | zero => rw [VM.vshow_dots k]; simp
      | succ d =>
        obtain ⟨h0, h1⟩ := hv.cell k
        have hlt : v.n.toNat < h.length := by omega
        obtain ⟨w1, w2⟩ := hc _ (List.getElem_mem hlt)
        have i1 := zla hc d w1
        have i2 := zla hc d w2
        rw [VM.vshow_cell k h0 (List.getElem?_eq_getElem hlt)]
        simp only [List.length_append, List.length_cons, List.length_nil]
        rw [Nat.pow_succ]; omega
set_option maxHeartbeats 2000000 in
theorem zub {h : List Cl} (hc : zmj h) : ∀ (d : Nat) (v : Val) (deep : Int), VM.WrongOk v h.length → deep.toNat = d → d ≤ 5 → -9223372036854775808 ≤ deep → QC Tryd.prog 94 [.ro (h.map Cl.avs), .agg v.avs, .int .i64 deep] (.str (VM.vshow h d v))
  | d, v, deep, hv, hd, hd5, hlow => by
    refine QC.of' fun H nx => ztj _ _ _ H nx _ ?_
    rcases hv.kind with k | k | k
    · have := hv.int k
      rw [VM.vshow_int k]
      simp [zdq, Val.avs, k]
      refine QC.call (zzg v.n (by omega) (by omega)) ?_
      simp [zpw]
    · rw [VM.vshow_text k]
      simp [zdq, Val.avs, k]
    · obtain ⟨h0, h1⟩ := hv.cell k
      have hlt : v.n.toNat < h.length := by omega
      have hn0 : ¬ v.n < 0 := by omega
      have hn1 : ¬ (h.length : Int) ≤ v.n := by omega
      cases d with
      | zero =>
        rw [VM.vshow_dots k]
        have : deep ≤ 0 := by omega
        simp [zdq, Val.avs, k, this]
      | succ d =>
        have hpos : ¬ deep ≤ 0 := by omega
        obtain ⟨w1, w2⟩ := hc _ (List.getElem_mem hlt)
        rw [VM.vshow_cell k h0 (List.getElem?_eq_getElem hlt)]
        have hget : h[v.n.toNat]? = some h[v.n.toNat] := List.getElem?_eq_getElem hlt
        generalize h[v.n.toNat] = c at *
        have l1 := zla hc d w1
        have l2 := zla hc d w2
        have hp : 2 ^ d ≤ 2 ^ 5 := Nat.pow_le_pow_right (by omega) (by omega)
        have hw : IntKind.i64.wrap (deep - 1) = deep - 1 := i64w (by omega)
        have ih1 := zub hc d c.left (deep - 1) w1 (by omega) (by omega) (by omega)
        have ih2 := zub hc d c.right (deep - 1) w2 (by omega) (by omega) (by omega)
        have t1 : c.avs.take 3 = c.left.avs := rfl
        have t2 : (c.avs.drop 3).take 3 = c.right.avs := rfl
        simp [zdq, Val.avs, k, hpos, hn0, hn1, hget, hw]
        refine ⟨h0, h1, ?_⟩
        rw [t1]
        refine zt.of_qc ih1 (.str _) ?_
        simp [zpu, hget, hw]
        refine ⟨by omega, by omega, h0, h1, ?_⟩
        rw [t2]
        refine zt.of_qc ih2 (.str _) ?_
        simp [zpv]
        omega
end Go.Proofs.YtobioljjoipimaaDoor
set_option maxRecDepth 8000
namespace Go.Proofs.YtobioljjoipimaaDoor
open Go Go.RowKit
def Grow (H : Heap) (lo n sz k : Nat) (cells : List AV) (a : AV) : Prop := (k = 0 ∧ a = .nils) ∨ (0 < k ∧ ∃ g, lo ≤ g ∧ g < n ∧ a = .slc g 0 k ∧ H g = some (.row sz cells))
theorem Grow.zero {H : Heap} {lo n sz : Nat} {cells : List AV} : Grow H lo n sz 0 cells .nils := .inl ⟨rfl, rfl⟩
theorem Grow.more {H H' : Heap} {lo n n' sz k : Nat} {cells : List AV} {a : AV} (h : Grow H lo n sz k cells a) (hn : n ≤ n') (hk : ∀ g, lo ≤ g → g < n → H' g = H g) : Grow H' lo n' sz k cells a := by
  rcases h with h | ⟨h0, g, h1, h2, h3, h4⟩
  · exact .inl h
  · exact .inr ⟨h0, g, h1, by omega, h3, by rw [hk g h1 h2]; exact h4⟩
theorem Grow.len {H : Heap} {lo n sz k : Nat} {cells : List AV} {a : AV} (h : Grow H lo n sz k cells a) {q : AV → Prop} : LNL a q = q (.int .i64 k) := by
  rcases h with ⟨rfl, rfl⟩ | ⟨h0, g, h1, h2, rfl, h4⟩ <;> simp
theorem Grow.app {H : Heap} {lo n sz k bytes t nx : Nat} {cells new : List AV} {a : AV} {kk : AV → Heap → Nat → Prop} (hg : Grow H lo n sz k cells a) (hlen : cells.length = k * sz) (ht : H t = some (.row sz new)) (hnl : new.length = sz) (hone : new.all AV.one = true)
    (hb : (k + 1) * bytes ≤ 140737488355328) (hn : n ≤ nx) (hlo : lo ≤ nx) (hk : ∀ H', Keep lo H' H → Grow H' lo (nx + 1) sz (k + 1) (cells ++ new) (.slc nx 0 (k + 1)) → kk (.slc nx 0 (k + 1)) H' (nx + 1)) : APP sz bytes a (.slc t 0 1) H nx kk := by
  have hs : zf sz H (.slc t 0 1) = some (1, new, [t]) := by
    simp only [zf, ht]
    rw [if_pos (by omega)]
    simp [← hnl]
  rcases hg with ⟨rfl, rfl⟩ | ⟨h0, g, h1, h2, rfl, h4⟩
  · rw [zahc, hs, optk]
    have hc : cells = [] := List.eq_nil_of_length_eq_zero (by omega)
    subst hc
    refine ⟨hone, fun h => absurd h Nat.one_ne_zero, fun _ => ?_⟩
    exact ⟨by simpa using hb, hk _ (fun x hx => Heap.put_ne _ _ (by omega)) (.inr ⟨by omega, nx, hlo, by omega, rfl, by rw [Heap.put_at]; rfl⟩)⟩
  · rw [zfg, hs, optk, h4, rowk]
    refine ⟨rfl, hone, by omega, hb, hk _ (fun x hx => ?_) (.inr ⟨by omega, nx, hlo, by omega, rfl, ?_⟩)⟩
    · rw [Heap.put_ne _ _ (by omega), Heap.put_ne _ _ (by omega)]
    · rw [Heap.put_at, List.drop_zero, List.take_of_length_le (by omega)]
theorem Grow.append {H : Heap} {lo n sz k bytes t nx : Nat} {cells new : List AV} {a : AV} {kt : Kt} (hg : Grow H lo n sz k cells a) (hlen : cells.length = k * sz) (ht : H t = some (.row sz new)) (hnl : new.length = sz) (hone : new.all AV.one = true)
    (hb : (k + 1) * bytes ≤ 140737488355328) (hn : n ≤ nx) (hlo : lo ≤ nx) (hk : ∀ rd D, (∀ g ∈ domD D, lo ≤ g) → Keep lo (H.apply D) H → Grow (H.apply D) lo (nx + 1) sz (k + 1) (cells ++ new) (.slc nx 0 (k + 1)) → kt (.slc nx 0 (k + 1)) rd [nx] D) : zac sz bytes a (.slc t 0 1) H nx kt := by
  have hs : zf sz H (.slc t 0 1) = some (1, new, [t]) := by
    simp only [zf, ht]
    rw [if_pos (by omega)]
    simp [← hnl]
  rcases hg with ⟨rfl, rfl⟩ | ⟨h0, g, h1, h2, rfl, h4⟩
  · rw [zrp, hs, optk]
    have hc : cells = [] := List.eq_nil_of_length_eq_zero (by omega)
    subst hc
    refine ⟨hone, fun h => absurd h Nat.one_ne_zero, fun _ => ?_⟩
    exact ⟨by simpa using hb, hk _ _ (by simpa using hlo) (fun x hx => Heap.put_ne _ _ (by omega)) (.inr ⟨by omega, nx, hlo, by omega, rfl, by simp only [zbj, zbs, Heap.put_at]; rfl⟩)⟩
  · rw [ztm, hs, optk, h4, rowk]
    refine ⟨rfl, hone, by omega, hb, hk _ _ (by simp; omega) (fun x hx => ?_) (.inr ⟨by omega, nx, hlo, by omega, rfl, ?_⟩)⟩
    · simp only [zbj, zbs]; rw [Heap.put_ne _ _ (by omega), Heap.put_ne _ _ (by omega)]
    · simp only [zbj, zbs]; rw [Heap.put_at, List.drop_zero, List.take_of_length_le (by omega)]
theorem Grow.frz {H : Heap} {lo n sz k nx : Nat} {cells : List AV} {a : AV} {xs : List (List AV)} (h : Grow H lo n sz k cells a) (hnx : nx ≤ lo) (hl : xs.length = k) (hs : ∀ x ∈ xs, x.length = sz) (hc : xs.flatten = cells) (hb : ∀ c ∈ cells, Bel (· < nx) c) : Frz H nx a (.ro xs) := by
  rcases h with ⟨rfl, rfl⟩ | ⟨h0, g, h1, h2, rfl, h4⟩
  · rw [List.eq_nil_of_length_eq_zero hl]; exact .nils
  · exact Frz.row (by omega) h4 hl hs hc hb
end Go.Proofs.YtobioljjoipimaaDoor
set_option maxRecDepth 8000
namespace Go.Proofs.YtobioljjoipimaaDoor
open Go Go.RowKit
inductive FrzP (H : Heap) (G : Nat → Prop) : AV → AV → Prop
  | same (v : AV) : FrzP H G v v
  | nils : FrzP H G .nils (.ro [])
  | zs : FrzP H G .zs (.ro [])
  | slc (g off len sz : Nat) (cells : List AV) (xs : List (List AV)) : G g → H g = some (.row sz cells) → off + len * sz ≤ cells.length → xs.length = len → (∀ x ∈ xs, x.length = sz) →
      (U : Nat → Nat → AV) → (∀ (i : Nat) (x : List AV) (j : Nat) (v : AV), xs[i]? = some x → x[j]? = some v → cells[off + i * sz + j]? = some (U i j)) →
      (∀ (i : Nat) (x : List AV) (j : Nat) (v : AV), xs[i]? = some x → x[j]? = some v → FrzP H G (U i j) v) → FrzP H G (.slc g off len) (.ro xs)
  | agg (xs ys : List AV) : ys.length = xs.length → (∀ (j : Nat) (v u : AV), xs[j]? = some v → ys[j]? = some u → FrzP H G v u) → FrzP H G (.agg xs) (.agg ys)
theorem FrzP.rel {A : Nat → Prop} {ρ : Nat → Loc} {H H0 : Heap} {w : World} {G : Nat → Prop} (s : Sim A ρ H w) (h0 : ∀ g o, H0 g = some o → ¬ G g ∧ H g = some o) {v u : AV} (h : FrzP H G v u) :
    ∀ (c : Value), VRel (Kof ρ H w) ρ A v c → VRel (Kof ρ H0 w) ρ A u c := by
  have hK : ∀ b o, Kof ρ H w b = some o → Kof ρ H0 w b = some o := fun b o hb => by
    obtain ⟨h1, h2⟩ := zp.1 hb
    refine zp.2 ⟨fun g hg => ?_, h2⟩
    obtain ⟨o', ho'⟩ := Option.isSome_iff_exists.1 hg
    exact h1 g (by rw [(h0 g o' ho').2]; rfl)
  induction h with
  | same v => exact fun c hc => hc.mono hK (fun _ h => ⟨rfl, h⟩)
  | nils =>
    intro c hc
    cases hc
    exact .ro [] none 0 0 0 0 0 (fun _ _ => undef) rfl (Nat.le_refl _) (fun h => absurd rfl h) (fun x hx => by cases hx) (fun i x j v hx => by simp at hx) (fun i x j v hx => by simp at hx)
  | zs =>
    intro c hc
    cases hc with
    | zs a => exact .ro [] a 0 0 0 0 0 (fun _ _ => undef) rfl (Nat.le_refl _) (fun h => absurd rfl h) (fun x hx => by cases hx) (fun i x j v hx => by simp at hx) (fun i x j v hx => by simp at hx)
  | slc g off len sz cells xs hg hH hle hl hsz U hU _ ih =>
    intro c hc
    cases hc with
    | slc _ _ _ cap a hA hcl hcap =>
      obtain ⟨cc, el, lo, hi, q1, q2, q3, q4, q5, q6⟩ := s.obj g _ hH
      have hKb : Kof ρ H0 w (ρ g).block = some (.cells cc el (lo, hi)) := by
        refine zp.2 ⟨fun x hx e => ?_, q1⟩
        obtain ⟨o', ho'⟩ := Option.isSome_iff_exists.1 hx
        obtain ⟨h1, h2⟩ := h0 x o' ho'
        have := s.inj x g (by rw [h2]; rfl) (by rw [hH]; rfl) e
        subst this
        exact h1 hg
      have hex : ∀ (i : Nat) (x : List AV) (j : Nat) (v : AV), xs[i]? = some x → x[j]? = some v → ∃ cv, cc[(ρ g).base + (off + i * sz + j)]? = some cv ∧ VRel (Kof ρ H w) ρ A (U i j) cv := fun i x j v hx hv => q6 _ _ (hU i x j v hx hv)
      refine .ro xs a len cap sz (ρ g).block ((ρ g).base + off) (fun i j => (cc[(ρ g).base + (off + i * sz + j)]?).getD undef) hl.symm hcl (fun hne => ?_) hsz (fun i x j v hx hv => ?_) (fun i x j v hx hv => ?_)
      · have hpos : 0 < xs.length := List.length_pos_iff.2 hne
        exact (hcap (by omega)).2
      · obtain ⟨cv, h1, h2⟩ := hex i x j v hx hv
        unfold zev
        rw [hKb]
        simp only [h1, Option.getD_some]
        rw [← h1]; congr 1; omega
      · obtain ⟨cv, h1, h2⟩ := hex i x j v hx hv
        rw [h1]
        exact ih i x j v hx hv cv h2
  | agg xs ys hl _ ih =>
    intro c hc
    cases hc with
    | agg _ cs h1 h2 =>
    exact .agg ys cs (by omega) fun j v c hv hc => by
        have hlt := (List.getElem?_eq_some_iff.1 hv).1
        have hx : xs[j]? = some (xs[j]'(by omega)) := List.getElem?_eq_getElem (by omega)
        exact ih j _ v hx hv c (h2 j _ c hx hc)
theorem za.freeze {P : Program} {f : FuncId} {args : List AV} {H : Heap} {nx : Nat} {Q R : AV → Heap → Nat → Prop} (h : za P f args H nx Q)
    (hq : ∀ v H' nx', Q v H' nx' → ∃ (r : AV) (H0 : Heap) (G : Nat → Prop), R r H0 nx' ∧ FrzP H' G v r ∧ (∀ g o, H0 g = some o → ¬ G g ∧ H' g = some o)) : za P f args H nx R := by
  intro ρ w cargs s ha
  refine zm (h ρ w cargs s ha) fun cv w' ⟨v, H', nx', ρ', q1, q2, q3, q4⟩ => ?_
  obtain ⟨r, H0, G, hR, hF, h0⟩ := hq v H' nx' q1
  obtain ⟨s0, f0⟩ := q2.drop (H' := H0) fun g o ho => (h0 g o ho).2
  exact ⟨r, H0, nx', ρ', hR, s0, hF.rel q2 h0 cv q3, q4.trans f0⟩
theorem FrzP.row {H : Heap} {G : Nat → Prop} {g sz len : Nat} {cells : List AV} {xs : List (List AV)} (hg : G g) (hH : H g = some (.row sz cells)) (hl : xs.length = len) (hs : ∀ x ∈ xs, x.length = sz) (hc : ∀ (i : Nat) (x : List AV) (j : Nat) (v : AV), xs[i]? = some x → x[j]? = some v → ∃ u, cells[i * sz + j]? = some u ∧ FrzP H G u v) (hle : len * sz ≤ cells.length) : FrzP H G (.slc g 0 len) (.ro xs) := by
  refine .slc g 0 len sz cells xs hg hH (by omega) hl hs (fun i j => (cells[i * sz + j]?).getD .junk) (fun i x j v hx hv => ?_) fun i x j v hx hv => ?_
  · obtain ⟨u, h1, h2⟩ := hc i x j v hx hv
    rw [Nat.zero_add, h1]; rfl
  · obtain ⟨u, h1, h2⟩ := hc i x j v hx hv
    rw [h1]; exact h2
end Go.Proofs.YtobioljjoipimaaDoor
set_option maxRecDepth 8000
namespace Go.Proofs.YtobioljjoipimaaDoor
open Go Go.RowKit
@[simp] theorem zann : AV.zs.cells = [AV.zs] := rfl
@[simp] theorem zanr : AV.zs.sure = true := rfl
@[simp] theorem zape : AV.zs.one = true := rfl
@[simp ↓] theorem zaej {esz bytes nx : Nat} {x : AV} {H : Heap} {kt : Kt} : zac esz bytes .zs x H nx kt = OPTK (zf esz H x) fun p => p.2.1.all AV.one = true ∧
    (p.1 = 0 → kt .zs p.2.2 [] []) ∧ (p.1 ≠ 0 → p.1 * bytes ≤ 140737488355328 ∧ kt (.slc nx 0 p.1) p.2.2 [nx] [(nx, some (.row esz p.2.1))]) := by
  simp only [zac, OPTK]
  cases hs : zf esz H x with
  | none => simp
  | some p => obtain ⟨m, news, rd⟩ := p; simp
def Slot (H : Heap) (sz k : Nat) (cells : List AV) (a : AV) : Prop := (k = 0 ∧ (a = .nils ∨ a = .zs)) ∨ ∃ g cs, a = .slc g 0 k ∧ H g = some (.row sz cs) ∧ cs.take (k * sz) = cells ∧ k * sz ≤ cs.length
def own : AV → List Nat
  | .slc g _ _ => [g]
  | _ => []
theorem Slot.keep {H H' : Heap} {sz k : Nat} {cells : List AV} {a : AV} (h : Slot H sz k cells a) (hk : ∀ g ∈ own a, H' g = H g) : Slot H' sz k cells a := by
  rcases h with h | ⟨g, cs, rfl, h1, h2, h3⟩
  · exact .inl h
  · exact .inr ⟨g, cs, rfl, by rw [hk g (by simp [own])]; exact h1, h2, h3⟩
theorem Slot.len {H : Heap} {sz k : Nat} {cells : List AV} {a : AV} (h : Slot H sz k cells a) {q : AV → Prop} : LNL a q = q (.int .i64 k) := by
  rcases h with ⟨rfl, rfl | rfl⟩ | ⟨g, cs, rfl, _⟩ <;> simp
theorem Slot.cut {H : Heap} {sz k j : Nat} {cells : List AV} {g off : Nat} (h : Slot H sz k cells (.slc g off k)) (hj : j ≤ k) : Slot H sz j (cells.take (j * sz)) (.slc g off j) := by
  rcases h with ⟨_, h | h⟩ | ⟨g', cs, h0, h1, h2, h3⟩
  · cases h
  · cases h
  · cases h0
    have : j * sz ≤ k * sz := Nat.mul_le_mul_right _ hj
    exact .inr ⟨g, cs, rfl, h1, by rw [← h2, List.take_take, Nat.min_eq_left this], by omega⟩
theorem Slot.src {H : Heap} {sz k : Nat} {cells : List AV} {a : AV} (h : Slot H sz k cells a) (h0 : k = 0 → cells = []) : ∃ rd, zf sz H a = some (k, cells, rd) := by
  rcases h with ⟨rfl, rfl | rfl⟩ | ⟨g, cs, rfl, h1, h2, h3⟩
  · exact ⟨[], by rw [h0 rfl]; rfl⟩
  · exact ⟨[], by rw [h0 rfl]; rfl⟩
  · refine ⟨[g], ?_⟩
    simp only [zf, h1, Nat.zero_add, List.drop_zero]
    rw [if_pos h3, h2]
theorem Slot.append {H : Heap} {sz k bytes t nx : Nat} {cells new : List AV} {a : AV} {kt : Kt} (hg : Slot H sz k cells a) (hlen : cells.length = k * sz) (ht : H t = some (.row sz new)) (hnl : new.length = sz) (hone : new.all AV.one = true)
    (hb : (k + 1) * bytes ≤ 140737488355328) (hk : ∀ rd D, (∀ g ∈ domD D, g ∈ own a ∨ g = nx) → (H.apply D) nx = some (.row sz (cells ++ new)) → (∀ g, g ∉ own a → g ≠ nx → (H.apply D) g = H g) → kt (.slc nx 0 (k + 1)) rd [nx] D) : zac sz bytes a (.slc t 0 1) H nx kt := by
  have hs : zf sz H (.slc t 0 1) = some (1, new, [t]) := by
    simp only [zf, ht]
    rw [if_pos (by omega)]
    simp [← hnl]
  rcases hg with ⟨rfl, rfl | rfl⟩ | ⟨g, cs, rfl, h1, h2, h3⟩
  · rw [zrp, hs, optk]
    have hc : cells = [] := List.eq_nil_of_length_eq_zero (by omega)
    subst hc
    refine ⟨hone, fun h => absurd h Nat.one_ne_zero, fun _ => ?_⟩
    exact ⟨by simpa using hb, hk _ _ (by simp) (by simp only [zbj, zbs, Heap.put_at]; rfl) (fun x _ hx => by simp only [zbj, zbs]; exact Heap.put_ne _ _ hx)⟩
  · rw [zaej, hs, optk]
    have hc : cells = [] := List.eq_nil_of_length_eq_zero (by omega)
    subst hc
    refine ⟨hone, fun h => absurd h Nat.one_ne_zero, fun _ => ?_⟩
    exact ⟨by simpa using hb, hk _ _ (by simp) (by simp only [zbj, zbs, Heap.put_at]; rfl) (fun x _ hx => by simp only [zbj, zbs]; exact Heap.put_ne _ _ hx)⟩
  · rw [ztm, hs, optk, h1, rowk]
    refine ⟨rfl, hone, by omega, hb, hk _ _ (by simp [own]) ?_ (fun x hx1 hx => ?_)⟩
    · simp only [zbj, zbs]; rw [Heap.put_at, List.drop_zero, h2]
    · simp only [zbj, zbs]; rw [Heap.put_ne _ _ hx, Heap.put_ne _ _ (by simpa [own] using hx1)]
theorem Slot.app {H : Heap} {sz k bytes t nx : Nat} {cells new : List AV} {a : AV} {kk : AV → Heap → Nat → Prop} (hg : Slot H sz k cells a) (hlen : cells.length = k * sz) (ht : H t = some (.row sz new)) (hnl : new.length = sz) (hone : new.all AV.one = true)
    (hb : (k + 1) * bytes ≤ 140737488355328) (hk : ∀ H', H' nx = some (.row sz (cells ++ new)) → (∀ g, g ∉ own a → g ≠ nx → H' g = H g) → kk (.slc nx 0 (k + 1)) H' (nx + 1)) : APP sz bytes a (.slc t 0 1) H nx kk := by
  have := hg.append (bytes := bytes) (t := t) (nx := nx) (new := new) (kt := fun v _ fr D => kk v (H.apply D) (nx + fr.length)) hlen ht hnl hone hb fun rd D _ h1 h2 => hk _ h1 h2
  exact this
def frow : List Frm → List (AV × AV) → List AV
  | f :: fs, s :: ss => .int .i64 f.fn :: .int .i64 f.at_ :: s.1 :: s.2 :: frow fs ss
  | _, _ => []
theorem zap : ∀ {fs : List Frm} {ss : List (AV × AV)}, ss.length = fs.length → (frow fs ss).length = fs.length * 4
  | [], [], _ => rfl
  | f :: fs, s :: ss, h => by simp [frow, zap (fs := fs) (ss := ss) (by simpa using h)]; omega
  | [], s :: ss, h => by simp at h
  | f :: fs, [], h => by simp at h
theorem zby : ∀ {fs : List Frm} {ss : List (AV × AV)} {f : Frm} {s : AV × AV}, ss.length = fs.length → frow (fs ++ [f]) (ss ++ [s]) = frow fs ss ++ [.int .i64 f.fn, .int .i64 f.at_, s.1, s.2]
  | [], [], f, s, _ => rfl
  | g :: fs, t :: ss, f, s, h => by simp [frow, zby (fs := fs) (ss := ss) (f := f) (s := s) (by simpa using h)]
  | [], s :: ss, _, _, h => by simp at h
  | f :: fs, [], _, _, h => by simp at h
def owns (ss : List (AV × AV)) : List Nat := ss.flatMap fun s => own s.1 ++ own s.2
def Spt.avs (s : Spt) : List AV := [.str s.name, .ro (s.facts.map fun x => .str x.key :: x.val.avs), .int .i64 s.fuel, .int .i64 s.cells]
def Evt.avs (e : Evt) : List AV := [.int .i64 e.kind, .str e.text, .int .i64 e.err]
def zc (id trip : Int) (p : Prg) (fa ha : AV) (m : Pmt) (gs : Nat) (e : Evt) : List AV :=
  [.int .i64 id, .int .i64 trip, .ro (p.codes.map Cod.avs), .ro (p.words.map fun w => [.str w]), fa, ha, .int .i64 m.fuel, .int .i64 m.room, .int .i64 m.hops, .ptr gs 0, .int .i64 e.kind, .str e.text, .int .i64 e.err]
def zai (H : Heap) (fs : List Frm) (ss : List (AV × AV)) : Prop := ss.length = fs.length ∧ ∀ (k : Nat) (f : Frm) (s : AV × AV), fs[k]? = some f → ss[k]? = some s → Slot H 3 f.vars.length (rowV f.vars) s.1 ∧ Slot H 3 f.stack.length (rowV f.stack) s.2
theorem zai.keep {H H' : Heap} {fs : List Frm} {ss : List (AV × AV)} (h : zai H fs ss) (hk : ∀ g ∈ owns ss, H' g = H g) : zai H' fs ss := by
  refine ⟨h.1, fun k f s hf hs => ?_⟩
  obtain ⟨a, b⟩ := h.2 k f s hf hs
  have hm := List.mem_of_getElem? hs
  exact ⟨a.keep fun g hg => hk g (List.mem_flatMap.2 ⟨s, hm, List.mem_append_left _ hg⟩), b.keep fun g hg => hk g (List.mem_flatMap.2 ⟨s, hm, List.mem_append_right _ hg⟩)⟩
theorem zai.snoc {H : Heap} {fs : List Frm} {ss : List (AV × AV)} {f : Frm} {s : AV × AV} (h : zai H fs ss) (h1 : Slot H 3 f.vars.length (rowV f.vars) s.1) (h2 : Slot H 3 f.stack.length (rowV f.stack) s.2) : zai H (fs ++ [f]) (ss ++ [s]) := by
  refine ⟨by simp [h.1], fun k f' s' hf hs => ?_⟩
  by_cases hk : k < fs.length
  · rw [List.getElem?_append_left hk] at hf
    rw [List.getElem?_append_left (by rw [h.1]; exact hk)] at hs
    exact h.2 k f' s' hf hs
  · have hk' : k = fs.length := by have := (List.getElem?_eq_some_iff.1 hf).1; simp at this; omega
    subst hk'
    rw [List.getElem?_append_right (Nat.le_refl _)] at hf
    rw [List.getElem?_append_right (by rw [h.1]; exact Nat.le_refl _), h.1] at hs
    simp at hf hs
    subst hf; subst hs
    exact ⟨h1, h2⟩
theorem zai.last {H : Heap} {fs : List Frm} {ss : List (AV × AV)} {f : Frm} {s : AV × AV} (h : zai H (fs ++ [f]) (ss ++ [s])) : zai H fs ss ∧ Slot H 3 f.vars.length (rowV f.vars) s.1 ∧ Slot H 3 f.stack.length (rowV f.stack) s.2 := by
  have hl : ss.length = fs.length := by simpa using h.1
  refine ⟨⟨hl, fun k f' s' hf hs => ?_⟩, h.2 fs.length f s (by simp) (by rw [← hl]; simp)⟩
  have h1 := (List.getElem?_eq_some_iff.1 hf).1
  exact h.2 k f' s' (by rw [List.getElem?_append_left h1]; exact hf) (by rw [List.getElem?_append_left (by omega)]; exact hs)
structure RL (H0 H : Heap) (lo n gr gs gf : Nat) (id trip : Int) (p : Prg) (s : Spt) (fs : List Frm) (ss : List (AV × AV)) (f : Frm) (va sa : AV) (h : List Cl) (ha : AV) (m : Pmt) (e : Evt) : Prop where
  run : H gr = some (.row 13 (zc id trip p (.slc gf 0 (fs.length + 1)) ha m gs e))
  fr : ∃ cs, H gf = some (.row 4 cs) ∧ cs.take ((fs.length + 1) * 4) = frow fs ss ++ [.int .i64 f.fn, .int .i64 f.at_, va, sa] ∧ (fs.length + 1) * 4 ≤ cs.length
  frs : zai H fs ss
  sv : Slot H 3 f.vars.length (rowV f.vars) va
  st : Slot H 3 f.stack.length (rowV f.stack) sa
  hp : Slot H 6 h.length (rowC h) ha
  spot : H gs = some (.row 4 s.avs)
  nd : (gr :: gs :: gf :: (own ha ++ (owns ss ++ (own va ++ own sa)))).Nodup
  gsn : gs < n
  bd : ∀ g ∈ gr :: gf :: (own ha ++ (owns ss ++ (own va ++ own sa))), lo ≤ g ∧ g < n
  keep : Keep lo H H0
  le : lo ≤ n
end Go.Proofs.YtobioljjoipimaaDoor
set_option maxRecDepth 8000
namespace Go.Proofs.YtobioljjoipimaaDoor
open Go Go.RowKit
structure zaht (n gr gs gf : Nat) (ha : AV) (ss : List (AV × AV)) (va sa : AV) : Prop where
  rs : gr ≠ gs
  rf : gr ≠ gf
  sf : gs ≠ gf
  r : gr < n
  s : gs < n
  f : gf < n
  h : ∀ g ∈ own ha, g < n ∧ g ≠ gr ∧ g ≠ gs ∧ g ≠ gf ∧ g ∉ owns ss ∧ g ∉ own va ∧ g ∉ own sa
  w : ∀ g ∈ owns ss, g < n ∧ g ≠ gr ∧ g ≠ gs ∧ g ≠ gf ∧ g ∉ own ha ∧ g ∉ own va ∧ g ∉ own sa
  v : ∀ g ∈ own va, g < n ∧ g ≠ gr ∧ g ≠ gs ∧ g ≠ gf ∧ g ∉ own ha ∧ g ∉ owns ss ∧ g ∉ own sa
  t : ∀ g ∈ own sa, g < n ∧ g ≠ gr ∧ g ≠ gs ∧ g ≠ gf ∧ g ∉ own ha ∧ g ∉ owns ss ∧ g ∉ own va
theorem zaek {lo n gr gs gf : Nat} {ha va sa : AV} {ss : List (AV × AV)} (nd : (gr :: gs :: gf :: (own ha ++ (owns ss ++ (own va ++ own sa)))).Nodup) (gsn : gs < n) (bd : ∀ g ∈ gr :: gf :: (own ha ++ (owns ss ++ (own va ++ own sa))), lo ≤ g ∧ g < n) : zaht n gr gs gf ha ss va sa := by
  simp only [List.nodup_cons, List.nodup_append, List.mem_cons, List.mem_append, not_or] at nd
  simp only [List.mem_cons, List.mem_append] at bd
  obtain ⟨⟨a1, a2, a3, a4, a5, a6⟩, ⟨b1, b2, b3, b4, b5⟩, ⟨c1, c2, c3, c4⟩, n1, ⟨n2, ⟨n3, n4, n5⟩, n6⟩, n7⟩ := nd
  refine ⟨a1, a2, b1, (bd gr (by simp)).2, gsn, (bd gf (by simp)).2, fun g hg => ⟨(bd g (by simp [hg])).2, fun e => a3 (e ▸ hg), fun e => b2 (e ▸ hg), fun e => c1 (e ▸ hg), fun h => n7 g hg g (.inl h) rfl, fun h => n7 g hg g (.inr (.inl h)) rfl, fun h => n7 g hg g (.inr (.inr h)) rfl⟩,
    fun g hg => ⟨(bd g (by simp [hg])).2, fun e => a4 (e ▸ hg), fun e => b3 (e ▸ hg), fun e => c2 (e ▸ hg), fun h => n7 g h g (.inl hg) rfl, fun h => n6 g hg g (.inl h) rfl, fun h => n6 g hg g (.inr h) rfl⟩,
    fun g hg => ⟨(bd g (by simp [hg])).2, fun e => a5 (e ▸ hg), fun e => b4 (e ▸ hg), fun e => c3 (e ▸ hg), fun h => n7 g h g (.inr (.inl hg)) rfl, fun h => n6 g h g (.inl hg) rfl, fun h => n5 g hg g h rfl⟩,
    fun g hg => ⟨(bd g (by simp [hg])).2, fun e => a6 (e ▸ hg), fun e => b5 (e ▸ hg), fun e => c4 (e ▸ hg), fun h => n7 g h g (.inr (.inr hg)) rfl, fun h => n6 g h g (.inr hg) rfl, fun h => n5 g h g hg rfl⟩⟩
theorem zlf (a : AV) : (own a).Nodup := by cases a <;> simp [own]
section
variable {H0 H : Heap} {lo n gr gs gf : Nat} {id trip : Int} {p : Prg} {s : Spt} {fs : List Frm} {ss : List (AV × AV)} {f : Frm} {va sa : AV} {h : List Cl} {ha : AV} {m : Pmt} {e : Evt}
theorem RL.apart (st : RL H0 H lo n gr gs gf id trip p s fs ss f va sa h ha m e) : zaht n gr gs gf ha ss va sa := zaek st.nd st.gsn st.bd
theorem RL.upd (st : RL H0 H lo n gr gs gf id trip p s fs ss f va sa h ha m e) {H' : Heap} {n' : Nat} {f' : Frm} {va' sa' : AV} {h' : List Cl} {ha' : AV} {m' : Pmt} {e' : Evt} (hn : n ≤ n')
    (run' : H' gr = some (.row 13 (zc id trip p (.slc gf 0 (fs.length + 1)) ha' m' gs e'))) (fr' : ∃ cs, H' gf = some (.row 4 cs) ∧ cs.take ((fs.length + 1) * 4) = frow fs ss ++ [.int .i64 f'.fn, .int .i64 f'.at_, va', sa'] ∧ (fs.length + 1) * 4 ≤ cs.length)
    (sv' : Slot H' 3 f'.vars.length (rowV f'.vars) va') (st' : Slot H' 3 f'.stack.length (rowV f'.stack) sa') (hp' : Slot H' 6 h'.length (rowC h') ha')
    (hk : ∀ g, g < n → g ≠ gr → g ≠ gf → g ∉ own ha → g ∉ own va → g ∉ own sa → H' g = H g)
    (oh : ∀ g ∈ own ha', g ∈ own ha ∨ (n ≤ g ∧ g < n')) (ov : ∀ g ∈ own va', g ∈ own va ∨ (n ≤ g ∧ g < n')) (ot : ∀ g ∈ own sa', g ∈ own sa ∨ (n ≤ g ∧ g < n'))
    (nd3 : (own ha' ++ (own va' ++ own sa')).Nodup) : RL H0 H' lo n' gr gs gf id trip p s fs ss f' va' sa' h' ha' m' e' := by
  have ap := st.apart
  have b := st.bd
  simp only [List.mem_cons, List.mem_append] at b
  refine ⟨run', fr', st.frs.keep fun g hg => ?_, sv', st', hp', by rw [hk gs ap.s ap.rs.symm ap.sf (fun h => (ap.h _ h).2.2.1 rfl) (fun h => (ap.v _ h).2.2.1 rfl) (fun h => (ap.t _ h).2.2.1 rfl)]; exact st.spot, ?_, by have := st.gsn; omega, ?_, ?_, by have := st.le; omega⟩
  · obtain ⟨w1, w2, w3, w4, w5, w6, w7⟩ := ap.w g hg
    exact hk g w1 w2 w4 w5 w6 w7
  · have mh : ∀ g ∈ own ha', g ≠ gr ∧ g ≠ gs ∧ g ≠ gf ∧ g ∉ owns ss := fun g hg => by
      rcases oh g hg with h | h
      · obtain ⟨w1, w2, w3, w4, w5, w6, w7⟩ := ap.h g h; exact ⟨w2, w3, w4, w5⟩
      · have := ap.r; have := ap.s; have := ap.f
        exact ⟨by omega, by omega, by omega, fun hx => by have := (ap.w g hx).1; omega⟩
    have mv : ∀ g ∈ own va', g ≠ gr ∧ g ≠ gs ∧ g ≠ gf ∧ g ∉ owns ss := fun g hg => by
      rcases ov g hg with h | h
      · obtain ⟨w1, w2, w3, w4, w5, w6, w7⟩ := ap.v g h; exact ⟨w2, w3, w4, w6⟩
      · have := ap.r; have := ap.s; have := ap.f
        exact ⟨by omega, by omega, by omega, fun hx => by have := (ap.w g hx).1; omega⟩
    have mt : ∀ g ∈ own sa', g ≠ gr ∧ g ≠ gs ∧ g ≠ gf ∧ g ∉ owns ss := fun g hg => by
      rcases ot g hg with h | h
      · obtain ⟨w1, w2, w3, w4, w5, w6, w7⟩ := ap.t g h; exact ⟨w2, w3, w4, w6⟩
      · have := ap.r; have := ap.s; have := ap.f
        exact ⟨by omega, by omega, by omega, fun hx => by have := (ap.w g hx).1; omega⟩
    have ndw : (owns ss).Nodup := by
      have := st.nd
      simp only [List.nodup_cons, List.nodup_append] at this
      exact this.2.2.2.2.1.1
    simp only [List.nodup_append] at nd3
    obtain ⟨z1, ⟨z2, z3, z4⟩, z5⟩ := nd3
    simp only [List.nodup_cons, List.nodup_append, List.mem_cons, List.mem_append, not_or]
    refine ⟨⟨ap.rs, ap.rf, fun h => (mh _ h).1 rfl, fun h => (ap.w _ h).2.1 rfl, fun h => (mv _ h).1 rfl, fun h => (mt _ h).1 rfl⟩, ⟨ap.sf, fun h => (mh _ h).2.1 rfl, fun h => (ap.w _ h).2.2.1 rfl, fun h => (mv _ h).2.1 rfl, fun h => (mt _ h).2.1 rfl⟩, ⟨fun h => (mh _ h).2.2.1 rfl, fun h => (ap.w _ h).2.2.2.1 rfl, fun h => (mv _ h).2.2.1 rfl, fun h => (mt _ h).2.2.1 rfl⟩, z1, ⟨ndw, ⟨z2, z3, z4⟩, ?_⟩, ?_⟩
    · rintro x hx y (hy | hy) rfl
      · exact (mv _ hy).2.2.2 hx
      · exact (mt _ hy).2.2.2 hx
    · rintro x hx y (hy | hy | hy) rfl
      · exact (mh _ hx).2.2.2 hy
      · exact z5 _ hx _ (List.mem_append_left _ hy) rfl
      · exact z5 _ hx _ (List.mem_append_right _ hy) rfl
  · intro g hg
    have hl := st.le
    simp only [List.mem_cons, List.mem_append] at hg
    have old : (lo ≤ g ∧ g < n) → lo ≤ g ∧ g < n' := fun h => by omega
    have new : (n ≤ g ∧ g < n') → lo ≤ g ∧ g < n' := fun h => by omega
    rcases hg with hg | hg | hg | hg | hg | hg
    · exact old (b g (.inl hg))
    · exact old (b g (.inr (.inl hg)))
    · rcases oh g hg with h | h
      · exact old (b g (.inr (.inr (.inl h))))
      · exact new h
    · exact old (b g (.inr (.inr (.inr (.inl hg)))))
    · rcases ov g hg with h | h
      · exact old (b g (.inr (.inr (.inr (.inr (.inl h))))))
      · exact new h
    · rcases ot g hg with h | h
      · exact old (b g (.inr (.inr (.inr (.inr (.inr h))))))
      · exact new h
  · intro g hg
    have lb : ∀ x, (x = gr ∨ x = gf ∨ x ∈ own ha ∨ x ∈ owns ss ∨ x ∈ own va ∨ x ∈ own sa) → lo ≤ x := fun x hx => (b x hx).1
    have hl := st.le
    rw [hk g (by omega) (fun e => by have := lb gr (.inl rfl); omega) (fun e => by have := lb gf (.inr (.inl rfl)); omega) (fun h => by have := lb g (.inr (.inr (.inl h))); omega) (fun h => by have := lb g (.inr (.inr (.inr (.inr (.inl h))))); omega) (fun h => by have := lb g (.inr (.inr (.inr (.inr (.inr h))))); omega)]
    exact st.keep g hg
theorem RL.nd3 (st : RL H0 H lo n gr gs gf id trip p s fs ss f va sa h ha m e) : (own ha ++ (own va ++ own sa)).Nodup := by
  have := st.nd
  simp only [List.nodup_cons, List.nodup_append, List.mem_append] at this
  obtain ⟨_, _, _, n1, ⟨n2, ⟨n3, n4, n5⟩, n6⟩, n7⟩ := this
  simp only [List.nodup_append, List.mem_append]
  exact ⟨n1, ⟨n3, n4, n5⟩, fun a ha b hb => n7 a ha b (.inr hb)⟩
theorem RL.more (st : RL H0 H lo n gr gs gf id trip p s fs ss f va sa h ha m e) {H' : Heap} {n' : Nat} (hn : n ≤ n') (hk : ∀ g, g < n → H' g = H g) : RL H0 H' lo n' gr gs gf id trip p s fs ss f va sa h ha m e := by
  have ap := st.apart
  obtain ⟨cs, c1, c2⟩ := st.fr
  exact st.upd hn (by rw [hk _ ap.r]; exact st.run) ⟨cs, by rw [hk _ ap.f]; exact c1, c2⟩ (st.sv.keep fun g hg => hk g (ap.v g hg).1) (st.st.keep fun g hg => hk g (ap.t g hg).1) (st.hp.keep fun g hg => hk g (ap.h g hg).1) (fun g hg _ _ _ _ _ => hk g hg) (fun g hg => .inl hg) (fun g hg => .inl hg) (fun g hg => .inl hg) st.nd3
end
end Go.Proofs.YtobioljjoipimaaDoor
set_option maxRecDepth 8000
namespace Go.Proofs.YtobioljjoipimaaDoor
open Go Go.RowKit
theorem zaei {D : zj} : ∀ {H H' : Heap} {g : Nat}, g ∈ domD D → (H.apply D) g = (H'.apply D) g := by
  induction D with
  | nil => intro H H' g hg; simp at hg
  | cons d r ih =>
    obtain ⟨g', o⟩ := d
    intro H H' g hg
    show ((H.put g' o).apply r) g = ((H'.put g' o).apply r) g
    by_cases hr : g ∈ domD r
    · exact ih hr
    · rw [zlm hr, zlm hr]
      have : g = g' := by simpa [hr] using hg
      subst this
      rw [Heap.put_at, Heap.put_at]
theorem LC.of_calls {P : Program} {f : FuncId} {args : List AV} {r : AV} {H0 : Heap} {rd : List Nat} {D : zj} (hrd : ∀ g ∈ rd, (H0 g).isSome = true) (hdom : ∀ g ∈ domD D, g ∈ rd) (hr : ∀ A : Nat → Prop, (∀ g ∈ rd, A g) → (∀ g ∈ rd, ∀ o, H0 g = some o → BelO A o) → Bel A r)
    (hb : ∀ A : Nat → Prop, (∀ g ∈ rd, A g) → (∀ g ∈ rd, ∀ o, H0 g = some o → BelO A o) → ∀ g o, g ∈ domD D → (H0.apply D) g = some o → BelO A o)
    (h : ∀ H nx, (∀ g ∈ rd, H g = H0 g ∧ g < nx) → za P f args H nx fun v H' nx' => v = r ∧ nx ≤ nx' ∧ (∀ g, g < nx → g ∉ domD D → H' g = H g) ∧ (∀ g o, g ∈ domD D → (H0.apply D) g = some o → H' g = some o)) : LC P f args H0 rd [] D r := by
  intro A ρ H w cargs ⟨N, hN⟩ s ha hag _
  have sN : Sim (· < N) ρ H w := ⟨fun g o ho => hN g (s.live g o ho), fun g o ho => (s.obj g o ho).mono rfl (fun _ _ h => h) (fun g hg => ⟨rfl, hN g hg⟩), s.inj, s.lay⟩
  have aN : LRel (Kof ρ H w) ρ (· < N) args cargs.toList := ⟨ha.1, fun j v c hv hc => (ha.2 j v c hv hc).mono (fun _ _ h => h) (fun g hg => ⟨rfl, hN g hg⟩)⟩
  have hrdA : ∀ g ∈ rd, A g := fun g hg => by
    obtain ⟨o, ho⟩ := Option.isSome_iff_exists.1 (hrd g hg)
    exact s.live g o ((hag g hg).trans ho)
  have hrdB : ∀ g ∈ rd, ∀ o, H0 g = some o → BelO A o := fun g hg o ho => (s.obj g o ((hag g hg).trans ho)).bel
  refine zm (h H N (fun g hg => ⟨hag g hg, hN g (hrdA g hg)⟩) ρ w cargs sN aN) fun cv w' ⟨v, H', nx', ρ', ⟨hv, hnx, hsame, hchg⟩, q3, q4, q5⟩ => ?_
  subst hv
  have hρ : ∀ g, g < N → ρ' g = ρ g := fun g hg => (q5.agree g hg).1
  have hAe : (fun x => A x ∨ x ∈ ([] : List Nat)) = A := by funext x; simp
  have lv : ∀ g o, (H.apply D) g = some o → A g ∧ H' g = some o ∧ BelO A o := fun g o ho => by
    by_cases hg : g ∈ domD D
    · rw [zaei (H' := H0) hg] at ho
      exact ⟨hrdA g (hdom g hg), hchg g o hg ho, hb A hrdA hrdB g o hg ho⟩
    · rw [zlm hg] at ho
      have hA := s.live g o ho
      exact ⟨hA, by rw [hsame g (hN g hA) hg]; exact ho, (s.obj g o ho).bel⟩
  have hK : ∀ b o, Kof ρ' H' w' b = some o → Kof ρ' (H.apply D) w' b = some o := fun b o hb => by
    obtain ⟨h1, h2⟩ := zp.1 hb
    refine zp.2 ⟨fun g hg => ?_, h2⟩
    obtain ⟨o1, ho1⟩ := Option.isSome_iff_exists.1 hg
    exact h1 g (by rw [(lv g o1 ho1).2.1]; rfl)
  refine ⟨ρ', ?_, ?_, ?_⟩
  · rw [hAe]
    refine ⟨fun g o ho => (lv g o ho).1, fun g o ho => ?_, fun x y hx hy hxy => ?_, q3.lay.mono hK⟩
    · obtain ⟨_, h1, h2⟩ := lv g o ho
      exact ((q3.obj g o h1).restrict h2).mono rfl hK (fun _ h => ⟨rfl, h⟩)
    · obtain ⟨o1, ho1⟩ := Option.isSome_iff_exists.1 hx
      obtain ⟨o2, ho2⟩ := Option.isSome_iff_exists.1 hy
      exact q3.inj x y (by rw [(lv x o1 ho1).2.1]; rfl) (by rw [(lv y o2 ho2).2.1]; rfl) hxy
  · rw [hAe]
    exact (q4.restrict (hr A hrdA hrdB)).mono hK (fun g hg => ⟨rfl, hg⟩)
  · rw [hAe]
    exact ⟨fun g hg => ⟨hρ g (hN g hg), hg⟩, fun b o hb => hK b o (q5.k b o hb), q5.os, q5.tape, q5.output, q5.size⟩
theorem LC.of_callsN {P : Program} {f : FuncId} {args : List AV} {r : AV} {H0 : Heap} {rd : List Nat} {D : zj} {g0 : Nat} (hrd : ∀ g ∈ rd, (H0 g).isSome = true) (hdom : ∀ g ∈ domD D, g ∈ rd ∨ g = g0)
    (h : ∀ A : Nat → Prop, (∀ g ∈ rd, A g) → (∀ g ∈ rd, ∀ o, H0 g = some o → BelO A o) → ∀ H nx, (∀ g ∈ rd, H g = H0 g ∧ g < nx) → za P f args H nx fun v H' nx' => ∃ gn, nx ≤ gn ∧ gn < nx' ∧ Rn A gn g0 v r ∧ (∀ g, g < nx → g ∉ domD D → H' g = H g) ∧
      (∀ g o, g ∈ domD D → g ≠ g0 → (H.apply D) g = some o → ∃ o', H' g = some o' ∧ RnO A gn g0 o' o) ∧ (∃ o o', (H.apply D) g0 = some o ∧ H' gn = some o' ∧ RnO A gn g0 o' o)) : LC P f args H0 rd [g0] D r := by
  intro A ρ H w cargs ⟨N0, hN0⟩ s ha hag hfresh
  obtain ⟨N, hN, hg0N⟩ : ∃ N, (∀ g, A g → g < N) ∧ g0 < N := ⟨max N0 (g0 + 1), fun g hg => by have := hN0 g hg; omega, by omega⟩
  have hg0 : ¬ A g0 := hfresh g0 (by simp)
  have sN : Sim (· < N) ρ H w := ⟨fun g o ho => hN g (s.live g o ho), fun g o ho => (s.obj g o ho).mono rfl (fun _ _ h => h) (fun g hg => ⟨rfl, hN g hg⟩), s.inj, s.lay⟩
  have aN : LRel (Kof ρ H w) ρ (· < N) args cargs.toList := ⟨ha.1, fun j v c hv hc => (ha.2 j v c hv hc).mono (fun _ _ h => h) (fun g hg => ⟨rfl, hN g hg⟩)⟩
  have hrdA : ∀ g ∈ rd, A g := fun g hg => by
    obtain ⟨o, ho⟩ := Option.isSome_iff_exists.1 (hrd g hg)
    exact s.live g o ((hag g hg).trans ho)
  have hrdB : ∀ g ∈ rd, ∀ o, H0 g = some o → BelO A o := fun g hg o ho => (s.obj g o ((hag g hg).trans ho)).bel
  refine zm (h A hrdA hrdB H N (fun g hg => ⟨hag g hg, hN g (hrdA g hg)⟩) ρ w cargs sN aN) fun cv w' ⟨v, H', nx', ρ', ⟨gn, hgN, hgn, hv, hsame, hchg, onew, onew', hn1, hn2, hn3⟩, q3, q4, q5⟩ => ?_
  have hρ : ∀ g, g < N → ρ' g = ρ g := fun g hg => (q5.agree g hg).1
  let ρ2 : Nat → Loc := fun g => if g = g0 then ρ' gn else ρ' g
  have h20 : ρ2 g0 = ρ' gn := if_pos rfl
  have h2 : ∀ g, g ≠ g0 → ρ2 g = ρ' g := fun g hg => if_neg hg
  have hAne : ∀ g, A g → g ≠ g0 := fun g hg e => hg0 (e ▸ hg)
  have hR : ∀ g, A g → g < nx' → ρ2 g = ρ' g ∧ (A g ∨ g ∈ [g0]) := fun g hg _ => ⟨h2 g (hAne g hg), .inl hg⟩
  have hRA : ∀ g, A g → g < nx' := fun g hg => by have := hN g hg; omega
  have hG : ρ2 g0 = ρ' gn ∧ (A g0 ∨ g0 ∈ [g0]) := ⟨h20, .inr (by simp)⟩
  -- who stands for whom
  have lv : ∀ g o, (H.apply D) g = some o → (A g ∨ g ∈ [g0]) ∧ ∃ g' o', H' g' = some o' ∧ ρ2 g = ρ' g' ∧ (g = g0 → g' = gn) ∧ (g ≠ g0 → g' = g ∧ A g) ∧
      (∀ K, zal K ρ' (· < nx') w' (ρ' g') o' → zal K ρ2 (fun x => A x ∨ x ∈ [g0]) w' (ρ2 g) o) := fun g o ho => by
    by_cases hgg : g = g0
    · subst hgg
      rw [hn1] at ho
      obtain rfl := Option.some.inj ho
      exact ⟨.inr (by simp), gn, onew', hn2, h20, fun _ => rfl, fun h => absurd rfl h, fun K hk => by rw [h20]; exact hk.rn hn3 hR hRA hG⟩
    · by_cases hg : g ∈ domD D
      · obtain ⟨o', h1, h3⟩ := hchg g o hg hgg ho
        have hA : A g := by
          rcases hdom g hg with h | h
          · exact hrdA g h
          · exact absurd h hgg
        exact ⟨.inl hA, g, o', h1, h2 g hgg, fun h => absurd h hgg, fun _ => ⟨rfl, hA⟩, fun K hk => by rw [h2 g hgg]; exact hk.rn h3 hR hRA hG⟩
      · rw [zlm hg] at ho
        have hA := s.live g o ho
        refine ⟨.inl hA, g, o, by rw [hsame g (hN g hA) hg]; exact ho, h2 g hgg, fun h => absurd h hgg, fun _ => ⟨rfl, hA⟩, fun K hk => ?_⟩
        rw [h2 g hgg]
        exact (hk.restrict (s.obj g o ho).bel).mono rfl (fun _ _ h => h) (fun x hx => ⟨h2 x (hAne x hx), .inl hx⟩)
  have hK : ∀ b o, Kof ρ' H' w' b = some o → Kof ρ2 (H.apply D) w' b = some o := fun b o hb => by
    obtain ⟨k1, k2⟩ := zp.1 hb
    refine zp.2 ⟨fun g hg => ?_, k2⟩
    obtain ⟨o1, ho1⟩ := Option.isSome_iff_exists.1 hg
    obtain ⟨_, g', o', e1, e2, _⟩ := lv g o1 ho1
    rw [e2]
    exact k1 g' (by rw [e1]; rfl)
  refine ⟨ρ2, ⟨fun g o ho => (lv g o ho).1, fun g o ho => ?_, fun x y hx hy hxy => ?_, q3.lay.mono hK⟩, ?_, ⟨fun g hg => ⟨(h2 g (hAne g hg)).trans (hρ g (hN g hg)), .inl hg⟩, fun b o hb => hK b o (q5.k b o hb), q5.os, q5.tape, q5.output, q5.size⟩⟩
  · obtain ⟨_, g', o', e1, _, _, _, e4⟩ := lv g o ho
    exact (e4 _ (q3.obj g' o' e1)).mono rfl hK (fun _ h => ⟨rfl, h⟩)
  · obtain ⟨o1, ho1⟩ := Option.isSome_iff_exists.1 hx
    obtain ⟨o2, ho2⟩ := Option.isSome_iff_exists.1 hy
    obtain ⟨_, x', p1, e1, e2, e3, e4, _⟩ := lv x o1 ho1
    obtain ⟨_, y', p2, f1, f2, f3, f4, _⟩ := lv y o2 ho2
    rw [e2, f2] at hxy
    have hxy' := q3.inj x' y' (by rw [e1]; rfl) (by rw [f1]; rfl) hxy
    by_cases hx0 : x = g0
    · by_cases hy0 : y = g0
      · rw [hx0, hy0]
      · have := (f4 hy0).1
        have hAy := hN y (f4 hy0).2
        have := e3 hx0
        omega
    · by_cases hy0 : y = g0
      · have := (e4 hx0).1
        have hAx := hN x (e4 hx0).2
        have := f3 hy0
        omega
      · rw [← (e4 hx0).1, ← (f4 hy0).1]; exact hxy'
  · exact (q4.rn hv hR hRA hG).mono hK (fun g hg => ⟨rfl, hg⟩)
end Go.Proofs.YtobioljjoipimaaDoor
set_option maxRecDepth 8000
namespace Go.Proofs.YtobioljjoipimaaDoor
open Go Go.RowKit
section
variable {ki : IntKind}
@[simp ↓] theorem zafh {s g off len : Nat} {a : Int} {H : Heap} {kt : Kt} : zbi s (.slc g off len) none (some (.int ki a)) H kt = ROWK (H g) fun sz _ => sz = s ∧ 0 ≤ a ∧ a ≤ len ∧ kt (.slc g off a.toNat) [g] [] [] := by
  simp only [zbi, lohi]
  refine zdt (fun sz cs h => ?_) fun h => ?_
  · simp [h]
  · intro ha
    split at ha
    · rename_i sz cs he; exact h _ _ he
    · exact ha
@[simp ↓] theorem zaat {s g off len : Nat} {a : Int} {H : Heap} {kt : Kt} : zbi s (.slc g off len) (some (.int ki a)) none H kt = ROWK (H g) fun sz _ => sz = s ∧ 0 ≤ a ∧ a ≤ len ∧ kt (.slc g (off + a.toNat * s) ((len : Int) - a).toNat) [g] [] [] := by
  simp only [zbi, lohi]
  refine zdt (fun sz cs h => ?_) fun h => ?_
  · simp [h]
  · intro ha
    split at ha
    · rename_i sz cs he; exact h _ _ he
    · exact ha
end
section
variable {H0 H : Heap} {lo n gr gs gf : Nat} {id trip : Int} {p : Prg} {s : Spt} {fs : List Frm} {ss : List (AV × AV)} {f : Frm} {va sa : AV} {h : List Cl} {ha : AV} {m : Pmt} {e : Evt}
theorem zaii {cs : List AV} {k : Nat} {w x y z : AV} {pre : List AV} (h : cs.take ((k + 1) * 4) = pre ++ [w, x, y, z]) (hp : pre.length = k * 4) (hl : (k + 1) * 4 ≤ cs.length) :
    cs[k * 4]? = some w ∧ cs[k * 4 + 1]? = some x ∧ cs[k * 4 + 2]? = some y ∧ cs[k * 4 + 3]? = some z := by
  have key : ∀ j, j < 4 → cs[k * 4 + j]? = ([w, x, y, z] : List AV)[j]? := fun j hj => by
    have := congrArg (·[k * 4 + j]?) h
    simp only [List.getElem?_take] at this
    rw [if_pos (by omega), List.getElem?_append_right (by omega)] at this
    rw [this, hp]; congr 1; omega
  exact ⟨key 0 (by omega), key 1 (by omega), key 2 (by omega), key 3 (by omega)⟩
theorem zke {cs : List AV} {k j : Nat} {w x y z u : AV} {pre : List AV} (h : cs.take ((k + 1) * 4) = pre ++ [w, x, y, z]) (hp : pre.length = k * 4) (hl : (k + 1) * 4 ≤ cs.length) (hj : j < 4) :
    (cs.take (k * 4 + j) ++ u :: cs.drop (k * 4 + j + 1)).take ((k + 1) * 4) = pre ++ ([w, x, y, z] : List AV).set j u ∧ (k + 1) * 4 ≤ (cs.take (k * 4 + j) ++ u :: cs.drop (k * 4 + j + 1)).length := by
  have e : cs.take (k * 4 + j) ++ u :: cs.drop (k * 4 + j + 1) = cs.set (k * 4 + j) u := by
    rw [List.set_eq_take_append_cons_drop, if_pos (by omega)]
  rw [e]
  refine ⟨?_, by simpa using hl⟩
  rw [List.take_set, h, List.set_append, if_neg (by omega), hp]
  congr 2; omega
theorem RL.last (st : RL H0 H lo n gr gs gf id trip p s fs ss f va sa h ha m e) : ∃ cs, H gf = some (.row 4 cs) ∧ cs.take ((fs.length + 1) * 4) = frow fs ss ++ [.int .i64 f.fn, .int .i64 f.at_, va, sa] ∧ (fs.length + 1) * 4 ≤ cs.length ∧
    cs[fs.length * 4]? = some (.int .i64 f.fn) ∧ cs[fs.length * 4 + 1]? = some (.int .i64 f.at_) ∧ cs[fs.length * 4 + 2]? = some va ∧ cs[fs.length * 4 + 3]? = some sa := by
  obtain ⟨cs, h1, h2, h3⟩ := st.fr
  exact ⟨cs, h1, h2, h3, zaii h2 (zap st.frs.1) h3⟩
theorem zuz {rc cs : List AV} {k : Nat} (h1 : H gr = some (.row 13 rc)) (h2 : rc[4]? = some (.slc gf 0 (k + 1))) (h3 : H gf = some (.row 4 cs)) (hk : k ≤ 4096) {Q : AV → Heap → Nat → Prop} (hq : Q (.ptr gf (k * 4)) H n) : za Tryd.prog 84 [.ptr gr 0] H n Q := by
  refine zgf _ H n _ ?_
  have hw2 : IntKind.i64.wrap (k : Int) = k := i64w (by omega)
  simp [zfa, h1, h2, hw2]
  exact ⟨by omega, hq⟩
structure zwi (H : Heap) (gr gf g k j : Nat) (cs gcs : List AV) (v : Val) : Prop where
  run : ∃ rc, H gr = some (.row 13 rc) ∧ rc[4]? = some (.slc gf 0 (k + 1))
  fr : H gf = some (.row 4 cs)
  frl : (k + 1) * 4 ≤ cs.length
  cell : cs[k * 4 + 3]? = some (.slc g 0 (j + 1))
  st : H g = some (.row 3 gcs)
  stl : (j + 1) * 3 ≤ gcs.length
  val : (gcs.drop (j * 3)).take 3 = v.avs
  kb : k ≤ 4096
  jb : j ≤ 4096
  gf' : g ≠ gf
def zfs (cs : List AV) (k g j : Nat) : List AV := cs.take (k * 4 + 3) ++ AV.slc g 0 j :: cs.drop (k * 4 + 3 + 1)
theorem zha {g k j : Nat} {cs gcs : List AV} {v : Val} (st : zwi H gr gf g k j cs gcs v) (l1 : gr < n) (l2 : gf < n) (l3 : g < n) {Q : AV → Heap → Nat → Prop}
    (hq : ∀ H' n', n ≤ n' → H' gf = some (.row 4 (zfs cs k g j)) → (∀ x, x < n → x ≠ gf → H' x = H x) → Q (.agg v.avs) H' n') : za Tryd.prog 87 [.ptr gr 0] H n Q := by
  refine zod _ H n _ ?_
  simp [zjs]
  obtain ⟨rc, h1, h2⟩ := st.run
  have c1 := st.fr
  have c3 := st.frl
  have c7 := st.cell
  have g1 := st.st
  have g3 := st.stl
  have hlast := st.val
  have kb := st.kb
  have jb := st.jb
  have gf' := st.gf'
  have fn0 : gf ≠ n := by omega
  have gn0 : g ≠ n := by omega
  have rn0 : gr ≠ n := by omega
  refine zuz (rc := rc) (cs := cs) (k := k) (by rw [Heap.put_ne _ _ rn0]; exact h1) h2 (by rw [Heap.put_ne _ _ fn0]; exact c1) kb ?_
  have hw : IntKind.i64.wrap (j : Int) = j := i64w (by omega)
  have gn : g ≠ n + 1 := by omega
  have fnn : gf ≠ n + 1 := by omega
  have gn1 : n ≠ n + 1 := by omega
  have tv : v.avs.take 3 = v.avs := rfl
  have lv : v.avs.length = 3 := rfl
  simp [zjt, c1, c7, hw, g1, hlast, fn0, fnn, gn, gn0, gf', gn1, tv, lv, fn0.symm, fnn.symm, gn.symm, gn0.symm]
  refine ⟨by omega, by omega, fun x hx => zfc (zcb v x hx), by omega, by omega, fun x hx => zfc (zcb v x hx), ?_⟩
  refine hq _ _ (by omega) ?_ fun x hx hxf => ?_
  · rw [Heap.put_ne _ _ fn0, Heap.put_at]; rfl
  · rw [Heap.put_ne _ _ (by omega), Heap.put_ne _ _ hxf, Heap.put_ne _ _ (by omega), Heap.put_ne _ _ (by omega)]
theorem zt.pop {g k j : Nat} {cs gcs : List AV} {v : Val} (st : zwi H gr gf g k j cs gcs v) {kt : Kt} (hk : kt (.agg v.avs) [gr, gf, g] [] [(gf, some (.row 4 (zfs cs k g j)))]) : zt Tryd.prog (.clo 87 []) [.ptr gr 0] H n kt := by
  obtain ⟨rc, h1, h2⟩ := st.run
  have c1 := st.fr
  have g1 := st.st
  refine ⟨_, [gr, gf, g], [], _, .inl rfl, LC.of_calls (fun x hx => ?_) (by simp) (fun A _ _ => zle v) (fun A hA hB x o hx ho => ?_) (fun H' n' ha => ?_), hk⟩
  · simp at hx
    rcases hx with rfl | rfl | rfl
    · rw [h1]; rfl
    · rw [c1]; rfl
    · rw [g1]; rfl
  · simp at hx
    subst hx
    simp at ho
    subst ho
    have hb := hB x (by simp) _ c1
    intro i y hy
    unfold zfs at hy
    have hm := List.mem_of_getElem? hy
    rcases List.mem_append.1 hm with h | h
    · obtain ⟨i', hi', rfl⟩ := List.getElem_of_mem (List.mem_of_mem_take h)
      exact hb i' _ (List.getElem?_eq_getElem hi')
    · rcases List.mem_cons.1 h with h | h
      · rw [h]; exact .slc _ _ _ (hA g (by simp))
      · obtain ⟨i', hi', rfl⟩ := List.getElem_of_mem (List.mem_of_mem_drop h)
        exact hb i' _ (List.getElem?_eq_getElem hi')
  · obtain ⟨a1, a2⟩ := ha gr (by simp)
    obtain ⟨a3, a4⟩ := ha gf (by simp)
    obtain ⟨a5, a6⟩ := ha g (by simp)
    have st' : zwi H' gr gf g k j cs gcs v := ⟨⟨rc, by rw [a1]; exact h1, h2⟩, by rw [a3]; exact c1, st.frl, st.cell, by rw [a5]; exact g1, st.stl, st.val, st.kb, st.jb, st.gf'⟩
    refine zha st' a2 a4 a6 fun H'' n'' hn q1 q2 => ⟨rfl, hn, fun x hx hd => q2 x hx (by simpa using hd), fun x o hx ho => ?_⟩
    simp at hx
    subst hx
    simp at ho
    rw [q1, ho]
theorem zwx (st : RL H0 H lo n gr gs gf id trip p s fs ss f va sa h ha m e) (hf : fs.length ≤ 4096) {Q : AV → Heap → Nat → Prop} (hq : Q (.ptr gf (fs.length * 4)) H n) : za Tryd.prog 84 [.ptr gr 0] H n Q := by
  refine zgf _ H n _ ?_
  have hr := st.run
  have hw : IntKind.i64.wrap ((fs.length : Int) + 1 - 1) = fs.length := by rw [i64w (by omega)]; omega
  have hw2 : IntKind.i64.wrap (fs.length : Int) = fs.length := i64w (by omega)
  simp [zfa, hr, zc, hw2]
  exact ⟨by omega, hq⟩
theorem RL.setrun (st : RL H0 H lo n gr gs gf id trip p s fs ss f va sa h ha m e) (m' : Pmt) (e' : Evt) : RL H0 (H.put gr (some (.row 13 (zc id trip p (.slc gf 0 (fs.length + 1)) ha m' gs e')))) lo n gr gs gf id trip p s fs ss f va sa h ha m' e' := by
  have ap := st.apart
  obtain ⟨cs, c1, c2⟩ := st.fr
  have hk : ∀ g, g ≠ gr → (H.put gr (some (.row 13 (zc id trip p (.slc gf 0 (fs.length + 1)) ha m' gs e')))) g = H g := fun g hg => Heap.put_ne _ _ hg
  exact st.upd (Nat.le_refl _) (Heap.put_at _ _ _) ⟨cs, by rw [hk _ ap.rf.symm]; exact c1, c2⟩ (st.sv.keep fun g hg => hk g (ap.v g hg).2.1) (st.st.keep fun g hg => hk g (ap.t g hg).2.1) (st.hp.keep fun g hg => hk g (ap.h g hg).2.1) (fun g _ hg _ _ _ _ => hk g hg) (fun g hg => .inl hg) (fun g hg => .inl hg) (fun g hg => .inl hg) st.nd3
theorem zgm (st : RL H0 H lo n gr gs gf id trip p s fs ss f va sa h ha m e) (er : Int) {Q : AV → Heap → Nat → Prop} (hq : ∀ H', RL H0 H' lo n gr gs gf id trip p s fs ss f va sa h ha m (VM.dead er) → Q (.tup []) H' n) : za Tryd.prog 57 [.ptr gr 0, .int .i64 er] H n Q := by
  refine zna _ _ H n _ ?_
  have hr := st.run
  simp [zim, hr, zc]
  exact ⟨by rintro x ((rfl | rfl) | rfl) <;> rfl, hq _ (st.setrun m (VM.dead er))⟩
theorem RL.setfr (st : RL H0 H lo n gr gs gf id trip p s fs ss f va sa h ha m e) {f' : Frm} {va' sa' : AV} {c : Option AObj} (hc : ∃ cs, c = some (.row 4 cs) ∧ cs.take ((fs.length + 1) * 4) = frow fs ss ++ [.int .i64 f'.fn, .int .i64 f'.at_, va', sa'] ∧ (fs.length + 1) * 4 ≤ cs.length)
    (sv' : Slot H 3 f'.vars.length (rowV f'.vars) va') (st' : Slot H 3 f'.stack.length (rowV f'.stack) sa') (ov : own va' = own va) (ot : own sa' = own sa) : RL H0 (H.put gf c) lo n gr gs gf id trip p s fs ss f' va' sa' h ha m e := by
  have ap := st.apart
  obtain ⟨cs, c1, c2⟩ := hc
  have hk : ∀ g, g ≠ gf → (H.put gf c) g = H g := fun g hg => Heap.put_ne _ _ hg
  refine st.upd (Nat.le_refl _) (by rw [hk _ ap.rf]; exact st.run) ⟨cs, by rw [Heap.put_at, c1], c2⟩ (sv'.keep fun g hg => hk g ?_) (st'.keep fun g hg => hk g ?_) (st.hp.keep fun g hg => hk g (ap.h g hg).2.2.2.1) (fun g _ _ hg _ _ _ => hk g hg) (fun g hg => .inl hg) (fun g hg => .inl (ov ▸ hg)) (fun g hg => .inl (ot ▸ hg)) (by rw [ov, ot]; exact st.nd3)
  · exact (ap.v g (ov ▸ hg)).2.2.2.1
  · exact (ap.t g (ot ▸ hg)).2.2.2.1
theorem zact {st : List Val} {v : Val} : ((rowV (st ++ [v])).drop (st.length * 3)).take 3 = v.avs := zzc (by simp)
theorem RL.popAt {st' : List Val} {v : Val} (st : RL H0 H lo n gr gs gf id trip p s fs ss f va sa h ha m e) (hf : fs.length ≤ 4096) (hs : f.stack = st' ++ [v]) (hb : st'.length ≤ 4096) : ∃ g cs gcs, sa = .slc g 0 (st'.length + 1) ∧ zwi H gr gf g fs.length st'.length cs gcs v ∧ g < n ∧
    ∀ H' n', n ≤ n' → H' gf = some (.row 4 (zfs cs fs.length g st'.length)) → (∀ x, x < n → x ≠ gf → H' x = H x) → RL H0 H' lo n' gr gs gf id trip p s fs ss { f with stack := st' } va (.slc g 0 st'.length) h ha m e := by
  obtain ⟨cs, c1, c2, c3, c4, c5, c6, c7⟩ := st.last
  have ap := st.apart
  have hst := st.st
  rw [hs] at hst
  rcases hst with ⟨h0, _⟩ | ⟨g, gcs, rfl, g1, g2, g3⟩
  · simp at h0
  simp at g2 g3
  have hlast : (gcs.drop (st'.length * 3)).take 3 = v.avs := by
    have e := zact (st := st') (v := v)
    rw [← g2] at e
    rw [← e, List.drop_take, List.take_take]
    congr 1
    omega
  have gf' : g ≠ gf := (ap.t g (by simp [own])).2.2.2.1
  refine ⟨g, cs, gcs, by simp, ⟨⟨_, st.run, rfl⟩, c1, c3, by rw [c7]; simp, g1, by omega, hlast, hf, hb, gf'⟩, (ap.t g (by simp [own])).1, fun H' n' hn q1 q2 => ?_⟩
  obtain ⟨d1, d2⟩ := zke (u := AV.slc g 0 st'.length) c2 (zap st.frs.1) c3 (j := 3) (by omega)
  refine RL.more (n := n) (RL.setfr (f' := { f with stack := st' }) (va' := va) (sa' := .slc g 0 st'.length) (c := some (.row 4 (zfs cs fs.length g st'.length))) st ⟨_, rfl, by simpa [zfs] using d1, d2⟩ st.sv (.inr ⟨g, gcs, rfl, g1, ?_, by simp only; omega⟩) rfl (by simp [own])) hn fun x hx => ?_
  · have := congrArg (List.take (st'.length * 3)) g2
    rw [List.take_take, Nat.min_eq_left (by omega)] at this
    rw [this, zpf, List.take_append_of_le_length (by simp), List.take_of_length_le (by simp)]
  · by_cases e : x = gf
    · subst e; rw [q1, Heap.put_at]
    · rw [q2 x hx e, Heap.put_ne _ _ e]
theorem zkb {st' : List Val} {v : Val} (st : RL H0 H lo n gr gs gf id trip p s fs ss f va sa h ha m e) (hf : fs.length ≤ 4096) (hs : f.stack = st' ++ [v]) (hb : st'.length ≤ 4096) {Q : AV → Heap → Nat → Prop}
    (hq : ∀ H' n' sa', n ≤ n' → RL H0 H' lo n' gr gs gf id trip p s fs ss { f with stack := st' } va sa' h ha m e → Q (.agg v.avs) H' n') : za Tryd.prog 87 [.ptr gr 0] H n Q := by
  obtain ⟨g, cs, gcs, _, hp, hg, hr⟩ := st.popAt hf hs hb
  have ap := st.apart
  exact zha hp ap.r ap.f hg fun H' n' hn q1 q2 => hq H' n' _ hn (hr H' n' hn q1 q2)
theorem zcw (v : Val) (st : RL H0 H lo n gr gs gf id trip p s fs ss f va sa h ha m e) (hf : fs.length ≤ 4096) (hb : f.stack.length ≤ 4096) {Q : AV → Heap → Nat → Prop}
    (hq : ∀ H' n' sa', n ≤ n' → RL H0 H' lo n' gr gs gf id trip p s fs ss { f with stack := f.stack ++ [v] } va sa' h ha m e → Q (.tup []) H' n') : za Tryd.prog 85 [.ptr gr 0, .agg v.avs] H n Q := by
  refine zfp _ _ H n _ ?_
  simp [zee]
  have st1 := st.more (H' := H.put n (some (AObj.row 3 v.avs))) (n' := n + 1) (by omega) (fun g hg => Heap.put_ne _ _ (by omega))
  refine zwx st1 hf ?_
  obtain ⟨cs, c1, c2, c3, c4, c5, c6, c7⟩ := st1.last
  have ap := st1.apart
  have tv : v.avs.take 3 = v.avs := rfl
  have lv : v.avs.length = 3 := rfl
  have fnn : gf ≠ n + 1 := by have := ap.f; omega
  have fn0 : gf ≠ n := by have := st.apart.f; omega
  have gn1 : n ≠ n + 1 := by omega
  rw [Heap.put_ne _ _ fn0] at c1
  simp [zef, c1, c7, tv, lv, fn0, fnn, gn1]
  have sa1 : Slot ((H.put n (some (AObj.row 3 v.avs))).put (n + 1) (some (AObj.row 3 v.avs))) 3 f.stack.length (rowV f.stack) sa := st1.st.keep fun g hg => Heap.put_ne _ _ (by have := (ap.t g hg).1; omega)
  refine Slot.append (new := v.avs) sa1 (by simp) (Heap.put_at _ _ _) rfl (List.all_eq_true.2 fun x hx => zfc (zcb v x hx)) (by omega) fun rd D hD h1 h2 => ?_
  have hgf : (((H.put n (some (AObj.row 3 v.avs))).put (n + 1) (some (AObj.row 3 v.avs))).apply D) gf = some (.row 4 cs) := by
    rw [h2 gf (fun h => (ap.t _ h).2.2.2.1 rfl) (by have := ap.f; omega), Heap.put_ne _ _ fnn, Heap.put_ne _ _ fn0]; exact c1
  have hold : ∀ g, g < n → g ∉ own sa → (((H.put n (some (AObj.row 3 v.avs))).put (n + 1) (some (AObj.row 3 v.avs))).apply D) g = H g := fun g hg hs => by
    rw [h2 g hs (by omega), Heap.put_ne _ _ (by omega), Heap.put_ne _ _ (by omega)]
  generalize ((H.put n (some (AObj.row 3 v.avs))).put (n + 1) (some (AObj.row 3 v.avs))).apply D = HD at *
  simp [hgf]
  obtain ⟨d1, d2⟩ := zke (u := AV.slc (n + 1 + 1) 0 (f.stack.length + 1)) c2 (zap st.frs.1) c3 (j := 3) (by omega)
  have ap0 := st.apart
  have old : ∀ g, g < n → g ≠ gf → g ∉ own sa → (HD.put gf (some (AObj.row 4 (List.take (fs.length * 4 + 3) cs ++ AV.slc (n + 1 + 1) 0 (f.stack.length + 1) :: List.drop (fs.length * 4 + 3 + 1) cs)))) g = H g := fun g hg h1 hs => by
    rw [Heap.put_ne _ _ h1]; exact hold g hg hs
  refine ⟨by omega, by omega, znq (by simp) (hq _ _ (.slc (n + 1 + 1) 0 (f.stack.length + 1)) (by omega) (st.upd (by omega) ?_ ⟨_, Heap.put_at _ _ _, by simpa using d1, d2⟩ ?_ ?_ ?_ ?_ (fun g hg => .inl hg) (fun g hg => .inl hg) ?_ ?_))⟩
  · rw [old gr ap0.r ap0.rf (fun h => (ap0.t _ h).2.1 rfl)]; exact st.run
  · exact st.sv.keep fun g hg => old g (ap0.v g hg).1 (ap0.v g hg).2.2.2.1 (ap0.v g hg).2.2.2.2.2.2
  · refine .inr ⟨n + 1 + 1, rowV f.stack ++ v.avs, by simp, by rw [Heap.put_ne _ _ (by have := ap0.f; omega)]; exact h1, ?_, ?_⟩
    · rw [zpf, List.take_of_length_le (by simp [lv]; omega)]
    · simp [lv]; omega
  · exact st.hp.keep fun g hg => old g (ap0.h g hg).1 (ap0.h g hg).2.2.2.1 (ap0.h g hg).2.2.2.2.2.2
  · exact fun g hg _ h2 _ _ h3 => old g hg h2 h3
  · intro g hg; simp [own] at hg; subst hg; exact .inr ⟨by omega, by omega⟩
  · have := st.nd3
    simp only [List.nodup_append, List.mem_append] at this ⊢
    obtain ⟨z1, ⟨z2, _, _⟩, z4⟩ := this
    refine ⟨z1, ⟨z2, zlf _, ?_⟩, ?_⟩
    · rintro x hx y hy rfl
      simp [own] at hy
      have := (ap0.v x hx).1; omega
    · rintro x hx y (hy | hy) rfl
      · exact z4 x hx x (.inl hy) rfl
      · simp [own] at hy
        have := (ap0.h x hx).1; omega
end
end Go.Proofs.YtobioljjoipimaaDoor
