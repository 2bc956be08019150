/- Programs, and agents, as they lie in memory. A call that changes what it is handed by address, where the order is drawn. Cells numbered as they are come to: the program's closure. Rows that are read: by value, or owned. Rows copied. Cells numbered as they are come to: plain laws. Cells numbered as they are come to: the closure, where the order is drawn. Cells numbered as they are come to: the program's function. Cells numbered as they are come to: what holds between the closure's calls. Cells numbered anew: what stays. Cells numbered as they are come to: the program's function. Cells numbered as they are come to: the program's function, all of it. DERIVED: THE SHELF's CONTRACTS AT THIS DUMP, IN PLAIN WORDS (tools/lay-plain.mjs out of 'YtobioljjoipimaaDoorShelf0.lean', which tools/lay-shelf.mjs wrote): THE SAME DECLARATIONS UNDER THE SAME NAMES: 'import', 'namespace', 'open', 'def', 'theorem' AND NOTHING ELSE: no command of the shelf's: FOR A HAND-IN. Each laying: the table of numbers ('.._ren') and one theorem, a field a fact of the dump's own or the kernel's comparison; each contract: ONE APPLICATION. strconv.Itoa: a number's digits. A value as a text: the program's function, and the document's. Rows that are built by appending. What a call has made is read by value from now on, in part. The machine in memory: who owns what. The machine in memory: what changes, and what stays. A call that changes what it is handed by address, where the order is drawn: what it leaves names no more than what was there named. The machine's small functions: top, dead, pop, push. What is made of two values: the program's function, and the document's. The machine's functions: setting out, asking, operations. The machine's functions: cells made, and changed; operations. The machine's functions: operations, and cells made. The machine's functions: calls. The machine's functions: coming back; and how it ends. -/
import Derived.Test.YtobioljjoipimaaDoorG8
import Derived.Test.YtobioljjoipimaaDoorG6
import Derived.Shelf.Strconv.Atoi
import Derived.Shelf.Strconv.Itoa0
import Derived.Shelf.Strconv.Itoa1
import Derived.Shelf.LaysM
import Derived.Shelf.Strconv.Itoa2
import Derived.Shelf.Strconv.Itoa3
import Derived.Shelf.Strconv.AtoiErrFast
import Derived.Shelf.Strconv.ParseIntEmpty
import Derived.Shelf.Strconv.AtoiFail
import Derived.Shelf.Strconv.Clone
import Derived.Shelf.Strconv.SyntaxError
import Derived.Shelf.LaysC
import Derived.Shelf.Strconv.ToError
import Derived.Shelf.Strconv.Lower
import Derived.Shelf.Strconv.ParseUint10
import Derived.Shelf.Strconv.ParseUint10Empty
import Derived.Shelf.Strconv.ParseUint10Any
import Derived.Shelf.Strconv.ParseInt10
import Derived.Shelf.Strconv.AtoiLong
import Derived.Shelf.Strconv.AtoiInnerAll
import Derived.Shelf.Strconv.RangeError
import Derived.Shelf.Strconv.ToErrorRange
import Derived.Shelf.Strconv.AtoiAll
import Derived.Shelf.Strconv.ErrVarAll
import Derived.Ground.Names2Prog
import Derived.Test.YtobioljjoipimaaDoorProg
import Derived.Test.YtobioljjoipimaaDoorG5
import Derived.Lib.ItoaLen
import Derived.Test.YtobioljjoipimaaDoorG7
set_option linter.unusedSimpArgs false
set_option linter.unusedVariables false
set_option maxRecDepth 8000
namespace Go.Proofs.YtobioljjoipimaaDoor
open Go Go.RowKit
end Go.Proofs.YtobioljjoipimaaDoor
set_option maxRecDepth 8000
namespace Go.Proofs.YtobioljjoipimaaDoor
open Go Go.RowKit
inductive Rn (R : Nat → Prop) (gn g0 : Nat) : AV → AV → Prop
  | same (v : AV) : Bel R v → Rn R gn g0 v v
  | slc (off len : Nat) : Rn R gn g0 (.slc gn off len) (.slc g0 off len)
  | ptr (off : Nat) : Rn R gn g0 (.ptr gn off) (.ptr g0 off)
  | amap : Rn R gn g0 (.amap gn) (.amap g0)
  | agg (xs ys : List AV) : ys.length = xs.length → (∀ (j : Nat) (v u : AV), xs[j]? = some v → ys[j]? = some u → Rn R gn g0 v u) → Rn R gn g0 (.agg xs) (.agg ys)
def RnO (R : Nat → Prop) (gn g0 : Nat) : AObj → AObj → Prop
  | .row s cs, .row s' ds => s' = s ∧ ds.length = cs.length ∧ ∀ (j : Nat) (v u : AV), cs[j]? = some v → ds[j]? = some u → Rn R gn g0 v u
  | .mp es, .mp fs => fs.length = es.length ∧ ∀ (j : Nat) (v u : AV × AV), es[j]? = some v → fs[j]? = some u → Rn R gn g0 v.1 u.1 ∧ Rn R gn g0 v.2 u.2
  | _, _ => False
theorem VRel.rn {K : zj} {ρ ρ2 : Nat → Loc} {A A2 R : Nat → Prop} {gn g0 : Nat} {v u : AV} {c : Value} (h : VRel K ρ A v c) (hr : Rn R gn g0 v u) (hR : ∀ g, R g → A g → ρ2 g = ρ g ∧ A2 g) (hA : ∀ g, R g → A g) (hg : ρ2 g0 = ρ gn ∧ A2 g0) : VRel K ρ2 A2 u c := by
  induction hr generalizing c with
  | same _ hb => exact (h.restrict hb).mono (fun _ _ h => h) fun g hg => hR g hg (hA g hg)
  | slc off len =>
    cases h with
    | slc _ _ _ cap a h1 h2 h3 => exact .slc g0 off len cap a hg.2 h2 (by rw [hg.1]; exact h3)
  | ptr off =>
    cases h with
    | ptr _ _ a h1 h2 => exact .ptr g0 off a hg.2 (by rw [hg.1]; exact h2)
  | amap =>
    cases h with
    | amap _ r h1 h2 => exact .amap g0 r hg.2 (by rw [hg.1]; exact h2)
  | agg xs ys hl _ ih =>
    cases h with
    | agg _ cs h1 h2 =>
      exact .agg ys cs (by omega) fun j u c hu hc => by
        have hlt := (List.getElem?_eq_some_iff.1 hu).1
        have hx : xs[j]? = some (xs[j]'(by omega)) := List.getElem?_eq_getElem (by omega)
        exact ih j _ u hx hu (h2 j _ c hx hc)
theorem zao.rn {K : zj} {ρ ρ2 : Nat → Loc} {A A2 R : Nat → Prop} {gn g0 : Nat} {o o' : AObj} {w : World} {l : Loc} (h : zao K ρ A w l o) (hr : RnO R gn g0 o o') (hR : ∀ g, R g → A g → ρ2 g = ρ g ∧ A2 g) (hA : ∀ g, R g → A g) (hg : ρ2 g0 = ρ gn ∧ A2 g0) : zao K ρ2 A2 w l o' := by
  cases o with
  | row s cs =>
    cases o' with
    | mp fs | it _ _ _ => exact hr.elim
    | row s' ds =>
      obtain ⟨rfl, hl, hc⟩ := hr
      obtain ⟨c, e, lo, hi, h1, h0, h2, h3, h4, h5⟩ := h
      refine ⟨c, e, lo, hi, h1, h0, h2, h3, by rw [hl]; exact h4, fun j u hu => ?_⟩
      have hj : j < cs.length := by have := (List.getElem?_eq_some_iff.1 hu).1; omega
      have hv : cs[j]? = some cs[j] := List.getElem?_eq_getElem hj
      obtain ⟨cv, a1, a2⟩ := h5 j _ hv
      exact ⟨cv, a1, a2.rn (hc j _ u hv hu) hR hA hg⟩
  | mp es =>
    cases o' with
    | row s' ds | it _ _ _ => exact hr.elim
    | mp fs =>
      obtain ⟨hl, hc⟩ := hr
      obtain ⟨en, cl, h1, h2, h3, h4⟩ := h
      refine ⟨en, cl, h1, by rw [hl]; exact h2, fun j u e hu he => ?_, h4⟩
      have hj : j < es.length := by have := (List.getElem?_eq_some_iff.1 hu).1; omega
      have hv : es[j]? = some es[j] := List.getElem?_eq_getElem hj
      obtain ⟨a1, a2⟩ := h3 j _ e hv he
      obtain ⟨b1, b2⟩ := hc j _ u hv hu
      exact ⟨a1.rn b1 hR hA hg, a2.rn b2 hR hA hg⟩
  | it _ _ _ => exact hr.elim
theorem zkg {D : zi} : ∀ {H : Heap} {g : Nat}, g ∉ domD D → (H.apply D) g = H g := by
  induction D with
  | nil => intros; rfl
  | cons d r ih =>
    obtain ⟨g', o⟩ := d
    intro H g hg
    simp only [domD, List.map_cons, List.mem_cons, not_or] at hg
    show ((H.put g' o).apply r) g = H g
    rw [ih (by simpa [domD] using hg.2), Heap.put_ne _ _ hg.1]
end Go.Proofs.YtobioljjoipimaaDoor
set_option maxRecDepth 8000
namespace Go.Proofs.YtobioljjoipimaaDoor
open Go Go.RowKit
def zse : Nat → List Nat → List (AV × AV)
  | _, [] => []
  | k, n :: r => (.int .i64 n, .int .i64 k) :: zse (k + 1) r
def zabr (o : List Nat) : List (AV × AV) := zse 0 o
def zsd (o : List Nat) : List AV := o.map fun (n : Nat) => AV.int .i64 (n : Int)
@[simp] theorem zajb (o : List Nat) : (zsd o).length = o.length := by simp [zsd]
structure zkj (H : Heap) (g1 g2 gm gr : Nat) (o : List Nat) : Prop where
  m1 : H g1 = some (.row 1 [.amap gm])
  mm : H gm = some (.mp (zabr o))
  m2 : H g2 = some (.row 1 [if o = [] then .nils else .slc gr 0 o.length])
  mr : o ≠ [] → H gr = some (.row 1 (zsd o))
  d12 : g1 ≠ g2
  d1m : g1 ≠ gm
  d2m : g2 ≠ gm
  dr : o ≠ [] → gr ≠ g1 ∧ gr ≠ g2 ∧ gr ≠ gm
end Go.Proofs.YtobioljjoipimaaDoor
set_option maxRecDepth 8000
namespace Go.Proofs.YtobioljjoipimaaDoor
open Go Go.RowKit
theorem zat {sz : Nat} : ∀ {xs : List (List AV)}, (∀ x ∈ xs, x.length = sz) → xs.flatten.length = xs.length * sz
  | [], _ => by simp
  | y :: r, hs => by rw [List.flatten_cons, List.length_append, zat fun z hz => hs z (by simp [hz]), hs y (by simp), List.length_cons, Nat.succ_mul, Nat.add_comm]
theorem zfb {sz : Nat} : ∀ {xs : List (List AV)}, (∀ x ∈ xs, x.length = sz) → ∀ {i : Nat} {x : List AV}, xs[i]? = some x → (xs.flatten.drop (i * sz)).take sz = x
  | [], _, i, x, hx => by simp at hx
  | y :: r, hs, 0, x, hx => by
    simp at hx; subst hx
    rw [Nat.zero_mul, List.drop_zero, List.flatten_cons, List.take_append_of_le_length (by rw [hs y (by simp)]; omega), List.take_of_length_le (by rw [hs y (by simp)]; omega)]
  | y :: r, hs, i + 1, x, hx => by
    have hy : y.length = sz := hs y (by simp)
    rw [List.flatten_cons, Nat.succ_mul, List.drop_append, List.drop_of_length_le (by omega), List.nil_append, show i * sz + sz - y.length = i * sz by omega]
    exact zfb (fun z hz => hs z (by simp [hz])) (by simpa using hx)
inductive zbm (H : Heap) (nx sz : Nat) (xs : List (List AV)) : AV → Prop
  | ro : zbm H nx sz xs (.ro xs)
  | slc (g : Nat) : g < nx → H g = some (.row sz xs.flatten) → zbm H nx sz xs (.slc g 0 xs.length)
  | nils : xs = [] → zbm H nx sz xs .nils
theorem zbm.keep {H H' : Heap} {nx nx' sz : Nat} {xs : List (List AV)} {a : AV} (h : zbm H nx sz xs a) (hk : ∀ g, g < nx → H' g = H g) (hn : nx ≤ nx') : zbm H' nx' sz xs a := by
  cases h with
  | ro => exact .ro
  | slc g h1 h2 => exact .slc g (by omega) (by rw [hk g h1]; exact h2)
  | nils h => exact .nils h
theorem zbm.len {H : Heap} {nx sz : Nat} {xs : List (List AV)} {a : AV} (h : zbm H nx sz xs a) {k : AV → Prop} : LNL a k = k (.int .i64 xs.length) := by
  cases h with
  | ro => simp
  | slc g h1 h2 => simp
  | nils h => subst h; simp
theorem zbm.ld {H : Heap} {nx sz : Nat} {xs : List (List AV)} {a : AV} (h : zbm H nx sz xs a) (hs : ∀ x ∈ xs, x.length = sz) {ki : IntKind} {i : Nat} {x : List AV} (hx : xs[i]? = some x) {k : AV → Prop} (hk : k (.agg x)) : IA sz a (.int ki i) fun p => LD true sz p H k := by
  obtain ⟨hi, hx'⟩ := List.getElem?_eq_some_iff.1 hx
  have hxl : x.length = sz := hs x (List.mem_of_getElem? hx)
  cases h with
  | ro =>
    rw [zafu]
    have e : xs.getD i [] = x := by simp [List.getD_eq_getElem?_getD, hx]
    simp only [Int.toNat_natCast, e, zzw]
    refine ⟨by omega, by omega, hxl, by omega, ?_⟩
    rw [List.drop_zero, List.take_of_length_le (by omega)]
    exact hk
  | slc g h1 h2 =>
    rw [zaie]
    simp only [Int.toNat_natCast, zaef, h2, rowk]
    refine ⟨by omega, by omega, ?_, ?_⟩
    · rw [zat hs]
      have : (i + 1) * sz ≤ xs.length * sz := Nat.mul_le_mul_right _ hi
      rw [Nat.succ_mul] at this; omega
    · rw [Nat.zero_add, zfb hs hx]; exact hk
  | nils h => subst h; simp at hx
theorem zbm.src {H : Heap} {nx sz : Nat} {xs : List (List AV)} {a : AV} (h : zbm H nx sz xs a) (hs : ∀ x ∈ xs, x.length = sz) : ∃ rd, zg sz H a = some (xs.length, xs.flatten, rd) := by
  cases h with
  | ro => exact ⟨[], zeg hs⟩
  | slc g h1 h2 =>
    refine ⟨[g], ?_⟩
    have hl := zat hs
    simp only [zg, h2, Nat.zero_add, List.drop_zero]
    rw [if_pos (by omega), List.take_of_length_le (by omega)]
  | nils h => subst h; exact ⟨[], rfl⟩
theorem zbm.frz {H : Heap} {nx sz : Nat} {xs : List (List AV)} {a : AV} (h : zbm H nx sz xs a) (hs : ∀ x ∈ xs, x.length = sz) (hf : ∀ x ∈ xs, ∀ v ∈ x, flat v = true ∧ Bel (fun _ => False) v) (hro : Bel (fun _ => False) (.ro xs)) : Frz H 0 a (.ro xs) := by
  have hb : ∀ c ∈ xs.flatten, Bel (fun x => x < 0) c := by
    intro c hc
    obtain ⟨x, hx, hcx⟩ := List.mem_flatten.1 hc
    exact (hf x hx c hcx).2.mono fun _ h => h.elim
  cases h with
  | ro => exact .same _ (hro.mono fun _ h => h.elim)
  | slc g h1 h2 => exact Frz.row (Nat.zero_le _) h2 rfl hs rfl hb
  | nils h => subst h; exact .nils
end Go.Proofs.YtobioljjoipimaaDoor
set_option maxRecDepth 8000
namespace Go.Proofs.YtobioljjoipimaaDoor
open Go Go.RowKit
def rowV (l : List Val) : List AV := (l.map Val.avs).flatten
def rowC (h : List Cl) : List AV := (h.map Cl.avs).flatten
theorem zdt (l : List Val) : ∀ x ∈ l.map Val.avs, x.length = 3 := by intro x hx; obtain ⟨v, _, rfl⟩ := List.mem_map.1 hx; rfl
theorem zdc (l : List Cl) : ∀ x ∈ l.map Cl.avs, x.length = 6 := by intro x hx; obtain ⟨v, _, rfl⟩ := List.mem_map.1 hx; rfl
@[simp] theorem zalz (l : List Val) : (rowV l).length = l.length * 3 := by rw [rowV, zat (zdt l)]; simp
@[simp] theorem zama (l : List Cl) : (rowC l).length = l.length * 6 := by rw [rowC, zat (zdc l)]; simp
theorem zda (v : Val) : ∀ c ∈ v.avs, scal c = true := by intro c hc; simp [Val.avs] at hc; rcases hc with rfl | rfl | rfl <;> rfl
theorem ztn (c : Cl) : ∀ x ∈ c.avs, scal x = true := by
  intro x hx
  rcases List.mem_append.1 hx with h | h
  · exact zda _ _ h
  · exact zda _ _ h
theorem zgq (l : List Val) : ∀ c ∈ rowV l, scal c = true := by
  intro c hc
  obtain ⟨x, hx, hcx⟩ := List.mem_flatten.1 hc
  obtain ⟨v, _, rfl⟩ := List.mem_map.1 hx
  exact zda v c hcx
theorem zcg (l : List Cl) : ∀ c ∈ rowC l, scal c = true := by
  intro c hc
  obtain ⟨x, hx, hcx⟩ := List.mem_flatten.1 hc
  obtain ⟨v, _, rfl⟩ := List.mem_map.1 hx
  exact ztn v c hcx
theorem zaj {c : AV} (h : scal c = true) : c.one = true := by cases c <;> first | (cases h; done) | rfl
theorem zuc {c : AV} (h : scal c = true) : flat c = true := by cases c <;> first | (cases h; done) | simp
theorem zey {c : AV} {A : Nat → Prop} (h : scal c = true) : Bel A c := by cases c <;> first | (cases h; done) | exact .int _ _ | exact .str _ | exact .bool _
theorem zcr {xs : List (List AV)} {A : Nat → Prop} (h : ∀ x ∈ xs, ∀ c ∈ x, scal c = true) : Bel A (.ro xs) := .ro xs fun i x j v hx hv => zey (h x (List.mem_of_getElem? hx) v (List.mem_of_getElem? hv))
theorem zcw (l : List Val) : ∀ x ∈ l.map Val.avs, ∀ c ∈ x, scal c = true := by intro x hx; obtain ⟨v, _, rfl⟩ := List.mem_map.1 hx; exact zda v
theorem zab (l : List Cl) : ∀ x ∈ l.map Cl.avs, ∀ c ∈ x, scal c = true := by intro x hx; obtain ⟨v, _, rfl⟩ := List.mem_map.1 hx; exact ztn v
theorem zbm.frzV {H : Heap} {nx : Nat} {l : List Val} {a : AV} (h : zbm H nx 3 (l.map Val.avs) a) : Frz H 0 a (.ro (l.map Val.avs)) :=
  h.frz (zdt l) (fun x hx v hv => ⟨zuc (zcw l x hx v hv), zey (zcw l x hx v hv)⟩) (zcr (zcw l))
theorem zbm.frzC {H : Heap} {nx : Nat} {l : List Cl} {a : AV} (h : zbm H nx 6 (l.map Cl.avs) a) : Frz H 0 a (.ro (l.map Cl.avs)) :=
  h.frz (zdc l) (fun x hx v hv => ⟨zuc (zab l x hx v hv), zey (zab l x hx v hv)⟩) (zcr (zab l))
end Go.Proofs.YtobioljjoipimaaDoor
namespace Go.Proofs.YtobioljjoipimaaDoor
namespace VM
def OkV (N : Nat) (v : Val) : Prop := v.kind = 2 → 0 ≤ v.n ∧ v.n.toNat < N
structure Good (N : Nat) (o : List Nat) : Prop where
  nd : o.Nodup
  lt : ∀ n ∈ o, n < N
theorem Good.len {N : Nat} {o : List Nat} (h : Good N o) : o.length ≤ N := by
  have := h.nd.length_le_of_subset (l₂ := List.range N) (fun n hn => List.mem_range.2 (h.lt n hn))
  simpa using this
theorem Good.nil {N : Nat} : Good N [] := ⟨List.nodup_nil, fun n h => by simp at h⟩
theorem Good.meet {N : Nat} {o : List Nat} {v : Val} (h : Good N o) (hv : OkV N v) : Good N (meet o v) := by
  unfold VM.meet
  split
  · rename_i hc
    refine ⟨?_, fun n hn => ?_⟩
    · rw [List.nodup_append]
      exact ⟨h.nd, by simp, fun a ha b hb e => hc.2 (by simp at hb; rw [← hb, ← e]; exact ha)⟩
    · rcases List.mem_append.1 hn with h' | h'
      · exact h.lt n h'
      · simp at h'; rw [h']; exact (hv hc.1).2
  · exact h
theorem meet_pre (o : List Nat) (v : Val) : o <+: meet o v := by
  unfold meet; split
  · exact List.prefix_append _ _
  · exact List.prefix_refl _
def In (o : List Nat) (v : Val) : Prop := v.kind = 2 → v.n.toNat ∈ o
theorem In.pre {o F : List Nat} {v : Val} (h : In o v) (p : o <+: F) : In F v := fun hk => p.subset (h hk)
end VM
end Go.Proofs.YtobioljjoipimaaDoor
set_option maxRecDepth 8000
namespace Go.Proofs.YtobioljjoipimaaDoor
open Go Go.RowKit
end Go.Proofs.YtobioljjoipimaaDoor
set_option maxRecDepth 8000
namespace Go.Proofs.YtobioljjoipimaaDoor
open Go Go.RowKit
theorem zagw {L : List Val} {i : Nat} {v : Val} (h : L[i]? = some v) : ((rowV L).drop (i * 3)).take 3 = v.avs := zfb (zdt L) (by rw [List.getElem?_map, h]; rfl)
theorem zon (v : Val) (L : List Val) : rowV (v :: L) = v.avs ++ rowV L := by simp [rowV]
theorem zabo (L : List Cl) (c : Cl) : rowC (L ++ [c]) = rowC L ++ c.avs := by simp [rowC]
theorem zom (L : List Val) (c : Val) : rowV (L ++ [c]) = rowV L ++ c.avs := by simp [rowV]
theorem zwa : ∀ {L : List Val} {i : Nat} {v : Val}, i < L.length → (rowV L).take (i * 3) ++ v.avs ++ (rowV L).drop (i * 3 + 3) = rowV (L.set i v)
  | [], i, v, h => by simp at h
  | w :: L, 0, v, h => by simp [zon, List.drop_append, List.drop_of_length_le]
  | w :: L, i + 1, v, h => by
    have ih := zwa (L := L) (i := i) (v := v) (by simpa using h)
    rw [List.set_cons_succ, zon, zon, ← ih, Nat.succ_mul, List.take_append, List.drop_append, List.take_of_length_le (by simp), List.drop_of_length_le (by simp)]
    simp [List.append_assoc]
def zail (F : List Nat) (h : List Cl) (n : Nat) : Cl := VM.putC F ((h[n]?).getD ⟨VM.vzero, VM.vzero⟩)
theorem zkj.keep {H H' : Heap} {g1 g2 gm gr nx : Nat} {o : List Nat} (h : zkj H g1 g2 gm gr o) (l1 : g1 < nx) (l2 : g2 < nx) (lm : gm < nx) (lr : o ≠ [] → gr < nx) (hk : ∀ g, g < nx → H' g = H g) : zkj H' g1 g2 gm gr o :=
  ⟨by rw [hk g1 l1]; exact h.m1, by rw [hk gm lm]; exact h.mm, by rw [hk g2 l2]; exact h.m2, fun ho => by rw [hk gr (lr ho)]; exact h.mr ho, h.d12, h.d1m, h.d2m, h.dr⟩
theorem zkj.next {H H' : Heap} {g1 g2 gm gr gn nx : Nat} {o : List Nat} {n : Nat} (h : zkj H g1 g2 gm gr o) (l1 : g1 < nx) (l2 : g2 < nx) (lm : gm < nx) (lr : o ≠ [] → gr < nx) (hgn : nx ≤ gn) (p3 : H' gm = some (.mp (zabr (o ++ [n])))) (p4 : H' g2 = some (.row 1 [.slc gn 0 (o.length + 1)]))
    (p5 : H' gn = some (.row 1 (zsd (o ++ [n])))) (p7 : H' g1 = H g1) : zkj H' g1 g2 gm gn (o ++ [n]) :=
  ⟨by rw [p7]; exact h.m1, p3, by rw [p4]; simp, fun _ => p5, h.d12, h.d1m, h.d2m, fun _ => ⟨by omega, by omega, by omega⟩⟩
end Go.Proofs.YtobioljjoipimaaDoor
set_option maxRecDepth 8000
namespace Go.Proofs.YtobioljjoipimaaDoor
open Go Go.RowKit
structure zpq (h : List Cl) (l : List Val) (F : List Nat) (H0 : Heap) (nx i d : Nat) (o : List Nat) (a2 : AV) (H : Heap) (n gr go gv : Nat) : Prop where
  num : zkj H (nx + 1) (nx + 2) nx gr o
  lr : o ≠ [] → nx + 3 ≤ gr ∧ gr < n ∧ gv ≠ gr
  out : (d = 0 ∧ a2 = .nils) ∨ (0 < d ∧ a2 = .slc go 0 d ∧ H go = some (.row 6 (rowC ((o.take d).map (zail F h)))) ∧ nx + 3 ≤ go ∧ go < n ∧ go ≠ gv ∧ go ≠ gr)
  vs : H gv = some (.row 3 (rowV ((l.take i).map (VM.put F) ++ l.drop i)))
  lv : nx + 3 ≤ gv ∧ gv < n
  keep : Keep nx H H0
  good : VM.Good h.length o
  dle : d ≤ o.length
theorem zpq.more {h : List Cl} {l : List Val} {F : List Nat} {H0 : Heap} {nx i d : Nat} {o : List Nat} {a2 : AV} {H : Heap} {n gr go gv : Nat} (st : zpq h l F H0 nx i d o a2 H n gr go gv) {H1 : Heap} {n1 : Nat} (hn : n ≤ n1) (hk : ∀ g, g < n → H1 g = H g) : zpq h l F H0 nx i d o a2 H1 n1 gr go gv := by
  have l1 := st.lv
  refine ⟨st.num.keep (nx := n) (by omega) (by omega) (by omega) (fun ho => (st.lr ho).2.1) hk, fun ho => ?_, ?_, by rw [hk gv l1.2]; exact st.vs, by omega, fun g hg => by rw [hk g (by omega)]; exact st.keep g hg, st.good, st.dle⟩
  · have := st.lr ho; omega
  · rcases st.out with h | ⟨p1, p2, p3, p4, p5, p6⟩
    · exact .inl h
    · exact .inr ⟨p1, p2, by rw [hk go p5]; exact p3, p4, by omega, p6⟩
theorem zadu {o o' : List Nat} (h : o <+: o') {d : Nat} (hd : d ≤ o.length) : o'.take d = o.take d := by
  obtain ⟨t, rfl⟩ := h
  rw [List.take_append_of_le_length hd]
theorem zpq.meet {h : List Cl} {l : List Val} {F : List Nat} {H0 : Heap} {nx i d : Nat} {o : List Nat} {a2 : AV} {H : Heap} {n gr go gv : Nat} (st : zpq h l F H0 nx i d o a2 H n gr go gv) {v : Val} (hv : VM.OkV h.length v) {H' : Heap} {n' gr' : Nat} (hn : n ≤ n')
    (q1 : zkj H' (nx + 1) (nx + 2) nx gr' (VM.meet o v)) (q2 : VM.meet o v ≠ [] → gr' < n' ∧ ((o ≠ [] ∧ gr' = gr) ∨ n ≤ gr')) (q3 : ∀ g, g < n → g ≠ nx → g ≠ nx + 2 → (o ≠ [] → g ≠ gr) → H' g = H g) : zpq h l F H0 nx i d (VM.meet o v) a2 H' n' gr' go gv := by
  have l1 := st.lv
  have p := VM.meet_pre o v
  have hgv : H' gv = H gv := q3 gv l1.2 (by omega) (by omega) fun ho => (st.lr ho).2.2
  refine ⟨q1, fun ho => ?_, ?_, by rw [hgv]; exact st.vs, by omega, fun g hg => ?_, st.good.meet hv, Nat.le_trans st.dle p.length_le⟩
  · obtain ⟨a, b⟩ := q2 ho
    rcases b with ⟨b1, rfl⟩ | b
    · have := st.lr b1; omega
    · omega
  · rcases st.out with h | ⟨p1, p2, p3, p4, p5, p6, p7⟩
    · exact .inl h
    · have ho : o ≠ [] := by intro e; subst e; have := st.dle; simp at this; omega
      refine .inr ⟨p1, p2, ?_, p4, by omega, p6, ?_⟩
      · rw [q3 go p5 (by omega) (by omega) fun _ => p7, zadu p st.dle]; exact p3
      · have hm : VM.meet o v ≠ [] := by
          intro e; rw [e] at p; exact ho (List.prefix_nil.1 p)
        rcases (q2 hm).2 with ⟨_, rfl⟩ | b
        · exact p7
        · omega
  · rw [q3 g (by omega) (by omega) (by omega) fun ho => by have := st.lr ho; omega]; exact st.keep g hg
theorem zwo {A : Prop} {m : List Nat} : ∀ {l : List Nat}, (∀ g ∈ l, g ∉ m) → A → zd l m A
  | [], _, a => by rw [zacj]; exact a
  | g :: r, h, a => by rw [zaam]; exact ⟨h g (by simp), zwo (fun x hx => h x (by simp [hx])) a⟩
theorem zub {α : Type} {l : List α} {i : Nat} {v : α} (h : l[i]? = some v) : l.take (i + 1) = l.take i ++ [v] := by
  rw [List.take_add_one, h]; rfl
end Go.Proofs.YtobioljjoipimaaDoor
namespace Go.Proofs.YtobioljjoipimaaDoor
namespace VM
theorem vshow_int {h : List Cl} {d : Nat} {v : Val} (k : v.kind = 0) : vshow h d v = Lib.itoa v.n := by cases d <;> simp [vshow, k]
theorem vshow_text {h : List Cl} {d : Nat} {v : Val} (k : v.kind = 1) : vshow h d v = v.text := by cases d <;> simp [vshow, k]
theorem vshow_dots {h : List Cl} {v : Val} (k : v.kind = 2) : vshow h 0 v = [46, 46] := by simp [vshow, k]
theorem vshow_cell {h : List Cl} {d : Nat} {v : Val} {c : Cl} (k : v.kind = 2) (hn : 0 ≤ v.n) (hc : h[v.n.toNat]? = some c) : vshow h (d + 1) v = [40] ++ vshow h d c.left ++ [32] ++ vshow h d c.right ++ [41] := by simp [vshow, k, hn, hc]
end VM
end Go.Proofs.YtobioljjoipimaaDoor
namespace Go.Proofs.YtobioljjoipimaaDoor
open Go Go.RowKit
end Go.Proofs.YtobioljjoipimaaDoor
namespace Go.Proofs.YtobioljjoipimaaDoor
open Go Go.RowKit
end Go.Proofs.YtobioljjoipimaaDoor
namespace Go.Proofs
open Go.Shelf
def Tryd.laysM171_ren : Go.Shelf.Ren := ⟨fun | 171 => 76 | 243 => 103 | 246 => 111 | 283 => 117 | 284 => 118 | 285 => 119 | 286 => 120 | 129 => 127 | 317 => 126 | 318 => 128 | 319 => 129 | 320 => 130 | 337 => 134 | 338 => 135 | n => n, fun | 3 => 3 | 9 => 9 | 2 => 2 | 4 => 4 | 171 => 188 | 0 => 0 | 53 => 189 | 37 => 192 | 5 => 5 | 173 => 193 | 212 => 202 | 51 => 203 | 20 => 20 | 213 => 204 | 46 => 205 | 232 => 219 | 233 => 220 | n => n, fun | 17 => 0 | 18 => 3 | 19 => 4 | n => n⟩
theorem Tryd.laysM171 : Go.Proofs.LaysM.n171 Tryd.prog Tryd.laysM171_ren := {
  mixed := by kernel_rfl
  f129 := Tryd.func127.trans (congrArg some (by kernel_rfl))
  f171 := Tryd.func76.trans (congrArg some (by kernel_rfl))
  f243 := Tryd.func103.trans (congrArg some (by kernel_rfl))
  f246 := Tryd.func111.trans (congrArg some (by kernel_rfl))
  f283 := Tryd.func117.trans (congrArg some (by kernel_rfl))
  f284 := Tryd.func118.trans (congrArg some (by kernel_rfl))
  f285 := Tryd.func119.trans (congrArg some (by kernel_rfl))
  f286 := Tryd.func120.trans (congrArg some (by kernel_rfl))
  f317 := Tryd.func126.trans (congrArg some (by kernel_rfl))
  f318 := Tryd.func128.trans (congrArg some (by kernel_rfl))
  f319 := Tryd.func129.trans (congrArg some (by kernel_rfl))
  f320 := Tryd.func130.trans (congrArg some (by kernel_rfl))
  f337 := Tryd.func134.trans (congrArg some (by kernel_rfl))
  f338 := Tryd.func135.trans (congrArg some (by kernel_rfl))
  t0 := Tryd.underlying0
  a0 := Tryd.isAgg0
  z0 := Tryd.sizeOf0
  v0 := Tryd.zeroValue0
  t2 := Tryd.underlying2
  a2 := Tryd.isAgg2
  z2 := Tryd.sizeOf2
  v2 := Tryd.zeroValue2
  t3 := Tryd.underlying3
  a3 := Tryd.isAgg3
  z3 := Tryd.sizeOf3
  v3 := Tryd.zeroValue3
  t4 := Tryd.underlying4
  a4 := Tryd.isAgg4
  z4 := Tryd.sizeOf4
  v4 := Tryd.zeroValue4
  t5 := Tryd.underlying5
  a5 := Tryd.isAgg5
  z5 := Tryd.sizeOf5
  v5 := Tryd.zeroValue5
  t9 := Tryd.underlying9
  a9 := Tryd.isAgg9
  z9 := Tryd.sizeOf9
  v9 := Tryd.zeroValue9
  t20 := Tryd.underlying20
  a20 := Tryd.isAgg20
  z20 := Tryd.sizeOf20
  v20 := Tryd.zeroValue20
  t37 := Tryd.underlying192
  a37 := Tryd.isAgg192
  z37 := Tryd.sizeOf192
  v37 := Tryd.zeroValue192
  t46 := Tryd.underlying205
  a46 := Tryd.isAgg205
  z46 := Tryd.sizeOf205
  v46 := Tryd.zeroValue205
  t51 := Tryd.underlying203
  a51 := Tryd.isAgg203
  z51 := Tryd.sizeOf203
  v51 := Tryd.zeroValue203
  t53 := Tryd.underlying189
  a53 := Tryd.isAgg189
  z53 := Tryd.sizeOf189
  v53 := Tryd.zeroValue189
  t171 := Tryd.underlying188
  a171 := Tryd.isAgg188
  z171 := Tryd.sizeOf188
  v171 := Tryd.zeroValue188
  t173 := Tryd.underlying193
  a173 := Tryd.isAgg193
  z173 := Tryd.sizeOf193
  v173 := Tryd.zeroValue193
  t212 := Tryd.underlying202
  a212 := Tryd.isAgg202
  z212 := Tryd.sizeOf202
  v212 := Tryd.zeroValue202
  t213 := Tryd.underlying204
  a213 := Tryd.isAgg204
  z213 := Tryd.sizeOf204
  t232 := Tryd.underlying219
  a232 := Tryd.isAgg219
  z232 := Tryd.sizeOf219
  v232 := Tryd.zeroValue219
  t233 := Tryd.underlying220
  a233 := Tryd.isAgg220
  z233 := Tryd.sizeOf220
  v233 := Tryd.zeroValue220
  g17 := by kernel_rfl
  g18 := by kernel_rfl
  g19 := by kernel_rfl
  i0 := by kernel_rfl
  i2 := by kernel_rfl
  i3 := by kernel_rfl
  i4 := by kernel_rfl
  i5 := by kernel_rfl
  i9 := by kernel_rfl
  i20 := by kernel_rfl
  i37 := by kernel_rfl
  i46 := by kernel_rfl
  i51 := by kernel_rfl
  i53 := by kernel_rfl
  i171 := by kernel_rfl
  i173 := by kernel_rfl
  i212 := by kernel_rfl
  i232 := by kernel_rfl
  i233 := by kernel_rfl
  m17 := by kernel_rfl
  m18 := by kernel_rfl
  m19 := by kernel_rfl }
open Go.RowKit Go.Sort Go.Lib in
theorem Tryd.strconv_Itoa (n : Int) (h0 : -9223372036854775808 ≤ n) (h1 : n ≤ 9223372036854775807) (w : World) (htab : Lib.TabIs Tryd.prog w "internal/strconv.uint64pow10" .u64 Lib.pow10Tab) :
    Calls Tryd.prog 76 #[.int .i64 n] w fun e w' => e = .returned (.string ⟨(Lib.itoa n).toArray⟩) ∧ ∃ k os, w' = grow (w.drewN k) os := Any.strconv_Itoa Tryd.laysM171 n h0 h1 w htab
def Tryd.laysC172_ren : Go.Shelf.Ren := ⟨fun | 172 => 106 | 244 => 114 | 245 => 115 | 247 => 121 | 279 => 122 | 280 => 123 | 281 => 124 | 282 => 125 | 287 => 131 | 316 => 132 | 171 => 76 | 205 => 133 | 321 => 136 | 322 => 137 | 243 => 103 | 246 => 111 | 283 => 117 | 284 => 118 | 285 => 119 | 286 => 120 | 129 => 127 | 317 => 126 | 318 => 128 | 319 => 129 | 320 => 130 | 337 => 134 | 338 => 135 | n => n, fun | 9 => 9 | 3 => 3 | 75 => 180 | 76 => 181 | 4 => 4 | 5 => 5 | 167 => 195 | 37 => 192 | 0 => 0 | 85 => 196 | 2 => 2 | 168 => 198 | 53 => 189 | 175 => 207 | 46 => 205 | 210 => 211 | 127 => 215 | 145 => 218 | 143 => 216 | 21 => 21 | 171 => 188 | 173 => 193 | 212 => 202 | 51 => 203 | 20 => 20 | 213 => 204 | 232 => 219 | 233 => 220 | 80 => 66 | n => n, fun | 15 => 1 | 16 => 2 | 17 => 0 | 18 => 3 | 19 => 4 | n => n⟩
theorem Tryd.laysC172 : Go.Proofs.LaysC.n172 Tryd.prog Tryd.laysC172_ren := {
  mixed := by kernel_rfl
  f129 := Tryd.func127.trans (congrArg some (by kernel_rfl))
  f171 := Tryd.func76.trans (congrArg some (by kernel_rfl))
  f172 := Tryd.func106.trans (congrArg some (by kernel_rfl))
  f205 := Tryd.func133.trans (congrArg some (by kernel_rfl))
  f243 := Tryd.func103.trans (congrArg some (by kernel_rfl))
  f244 := Tryd.func114.trans (congrArg some (by kernel_rfl))
  f245 := Tryd.func115.trans (congrArg some (by kernel_rfl))
  f246 := Tryd.func111.trans (congrArg some (by kernel_rfl))
  f247 := Tryd.func121.trans (congrArg some (by kernel_rfl))
  f279 := Tryd.func122.trans (congrArg some (by kernel_rfl))
  f280 := Tryd.func123.trans (congrArg some (by kernel_rfl))
  f281 := Tryd.func124.trans (congrArg some (by kernel_rfl))
  f282 := Tryd.func125.trans (congrArg some (by kernel_rfl))
  f283 := Tryd.func117.trans (congrArg some (by kernel_rfl))
  f284 := Tryd.func118.trans (congrArg some (by kernel_rfl))
  f285 := Tryd.func119.trans (congrArg some (by kernel_rfl))
  f286 := Tryd.func120.trans (congrArg some (by kernel_rfl))
  f287 := Tryd.func131.trans (congrArg some (by kernel_rfl))
  f316 := Tryd.func132.trans (congrArg some (by kernel_rfl))
  f317 := Tryd.func126.trans (congrArg some (by kernel_rfl))
  f318 := Tryd.func128.trans (congrArg some (by kernel_rfl))
  f319 := Tryd.func129.trans (congrArg some (by kernel_rfl))
  f320 := Tryd.func130.trans (congrArg some (by kernel_rfl))
  f321 := Tryd.func136.trans (congrArg some (by kernel_rfl))
  f322 := Tryd.func137.trans (congrArg some (by kernel_rfl))
  f337 := Tryd.func134.trans (congrArg some (by kernel_rfl))
  f338 := Tryd.func135.trans (congrArg some (by kernel_rfl))
  t0 := Tryd.underlying0
  a0 := Tryd.isAgg0
  z0 := Tryd.sizeOf0
  v0 := Tryd.zeroValue0
  t2 := Tryd.underlying2
  a2 := Tryd.isAgg2
  z2 := Tryd.sizeOf2
  v2 := Tryd.zeroValue2
  t3 := Tryd.underlying3
  a3 := Tryd.isAgg3
  z3 := Tryd.sizeOf3
  v3 := Tryd.zeroValue3
  t4 := Tryd.underlying4
  a4 := Tryd.isAgg4
  z4 := Tryd.sizeOf4
  v4 := Tryd.zeroValue4
  t5 := Tryd.underlying5
  a5 := Tryd.isAgg5
  z5 := Tryd.sizeOf5
  v5 := Tryd.zeroValue5
  t9 := Tryd.underlying9
  a9 := Tryd.isAgg9
  z9 := Tryd.sizeOf9
  v9 := Tryd.zeroValue9
  t20 := Tryd.underlying20
  a20 := Tryd.isAgg20
  z20 := Tryd.sizeOf20
  v20 := Tryd.zeroValue20
  t21 := Tryd.underlying21
  a21 := Tryd.isAgg21
  z21 := Tryd.sizeOf21
  v21 := Tryd.zeroValue21
  t37 := Tryd.underlying192
  a37 := Tryd.isAgg192
  z37 := Tryd.sizeOf192
  v37 := Tryd.zeroValue192
  t46 := Tryd.underlying205
  a46 := Tryd.isAgg205
  z46 := Tryd.sizeOf205
  v46 := Tryd.zeroValue205
  t51 := Tryd.underlying203
  a51 := Tryd.isAgg203
  z51 := Tryd.sizeOf203
  v51 := Tryd.zeroValue203
  t53 := Tryd.underlying189
  a53 := Tryd.isAgg189
  z53 := Tryd.sizeOf189
  v53 := Tryd.zeroValue189
  t75 := Tryd.underlying180
  a75 := Tryd.isAgg180
  z75 := Tryd.sizeOf180
  v75 := Tryd.zeroValue180
  t76 := Tryd.underlying181
  a76 := Tryd.isAgg181
  z76 := Tryd.sizeOf181
  v76 := Tryd.zeroValue181
  t85 := Tryd.underlying196
  a85 := Tryd.isAgg196
  z85 := Tryd.sizeOf196
  v85 := Tryd.zeroValue196
  t127 := Tryd.underlying215
  a127 := Tryd.isAgg215
  z127 := Tryd.sizeOf215
  v127 := Tryd.zeroValue215
  t143 := Tryd.underlying216
  a143 := Tryd.isAgg216
  z143 := Tryd.sizeOf216
  v143 := Tryd.zeroValue216
  t145 := Tryd.underlying218
  a145 := Tryd.isAgg218
  z145 := Tryd.sizeOf218
  v145 := Tryd.zeroValue218
  t167 := Tryd.underlying195
  a167 := Tryd.isAgg195
  z167 := Tryd.sizeOf195
  v167 := Tryd.zeroValue195
  t168 := Tryd.underlying198
  a168 := Tryd.isAgg198
  z168 := Tryd.sizeOf198
  v168 := Tryd.zeroValue198
  t171 := Tryd.underlying188
  a171 := Tryd.isAgg188
  z171 := Tryd.sizeOf188
  v171 := Tryd.zeroValue188
  t173 := Tryd.underlying193
  a173 := Tryd.isAgg193
  z173 := Tryd.sizeOf193
  v173 := Tryd.zeroValue193
  t175 := Tryd.underlying207
  a175 := Tryd.isAgg207
  z175 := Tryd.sizeOf207
  v175 := Tryd.zeroValue207
  t210 := Tryd.underlying211
  a210 := Tryd.isAgg211
  z210 := Tryd.sizeOf211
  v210 := Tryd.zeroValue211
  t212 := Tryd.underlying202
  a212 := Tryd.isAgg202
  z212 := Tryd.sizeOf202
  v212 := Tryd.zeroValue202
  t213 := Tryd.underlying204
  a213 := Tryd.isAgg204
  z213 := Tryd.sizeOf204
  t232 := Tryd.underlying219
  a232 := Tryd.isAgg219
  z232 := Tryd.sizeOf219
  v232 := Tryd.zeroValue219
  t233 := Tryd.underlying220
  a233 := Tryd.isAgg220
  z233 := Tryd.sizeOf220
  v233 := Tryd.zeroValue220
  g15 := by kernel_rfl
  g16 := by kernel_rfl
  g17 := by kernel_rfl
  g18 := by kernel_rfl
  g19 := by kernel_rfl
  t80 := Tryd.underlying66
  a80 := Tryd.isAgg66
  z80 := Tryd.sizeOf66
  v80 := Tryd.zeroValue66
  i0 := by kernel_rfl
  i2 := by kernel_rfl
  i3 := by kernel_rfl
  i4 := by kernel_rfl
  i5 := by kernel_rfl
  i9 := by kernel_rfl
  i20 := by kernel_rfl
  i21 := by kernel_rfl
  i37 := by kernel_rfl
  i46 := by kernel_rfl
  i51 := by kernel_rfl
  i53 := by kernel_rfl
  i75 := by kernel_rfl
  i76 := by kernel_rfl
  i80 := by kernel_rfl
  i85 := by kernel_rfl
  i127 := by kernel_rfl
  i143 := by kernel_rfl
  i145 := by kernel_rfl
  i167 := by kernel_rfl
  i168 := by kernel_rfl
  i171 := by kernel_rfl
  i173 := by kernel_rfl
  i175 := by kernel_rfl
  i210 := by kernel_rfl
  i212 := by kernel_rfl
  i232 := by kernel_rfl
  i233 := by kernel_rfl
  m15 := by kernel_rfl
  m16 := by kernel_rfl
  m17 := by kernel_rfl
  m18 := by kernel_rfl
  m19 := by kernel_rfl
  c0 := by kernel_rfl
  c2 := by kernel_rfl
  c3 := by kernel_rfl
  c4 := by kernel_rfl
  c5 := by kernel_rfl
  c9 := by kernel_rfl
  c20 := by kernel_rfl
  c21 := by kernel_rfl
  c37 := by kernel_rfl
  c46 := by kernel_rfl
  c51 := by kernel_rfl
  c53 := by kernel_rfl
  c75 := by kernel_rfl
  c76 := by kernel_rfl
  c80 := by kernel_rfl
  c85 := by kernel_rfl
  c127 := by kernel_rfl
  c143 := by kernel_rfl
  c145 := by kernel_rfl
  c167 := by kernel_rfl
  c168 := by kernel_rfl
  c171 := by kernel_rfl
  c173 := by kernel_rfl
  c175 := by kernel_rfl
  c210 := by kernel_rfl
  c212 := by kernel_rfl
  c213 := by kernel_rfl
  c232 := by kernel_rfl
  c233 := by kernel_rfl }
open Go.RowKit in
theorem Tryd.strconv_Atoi_ok (s : ByteArray) (hmax : s.size ≤ 9223372036854775806) (v : Int) (h : Lib.atoiAll s.data.toList = .ok v) (w : World) :
    Calls Tryd.prog 106 #[.string s] w fun e w' => e = .returned (.tuple #[.int .i64 v, .nilIface]) ∧ (w' = w ∨ ∃ t, w' = Lib.bytesWorld w 5 t) := Any.strconv_Atoi_ok Tryd.laysC172 s hmax v h w
open Go.RowKit in
theorem Tryd.strconv_Atoi_syntax_var (s : ByteArray) (hlim : s.size ≤ 281474976710656) (h : Lib.atoiAll s.data.toList = Lib.atoiAll []) (tp : TypeId) (p : Value) (w : World) (hvar : w.var? Tryd.prog "strconv.ErrSyntax" = some #[.iface tp p]) :
    Calls Tryd.prog 106 #[.string s] w fun e w' => ∃ N, e = .returned (.tuple #[.int .i64 0, .iface 198 (.pointer (some ⟨N, 0, none⟩))]) ∧ w.heap.size ≤ N ∧ w'.heap[N]? = some (.cells #[.string ⟨#[65, 116, 111, 105]⟩, .string s, .iface tp p] 211 (0, 0)) ∧ Below w.heap.size w w' := Any.strconv_Atoi_syntax_var Tryd.laysC172 s hlim h tp p w hvar
open Go.RowKit in
theorem Tryd.strconv_Atoi_range_var (s : ByteArray) (hlim : s.size ≤ 281474976710656) (h : Lib.atoiAll s.data.toList = .range) (tp : TypeId) (p : Value) (w : World) (hvar : w.var? Tryd.prog "strconv.ErrRange" = some #[.iface tp p]) :
    Calls Tryd.prog 106 #[.string s] w fun e w' => ∃ N, e = .returned (.tuple #[.int .i64 (Lib.atoiSat s.data.toList), .iface 198 (.pointer (some ⟨N, 0, none⟩))]) ∧ w.heap.size ≤ N ∧ w'.heap[N]? = some (.cells #[.string ⟨#[65, 116, 111, 105]⟩, .string s, .iface tp p] 211 (0, 0)) ∧ Below w.heap.size w w' := Any.strconv_Atoi_range_var Tryd.laysC172 s hlim h tp p w hvar
end Go.Proofs
namespace Go.Proofs.YtobioljjoipimaaDoor
open Go Go.RowKit
theorem Sim.below {A : Nat → Prop} {ρ : Nat → Loc} {H : Heap} {w w' : World} (s : Sim A ρ H w) (b : Below w.heap.size w w') : Sim A ρ H w' ∧ Fr A ρ H w A ρ H w' := by
  have hK : ∀ b' o, Kof ρ H w b' = some o → Kof ρ H w' b' = some o := fun b' o hb => by
    obtain ⟨h1, h2⟩ := zp.1 hb
    exact zp.2 ⟨h1, by rw [b.block b' (Array.getElem?_eq_some_iff.1 h2).1]; exact h2⟩
  refine ⟨⟨s.live, fun g o ho => ?_, s.inj, s.lay.mono hK⟩, ⟨fun _ h => ⟨rfl, h⟩, hK, b.os, b.tape, b.output, b.size⟩⟩
  exact (s.obj g o ho).mono (b.block _ (s.obj g o ho).block_lt) hK (fun _ h => ⟨rfl, h⟩)
theorem QC.of_calls {P : Program} {f : FuncId} {fn : Func} {c : Code} {args : List AV} {r : AV} (hf : P.funcs[f]? = some fn) (hb : fn.body = some c) (hname : (fn.name == "runtime.NumGoroutine") = false)
    (h : ∀ (K : zj) (ρ : Nat → Loc) (A : Nat → Prop) (w : World) (cargs : Array Value), LayK (fun b => w.heap[b]?) → LRel K ρ A args cargs.toList → Calls P f cargs w fun e w' => (∃ v, e = .returned v ∧ ∀ (K : zj) (ρ : Nat → Loc) (A : Nat → Prop), VRel K ρ A r v) ∧ Below w.heap.size w w') : QC P f args r := by
  intro H nx ρ w cargs s ha
  have hcall : (callFunc f cargs).run P w = .ok (.enter f cargs) w := by
    have hname' : ¬ fn.name = "runtime.NumGoroutine" := by simpa using hname
    simp [callFunc, program, Sem.run_bind, Sem.run, hf, hname', hb, pure]
  rw [hcall]
  simp only [zq]
  refine (h _ _ _ w cargs (s.lay.mono fun b o hb => (zp.1 hb).2) ha).mono fun e w' ⟨⟨v, he, hv⟩, hw⟩ => ?_
  obtain ⟨s', f'⟩ := s.below hw
  exact ⟨v, he, r, H, nx, ρ, ⟨rfl, rfl, rfl⟩, s', hv _ _ _, f'⟩
theorem zadv : (Tryd.prog.globalNamed "internal/strconv.uint64pow10").isSome = true := by kernel_rfl
theorem LayK.tab {w : World} (h : LayK (fun b => w.heap[b]?)) : Lib.TabIs Tryd.prog w "internal/strconv.uint64pow10" .u64 Lib.pow10Tab := by
  obtain ⟨g, hg⟩ := Option.isSome_iff_exists.1 zadv
  obtain ⟨e, m, hc⟩ := h.1 g hg
  unfold Lib.TabIs World.var?
  have hc' : w.heap[g]? = _ := hc
  rw [hg, Option.bind_some, hc']
set_option maxRecDepth 8000 in
theorem zto (n : Int) (h0 : -9223372036854775808 ≤ n) (h1 : n ≤ 9223372036854775807) : QC Tryd.prog 76 [.int .i64 n] (.str (Lib.itoa n)) := by
  refine QC.of_calls (c := zy Tryd.f76) Tryd.func76 (by kernel_rfl) (by kernel_rfl) fun K ρ A w cargs hl ha => ?_
  have hc : cargs = #[.int .i64 n] := by
    obtain ⟨hlen, hg⟩ := ha
    have hlen' : cargs.toList.length = 1 := hlen
    match he : cargs.toList, hlen' with
    | [v], _ =>
      have := hg 0 (.int .i64 n) v rfl (by rw [he]; rfl)
      cases this
      exact Array.ext' (by rw [he])
  subst hc
  refine (Tryd.strconv_Itoa n h0 h1 w hl.tab).mono fun e w' ⟨he, k, os, hw⟩ => ?_
  subst he hw
  refine ⟨⟨_, rfl, fun K ρ A => .str _⟩, ⟨rfl, rfl, rfl, ?_, fun b hb => ?_⟩⟩
  · simp [Sort.grow, World.drewN]
  · simp only [Sort.grow, World.drewN]
    rw [Array.getElem?_append_left (by simpa using hb)]
end Go.Proofs.YtobioljjoipimaaDoor
set_option maxRecDepth 8000
namespace Go.Proofs.YtobioljjoipimaaDoor
open Go Go.RowKit
theorem zud (v : Val) {A : Nat → Prop} : Bel A (.agg v.avs) := .agg _ fun j x hx => zey (zda _ x (List.mem_of_getElem? hx))
def zgm (h : List Cl) : Prop := ∀ c ∈ h, VM.WrongOk c.left h.length ∧ VM.WrongOk c.right h.length
theorem zfa {h : List Cl} (hc : zgm h) : ∀ (d : Nat) {v : Val}, VM.WrongOk v h.length → (VM.vshow h d v).length + 3 ≤ 63 * 2 ^ d
  | d, v, hv => by
    have hp : 1 ≤ 2 ^ d := Nat.one_le_two_pow
    rcases hv.kind with k | k | k
    · rw [VM.vshow_int k]
      have := hv.int k
      have := Lib.itoa_length_le v.n (by omega) (by omega)
      omega
    · rw [VM.vshow_text k]
      have := hv.len; omega
    · cases d with
      | zero => rw [VM.vshow_dots k]; simp
      | succ d =>
        obtain ⟨h0, h1⟩ := hv.cell k
        have hlt : v.n.toNat < h.length := by omega
        obtain ⟨w1, w2⟩ := hc _ (List.getElem_mem hlt)
        have i1 := zfa hc d w1
        have i2 := zfa hc d w2
        rw [VM.vshow_cell k h0 (List.getElem?_eq_getElem hlt)]
        simp only [List.length_append, List.length_cons, List.length_nil]
        rw [Nat.pow_succ]; omega
set_option maxHeartbeats 2000000 in
theorem ztm {h : List Cl} (hc : zgm h) : ∀ (d : Nat) (v : Val) (deep : Int), VM.WrongOk v h.length → deep.toNat = d → d ≤ 5 → -9223372036854775808 ≤ deep → QC Tryd.prog 94 [.ro (h.map Cl.avs), .agg v.avs, .int .i64 deep] (.str (VM.vshow h d v))
  | d, v, deep, hv, hd, hd5, hlow => by
    refine QC.of' fun H nx => zsq _ _ _ H nx _ ?_
    rcases hv.kind with k | k | k
    · have := hv.int k
      rw [VM.vshow_int k]
      simp [zds, Val.avs, k]
      refine QC.call (zto v.n (by omega) (by omega)) ?_
      simp [zpa]
    · rw [VM.vshow_text k]
      simp [zds, Val.avs, k]
    · obtain ⟨h0, h1⟩ := hv.cell k
      have hlt : v.n.toNat < h.length := by omega
      have hn0 : ¬ v.n < 0 := by omega
      have hn1 : ¬ (h.length : Int) ≤ v.n := by omega
      cases d with
      | zero =>
        rw [VM.vshow_dots k]
        have : deep ≤ 0 := by omega
        simp [zds, Val.avs, k, this]
      | succ d =>
        have hpos : ¬ deep ≤ 0 := by omega
        obtain ⟨w1, w2⟩ := hc _ (List.getElem_mem hlt)
        rw [VM.vshow_cell k h0 (List.getElem?_eq_getElem hlt)]
        have hget : h[v.n.toNat]? = some h[v.n.toNat] := List.getElem?_eq_getElem hlt
        generalize h[v.n.toNat] = c at *
        have l1 := zfa hc d w1
        have l2 := zfa hc d w2
        have hp : 2 ^ d ≤ 2 ^ 5 := Nat.pow_le_pow_right (by omega) (by omega)
        have hw : IntKind.i64.wrap (deep - 1) = deep - 1 := i64w (by omega)
        have ih1 := ztm hc d c.left (deep - 1) w1 (by omega) (by omega) (by omega)
        have ih2 := ztm hc d c.right (deep - 1) w2 (by omega) (by omega) (by omega)
        have t1 : c.avs.take 3 = c.left.avs := rfl
        have t2 : (c.avs.drop 3).take 3 = c.right.avs := rfl
        simp [zds, Val.avs, k, hpos, hn0, hn1, hget, hw]
        refine ⟨h0, h1, ?_⟩
        rw [t1]
        refine zx.of_qc ih1 (.str _) ?_
        simp [zoy, hget, hw]
        refine ⟨by omega, by omega, h0, h1, ?_⟩
        rw [t2]
        refine zx.of_qc ih2 (.str _) ?_
        simp [zoz]
        omega
set_option maxHeartbeats 2000000 in
theorem zma {h : List Cl} (hc : zgm h) : ∀ (d : Nat) (v : Val) (deep : Int), VM.WrongOk v h.length → deep.toNat = d → d ≤ 5 → -9223372036854775808 ≤ deep → QC Tryd.prog 49 [.ro (h.map Cl.avs), .agg v.avs, .int .i64 deep] (.str (VM.vshow h d v))
  | d, v, deep, hv, hd, hd5, hlow => by
    refine QC.of' fun H nx => zpu _ _ _ H nx _ ?_
    rcases hv.kind with k | k | k
    · have := hv.int k
      rw [VM.vshow_int k]
      simp [zco, Val.avs, k]
      refine QC.call (zto v.n (by omega) (by omega)) ?_
      simp [zla]
    · rw [VM.vshow_text k]
      simp [zco, Val.avs, k]
    · obtain ⟨h0, h1⟩ := hv.cell k
      have hlt : v.n.toNat < h.length := by omega
      have hn0 : ¬ v.n < 0 := by omega
      have hn1 : ¬ (h.length : Int) ≤ v.n := by omega
      cases d with
      | zero =>
        rw [VM.vshow_dots k]
        have : deep < 1 := by omega
        simp [zco, Val.avs, k, this]
      | succ d =>
        have hpos : ¬ deep < 1 := by omega
        obtain ⟨w1, w2⟩ := hc _ (List.getElem_mem hlt)
        rw [VM.vshow_cell k h0 (List.getElem?_eq_getElem hlt)]
        have hget : h[v.n.toNat]? = some h[v.n.toNat] := List.getElem?_eq_getElem hlt
        generalize h[v.n.toNat] = c at *
        have l1 := zfa hc d w1
        have l2 := zfa hc d w2
        have hp : 2 ^ d ≤ 2 ^ 5 := Nat.pow_le_pow_right (by omega) (by omega)
        have hw : IntKind.i64.wrap (deep - 1) = deep - 1 := i64w (by omega)
        have ih1 := zma hc d c.left (deep - 1) w1 (by omega) (by omega) (by omega)
        have ih2 := zma hc d c.right (deep - 1) w2 (by omega) (by omega) (by omega)
        have t1 : c.avs.take 3 = c.left.avs := rfl
        have t2 : (c.avs.drop 3).take 3 = c.right.avs := rfl
        simp [zco, Val.avs, k, hpos, hn0, hn1, hget, hw]
        have t3 : c.avs.take 6 = c.left.avs ++ c.right.avs := rfl
        have t4 : (c.left.avs ++ c.right.avs).take 3 = c.left.avs := rfl
        have t5 : ((c.left.avs ++ c.right.avs).drop 3).take 3 = c.right.avs := rfl
        rw [t3]
        refine ⟨h0, h1, fun x hx => zaj (ztn c x hx), ?_⟩
        rw [t4]
        refine zx.of_qc ih1 (.str _) ?_
        simp [zky, hget, hw]
        refine ⟨by omega, by omega, ?_⟩
        rw [t5]
        refine zx.of_qc ih2 (.str _) ?_
        simp [zkz]
        omega
end Go.Proofs.YtobioljjoipimaaDoor
set_option maxRecDepth 8000
namespace Go.Proofs.YtobioljjoipimaaDoor
open Go Go.RowKit
def Grow (H : Heap) (lo n sz k : Nat) (cells : List AV) (a : AV) : Prop := (k = 0 ∧ a = .nils) ∨ (0 < k ∧ ∃ g, lo ≤ g ∧ g < n ∧ a = .slc g 0 k ∧ H g = some (.row sz cells))
theorem Grow.zero {H : Heap} {lo n sz : Nat} {cells : List AV} : Grow H lo n sz 0 cells .nils := .inl ⟨rfl, rfl⟩
theorem Grow.more {H H' : Heap} {lo n n' sz k : Nat} {cells : List AV} {a : AV} (h : Grow H lo n sz k cells a) (hn : n ≤ n') (hk : ∀ g, lo ≤ g → g < n → H' g = H g) : Grow H' lo n' sz k cells a := by
  rcases h with h | ⟨h0, g, h1, h2, h3, h4⟩
  · exact .inl h
  · exact .inr ⟨h0, g, h1, by omega, h3, by rw [hk g h1 h2]; exact h4⟩
theorem Grow.len {H : Heap} {lo n sz k : Nat} {cells : List AV} {a : AV} (h : Grow H lo n sz k cells a) {q : AV → Prop} : LNL a q = q (.int .i64 k) := by
  rcases h with ⟨rfl, rfl⟩ | ⟨h0, g, h1, h2, rfl, h4⟩ <;> simp
theorem Grow.app {H : Heap} {lo n sz k bytes t nx : Nat} {cells new : List AV} {a : AV} {kk : AV → Heap → Nat → Prop} (hg : Grow H lo n sz k cells a) (hlen : cells.length = k * sz) (ht : H t = some (.row sz new)) (hnl : new.length = sz) (hone : new.all AV.one = true)
    (hb : (k + 1) * bytes ≤ 140737488355328) (hn : n ≤ nx) (hlo : lo ≤ nx) (hk : ∀ H', Keep lo H' H → Grow H' lo (nx + 1) sz (k + 1) (cells ++ new) (.slc nx 0 (k + 1)) → kk (.slc nx 0 (k + 1)) H' (nx + 1)) : APP sz bytes a (.slc t 0 1) H nx kk := by
  have hs : zg sz H (.slc t 0 1) = some (1, new, [t]) := by
    simp only [zg, ht]
    rw [if_pos (by omega)]
    simp [← hnl]
  rcases hg with ⟨rfl, rfl⟩ | ⟨h0, g, h1, h2, rfl, h4⟩
  · rw [zafm, hs, optk]
    have hc : cells = [] := List.eq_nil_of_length_eq_zero (by omega)
    subst hc
    refine ⟨hone, fun h => absurd h Nat.one_ne_zero, fun _ => ?_⟩
    exact ⟨by simpa using hb, hk _ (fun x hx => Heap.put_ne _ _ (by omega)) (.inr ⟨by omega, nx, hlo, by omega, rfl, by rw [Heap.put_at]; rfl⟩)⟩
  · rw [zahn, hs, optk, h4, rowk]
    refine ⟨rfl, hone, by omega, hb, hk _ (fun x hx => ?_) (.inr ⟨by omega, nx, hlo, by omega, rfl, ?_⟩)⟩
    · rw [Heap.put_ne _ _ (by omega), Heap.put_ne _ _ (by omega)]
    · rw [Heap.put_at, List.drop_zero, List.take_of_length_le (by omega)]
theorem Grow.append {H : Heap} {lo n sz k bytes t nx : Nat} {cells new : List AV} {a : AV} {kt : Kt} (hg : Grow H lo n sz k cells a) (hlen : cells.length = k * sz) (ht : H t = some (.row sz new)) (hnl : new.length = sz) (hone : new.all AV.one = true)
    (hb : (k + 1) * bytes ≤ 140737488355328) (hn : n ≤ nx) (hlo : lo ≤ nx) (hk : ∀ rd D, (∀ g ∈ domD D, lo ≤ g) → Keep lo (H.apply D) H → Grow (H.apply D) lo (nx + 1) sz (k + 1) (cells ++ new) (.slc nx 0 (k + 1)) → kt (.slc nx 0 (k + 1)) rd [nx] D) : zai sz bytes a (.slc t 0 1) H nx kt := by
  have hs : zg sz H (.slc t 0 1) = some (1, new, [t]) := by
    simp only [zg, ht]
    rw [if_pos (by omega)]
    simp [← hnl]
  rcases hg with ⟨rfl, rfl⟩ | ⟨h0, g, h1, h2, rfl, h4⟩
  · rw [zqd, hs, optk]
    have hc : cells = [] := List.eq_nil_of_length_eq_zero (by omega)
    subst hc
    refine ⟨hone, fun h => absurd h Nat.one_ne_zero, fun _ => ?_⟩
    exact ⟨by simpa using hb, hk _ _ (by simpa using hlo) (fun x hx => Heap.put_ne _ _ (by omega)) (.inr ⟨by omega, nx, hlo, by omega, rfl, by simp only [zcd, zct, Heap.put_at]; rfl⟩)⟩
  · rw [zss, hs, optk, h4, rowk]
    refine ⟨rfl, hone, by omega, hb, hk _ _ (by simp; omega) (fun x hx => ?_) (.inr ⟨by omega, nx, hlo, by omega, rfl, ?_⟩)⟩
    · simp only [zcd, zct]; rw [Heap.put_ne _ _ (by omega), Heap.put_ne _ _ (by omega)]
    · simp only [zcd, zct]; rw [Heap.put_at, List.drop_zero, List.take_of_length_le (by omega)]
theorem Grow.frz {H : Heap} {lo n sz k nx : Nat} {cells : List AV} {a : AV} {xs : List (List AV)} (h : Grow H lo n sz k cells a) (hnx : nx ≤ lo) (hl : xs.length = k) (hs : ∀ x ∈ xs, x.length = sz) (hc : xs.flatten = cells) (hb : ∀ c ∈ cells, Bel (· < nx) c) : Frz H nx a (.ro xs) := by
  rcases h with ⟨rfl, rfl⟩ | ⟨h0, g, h1, h2, rfl, h4⟩
  · rw [List.eq_nil_of_length_eq_zero hl]; exact .nils
  · exact Frz.row (by omega) h4 hl hs hc hb
end Go.Proofs.YtobioljjoipimaaDoor
set_option maxRecDepth 8000
namespace Go.Proofs.YtobioljjoipimaaDoor
open Go Go.RowKit
inductive FrzP (H : Heap) (G : Nat → Prop) : AV → AV → Prop
  | same (v : AV) : FrzP H G v v
  | nils : FrzP H G .nils (.ro [])
  | zs : FrzP H G .zs (.ro [])
  | slc (g off len sz : Nat) (cells : List AV) (xs : List (List AV)) : G g → H g = some (.row sz cells) → off + len * sz ≤ cells.length → xs.length = len → (∀ x ∈ xs, x.length = sz) →
      (U : Nat → Nat → AV) → (∀ (i : Nat) (x : List AV) (j : Nat) (v : AV), xs[i]? = some x → x[j]? = some v → cells[off + i * sz + j]? = some (U i j)) →
      (∀ (i : Nat) (x : List AV) (j : Nat) (v : AV), xs[i]? = some x → x[j]? = some v → FrzP H G (U i j) v) → FrzP H G (.slc g off len) (.ro xs)
  | agg (xs ys : List AV) : ys.length = xs.length → (∀ (j : Nat) (v u : AV), xs[j]? = some v → ys[j]? = some u → FrzP H G v u) → FrzP H G (.agg xs) (.agg ys)
theorem FrzP.rel {A : Nat → Prop} {ρ : Nat → Loc} {H H0 : Heap} {w : World} {G : Nat → Prop} (s : Sim A ρ H w) (h0 : ∀ g o, H0 g = some o → ¬ G g ∧ H g = some o) {v u : AV} (h : FrzP H G v u) :
    ∀ (c : Value), VRel (Kof ρ H w) ρ A v c → VRel (Kof ρ H0 w) ρ A u c := by
  have hK : ∀ b o, Kof ρ H w b = some o → Kof ρ H0 w b = some o := fun b o hb => by
    obtain ⟨h1, h2⟩ := zp.1 hb
    refine zp.2 ⟨fun g hg => ?_, h2⟩
    obtain ⟨o', ho'⟩ := Option.isSome_iff_exists.1 hg
    exact h1 g (by rw [(h0 g o' ho').2]; rfl)
  induction h with
  | same v => exact fun c hc => hc.mono hK (fun _ h => ⟨rfl, h⟩)
  | nils =>
    intro c hc
    cases hc
    exact .ro [] none 0 0 0 0 0 (fun _ _ => undef) rfl (Nat.le_refl _) (fun h => absurd rfl h) (fun x hx => by cases hx) (fun i x j v hx => by simp at hx) (fun i x j v hx => by simp at hx)
  | zs =>
    intro c hc
    cases hc with
    | zs a => exact .ro [] a 0 0 0 0 0 (fun _ _ => undef) rfl (Nat.le_refl _) (fun h => absurd rfl h) (fun x hx => by cases hx) (fun i x j v hx => by simp at hx) (fun i x j v hx => by simp at hx)
  | slc g off len sz cells xs hg hH hle hl hsz U hU _ ih =>
    intro c hc
    cases hc with
    | slc _ _ _ cap a hA hcl hcap =>
      obtain ⟨cc, el, lo, hi, q1, q2, q3, q4, q5, q6⟩ := s.obj g _ hH
      have hKb : Kof ρ H0 w (ρ g).block = some (.cells cc el (lo, hi)) := by
        refine zp.2 ⟨fun x hx e => ?_, q1⟩
        obtain ⟨o', ho'⟩ := Option.isSome_iff_exists.1 hx
        obtain ⟨h1, h2⟩ := h0 x o' ho'
        have := s.inj x g (by rw [h2]; rfl) (by rw [hH]; rfl) e
        subst this
        exact h1 hg
      have hex : ∀ (i : Nat) (x : List AV) (j : Nat) (v : AV), xs[i]? = some x → x[j]? = some v → ∃ cv, cc[(ρ g).base + (off + i * sz + j)]? = some cv ∧ VRel (Kof ρ H w) ρ A (U i j) cv := fun i x j v hx hv => q6 _ _ (hU i x j v hx hv)
      refine .ro xs a len cap sz (ρ g).block ((ρ g).base + off) (fun i j => (cc[(ρ g).base + (off + i * sz + j)]?).getD undef) hl.symm hcl (fun hne => ?_) hsz (fun i x j v hx hv => ?_) (fun i x j v hx hv => ?_)
      · have hpos : 0 < xs.length := List.length_pos_iff.2 hne
        exact (hcap (by omega)).2
      · obtain ⟨cv, h1, h2⟩ := hex i x j v hx hv
        unfold zes
        rw [hKb]
        simp only [h1, Option.getD_some]
        rw [← h1]; congr 1; omega
      · obtain ⟨cv, h1, h2⟩ := hex i x j v hx hv
        rw [h1]
        exact ih i x j v hx hv cv h2
  | agg xs ys hl _ ih =>
    intro c hc
    cases hc with
    | agg _ cs h1 h2 =>
    exact .agg ys cs (by omega) fun j v c hv hc => by
        have hlt := (List.getElem?_eq_some_iff.1 hv).1
        have hx : xs[j]? = some (xs[j]'(by omega)) := List.getElem?_eq_getElem (by omega)
        exact ih j _ v hx hv c (h2 j _ c hx hc)
theorem FrzP.row {H : Heap} {G : Nat → Prop} {g sz len : Nat} {cells : List AV} {xs : List (List AV)} (hg : G g) (hH : H g = some (.row sz cells)) (hl : xs.length = len) (hs : ∀ x ∈ xs, x.length = sz) (hc : ∀ (i : Nat) (x : List AV) (j : Nat) (v : AV), xs[i]? = some x → x[j]? = some v → ∃ u, cells[i * sz + j]? = some u ∧ FrzP H G u v) (hle : len * sz ≤ cells.length) : FrzP H G (.slc g 0 len) (.ro xs) := by
  refine .slc g 0 len sz cells xs hg hH (by omega) hl hs (fun i j => (cells[i * sz + j]?).getD .junk) (fun i x j v hx hv => ?_) fun i x j v hx hv => ?_
  · obtain ⟨u, h1, h2⟩ := hc i x j v hx hv
    rw [Nat.zero_add, h1]; rfl
  · obtain ⟨u, h1, h2⟩ := hc i x j v hx hv
    rw [h1]; exact h2
end Go.Proofs.YtobioljjoipimaaDoor
set_option maxRecDepth 8000
namespace Go.Proofs.YtobioljjoipimaaDoor
open Go Go.RowKit
@[simp] theorem zamo : AV.zs.cells = [AV.zs] := rfl
@[simp] theorem zams : AV.zs.sure = true := rfl
@[simp] theorem zaoi : AV.zs.one = true := rfl
@[simp ↓] theorem zacs {esz bytes nx : Nat} {x : AV} {H : Heap} {kt : Kt} : zai esz bytes .zs x H nx kt = OPTK (zg esz H x) fun p => p.2.1.all AV.one = true ∧
    (p.1 = 0 → kt .zs p.2.2 [] []) ∧ (p.1 ≠ 0 → p.1 * bytes ≤ 140737488355328 ∧ kt (.slc nx 0 p.1) p.2.2 [nx] [(nx, some (.row esz p.2.1))]) := by
  simp only [zai, OPTK]
  cases hs : zg esz H x with
  | none => simp
  | some p => obtain ⟨m, news, rd⟩ := p; simp
def Slot (H : Heap) (sz k : Nat) (cells : List AV) (a : AV) : Prop := (k = 0 ∧ (a = .nils ∨ a = .zs)) ∨ ∃ g cs, a = .slc g 0 k ∧ H g = some (.row sz cs) ∧ cs.take (k * sz) = cells ∧ k * sz ≤ cs.length
def own : AV → List Nat
  | .slc g _ _ => [g]
  | _ => []
theorem Slot.keep {H H' : Heap} {sz k : Nat} {cells : List AV} {a : AV} (h : Slot H sz k cells a) (hk : ∀ g ∈ own a, H' g = H g) : Slot H' sz k cells a := by
  rcases h with h | ⟨g, cs, rfl, h1, h2, h3⟩
  · exact .inl h
  · exact .inr ⟨g, cs, rfl, by rw [hk g (by simp [own])]; exact h1, h2, h3⟩
theorem Slot.len {H : Heap} {sz k : Nat} {cells : List AV} {a : AV} (h : Slot H sz k cells a) {q : AV → Prop} : LNL a q = q (.int .i64 k) := by
  rcases h with ⟨rfl, rfl | rfl⟩ | ⟨g, cs, rfl, _⟩ <;> simp
theorem Slot.cut {H : Heap} {sz k j : Nat} {cells : List AV} {g off : Nat} (h : Slot H sz k cells (.slc g off k)) (hj : j ≤ k) : Slot H sz j (cells.take (j * sz)) (.slc g off j) := by
  rcases h with ⟨_, h | h⟩ | ⟨g', cs, h0, h1, h2, h3⟩
  · cases h
  · cases h
  · cases h0
    have : j * sz ≤ k * sz := Nat.mul_le_mul_right _ hj
    exact .inr ⟨g, cs, rfl, h1, by rw [← h2, List.take_take, Nat.min_eq_left this], by omega⟩
theorem Slot.src {H : Heap} {sz k : Nat} {cells : List AV} {a : AV} (h : Slot H sz k cells a) (h0 : k = 0 → cells = []) : ∃ rd, zg sz H a = some (k, cells, rd) := by
  rcases h with ⟨rfl, rfl | rfl⟩ | ⟨g, cs, rfl, h1, h2, h3⟩
  · exact ⟨[], by rw [h0 rfl]; rfl⟩
  · exact ⟨[], by rw [h0 rfl]; rfl⟩
  · refine ⟨[g], ?_⟩
    simp only [zg, h1, Nat.zero_add, List.drop_zero]
    rw [if_pos h3, h2]
theorem Slot.append {H : Heap} {sz k bytes t nx : Nat} {cells new : List AV} {a : AV} {kt : Kt} (hg : Slot H sz k cells a) (hlen : cells.length = k * sz) (ht : H t = some (.row sz new)) (hnl : new.length = sz) (hone : new.all AV.one = true)
    (hb : (k + 1) * bytes ≤ 140737488355328) (hk : ∀ rd D, (∀ g ∈ domD D, g ∈ own a ∨ g = nx) → (H.apply D) nx = some (.row sz (cells ++ new)) → (∀ g, g ∉ own a → g ≠ nx → (H.apply D) g = H g) → kt (.slc nx 0 (k + 1)) rd [nx] D) : zai sz bytes a (.slc t 0 1) H nx kt := by
  have hs : zg sz H (.slc t 0 1) = some (1, new, [t]) := by
    simp only [zg, ht]
    rw [if_pos (by omega)]
    simp [← hnl]
  rcases hg with ⟨rfl, rfl | rfl⟩ | ⟨g, cs, rfl, h1, h2, h3⟩
  · rw [zqd, hs, optk]
    have hc : cells = [] := List.eq_nil_of_length_eq_zero (by omega)
    subst hc
    refine ⟨hone, fun h => absurd h Nat.one_ne_zero, fun _ => ?_⟩
    exact ⟨by simpa using hb, hk _ _ (by simp) (by simp only [zcd, zct, Heap.put_at]; rfl) (fun x _ hx => by simp only [zcd, zct]; exact Heap.put_ne _ _ hx)⟩
  · rw [zacs, hs, optk]
    have hc : cells = [] := List.eq_nil_of_length_eq_zero (by omega)
    subst hc
    refine ⟨hone, fun h => absurd h Nat.one_ne_zero, fun _ => ?_⟩
    exact ⟨by simpa using hb, hk _ _ (by simp) (by simp only [zcd, zct, Heap.put_at]; rfl) (fun x _ hx => by simp only [zcd, zct]; exact Heap.put_ne _ _ hx)⟩
  · rw [zss, hs, optk, h1, rowk]
    refine ⟨rfl, hone, by omega, hb, hk _ _ (by simp [own]) ?_ (fun x hx1 hx => ?_)⟩
    · simp only [zcd, zct]; rw [Heap.put_at, List.drop_zero, h2]
    · simp only [zcd, zct]; rw [Heap.put_ne _ _ hx, Heap.put_ne _ _ (by simpa [own] using hx1)]
theorem Slot.app {H : Heap} {sz k bytes t nx : Nat} {cells new : List AV} {a : AV} {kk : AV → Heap → Nat → Prop} (hg : Slot H sz k cells a) (hlen : cells.length = k * sz) (ht : H t = some (.row sz new)) (hnl : new.length = sz) (hone : new.all AV.one = true)
    (hb : (k + 1) * bytes ≤ 140737488355328) (hk : ∀ H', H' nx = some (.row sz (cells ++ new)) → (∀ g, g ∉ own a → g ≠ nx → H' g = H g) → kk (.slc nx 0 (k + 1)) H' (nx + 1)) : APP sz bytes a (.slc t 0 1) H nx kk := by
  have := hg.append (bytes := bytes) (t := t) (nx := nx) (new := new) (kt := fun v _ fr D => kk v (H.apply D) (nx + fr.length)) hlen ht hnl hone hb fun rd D _ h1 h2 => hk _ h1 h2
  exact this
def frow : List Frm → List (AV × AV) → List AV
  | f :: fs, s :: ss => .int .i64 f.fn :: .int .i64 f.at_ :: s.1 :: s.2 :: frow fs ss
  | _, _ => []
theorem zgk : ∀ {fs : List Frm} {ss : List (AV × AV)}, ss.length = fs.length → (frow fs ss).length = fs.length * 4
  | [], [], _ => rfl
  | f :: fs, s :: ss, h => by simp [frow, zgk (fs := fs) (ss := ss) (by simpa using h)]; omega
  | [], s :: ss, h => by simp at h
  | f :: fs, [], h => by simp at h
theorem zgu : ∀ {fs : List Frm} {ss : List (AV × AV)} {f : Frm} {s : AV × AV}, ss.length = fs.length → frow (fs ++ [f]) (ss ++ [s]) = frow fs ss ++ [.int .i64 f.fn, .int .i64 f.at_, s.1, s.2]
  | [], [], f, s, _ => rfl
  | g :: fs, t :: ss, f, s, h => by simp [frow, zgu (fs := fs) (ss := ss) (f := f) (s := s) (by simpa using h)]
  | [], s :: ss, _, _, h => by simp at h
  | f :: fs, [], _, _, h => by simp at h
def owns (ss : List (AV × AV)) : List Nat := ss.flatMap fun s => own s.1 ++ own s.2
def Spt.avs (s : Spt) : List AV := [.str s.name, .ro (s.facts.map fun x => .str x.key :: x.val.avs), .int .i64 s.fuel, .int .i64 s.cells]
def Evt.avs (e : Evt) : List AV := [.int .i64 e.kind, .str e.text, .int .i64 e.err]
def zez (id trip : Int) (p : Prg) (fa ha : AV) (m : Pmt) (gs : Nat) (e : Evt) : List AV :=
  [.int .i64 id, .int .i64 trip, .ro (p.codes.map Cod.avs), .ro (p.words.map fun w => [.str w]), fa, ha, .int .i64 m.fuel, .int .i64 m.room, .int .i64 m.hops, .ptr gs 0, .int .i64 e.kind, .str e.text, .int .i64 e.err]
def zae (H : Heap) (fs : List Frm) (ss : List (AV × AV)) : Prop := ss.length = fs.length ∧ ∀ (k : Nat) (f : Frm) (s : AV × AV), fs[k]? = some f → ss[k]? = some s → Slot H 3 f.vars.length (rowV f.vars) s.1 ∧ Slot H 3 f.stack.length (rowV f.stack) s.2
theorem zae.keep {H H' : Heap} {fs : List Frm} {ss : List (AV × AV)} (h : zae H fs ss) (hk : ∀ g ∈ owns ss, H' g = H g) : zae H' fs ss := by
  refine ⟨h.1, fun k f s hf hs => ?_⟩
  obtain ⟨a, b⟩ := h.2 k f s hf hs
  have hm := List.mem_of_getElem? hs
  exact ⟨a.keep fun g hg => hk g (List.mem_flatMap.2 ⟨s, hm, List.mem_append_left _ hg⟩), b.keep fun g hg => hk g (List.mem_flatMap.2 ⟨s, hm, List.mem_append_right _ hg⟩)⟩
theorem zae.snoc {H : Heap} {fs : List Frm} {ss : List (AV × AV)} {f : Frm} {s : AV × AV} (h : zae H fs ss) (h1 : Slot H 3 f.vars.length (rowV f.vars) s.1) (h2 : Slot H 3 f.stack.length (rowV f.stack) s.2) : zae H (fs ++ [f]) (ss ++ [s]) := by
  refine ⟨by simp [h.1], fun k f' s' hf hs => ?_⟩
  by_cases hk : k < fs.length
  · rw [List.getElem?_append_left hk] at hf
    rw [List.getElem?_append_left (by rw [h.1]; exact hk)] at hs
    exact h.2 k f' s' hf hs
  · have hk' : k = fs.length := by have := (List.getElem?_eq_some_iff.1 hf).1; simp at this; omega
    subst hk'
    rw [List.getElem?_append_right (Nat.le_refl _)] at hf
    rw [List.getElem?_append_right (by rw [h.1]; exact Nat.le_refl _), h.1] at hs
    simp at hf hs
    subst hf; subst hs
    exact ⟨h1, h2⟩
theorem zae.last {H : Heap} {fs : List Frm} {ss : List (AV × AV)} {f : Frm} {s : AV × AV} (h : zae H (fs ++ [f]) (ss ++ [s])) : zae H fs ss ∧ Slot H 3 f.vars.length (rowV f.vars) s.1 ∧ Slot H 3 f.stack.length (rowV f.stack) s.2 := by
  have hl : ss.length = fs.length := by simpa using h.1
  refine ⟨⟨hl, fun k f' s' hf hs => ?_⟩, h.2 fs.length f s (by simp) (by rw [← hl]; simp)⟩
  have h1 := (List.getElem?_eq_some_iff.1 hf).1
  exact h.2 k f' s' (by rw [List.getElem?_append_left h1]; exact hf) (by rw [List.getElem?_append_left (by omega)]; exact hs)
structure RL (H0 H : Heap) (lo n gr gs gf : Nat) (id trip : Int) (p : Prg) (s : Spt) (fs : List Frm) (ss : List (AV × AV)) (f : Frm) (va sa : AV) (h : List Cl) (ha : AV) (m : Pmt) (e : Evt) : Prop where
  run : H gr = some (.row 13 (zez id trip p (.slc gf 0 (fs.length + 1)) ha m gs e))
  fr : ∃ cs, H gf = some (.row 4 cs) ∧ cs.take ((fs.length + 1) * 4) = frow fs ss ++ [.int .i64 f.fn, .int .i64 f.at_, va, sa] ∧ (fs.length + 1) * 4 ≤ cs.length
  frs : zae H fs ss
  sv : Slot H 3 f.vars.length (rowV f.vars) va
  st : Slot H 3 f.stack.length (rowV f.stack) sa
  hp : Slot H 6 h.length (rowC h) ha
  spot : H gs = some (.row 4 s.avs)
  nd : (gr :: gs :: gf :: (own ha ++ (owns ss ++ (own va ++ own sa)))).Nodup
  gsn : gs < n
  bd : ∀ g ∈ gr :: gf :: (own ha ++ (owns ss ++ (own va ++ own sa))), lo ≤ g ∧ g < n
  keep : Keep lo H H0
  le : lo ≤ n
end Go.Proofs.YtobioljjoipimaaDoor
set_option maxRecDepth 8000
namespace Go.Proofs.YtobioljjoipimaaDoor
open Go Go.RowKit
structure zagb (n gr gs gf : Nat) (ha : AV) (ss : List (AV × AV)) (va sa : AV) : Prop where
  rs : gr ≠ gs
  rf : gr ≠ gf
  sf : gs ≠ gf
  r : gr < n
  s : gs < n
  f : gf < n
  h : ∀ g ∈ own ha, g < n ∧ g ≠ gr ∧ g ≠ gs ∧ g ≠ gf ∧ g ∉ owns ss ∧ g ∉ own va ∧ g ∉ own sa
  w : ∀ g ∈ owns ss, g < n ∧ g ≠ gr ∧ g ≠ gs ∧ g ≠ gf ∧ g ∉ own ha ∧ g ∉ own va ∧ g ∉ own sa
  v : ∀ g ∈ own va, g < n ∧ g ≠ gr ∧ g ≠ gs ∧ g ≠ gf ∧ g ∉ own ha ∧ g ∉ owns ss ∧ g ∉ own sa
  t : ∀ g ∈ own sa, g < n ∧ g ≠ gr ∧ g ≠ gs ∧ g ≠ gf ∧ g ∉ own ha ∧ g ∉ owns ss ∧ g ∉ own va
theorem zact {lo n gr gs gf : Nat} {ha va sa : AV} {ss : List (AV × AV)} (nd : (gr :: gs :: gf :: (own ha ++ (owns ss ++ (own va ++ own sa)))).Nodup) (gsn : gs < n) (bd : ∀ g ∈ gr :: gf :: (own ha ++ (owns ss ++ (own va ++ own sa))), lo ≤ g ∧ g < n) : zagb n gr gs gf ha ss va sa := by
  simp only [List.nodup_cons, List.nodup_append, List.mem_cons, List.mem_append, not_or] at nd
  simp only [List.mem_cons, List.mem_append] at bd
  obtain ⟨⟨a1, a2, a3, a4, a5, a6⟩, ⟨b1, b2, b3, b4, b5⟩, ⟨c1, c2, c3, c4⟩, n1, ⟨n2, ⟨n3, n4, n5⟩, n6⟩, n7⟩ := nd
  refine ⟨a1, a2, b1, (bd gr (by simp)).2, gsn, (bd gf (by simp)).2, fun g hg => ⟨(bd g (by simp [hg])).2, fun e => a3 (e ▸ hg), fun e => b2 (e ▸ hg), fun e => c1 (e ▸ hg), fun h => n7 g hg g (.inl h) rfl, fun h => n7 g hg g (.inr (.inl h)) rfl, fun h => n7 g hg g (.inr (.inr h)) rfl⟩,
    fun g hg => ⟨(bd g (by simp [hg])).2, fun e => a4 (e ▸ hg), fun e => b3 (e ▸ hg), fun e => c2 (e ▸ hg), fun h => n7 g h g (.inl hg) rfl, fun h => n6 g hg g (.inl h) rfl, fun h => n6 g hg g (.inr h) rfl⟩,
    fun g hg => ⟨(bd g (by simp [hg])).2, fun e => a5 (e ▸ hg), fun e => b4 (e ▸ hg), fun e => c3 (e ▸ hg), fun h => n7 g h g (.inr (.inl hg)) rfl, fun h => n6 g h g (.inl hg) rfl, fun h => n5 g hg g h rfl⟩,
    fun g hg => ⟨(bd g (by simp [hg])).2, fun e => a6 (e ▸ hg), fun e => b5 (e ▸ hg), fun e => c4 (e ▸ hg), fun h => n7 g h g (.inr (.inr hg)) rfl, fun h => n6 g h g (.inr hg) rfl, fun h => n5 g h g hg rfl⟩⟩
section
variable {H0 H : Heap} {lo n gr gs gf : Nat} {id trip : Int} {p : Prg} {s : Spt} {fs : List Frm} {ss : List (AV × AV)} {f : Frm} {va sa : AV} {h : List Cl} {ha : AV} {m : Pmt} {e : Evt}
theorem RL.apart (st : RL H0 H lo n gr gs gf id trip p s fs ss f va sa h ha m e) : zagb n gr gs gf ha ss va sa := zact st.nd st.gsn st.bd
theorem RL.upd (st : RL H0 H lo n gr gs gf id trip p s fs ss f va sa h ha m e) {H' : Heap} {n' : Nat} {f' : Frm} {va' sa' : AV} {h' : List Cl} {ha' : AV} {m' : Pmt} {e' : Evt} (hn : n ≤ n')
    (run' : H' gr = some (.row 13 (zez id trip p (.slc gf 0 (fs.length + 1)) ha' m' gs e'))) (fr' : ∃ cs, H' gf = some (.row 4 cs) ∧ cs.take ((fs.length + 1) * 4) = frow fs ss ++ [.int .i64 f'.fn, .int .i64 f'.at_, va', sa'] ∧ (fs.length + 1) * 4 ≤ cs.length)
    (sv' : Slot H' 3 f'.vars.length (rowV f'.vars) va') (st' : Slot H' 3 f'.stack.length (rowV f'.stack) sa') (hp' : Slot H' 6 h'.length (rowC h') ha')
    (hk : ∀ g, g < n → g ≠ gr → g ≠ gf → g ∉ own ha → g ∉ own va → g ∉ own sa → H' g = H g)
    (oh : ∀ g ∈ own ha', g ∈ own ha ∨ (n ≤ g ∧ g < n')) (ov : ∀ g ∈ own va', g ∈ own va ∨ (n ≤ g ∧ g < n')) (ot : ∀ g ∈ own sa', g ∈ own sa ∨ (n ≤ g ∧ g < n'))
    (nd3 : (own ha' ++ (own va' ++ own sa')).Nodup) : RL H0 H' lo n' gr gs gf id trip p s fs ss f' va' sa' h' ha' m' e' := by
  have ap := st.apart
  have b := st.bd
  simp only [List.mem_cons, List.mem_append] at b
  refine ⟨run', fr', st.frs.keep fun g hg => ?_, sv', st', hp', by rw [hk gs ap.s ap.rs.symm ap.sf (fun h => (ap.h _ h).2.2.1 rfl) (fun h => (ap.v _ h).2.2.1 rfl) (fun h => (ap.t _ h).2.2.1 rfl)]; exact st.spot, ?_, by have := st.gsn; omega, ?_, ?_, by have := st.le; omega⟩
  · obtain ⟨w1, w2, w3, w4, w5, w6, w7⟩ := ap.w g hg
    exact hk g w1 w2 w4 w5 w6 w7
  · have mh : ∀ g ∈ own ha', g ≠ gr ∧ g ≠ gs ∧ g ≠ gf ∧ g ∉ owns ss := fun g hg => by
      rcases oh g hg with h | h
      · obtain ⟨w1, w2, w3, w4, w5, w6, w7⟩ := ap.h g h; exact ⟨w2, w3, w4, w5⟩
      · have := ap.r; have := ap.s; have := ap.f
        exact ⟨by omega, by omega, by omega, fun hx => by have := (ap.w g hx).1; omega⟩
    have mv : ∀ g ∈ own va', g ≠ gr ∧ g ≠ gs ∧ g ≠ gf ∧ g ∉ owns ss := fun g hg => by
      rcases ov g hg with h | h
      · obtain ⟨w1, w2, w3, w4, w5, w6, w7⟩ := ap.v g h; exact ⟨w2, w3, w4, w6⟩
      · have := ap.r; have := ap.s; have := ap.f
        exact ⟨by omega, by omega, by omega, fun hx => by have := (ap.w g hx).1; omega⟩
    have mt : ∀ g ∈ own sa', g ≠ gr ∧ g ≠ gs ∧ g ≠ gf ∧ g ∉ owns ss := fun g hg => by
      rcases ot g hg with h | h
      · obtain ⟨w1, w2, w3, w4, w5, w6, w7⟩ := ap.t g h; exact ⟨w2, w3, w4, w6⟩
      · have := ap.r; have := ap.s; have := ap.f
        exact ⟨by omega, by omega, by omega, fun hx => by have := (ap.w g hx).1; omega⟩
    have ndw : (owns ss).Nodup := by
      have := st.nd
      simp only [List.nodup_cons, List.nodup_append] at this
      exact this.2.2.2.2.1.1
    simp only [List.nodup_append] at nd3
    obtain ⟨z1, ⟨z2, z3, z4⟩, z5⟩ := nd3
    simp only [List.nodup_cons, List.nodup_append, List.mem_cons, List.mem_append, not_or]
    refine ⟨⟨ap.rs, ap.rf, fun h => (mh _ h).1 rfl, fun h => (ap.w _ h).2.1 rfl, fun h => (mv _ h).1 rfl, fun h => (mt _ h).1 rfl⟩, ⟨ap.sf, fun h => (mh _ h).2.1 rfl, fun h => (ap.w _ h).2.2.1 rfl, fun h => (mv _ h).2.1 rfl, fun h => (mt _ h).2.1 rfl⟩, ⟨fun h => (mh _ h).2.2.1 rfl, fun h => (ap.w _ h).2.2.2.1 rfl, fun h => (mv _ h).2.2.1 rfl, fun h => (mt _ h).2.2.1 rfl⟩, z1, ⟨ndw, ⟨z2, z3, z4⟩, ?_⟩, ?_⟩
    · rintro x hx y (hy | hy) rfl
      · exact (mv _ hy).2.2.2 hx
      · exact (mt _ hy).2.2.2 hx
    · rintro x hx y (hy | hy | hy) rfl
      · exact (mh _ hx).2.2.2 hy
      · exact z5 _ hx _ (List.mem_append_left _ hy) rfl
      · exact z5 _ hx _ (List.mem_append_right _ hy) rfl
  · intro g hg
    have hl := st.le
    simp only [List.mem_cons, List.mem_append] at hg
    have old : (lo ≤ g ∧ g < n) → lo ≤ g ∧ g < n' := fun h => by omega
    have new : (n ≤ g ∧ g < n') → lo ≤ g ∧ g < n' := fun h => by omega
    rcases hg with hg | hg | hg | hg | hg | hg
    · exact old (b g (.inl hg))
    · exact old (b g (.inr (.inl hg)))
    · rcases oh g hg with h | h
      · exact old (b g (.inr (.inr (.inl h))))
      · exact new h
    · exact old (b g (.inr (.inr (.inr (.inl hg)))))
    · rcases ov g hg with h | h
      · exact old (b g (.inr (.inr (.inr (.inr (.inl h))))))
      · exact new h
    · rcases ot g hg with h | h
      · exact old (b g (.inr (.inr (.inr (.inr (.inr h))))))
      · exact new h
  · intro g hg
    have lb : ∀ x, (x = gr ∨ x = gf ∨ x ∈ own ha ∨ x ∈ owns ss ∨ x ∈ own va ∨ x ∈ own sa) → lo ≤ x := fun x hx => (b x hx).1
    have hl := st.le
    rw [hk g (by omega) (fun e => by have := lb gr (.inl rfl); omega) (fun e => by have := lb gf (.inr (.inl rfl)); omega) (fun h => by have := lb g (.inr (.inr (.inl h))); omega) (fun h => by have := lb g (.inr (.inr (.inr (.inr (.inl h))))); omega) (fun h => by have := lb g (.inr (.inr (.inr (.inr (.inr h))))); omega)]
    exact st.keep g hg
theorem RL.nd3 (st : RL H0 H lo n gr gs gf id trip p s fs ss f va sa h ha m e) : (own ha ++ (own va ++ own sa)).Nodup := by
  have := st.nd
  simp only [List.nodup_cons, List.nodup_append, List.mem_append] at this
  obtain ⟨_, _, _, n1, ⟨n2, ⟨n3, n4, n5⟩, n6⟩, n7⟩ := this
  simp only [List.nodup_append, List.mem_append]
  exact ⟨n1, ⟨n3, n4, n5⟩, fun a ha b hb => n7 a ha b (.inr hb)⟩
theorem RL.more (st : RL H0 H lo n gr gs gf id trip p s fs ss f va sa h ha m e) {H' : Heap} {n' : Nat} (hn : n ≤ n') (hk : ∀ g, g < n → H' g = H g) : RL H0 H' lo n' gr gs gf id trip p s fs ss f va sa h ha m e := by
  have ap := st.apart
  obtain ⟨cs, c1, c2⟩ := st.fr
  exact st.upd hn (by rw [hk _ ap.r]; exact st.run) ⟨cs, by rw [hk _ ap.f]; exact c1, c2⟩ (st.sv.keep fun g hg => hk g (ap.v g hg).1) (st.st.keep fun g hg => hk g (ap.t g hg).1) (st.hp.keep fun g hg => hk g (ap.h g hg).1) (fun g hg _ _ _ _ _ => hk g hg) (fun g hg => .inl hg) (fun g hg => .inl hg) (fun g hg => .inl hg) st.nd3
end
end Go.Proofs.YtobioljjoipimaaDoor
set_option maxRecDepth 8000
namespace Go.Proofs.YtobioljjoipimaaDoor
open Go Go.RowKit
theorem zacr {D : zi} : ∀ {H H' : Heap} {g : Nat}, g ∈ domD D → (H.apply D) g = (H'.apply D) g := by
  induction D with
  | nil => intro H H' g hg; simp at hg
  | cons d r ih =>
    obtain ⟨g', o⟩ := d
    intro H H' g hg
    show ((H.put g' o).apply r) g = ((H'.put g' o).apply r) g
    by_cases hr : g ∈ domD r
    · exact ih hr
    · rw [zkg hr, zkg hr]
      have : g = g' := by simpa [hr] using hg
      subst this
      rw [Heap.put_at, Heap.put_at]
theorem LC.of_calls {P : Program} {f : FuncId} {args : List AV} {r : AV} {H0 : Heap} {rd : List Nat} {D : zi} (hrd : ∀ g ∈ rd, (H0 g).isSome = true) (hdom : ∀ g ∈ domD D, g ∈ rd) (hr : ∀ A : Nat → Prop, (∀ g ∈ rd, A g) → (∀ g ∈ rd, ∀ o, H0 g = some o → BelO A o) → Bel A r)
    (hb : ∀ A : Nat → Prop, (∀ g ∈ rd, A g) → (∀ g ∈ rd, ∀ o, H0 g = some o → BelO A o) → ∀ g o, g ∈ domD D → (H0.apply D) g = some o → BelO A o)
    (h : ∀ H nx, (∀ g ∈ rd, H g = H0 g ∧ g < nx) → za P f args H nx fun v H' nx' => v = r ∧ nx ≤ nx' ∧ (∀ g, g < nx → g ∉ domD D → H' g = H g) ∧ (∀ g o, g ∈ domD D → (H0.apply D) g = some o → H' g = some o)) : LC P f args H0 rd [] D r := by
  intro A ρ H w cargs ⟨N, hN⟩ s ha hag _
  have sN : Sim (· < N) ρ H w := ⟨fun g o ho => hN g (s.live g o ho), fun g o ho => (s.obj g o ho).mono rfl (fun _ _ h => h) (fun g hg => ⟨rfl, hN g hg⟩), s.inj, s.lay⟩
  have aN : LRel (Kof ρ H w) ρ (· < N) args cargs.toList := ⟨ha.1, fun j v c hv hc => (ha.2 j v c hv hc).mono (fun _ _ h => h) (fun g hg => ⟨rfl, hN g hg⟩)⟩
  have hrdA : ∀ g ∈ rd, A g := fun g hg => by
    obtain ⟨o, ho⟩ := Option.isSome_iff_exists.1 (hrd g hg)
    exact s.live g o ((hag g hg).trans ho)
  have hrdB : ∀ g ∈ rd, ∀ o, H0 g = some o → BelO A o := fun g hg o ho => (s.obj g o ((hag g hg).trans ho)).bel
  refine zo (h H N (fun g hg => ⟨hag g hg, hN g (hrdA g hg)⟩) ρ w cargs sN aN) fun cv w' ⟨v, H', nx', ρ', ⟨hv, hnx, hsame, hchg⟩, q3, q4, q5⟩ => ?_
  subst hv
  have hρ : ∀ g, g < N → ρ' g = ρ g := fun g hg => (q5.agree g hg).1
  have hAe : (fun x => A x ∨ x ∈ ([] : List Nat)) = A := by funext x; simp
  have lv : ∀ g o, (H.apply D) g = some o → A g ∧ H' g = some o ∧ BelO A o := fun g o ho => by
    by_cases hg : g ∈ domD D
    · rw [zacr (H' := H0) hg] at ho
      exact ⟨hrdA g (hdom g hg), hchg g o hg ho, hb A hrdA hrdB g o hg ho⟩
    · rw [zkg hg] at ho
      have hA := s.live g o ho
      exact ⟨hA, by rw [hsame g (hN g hA) hg]; exact ho, (s.obj g o ho).bel⟩
  have hK : ∀ b o, Kof ρ' H' w' b = some o → Kof ρ' (H.apply D) w' b = some o := fun b o hb => by
    obtain ⟨h1, h2⟩ := zp.1 hb
    refine zp.2 ⟨fun g hg => ?_, h2⟩
    obtain ⟨o1, ho1⟩ := Option.isSome_iff_exists.1 hg
    exact h1 g (by rw [(lv g o1 ho1).2.1]; rfl)
  refine ⟨ρ', ?_, ?_, ?_⟩
  · rw [hAe]
    refine ⟨fun g o ho => (lv g o ho).1, fun g o ho => ?_, fun x y hx hy hxy => ?_, q3.lay.mono hK⟩
    · obtain ⟨_, h1, h2⟩ := lv g o ho
      exact ((q3.obj g o h1).restrict h2).mono rfl hK (fun _ h => ⟨rfl, h⟩)
    · obtain ⟨o1, ho1⟩ := Option.isSome_iff_exists.1 hx
      obtain ⟨o2, ho2⟩ := Option.isSome_iff_exists.1 hy
      exact q3.inj x y (by rw [(lv x o1 ho1).2.1]; rfl) (by rw [(lv y o2 ho2).2.1]; rfl) hxy
  · rw [hAe]
    exact (q4.restrict (hr A hrdA hrdB)).mono hK (fun g hg => ⟨rfl, hg⟩)
  · rw [hAe]
    exact ⟨fun g hg => ⟨hρ g (hN g hg), hg⟩, fun b o hb => hK b o (q5.k b o hb), q5.os, q5.tape, q5.output, q5.size⟩
theorem LC.of_callsN {P : Program} {f : FuncId} {args : List AV} {r : AV} {H0 : Heap} {rd : List Nat} {D : zi} {g0 : Nat} (hrd : ∀ g ∈ rd, (H0 g).isSome = true) (hdom : ∀ g ∈ domD D, g ∈ rd ∨ g = g0)
    (h : ∀ A : Nat → Prop, (∀ g ∈ rd, A g) → (∀ g ∈ rd, ∀ o, H0 g = some o → BelO A o) → ∀ H nx, (∀ g ∈ rd, H g = H0 g ∧ g < nx) → za P f args H nx fun v H' nx' => ∃ gn, nx ≤ gn ∧ gn < nx' ∧ Rn A gn g0 v r ∧ (∀ g, g < nx → g ∉ domD D → H' g = H g) ∧
      (∀ g o, g ∈ domD D → g ≠ g0 → (H.apply D) g = some o → ∃ o', H' g = some o' ∧ RnO A gn g0 o' o) ∧ (∃ o o', (H.apply D) g0 = some o ∧ H' gn = some o' ∧ RnO A gn g0 o' o)) : LC P f args H0 rd [g0] D r := by
  intro A ρ H w cargs ⟨N0, hN0⟩ s ha hag hfresh
  obtain ⟨N, hN, hg0N⟩ : ∃ N, (∀ g, A g → g < N) ∧ g0 < N := ⟨max N0 (g0 + 1), fun g hg => by have := hN0 g hg; omega, by omega⟩
  have hg0 : ¬ A g0 := hfresh g0 (by simp)
  have sN : Sim (· < N) ρ H w := ⟨fun g o ho => hN g (s.live g o ho), fun g o ho => (s.obj g o ho).mono rfl (fun _ _ h => h) (fun g hg => ⟨rfl, hN g hg⟩), s.inj, s.lay⟩
  have aN : LRel (Kof ρ H w) ρ (· < N) args cargs.toList := ⟨ha.1, fun j v c hv hc => (ha.2 j v c hv hc).mono (fun _ _ h => h) (fun g hg => ⟨rfl, hN g hg⟩)⟩
  have hrdA : ∀ g ∈ rd, A g := fun g hg => by
    obtain ⟨o, ho⟩ := Option.isSome_iff_exists.1 (hrd g hg)
    exact s.live g o ((hag g hg).trans ho)
  have hrdB : ∀ g ∈ rd, ∀ o, H0 g = some o → BelO A o := fun g hg o ho => (s.obj g o ((hag g hg).trans ho)).bel
  refine zo (h A hrdA hrdB H N (fun g hg => ⟨hag g hg, hN g (hrdA g hg)⟩) ρ w cargs sN aN) fun cv w' ⟨v, H', nx', ρ', ⟨gn, hgN, hgn, hv, hsame, hchg, onew, onew', hn1, hn2, hn3⟩, q3, q4, q5⟩ => ?_
  have hρ : ∀ g, g < N → ρ' g = ρ g := fun g hg => (q5.agree g hg).1
  let ρ2 : Nat → Loc := fun g => if g = g0 then ρ' gn else ρ' g
  have h20 : ρ2 g0 = ρ' gn := if_pos rfl
  have h2 : ∀ g, g ≠ g0 → ρ2 g = ρ' g := fun g hg => if_neg hg
  have hAne : ∀ g, A g → g ≠ g0 := fun g hg e => hg0 (e ▸ hg)
  have hR : ∀ g, A g → g < nx' → ρ2 g = ρ' g ∧ (A g ∨ g ∈ [g0]) := fun g hg _ => ⟨h2 g (hAne g hg), .inl hg⟩
  have hRA : ∀ g, A g → g < nx' := fun g hg => by have := hN g hg; omega
  have hG : ρ2 g0 = ρ' gn ∧ (A g0 ∨ g0 ∈ [g0]) := ⟨h20, .inr (by simp)⟩
  -- who stands for whom
  have lv : ∀ g o, (H.apply D) g = some o → (A g ∨ g ∈ [g0]) ∧ ∃ g' o', H' g' = some o' ∧ ρ2 g = ρ' g' ∧ (g = g0 → g' = gn) ∧ (g ≠ g0 → g' = g ∧ A g) ∧
      (∀ K, zao K ρ' (· < nx') w' (ρ' g') o' → zao K ρ2 (fun x => A x ∨ x ∈ [g0]) w' (ρ2 g) o) := fun g o ho => by
    by_cases hgg : g = g0
    · subst hgg
      rw [hn1] at ho
      obtain rfl := Option.some.inj ho
      exact ⟨.inr (by simp), gn, onew', hn2, h20, fun _ => rfl, fun h => absurd rfl h, fun K hk => by rw [h20]; exact hk.rn hn3 hR hRA hG⟩
    · by_cases hg : g ∈ domD D
      · obtain ⟨o', h1, h3⟩ := hchg g o hg hgg ho
        have hA : A g := by
          rcases hdom g hg with h | h
          · exact hrdA g h
          · exact absurd h hgg
        exact ⟨.inl hA, g, o', h1, h2 g hgg, fun h => absurd h hgg, fun _ => ⟨rfl, hA⟩, fun K hk => by rw [h2 g hgg]; exact hk.rn h3 hR hRA hG⟩
      · rw [zkg hg] at ho
        have hA := s.live g o ho
        refine ⟨.inl hA, g, o, by rw [hsame g (hN g hA) hg]; exact ho, h2 g hgg, fun h => absurd h hgg, fun _ => ⟨rfl, hA⟩, fun K hk => ?_⟩
        rw [h2 g hgg]
        exact (hk.restrict (s.obj g o ho).bel).mono rfl (fun _ _ h => h) (fun x hx => ⟨h2 x (hAne x hx), .inl hx⟩)
  have hK : ∀ b o, Kof ρ' H' w' b = some o → Kof ρ2 (H.apply D) w' b = some o := fun b o hb => by
    obtain ⟨k1, k2⟩ := zp.1 hb
    refine zp.2 ⟨fun g hg => ?_, k2⟩
    obtain ⟨o1, ho1⟩ := Option.isSome_iff_exists.1 hg
    obtain ⟨_, g', o', e1, e2, _⟩ := lv g o1 ho1
    rw [e2]
    exact k1 g' (by rw [e1]; rfl)
  refine ⟨ρ2, ⟨fun g o ho => (lv g o ho).1, fun g o ho => ?_, fun x y hx hy hxy => ?_, q3.lay.mono hK⟩, ?_, ⟨fun g hg => ⟨(h2 g (hAne g hg)).trans (hρ g (hN g hg)), .inl hg⟩, fun b o hb => hK b o (q5.k b o hb), q5.os, q5.tape, q5.output, q5.size⟩⟩
  · obtain ⟨_, g', o', e1, _, _, _, e4⟩ := lv g o ho
    exact (e4 _ (q3.obj g' o' e1)).mono rfl hK (fun _ h => ⟨rfl, h⟩)
  · obtain ⟨o1, ho1⟩ := Option.isSome_iff_exists.1 hx
    obtain ⟨o2, ho2⟩ := Option.isSome_iff_exists.1 hy
    obtain ⟨_, x', p1, e1, e2, e3, e4, _⟩ := lv x o1 ho1
    obtain ⟨_, y', p2, f1, f2, f3, f4, _⟩ := lv y o2 ho2
    rw [e2, f2] at hxy
    have hxy' := q3.inj x' y' (by rw [e1]; rfl) (by rw [f1]; rfl) hxy
    by_cases hx0 : x = g0
    · by_cases hy0 : y = g0
      · rw [hx0, hy0]
      · have := (f4 hy0).1
        have hAy := hN y (f4 hy0).2
        have := e3 hx0
        omega
    · by_cases hy0 : y = g0
      · have := (e4 hx0).1
        have hAx := hN x (e4 hx0).2
        have := f3 hy0
        omega
      · rw [← (e4 hx0).1, ← (f4 hy0).1]; exact hxy'
  · exact (q4.rn hv hR hRA hG).mono hK (fun g hg => ⟨rfl, hg⟩)
end Go.Proofs.YtobioljjoipimaaDoor
set_option maxRecDepth 8000
namespace Go.Proofs.YtobioljjoipimaaDoor
open Go Go.RowKit
section
variable {ki : IntKind}
@[simp ↓] theorem zadx {s g off len : Nat} {a : Int} {H : Heap} {kt : Kt} : zbv s (.slc g off len) none (some (.int ki a)) H kt = ROWK (H g) fun sz _ => sz = s ∧ 0 ≤ a ∧ a ≤ len ∧ kt (.slc g off a.toNat) [g] [] [] := by
  simp only [zbv, lohi]
  refine zdx (fun sz cs h => ?_) fun h => ?_
  · simp [h]
  · intro ha
    split at ha
    · rename_i sz cs he; exact h _ _ he
    · exact ha
@[simp ↓] theorem zzh {s g off len : Nat} {a : Int} {H : Heap} {kt : Kt} : zbv s (.slc g off len) (some (.int ki a)) none H kt = ROWK (H g) fun sz _ => sz = s ∧ 0 ≤ a ∧ a ≤ len ∧ kt (.slc g (off + a.toNat * s) ((len : Int) - a).toNat) [g] [] [] := by
  simp only [zbv, lohi]
  refine zdx (fun sz cs h => ?_) fun h => ?_
  · simp [h]
  · intro ha
    split at ha
    · rename_i sz cs he; exact h _ _ he
    · exact ha
end
section
variable {H0 H : Heap} {lo n gr gs gf : Nat} {id trip : Int} {p : Prg} {s : Spt} {fs : List Frm} {ss : List (AV × AV)} {f : Frm} {va sa : AV} {h : List Cl} {ha : AV} {m : Pmt} {e : Evt}
theorem zahg {cs : List AV} {k : Nat} {w x y z : AV} {pre : List AV} (h : cs.take ((k + 1) * 4) = pre ++ [w, x, y, z]) (hp : pre.length = k * 4) (hl : (k + 1) * 4 ≤ cs.length) :
    cs[k * 4]? = some w ∧ cs[k * 4 + 1]? = some x ∧ cs[k * 4 + 2]? = some y ∧ cs[k * 4 + 3]? = some z := by
  have key : ∀ j, j < 4 → cs[k * 4 + j]? = ([w, x, y, z] : List AV)[j]? := fun j hj => by
    have := congrArg (·[k * 4 + j]?) h
    simp only [List.getElem?_take] at this
    rw [if_pos (by omega), List.getElem?_append_right (by omega)] at this
    rw [this, hp]; congr 1; omega
  exact ⟨key 0 (by omega), key 1 (by omega), key 2 (by omega), key 3 (by omega)⟩
theorem RL.last (st : RL H0 H lo n gr gs gf id trip p s fs ss f va sa h ha m e) : ∃ cs, H gf = some (.row 4 cs) ∧ cs.take ((fs.length + 1) * 4) = frow fs ss ++ [.int .i64 f.fn, .int .i64 f.at_, va, sa] ∧ (fs.length + 1) * 4 ≤ cs.length ∧
    cs[fs.length * 4]? = some (.int .i64 f.fn) ∧ cs[fs.length * 4 + 1]? = some (.int .i64 f.at_) ∧ cs[fs.length * 4 + 2]? = some va ∧ cs[fs.length * 4 + 3]? = some sa := by
  obtain ⟨cs, h1, h2, h3⟩ := st.fr
  exact ⟨cs, h1, h2, h3, zahg h2 (zgk st.frs.1) h3⟩
theorem zabg {rc cs : List AV} {k : Nat} (h1 : H gr = some (.row 13 rc)) (h2 : rc[4]? = some (.slc gf 0 (k + 1))) (h3 : H gf = some (.row 4 cs)) (hk : k ≤ 4096) {Q : AV → Heap → Nat → Prop} (hq : Q (.ptr gf (k * 4)) H n) : za Tryd.prog 84 [.ptr gr 0] H n Q := by
  refine zns _ H n _ ?_
  have hw2 : IntKind.i64.wrap (k : Int) = k := i64w (by omega)
  simp [zio, h1, h2, hw2]
  exact ⟨by omega, hq⟩
end
end Go.Proofs.YtobioljjoipimaaDoor
set_option maxRecDepth 8000
namespace Go.Proofs.YtobioljjoipimaaDoor
open Go Go.RowKit
end Go.Proofs.YtobioljjoipimaaDoor
set_option maxRecDepth 8000
namespace Go.Proofs.YtobioljjoipimaaDoor
open Go Go.RowKit
section
variable {H0 H : Heap} {lo n gr gs gf : Nat} {id trip : Int} {p : Prg} {s : Spt} {fs : List Frm} {ss : List (AV × AV)} {f : Frm} {va sa : AV} {h : List Cl} {ha : AV} {m : Pmt} {e : Evt}
@[simp] theorem zard (v : Val) : v.avs[0]? = some (.int .i64 v.kind) := rfl
@[simp] theorem zarc (v : Val) : v.avs[1]? = some (.int .i64 v.n) := rfl
@[simp] theorem zarb (v : Val) : v.avs[2]? = some (.str v.text) := rfl
@[simp] theorem zara (v : Val) : v.avs.take 3 = v.avs := rfl
theorem zgh (v : Val) : ∀ x ∈ v.avs, x.one = true := fun x hx => zaj (zda v x hx)
def Fct.avs (x : Fct) : List AV := .str x.key :: x.val.avs
end
end Go.Proofs.YtobioljjoipimaaDoor
set_option maxRecDepth 8000
namespace Go.Proofs.YtobioljjoipimaaDoor
open Go Go.RowKit
section
variable {H0 H : Heap} {lo n gr gs gf : Nat} {id trip : Int} {p : Prg} {s : Spt} {fs : List Frm} {ss : List (AV × AV)} {f : Frm} {va sa : AV} {h : List Cl} {ha : AV} {m : Pmt} {e : Evt}
@[simp ↓] theorem zaqd {g o : Nat} {k : AV → Prop} : BP .eql (.ptr g o) .nilp k = k (.bool false) := rfl
end
end Go.Proofs.YtobioljjoipimaaDoor
set_option maxRecDepth 8000
namespace Go.Proofs.YtobioljjoipimaaDoor
open Go Go.RowKit
section
variable {H0 H : Heap} {lo n gr gs gf : Nat} {id trip : Int} {p : Prg} {s : Spt} {fs : List Frm} {ss : List (AV × AV)} {f : Frm} {va sa : AV} {h : List Cl} {ha : AV} {m : Pmt} {e : Evt}
end
end Go.Proofs.YtobioljjoipimaaDoor
set_option maxRecDepth 8000
namespace Go.Proofs.YtobioljjoipimaaDoor
open Go Go.RowKit
section
variable {ki : IntKind}
theorem zahj {e g off len mm : Nat} {x : AV} {H : Heap} {cells news : List AV} {rd : List Nat} {kh : AV → Heap → Prop} (hs : zg e H x = some (mm, news, rd)) (hg : H g = some (.row e cells)) (hle : off + len * e ≤ cells.length) (hone : news.all AV.one = true)
    (hk : kh (.int .i64 (min mm len : Nat)) (H.put g (some (.row e (zag cells off (news.take (min mm len * e))))))) : CP e (.slc g off len) x H kh := by
  unfold CP COPY
  rw [hs]
  simp only [hg]
  exact ⟨trivial, hle, hone, hk⟩
@[simp ↓] theorem zarj {s g off len : Nat} {a : Int} {H : Heap} {k : AV → Prop} : SL s (.slc g off len) (some (.int ki a)) none H k = ROWK (H g) fun sz _ => sz = s ∧ 0 ≤ a ∧ a ≤ len ∧ k (.slc g (off + a.toNat * s) ((len : Int) - a).toNat) := by
  unfold SL
  rw [zzh]; rfl
@[simp ↓] theorem zark {s g off len : Nat} {a : Int} {H : Heap} {k : AV → Prop} : SL s (.slc g off len) none (some (.int ki a)) H k = ROWK (H g) fun sz _ => sz = s ∧ 0 ≤ a ∧ a ≤ len ∧ k (.slc g off a.toNat) := by
  unfold SL
  rw [zadx]; rfl
@[simp ↓] theorem zaoe {s : Nat} {a : Int} {H : Heap} {k : AV → Prop} : SL s .nils (some (.int ki a)) none H k = (a = 0 ∧ k .nils) := by
  simp [SL, zbv, lohi, PURE, qk]
@[simp ↓] theorem zaoc {s : Nat} {a : Int} {H : Heap} {k : AV → Prop} : SL s .zs (some (.int ki a)) none H k = (a = 0 ∧ k .zs) := by
  simp [SL, zbv, lohi, PURE, qk]
@[simp ↓] theorem zaod {s : Nat} {a : Int} {H : Heap} {k : AV → Prop} : SL s .zs none (some (.int ki a)) H k = (a = 0 ∧ k .zs) := by
  simp [SL, zbv, lohi, PURE, qk]
@[simp ↓] theorem zaof {s : Nat} {a : Int} {H : Heap} {k : AV → Prop} : SL s .nils none (some (.int ki a)) H k = (a = 0 ∧ k .nils) := by
  simp [SL, zbv, lohi, PURE, qk]
end
section
variable {H0 H : Heap} {lo n gr gs gf : Nat} {id trip : Int} {p : Prg} {s : Spt} {fs : List Frm} {ss : List (AV × AV)} {f : Frm} {va sa : AV} {h : List Cl} {ha : AV} {m : Pmt} {e : Evt}
theorem zcx (ss : List (AV × AV)) (t : AV × AV) : owns (ss ++ [t]) = owns ss ++ (own t.1 ++ own t.2) := by simp [owns]
theorem RL.call (st : RL H0 H lo n gr gs gf id trip p s fs ss f va sa h ha m e) {H' : Heap} {n' gv gf' N : Nat} {f2 f3 : Frm} {sa2 : AV} (hn : n ≤ n') (hv : n ≤ gv ∧ gv < n') (hg : n ≤ gf' ∧ gf' < n') (hne : gv ≠ gf')
    (run' : H' gr = some (.row 13 (zez id trip p (.slc gf' 0 (fs.length + 1 + 1)) ha m gs e))) (fr' : ∃ cs, H' gf' = some (.row 4 cs) ∧ cs.take ((fs.length + 1 + 1) * 4) = frow (fs ++ [f2]) (ss ++ [(va, sa2)]) ++ [.int .i64 f3.fn, .int .i64 f3.at_, .slc gv 0 N, .nils] ∧ (fs.length + 1 + 1) * 4 ≤ cs.length)
    (hvars : f2.vars = f.vars) (sa2' : Slot H' 3 f2.stack.length (rowV f2.stack) sa2) (own2 : own sa2 = own sa) (sv' : Slot H' 3 f3.vars.length (rowV f3.vars) (.slc gv 0 N)) (st3 : f3.stack = [])
    (hk : ∀ x, x < n → x ≠ gr → x ≠ gf → H' x = H x) : RL H0 H' lo n' gr gs gf' id trip p s (fs ++ [f2]) (ss ++ [(va, sa2)]) f3 (.slc gv 0 N) .nils h ha m e := by
  have ap := st.apart
  have b := st.bd
  simp only [List.mem_cons, List.mem_append] at b
  have hl := st.le
  refine ⟨by rw [run']; simp, by simpa using fr', ?_, sv', .inl ⟨by rw [st3]; rfl, .inl rfl⟩, st.hp.keep fun x hx => hk x (ap.h x hx).1 (ap.h x hx).2.1 (ap.h x hx).2.2.2.1, by rw [hk gs ap.s ap.rs.symm ap.sf]; exact st.spot, ?_, by have := st.gsn; omega, ?_, ?_, by omega⟩
  · refine (st.frs.keep fun x hx => hk x (ap.w x hx).1 (ap.w x hx).2.1 (ap.w x hx).2.2.2.1).snoc ?_ sa2'
    rw [hvars]
    exact st.sv.keep fun x hx => hk x (ap.v x hx).1 (ap.v x hx).2.1 (ap.v x hx).2.2.2.1
  · have nd := st.nd
    simp only [List.nodup_cons, List.nodup_append, List.mem_cons, List.mem_append, not_or] at nd
    obtain ⟨⟨a1, a2, a3, a4, a5, a6⟩, ⟨b1, b2, b3, b4, b5⟩, ⟨c1, c2, c3, c4⟩, n1, ⟨n2, ⟨n3, n4, n5⟩, n6⟩, n7⟩ := nd
    have r := ap.r
    have s' := ap.s
    have fh : ∀ x, (x ∈ own ha ∨ x ∈ owns ss ∨ x ∈ own va ∨ x ∈ own sa) → x < n := fun x hx => by
      rcases hx with h | h | h | h
      · exact (ap.h x h).1
      · exact (ap.w x h).1
      · exact (ap.v x h).1
      · exact (ap.t x h).1
    rw [zcx]
    have ow1 : own (.slc gv 0 N) = [gv] := rfl
    have ow2 : own .nils = [] := rfl
    simp only [own2, ow1, ow2, List.append_nil, List.nodup_cons, List.nodup_append, List.mem_cons, List.mem_append, not_or, List.not_mem_nil, or_false, not_false_eq_true, List.nodup_nil, and_true]
    refine ⟨⟨a1, by omega, a3, ⟨a4, a5, a6⟩, by omega⟩, ⟨by omega, b2, ⟨b3, b4, b5⟩, by omega⟩, ⟨fun h => by have := fh _ (.inl h); omega, ⟨fun h => by have := fh _ (.inr (.inl h)); omega, fun h => by have := fh _ (.inr (.inr (.inl h))); omega, fun h => by have := fh _ (.inr (.inr (.inr h))); omega⟩, fun h => hne h.symm⟩, n1, ⟨⟨n2, ⟨n3, n4, n5⟩, n6⟩, ?_⟩, ?_⟩
    · refine ⟨trivial, ?_⟩
      rintro x hx y rfl rfl
      have := fh x (.inr hx); omega
    · rintro x hx y (hy | rfl) rfl
      · exact n7 x hx x hy rfl
      · have := fh x (.inl hx); omega
  · intro g hg'
    rw [zcx] at hg'
    have ow1 : own (.slc gv 0 N) = [gv] := rfl
    have ow2 : own .nils = [] := rfl
    simp only [own2, ow1, ow2, List.append_nil, List.mem_cons, List.mem_append, List.not_mem_nil, or_false] at hg'
    have old : (lo ≤ g ∧ g < n) → lo ≤ g ∧ g < n' := fun h => by omega
    rcases hg' with h | h | h | (h | h | h) | h
    · exact old (b g (.inl h))
    · omega
    · exact old (b g (.inr (.inr (.inl h))))
    · exact old (b g (.inr (.inr (.inr (.inl h)))))
    · exact old (b g (.inr (.inr (.inr (.inr (.inl h))))))
    · exact old (b g (.inr (.inr (.inr (.inr (.inr h))))))
    · omega
  · intro g hg'
    have l1 := (b gr (.inl rfl)).1
    have l2 := (b gf (.inr (.inl rfl))).1
    rw [hk g (by omega) (by omega) (by omega)]
    exact st.keep g hg'
theorem zahk {p : Prg} {k : Int} (h : k.toNat < p.codes.length) : p.codes[k.toNat]? = some (VM.codeAt p k) := by
  unfold VM.codeAt
  rw [List.getElem?_eq_getElem h, List.getD_eq_getElem?_getD, List.getElem?_eq_getElem h]; rfl
end
end Go.Proofs.YtobioljjoipimaaDoor
set_option maxRecDepth 8000
namespace Go.Proofs.YtobioljjoipimaaDoor
open Go Go.RowKit
def Fin (H0 H : Heap) (lo gr : Nat) (id trip : Int) (p : Prg) (frames : List Frm) (h : List Cl) (m : Pmt) (e : Evt) : Prop := ∃ gs gf ss ha cs, H gr = some (.row 13 (zez id trip p (.slc gf 0 frames.length) ha m gs e)) ∧ H gf = some (.row 4 cs) ∧ cs.take (frames.length * 4) = frow frames ss ∧ frames.length * 4 ≤ cs.length ∧
  zae H frames ss ∧ Slot H 6 h.length (rowC h) ha ∧ lo ≤ gf ∧ (∀ g ∈ own ha, lo ≤ g) ∧ (∀ g ∈ owns ss, lo ≤ g) ∧ Keep lo H H0
section
variable {H0 H : Heap} {lo n gr gs gf : Nat} {id trip : Int} {p : Prg} {s : Spt} {fs : List Frm} {ss : List (AV × AV)} {f : Frm} {va sa : AV} {h : List Cl} {ha : AV} {m : Pmt} {e : Evt}
theorem RL.fin (st : RL H0 H lo n gr gs gf id trip p s fs ss f va sa h ha m e) : Fin H0 H lo gr id trip p (fs ++ [f]) h m e := by
  obtain ⟨cs, c1, c2, c3⟩ := st.fr
  have b := st.bd
  simp only [List.mem_cons, List.mem_append] at b
  refine ⟨gs, gf, ss ++ [(va, sa)], ha, cs, by rw [st.run]; simp, c1, by rw [zgu st.frs.1]; simpa using c2, by simpa using c3, st.frs.snoc st.sv st.st, st.hp, (b gf (.inr (.inl rfl))).1, fun g hg => (b g (.inr (.inr (.inl hg)))).1, fun g hg => ?_, st.keep⟩
  rw [zcx] at hg
  rcases List.mem_append.1 hg with h | h
  · exact (b g (.inr (.inr (.inr (.inl h))))).1
  · rcases List.mem_append.1 h with h | h
    · exact (b g (.inr (.inr (.inr (.inr (.inl h)))))).1
    · exact (b g (.inr (.inr (.inr (.inr (.inr h)))))).1
theorem RL.back {gs' : List Frm} {g' : Frm} {ts : List (AV × AV)} {t : AV × AV} (st : RL H0 H lo n gr gs gf id trip p s (gs' ++ [g']) (ts ++ [t]) f va sa h ha m e) : RL H0 (H.put gr (some (.row 13 (zez id trip p (.slc gf 0 (gs'.length + 1)) ha m gs e)))) lo n gr gs gf id trip p s gs' ts g' t.1 t.2 h ha m e := by
  have ap := st.apart
  have b := st.bd
  obtain ⟨cs, c1, c2, c3⟩ := st.fr
  have hk : ∀ x, x ≠ gr → (H.put gr (some (.row 13 (zez id trip p (.slc gf 0 (gs'.length + 1)) ha m gs e)))) x = H x := fun x hx => Heap.put_ne _ _ hx
  obtain ⟨f1, f2, f3⟩ := st.frs.last
  have ow : ∀ x ∈ owns ts ++ (own t.1 ++ own t.2), x ∈ owns (ts ++ [t]) := fun x hx => by rw [zcx]; exact hx
  have wr : ∀ x ∈ owns ts ++ (own t.1 ++ own t.2), x ≠ gr := fun x hx => (ap.w x (ow x hx)).2.1
  refine ⟨Heap.put_at _ _ _, ⟨cs, by rw [hk _ ap.rf.symm]; exact c1, ?_, by simp at c3; omega⟩, f1.keep fun x hx => hk x (wr x (List.mem_append_left _ hx)), f2.keep fun x hx => hk x (wr x (List.mem_append_right _ (List.mem_append_left _ hx))), f3.keep fun x hx => hk x (wr x (List.mem_append_right _ (List.mem_append_right _ hx))),
    st.hp.keep fun x hx => hk x (ap.h x hx).2.1, by rw [hk _ ap.rs.symm]; exact st.spot, ?_, st.gsn, ?_, ?_, st.le⟩
  · have hl := zgk st.frs.1
    have e1 := congrArg (List.take ((gs'.length + 1) * 4)) c2
    rw [List.take_take, Nat.min_eq_left (by simp; omega)] at e1
    rw [e1, List.take_append_of_le_length (by rw [hl]; simp), List.take_of_length_le (by rw [hl]; simp), zgu f1.1]
  · have nd := st.nd
    rw [zcx] at nd
    refine List.Sublist.nodup ?_ nd
    refine .cons_cons _ (.cons_cons _ (.cons_cons _ (List.Sublist.append (List.Sublist.refl _) ?_)))
    exact List.sublist_append_left _ _
  · intro g hg
    refine b g ?_
    simp only [List.mem_cons, List.mem_append] at hg ⊢
    rcases hg with h | h | h | h | h | h
    · exact .inl h
    · exact .inr (.inl h)
    · exact .inr (.inr (.inl h))
    · exact .inr (.inr (.inr (.inl (ow _ (by simp [h])))))
    · exact .inr (.inr (.inr (.inl (ow _ (by simp [h])))))
    · exact .inr (.inr (.inr (.inl (ow _ (by simp [h])))))
  · intro g hg
    have l1 := (b gr (by simp)).1
    rw [hk g (by omega)]
    exact st.keep g hg
theorem Slot.frzC {a : AV} {h : List Cl} (hs : Slot H 6 h.length (rowC h) a) : Frz H 0 a (.ro (h.map Cl.avs)) := by
  rcases hs with ⟨h0, rfl | rfl⟩ | ⟨g, cs, rfl, h1, h2, h3⟩
  · rw [List.eq_nil_of_length_eq_zero h0]; exact .nils
  · rw [List.eq_nil_of_length_eq_zero h0]; exact .zs
  · refine .slc g 0 _ 6 cs _ (Nat.zero_le _) h1 (by omega) (by simp) (zdc h) (fun i j => (cs[i * 6 + j]?).getD .junk) (fun i x j v hx hv => ?_) (fun i x j v hx hv => ?_)
    all_goals
      have hj : j < 6 := by
        have := (List.getElem?_eq_some_iff.1 hv).1
        rw [zdc h x (List.mem_of_getElem? hx)] at this; exact this
      have hi : i < h.length := by have := (List.getElem?_eq_some_iff.1 hx).1; simpa using this
      have e : cs[i * 6 + j]? = some v := by
        have e1 := zfb (zdc h) hx
        have e2 : (rowC h)[i * 6 + j]? = some v := by
          have := congrArg (·[j]?) e1
          simp only [List.getElem?_take, List.getElem?_drop, hj, if_true] at this
          unfold rowC; rw [this]; exact hv
        rw [← h2, List.getElem?_take, if_pos (by omega)] at e2
        exact e2
    · rw [Nat.zero_add, e]; rfl
    · rw [e]
      exact .same _ (zey (zab h x (List.mem_of_getElem? hx) v (List.mem_of_getElem? hv)))
theorem zx.show {a : AV} {h : List Cl} {v : Val} (hs : Slot H 6 h.length (rowC h) a) (hc : zgm h) (hv : VM.WrongOk v h.length) {nx : Nat} {k : Kt} (hk : k (.str (VM.vshow h 4 v)) (own a) [] []) : zx Tryd.prog (.clo 94 []) [a, .agg v.avs, .int .i64 4] H nx k := by
  refine zx.of_qcr (own a) (fun g hg => ?_) (fun H' n' hh => QC.reads (ztm hc 4 v 4 hv rfl (by omega) (by omega)) (by simp) (.cons (Slot.frzC (hs.keep fun g hg => (hh g hg).1)) (.cons (.same _ (zud v)) (.cons (.same _ (.int _ _)) .nil)))) (.str _) hk
  rcases hs with ⟨_, rfl | rfl⟩ | ⟨g', cs, rfl, h1, _⟩
  · simp [own] at hg
  · simp [own] at hg
  · simp [own] at hg; subst hg; rw [h1]; rfl
end
end Go.Proofs.YtobioljjoipimaaDoor
