/- What a call made may be forgotten, or is never written again: then it is read by value. How what is to be shown is taken apart. More of how what is to be shown is taken apart. Maps, and more. Calls that only read: what they are handed may be owned. How Go data lies in memory, as Lean data: a predicate with the set of blocks that it rests on. The plain data of the program: values, cells, code, programs, agents; and how they lie in memory. What is wrong with values, programs, and agents: plain functions. Values, and cells of values: plain functions (chapter 1). What is wrong with a value: what the program's function, and the document's, make of it. -/
import Derived.Test.YtejohcohkgcmhaaDoorG4
import Derived.IntWalk
import Derived.WalkKit
import Derived.Deep.Slices
import Derived.Lib.ItoaNum
import Derived.Test.YtejohcohkgcmhaaDoorG6
namespace Go.Proofs.YtejohcohkgcmhaaDoor
open Go Go.RowKit

/-- A value that names such numbers alone. -/
inductive Bel (A : Nat → Prop) : AV → Prop
  | junk : Bel A .junk
  | und : Bel A .und
  | int (k : IntKind) (n : Int) : Bel A (.int k n)
  | bool (b : Bool) : Bel A (.bool b)
  | bany : Bel A .bany
  | str (s : List UInt8) : Bel A (.str s)
  | nilp : Bel A .nilp
  | nils : Bel A .nils
  | nilf : Bel A .nilf
  | nilm : Bel A .nilm
  | zs : Bel A .zs
  | ptr (g off : Nat) : A g → Bel A (.ptr g off)
  | slc (g off len : Nat) : A g → Bel A (.slc g off len)
  | amap (g : Nat) : A g → Bel A (.amap g)
  | ro (xs : List (List AV)) : (∀ (i : Nat) (x : List AV) (j : Nat) (v : AV), xs[i]? = some x → x[j]? = some v → Bel A v) → Bel A (.ro xs)
  | rop (cs : List AV) (o : Nat) : (∀ (j : Nat) (v : AV), cs[j]? = some v → Bel A v) → Bel A (.rop cs o)
  | agg (xs : List AV) : (∀ (j : Nat) (v : AV), xs[j]? = some v → Bel A v) → Bel A (.agg xs)
  | tup (xs : List AV) : (∀ (j : Nat) (v : AV), xs[j]? = some v → Bel A v) → Bel A (.tup xs)
  | clo (f : FuncId) (xs : List AV) : (∀ (j : Nat) (v : AV), xs[j]? = some v → Bel A v) → Bel A (.clo f xs)

/-- An object that names such numbers alone. -/
def BelO (A : Nat → Prop) : AObj → Prop
  | .row _ cells => ∀ (j : Nat) x, cells[j]? = some x → Bel A x
  | .mp es => ∀ (j : Nat) kv, es[j]? = some kv → Bel A kv.1 ∧ Bel A kv.2

theorem VRel.bel {K : KHeap} {ρ : Nat → Loc} {A : Nat → Prop} {v : AV} {c : Value} (h : VRel K ρ A v c) : Bel A v := by
  induction h with
  | junk v => exact .junk
  | und => exact .und
  | int k n => exact .int k n
  | bool b => exact .bool b
  | bany b => exact .bany
  | str s => exact .str s
  | nilp => exact .nilp
  | nils => exact .nils
  | nilf => exact .nilf
  | nilm => exact .nilm
  | zs a => exact .zs
  | ptr g off a hg ha => exact .ptr g off hg
  | slc g off len cap a hg h1 h2 => exact .slc g off len hg
  | amap g r hg hr => exact .amap g hg
  | ro xs a len cap sz b off C h1 h2 h3 h4 h5 _ ih => exact .ro xs ih
  | rop cs o b p a C h1 h2 _ ih => exact .rop cs o ih
  | agg xs cs h1 _ ih =>
    exact .agg xs fun j v hv => by
      have hlt := (List.getElem?_eq_some_iff.1 hv).1
      exact ih j v _ hv (Array.getElem?_eq_getElem (by omega))
  | tup xs cs h1 _ ih =>
    exact .tup xs fun j v hv => by
      have hlt := (List.getElem?_eq_some_iff.1 hv).1
      exact ih j v _ hv (Array.getElem?_eq_getElem (by omega))
  | clo f xs cs h1 _ ih =>
    exact .clo f xs fun j v hv => by
      have hlt := (List.getElem?_eq_some_iff.1 hv).1
      exact ih j v _ hv (Array.getElem?_eq_getElem (by omega))

theorem VRel.restrict {K : KHeap} {ρ : Nat → Loc} {A A' : Nat → Prop} {v : AV} {c : Value} (h : VRel K ρ A v c) : Bel A' v → VRel K ρ A' v c := by
  induction h with
  | junk v => exact fun _ => .junk v
  | und => exact fun _ => .und
  | int k n => exact fun _ => .int k n
  | bool b => exact fun _ => .bool b
  | bany b => exact fun _ => .bany b
  | str s => exact fun _ => .str s
  | nilp => exact fun _ => .nilp
  | nils => exact fun _ => .nils
  | nilf => exact fun _ => .nilf
  | nilm => exact fun _ => .nilm
  | zs a => exact fun _ => .zs a
  | ptr g off a hg ha => intro hb; cases hb with | ptr _ _ h => exact .ptr g off a h ha
  | slc g off len cap a hg h1 h2 => intro hb; cases hb with | slc _ _ _ h => exact .slc g off len cap a h h1 h2
  | amap g r hg hr => intro hb; cases hb with | amap _ h => exact .amap g r h hr
  | ro xs a len cap sz b off C h1 h2 h3 h4 h5 _ ih => intro hb; cases hb with | ro _ h => exact .ro xs a len cap sz b off C h1 h2 h3 h4 h5 fun i x j v hx hv => ih i x j v hx hv (h i x j v hx hv)
  | rop cs o b p a C h1 h2 _ ih => intro hb; cases hb with | rop _ _ h => exact .rop cs o b p a C h1 h2 fun j v hv => ih j v hv (h j v hv)
  | agg xs cs h1 _ ih => intro hb; cases hb with | agg _ h => exact .agg xs cs h1 fun j v c hv hc => ih j v c hv hc (h j v hv)
  | tup xs cs h1 _ ih => intro hb; cases hb with | tup _ h => exact .tup xs cs h1 fun j v c hv hc => ih j v c hv hc (h j v hv)
  | clo f xs cs h1 _ ih => intro hb; cases hb with | clo _ _ h => exact .clo f xs cs h1 fun j v c hv hc => ih j v c hv hc (h j v hv)

/-- A value, with what it names of what goes read by value. -/
inductive Frz (H : Heap) (nx : Nat) : AV → AV → Prop
  | same (v : AV) : Bel (· < nx) v → Frz H nx v v
  | nils : Frz H nx .nils (.ro [])
  | zs : Frz H nx .zs (.ro [])
  | slc (g off len sz : Nat) (cells : List AV) (xs : List (List AV)) : nx ≤ g → H g = some (.row sz cells) → off + len * sz ≤ cells.length → xs.length = len → (∀ x ∈ xs, x.length = sz) →
      (U : Nat → Nat → AV) → (∀ (i : Nat) (x : List AV) (j : Nat) (v : AV), xs[i]? = some x → x[j]? = some v → cells[off + i * sz + j]? = some (U i j)) →
      (∀ (i : Nat) (x : List AV) (j : Nat) (v : AV), xs[i]? = some x → x[j]? = some v → Frz H nx (U i j) v) → Frz H nx (.slc g off len) (.ro xs)
  | agg (xs ys : List AV) : ys.length = xs.length → (∀ (j : Nat) (v u : AV), xs[j]? = some v → ys[j]? = some u → Frz H nx v u) → Frz H nx (.agg xs) (.agg ys)
  | tup (xs ys : List AV) : ys.length = xs.length → (∀ (j : Nat) (v u : AV), xs[j]? = some v → ys[j]? = some u → Frz H nx v u) → Frz H nx (.tup xs) (.tup ys)

theorem Frz.rel {A : Nat → Prop} {ρ : Nat → Loc} {H H0 : Heap} {w : World} {nx : Nat} (s : Sim A ρ H w) (h0 : ∀ g o, H0 g = some o → g < nx ∧ H g = some o) {v u : AV} (h : Frz H nx v u) :
    ∀ (c : Value), VRel (Kof ρ H w) ρ A v c → VRel (Kof ρ H0 w) ρ (· < nx) u c := by
  have hK : ∀ b o, Kof ρ H w b = some o → Kof ρ H0 w b = some o := fun b o hb => by
    obtain ⟨h1, h2⟩ := Kof_some.1 hb
    refine Kof_some.2 ⟨fun g hg => ?_, h2⟩
    obtain ⟨o', ho'⟩ := Option.isSome_iff_exists.1 hg
    exact h1 g (by rw [(h0 g o' ho').2]; rfl)
  induction h with
  | same v hb => exact fun c hc => (hc.restrict hb).mono hK (fun _ h => ⟨rfl, h⟩)
  | nils =>
    intro c hc
    cases hc
    exact .ro [] none 0 0 0 0 0 (fun _ _ => undef) rfl (Nat.le_refl _) (fun h => absurd rfl h) (fun x hx => by cases hx) (fun i x j v hx => by simp at hx) (fun i x j v hx => by simp at hx)
  | zs =>
    intro c hc
    cases hc with
    | zs a => exact .ro [] a 0 0 0 0 0 (fun _ _ => undef) rfl (Nat.le_refl _) (fun h => absurd rfl h) (fun x hx => by cases hx) (fun i x j v hx => by simp at hx) (fun i x j v hx => by simp at hx)
  | slc g off len sz cells xs hg hH hle hl hsz U hU _ ih =>
    intro c hc
    cases hc with
    | slc _ _ _ cap a hA hcl hcap =>
      obtain ⟨cc, el, lo, hi, q1, q2, q3, q4, q5, q6⟩ := s.obj g _ hH
      have hKb : Kof ρ H0 w (ρ g).block = some (.cells cc el (lo, hi)) := by
        refine Kof_some.2 ⟨fun x hx e => ?_, q1⟩
        obtain ⟨o', ho'⟩ := Option.isSome_iff_exists.1 hx
        obtain ⟨h1, h2⟩ := h0 x o' ho'
        have := s.inj x g (by rw [h2]; rfl) (by rw [hH]; rfl) e
        omega
      have hex : ∀ (i : Nat) (x : List AV) (j : Nat) (v : AV), xs[i]? = some x → x[j]? = some v → ∃ cv, cc[(ρ g).base + (off + i * sz + j)]? = some cv ∧ VRel (Kof ρ H w) ρ A (U i j) cv := fun i x j v hx hv => q6 _ _ (hU i x j v hx hv)
      refine .ro xs a len cap sz (ρ g).block ((ρ g).base + off) (fun i j => (cc[(ρ g).base + (off + i * sz + j)]?).getD undef) hl.symm hcl (fun hne => ?_) hsz (fun i x j v hx hv => ?_) (fun i x j v hx hv => ?_)
      · have hpos : 0 < xs.length := List.length_pos_iff.2 hne
        exact (hcap (by omega)).2
      · obtain ⟨cv, h1, h2⟩ := hex i x j v hx hv
        unfold kcell
        rw [hKb]
        simp only [h1, Option.getD_some]
        rw [← h1]; congr 1; omega
      · obtain ⟨cv, h1, h2⟩ := hex i x j v hx hv
        rw [h1]
        exact ih i x j v hx hv cv h2
  | agg xs ys hl _ ih =>
    intro c hc
    cases hc with
    | agg _ cs h1 h2 =>
    exact .agg ys cs (by omega) fun j v c hv hc => by
        have hlt := (List.getElem?_eq_some_iff.1 hv).1
        have hx : xs[j]? = some (xs[j]'(by omega)) := List.getElem?_eq_getElem (by omega)
        exact ih j _ v hx hv c (h2 j _ c hx hc)
  | tup xs ys hl _ ih =>
    intro c hc
    cases hc with
    | tup _ cs h1 h2 =>
    exact .tup ys cs (by omega) fun j v c hv hc => by
        have hlt := (List.getElem?_eq_some_iff.1 hv).1
        have hx : xs[j]? = some (xs[j]'(by omega)) := List.getElem?_eq_getElem (by omega)
        exact ih j _ v hx hv c (h2 j _ c hx hc)

/-- What the call made goes, or is by value from now on. -/
theorem ACalls.gc {P : Program} {f : FuncId} {args : List AV} {H : Heap} {nx : Nat} {Q : AV → Heap → Nat → Prop} {R : AV → Heap → Prop} (h : ACalls P f args H nx Q)
    (hq : ∀ v H' nx', Q v H' nx' → ∃ r H0, R r H0 ∧ Frz H' nx v r ∧ (∀ g o, H0 g = some o → g < nx ∧ H' g = some o ∧ (H g = some o ∨ BelO (· < nx) o))) :
    ACalls P f args H nx fun v H' nx' => R v H' ∧ nx' = nx := by
  intro ρ w cargs s ha
  refine flowUpon_mono (h ρ w cargs s ha) fun cv w' ⟨v, H', nx', ρ', q1, q2, q3, q4⟩ => ?_
  obtain ⟨r, H0, hR, hF, h0⟩ := hq v H' nx' q1
  have h0' : ∀ g o, H0 g = some o → g < nx ∧ H' g = some o := fun g o ho => ⟨(h0 g o ho).1, (h0 g o ho).2.1⟩
  have hK : ∀ b o, Kof ρ' H' w' b = some o → Kof ρ' H0 w' b = some o := fun b o hb => by
    obtain ⟨h1, h2⟩ := Kof_some.1 hb
    refine Kof_some.2 ⟨fun g hg => ?_, h2⟩
    obtain ⟨o', ho'⟩ := Option.isSome_iff_exists.1 hg
    exact h1 g (by rw [(h0' g o' ho').2]; rfl)
  refine ⟨r, H0, nx, ρ', ⟨hR, rfl⟩, ⟨fun g o ho => (h0 g o ho).1, fun g o ho => ?_, fun x y hx hy hb => ?_, q2.lay.mono hK⟩, hF.rel q2 h0' cv q3, ⟨fun g hg => ⟨(q4.agree g hg).1, hg⟩, fun b o hb => hK b o (q4.k b o hb), q4.os, q4.tape, q4.output, q4.size⟩⟩
  · obtain ⟨hg, hH', hbel⟩ := h0 g o ho
    have hobj := q2.obj g o hH'
    have hcells : BelO (· < nx) o := by
      rcases hbel with hs | hb
      · have := s.obj g o hs
        cases o with
        | row sz cells =>
          obtain ⟨_, _, _, _, _, _, _, _, _, p6⟩ := this
          intro j x hx
          obtain ⟨cv, _, hv⟩ := p6 j x hx
          exact hv.bel
        | mp es =>
          obtain ⟨en, cl, p1, p2, p3⟩ := this
          intro j kv hkv
          have hlt := (List.getElem?_eq_some_iff.1 hkv).1
          obtain ⟨a1, a2⟩ := p3 j kv _ hkv (Array.getElem?_eq_getElem (by omega))
          exact ⟨a1.bel, a2.bel⟩
      · exact hb
    cases o with
    | row sz cells =>
      obtain ⟨c, el, lo, hi, p1, p2, p3, p4, p5, p6⟩ := hobj
      exact ⟨c, el, lo, hi, p1, p2, p3, p4, p5, fun j x hx => let ⟨cv, a1, a2⟩ := p6 j x hx; ⟨cv, a1, (a2.restrict (hcells j x hx)).mono hK (fun _ h => ⟨rfl, h⟩)⟩⟩
    | mp es =>
      obtain ⟨en, cl, p1, p2, p3⟩ := hobj
      exact ⟨en, cl, p1, p2, fun j kv x hkv hx => let ⟨a1, a2⟩ := p3 j kv x hkv hx; ⟨(a1.restrict (hcells j kv hkv).1).mono hK (fun _ h => ⟨rfl, h⟩), (a2.restrict (hcells j kv hkv).2).mono hK (fun _ h => ⟨rfl, h⟩)⟩⟩
  · obtain ⟨o1, ho1⟩ := Option.isSome_iff_exists.1 hx
    obtain ⟨o2, ho2⟩ := Option.isSome_iff_exists.1 hy
    exact q2.inj x y (by rw [(h0' x o1 ho1).2]; rfl) (by rw [(h0' y o2 ho2).2]; rfl) hb

/-- A call that only computes. -/
def QC (P : Program) (f : FuncId) (args : List AV) (r : AV) : Prop := ∀ H nx, ACalls P f args H nx fun v H' nx' => v = r ∧ H' = H ∧ nx' = nx

/-- Numbers that are not taken have no object. -/
theorem ACalls.tidy {P : Program} {f : FuncId} {args : List AV} {H : Heap} {nx : Nat} {Q : AV → Heap → Nat → Prop} (h : (∀ g o, H g = some o → g < nx) → ACalls P f args H nx Q) : ACalls P f args H nx Q :=
  fun ρ w cargs s ha => h (fun g o ho => s.live g o ho) ρ w cargs s ha

theorem QC.of {P : Program} {f : FuncId} {args : List AV} {r : AV} (h : ∀ H nx, ACalls P f args H nx fun v H' _ => Frz H' nx v r ∧ ∀ g, g < nx → H' g = H g) : QC P f args r := by
  intro H nx
  refine ACalls.tidy fun hlive => ?_
  refine (ACalls.gc (R := fun v H' => v = r ∧ H' = H) (h H nx) fun v H' nx' ⟨h1, h2⟩ => ⟨r, H, ⟨rfl, rfl⟩, h1, fun g o ho => ⟨hlive g o ho, by rw [h2 g (hlive g o ho)]; exact ho, .inl ho⟩⟩).mono fun v H' nx' ⟨⟨a, b⟩, c⟩ => ⟨a, b, c⟩

theorem Bel.mono {A B : Nat → Prop} {v : AV} (h : Bel A v) (hAB : ∀ g, A g → B g) : Bel B v := by
  induction h with
  | junk => exact .junk
  | und => exact .und
  | int k n => exact .int k n
  | bool b => exact .bool b
  | bany => exact .bany
  | str s => exact .str s
  | nilp => exact .nilp
  | nils => exact .nils
  | nilf => exact .nilf
  | nilm => exact .nilm
  | zs => exact .zs
  | ptr g off h => exact .ptr g off (hAB g h)
  | slc g off len h => exact .slc g off len (hAB g h)
  | amap g h => exact .amap g (hAB g h)
  | ro xs _ ih => exact .ro xs ih
  | rop cs o _ ih => exact .rop cs o ih
  | agg xs _ ih => exact .agg xs ih
  | tup xs _ ih => exact .tup xs ih
  | clo f xs _ ih => exact .clo f xs ih

theorem ObjRel.restrict {K : KHeap} {ρ : Nat → Loc} {A A' : Nat → Prop} {w : World} {l : Loc} {o : AObj} (h : ObjRel K ρ A w l o) (hb : BelO A' o) : ObjRel K ρ A' w l o := by
  cases o with
  | row sz cells =>
    obtain ⟨c, el, lo, hi, p1, p2, p3, p4, p5, p6⟩ := h
    exact ⟨c, el, lo, hi, p1, p2, p3, p4, p5, fun j x hx => let ⟨cv, a1, a2⟩ := p6 j x hx; ⟨cv, a1, a2.restrict (hb j x hx)⟩⟩
  | mp es =>
    obtain ⟨en, cl, p1, p2, p3⟩ := h
    exact ⟨en, cl, p1, p2, fun j kv x hkv hx => let ⟨a1, a2⟩ := p3 j kv x hkv hx; ⟨a1.restrict (hb j kv hkv).1, a2.restrict (hb j kv hkv).2⟩⟩
theorem ObjRel.bel {K : KHeap} {ρ : Nat → Loc} {A : Nat → Prop} {w : World} {l : Loc} {o : AObj} (h : ObjRel K ρ A w l o) : BelO A o := by
  cases o with
  | row sz cells =>
    obtain ⟨_, _, _, _, _, _, _, _, _, p6⟩ := h
    intro j x hx
    obtain ⟨cv, _, hv⟩ := p6 j x hx
    exact hv.bel
  | mp es =>
    obtain ⟨en, cl, p1, p2, p3⟩ := h
    intro j kv hkv
    have hlt := (List.getElem?_eq_some_iff.1 hkv).1
    obtain ⟨a1, a2⟩ := p3 j kv _ hkv (Array.getElem?_eq_getElem (by omega))
    exact ⟨a1.bel, a2.bel⟩

/-- A call that only computes, where the order is drawn. -/
theorem LC.of_qc {P : Program} {f : FuncId} {args : List AV} {r : AV} (h : QC P f args r) (hr : Bel (fun _ => False) r) (H0 : Heap) : LC P f args H0 [] [] [] r := by
  intro A ρ H w cargs ⟨N, hN⟩ s ha _ _
  have sN : Sim (· < N) ρ H w := ⟨fun g o ho => hN g (s.live g o ho), fun g o ho => (s.obj g o ho).mono rfl (fun _ _ h => h) (fun g hg => ⟨rfl, hN g hg⟩), s.inj, s.lay⟩
  have aN : LRel (Kof ρ H w) ρ (· < N) args cargs.toList := ⟨ha.1, fun j v c hv hc => (ha.2 j v c hv hc).mono (fun _ _ h => h) (fun g hg => ⟨rfl, hN g hg⟩)⟩
  refine flowUpon_mono (h H N ρ w cargs sN aN) fun cv w' ⟨r', H', nx', ρ', ⟨q0, q1, q2⟩, q3, q4, q5⟩ => ?_
  subst q0; subst q1; subst q2
  have hA : (fun x => A x ∨ x ∈ ([] : List Nat)) = A := by funext x; simp
  refine ⟨ρ', ?_, ?_, ?_⟩
  · rw [hA]
    exact ⟨s.live, fun g o ho => (q3.obj g o ho).restrict (s.obj g o ho).bel, q3.inj, q3.lay⟩
  · rw [hA]
    exact q4.restrict (hr.mono fun _ h => h.elim)
  · rw [hA]
    exact ⟨fun g hg => ⟨(q5.agree g (hN g hg)).1, hg⟩, q5.k, q5.os, q5.tape, q5.output, q5.size⟩
theorem CALLD.of_qc {P : Program} {f : FuncId} {args cap : List AV} {r : AV} {H : Heap} {nx : Nat} {k : Kt} (h : QC P f (args ++ cap) r) (hr : Bel (fun _ => False) r) (hk : k r [] [] []) : CALLD P (.clo f cap) args H nx k :=
  ⟨r, [], [], [], .inl rfl, LC.of_qc h hr H, hk⟩
end Go.Proofs.YtejohcohkgcmhaaDoor
namespace Go.Proofs.YtejohcohkgcmhaaDoor
open Go Go.RowKit

theorem JN.same {J : J3} {B : J3 → Prop} (h : B J) : JN J B := ⟨J, fun _ _ _ h => h, h⟩
theorem JN.cut {J : J3} {B : J3 → Prop} (I : J3) (h1 : ∀ xs H nx, I xs H nx → J xs H nx) (h2 : B I) : JN J B := ⟨I, h1, h2⟩
theorem LP.mk {F : J3 → J3} {xs : List AV} {H : Heap} {nx : Nat} (I : Nat → J3) (n : Nat) (h0 : I n xs H nx) (hs : ∀ n xs H nx, I n xs H nx → F (fun xs H nx => ∃ m, m < n ∧ I m xs H nx) xs H nx) : LP F xs H nx := ⟨I, n, h0, hs⟩

@[simp] theorem nth_0 (x : AV) (xs : List AV) : nth (x :: xs) 0 = x := rfl
@[simp] theorem nth_1 (x y : AV) (xs : List AV) : nth (x :: y :: xs) 1 = y := rfl
@[simp] theorem nth_2 (x y z : AV) (xs : List AV) : nth (x :: y :: z :: xs) 2 = z := rfl
@[simp] theorem nth_3 (x y z a : AV) (xs : List AV) : nth (x :: y :: z :: a :: xs) 3 = a := rfl
@[simp] theorem nth_4 (x y z a b : AV) (xs : List AV) : nth (x :: y :: z :: a :: b :: xs) 4 = b := rfl
@[simp] theorem nth_5 (x y z a b c : AV) (xs : List AV) : nth (x :: y :: z :: a :: b :: c :: xs) 5 = c := rfl
@[simp] theorem nth_6 (x y z a b c d : AV) (xs : List AV) : nth (x :: y :: z :: a :: b :: c :: d :: xs) 6 = d := rfl
@[simp] theorem nth_7 (x y z a b c d e : AV) (xs : List AV) : nth (x :: y :: z :: a :: b :: c :: d :: e :: xs) 7 = e := rfl
@[simp] theorem nth_8 (x y z a b c d e f : AV) (xs : List AV) : nth (x :: y :: z :: a :: b :: c :: d :: e :: f :: xs) 8 = f := rfl
@[simp] theorem nth_9 (x y z a b c d e f g : AV) (xs : List AV) : nth (x :: y :: z :: a :: b :: c :: d :: e :: f :: g :: xs) 9 = g := rfl

/-- What is to be had first, and then more: what is behind is looked at later. -/
def OPTK {α : Type} (o : Option α) (k : α → Prop) : Prop := ∃ v, o = some v ∧ k v
@[simp ↓] theorem optk {α : Type} {v : α} {k : α → Prop} : OPTK (some v) k = k v := by simp [OPTK]
@[simp ↓] theorem optk_none {α : Type} {k : α → Prop} : OPTK none k = False := by simp [OPTK]
@[congr] theorem optk_c {α : Type} {o o' : Option α} {k : α → Prop} (h : o = o') : OPTK o k = OPTK o' k := by rw [h]
def ROWK (o : Option AObj) (k : Nat → List AV → Prop) : Prop := ∃ s cs, o = some (.row s cs) ∧ k s cs
@[simp ↓] theorem rowk {s : Nat} {cs : List AV} {k : Nat → List AV → Prop} : ROWK (some (.row s cs)) k = k s cs := by
  apply propext; constructor
  · rintro ⟨s', cs', h, hk⟩; cases h; exact hk
  · exact fun h => ⟨s, cs, rfl, h⟩
@[congr] theorem rowk_c {o o' : Option AObj} {k : Nat → List AV → Prop} (h : o = o') : ROWK o k = ROWK o' k := by rw [h]
def MAPK (o : Option AObj) (k : List (AV × AV) → Prop) : Prop := ∃ es, o = some (.mp es) ∧ k es
@[simp ↓] theorem mapk {es : List (AV × AV)} {k : List (AV × AV) → Prop} : MAPK (some (.mp es)) k = k es := by
  apply propext; constructor
  · rintro ⟨es', h, hk⟩; cases h; exact hk
  · exact fun h => ⟨es, rfl, h⟩
@[congr] theorem mapk_c {o o' : Option AObj} {k : List (AV × AV) → Prop} (h : o = o') : MAPK o k = MAPK o' k := by rw [h]

section
variable {x x' y y' z z' : AV} {k : AV → Prop} {H H' : Heap} {nx nx' : Nat}
@[congr] theorem pk_c (h : x = x') (h2 : y = y') (h3 : z = z') : PK x y z k = PK x' y' z' k := by rw [h, h2, h3]
@[congr] theorem bi_c {op : BinOp} (h : x = x') (h2 : y = y') : BI op x y k = BI op x' y' k := by rw [h, h2]
@[congr] theorem bs_c {op : BinOp} (h : x = x') (h2 : y = y') : BS op x y k = BS op x' y' k := by rw [h, h2]
@[congr] theorem bb_c {op : BinOp} (h : x = x') (h2 : y = y') : BB op x y k = BB op x' y' k := by rw [h, h2]
@[congr] theorem ba_c {s : List AV} {op : BinOp} (h : x = x') (h2 : y = y') : BA s op x y k = BA s op x' y' k := by rw [h, h2]
@[congr] theorem bp_c {op : BinOp} (h : x = x') (h2 : y = y') : BP op x y k = BP op x' y' k := by rw [h, h2]
@[congr] theorem uo_c {op : UnOp} (h : x = x') : UO op x k = UO op x' k := by rw [h]
@[congr] theorem cv_c {ki : IntKind} (h : x = x') : CV ki x k = CV ki x' k := by rw [h]
@[congr] theorem ld_c {g : Bool} {s : Nat} (h : x = x') (h2 : H = H') : LD g s x H k = LD g s x' H' k := by rw [h, h2]
@[congr] theorem ldr_c {g : Bool} {s : Nat} {kr : AV → List Nat → Prop} (h : x = x') (h2 : H = H') : LDR g s x H kr = LDR g s x' H' kr := by rw [h, h2]
@[congr] theorem st_c {s : Nat} {kh : Heap → Prop} (h : x = x') (h3 : y = y') (h2 : H = H') : ST s x y H kh = ST s x' y' H' kh := by rw [h, h2, h3]
@[congr] theorem store_c {s : Nat} {kt : Kt} (h : x = x') (h3 : y = y') (h2 : H = H') : STORE s x y H kt = STORE s x' y' H' kt := by rw [h, h2, h3]
@[congr] theorem nc_c (h : x = x') : NC x k = NC x' k := by rw [h]
@[congr] theorem fa_c {o : Nat} (h : x = x') : FA o x k = FA o x' k := by rw [h]
@[congr] theorem fi_c {g : Bool} {s o : Nat} (h : x = x') : FI g s o x k = FI g s o x' k := by rw [h]
@[congr] theorem ia_c {s : Nat} (h : x = x') (h2 : y = y') : IA s x y k = IA s x' y' k := by rw [h, h2]
@[congr] theorem aa_c {s l : Nat} (h : x = x') (h2 : y = y') : AA s l x y k = AA s l x' y' k := by rw [h, h2]
@[congr] theorem ix_c (h : x = x') (h2 : y = y') : IX x y k = IX x' y' k := by rw [h, h2]
@[congr] theorem ai_c {g : Bool} {s l : Nat} (h : x = x') (h2 : y = y') : AI g s l x y k = AI g s l x' y' k := by rw [h, h2]
@[congr] theorem lns_c (h : x = x') : LNS x k = LNS x' k := by rw [h]
@[congr] theorem lnl_c (h : x = x') : LNL x k = LNL x' k := by rw [h]
@[congr] theorem lnm_c (h : x = x') (h2 : H = H') : LNM x H k = LNM x' H' k := by rw [h, h2]
@[congr] theorem ex_c {i : Nat} (h : x = x') : EX x i k = EX x' i k := by rw [h]
@[congr] theorem bd_c {pl : Nat → Option (Nat × Nat)} {zs : List AV} {ps ps' : List (Nat × AV)} (h : ps = ps') : BD pl zs ps k = BD pl zs ps' k := by rw [h]
@[congr] theorem bsl_c {l s : Nat} {zs : List AV} {ps ps' : List (Nat × AV)} {kc : List AV → Prop} (h : ps = ps') : BSL l s zs ps kc = BSL l s zs ps' kc := by rw [h]
@[congr] theorem mk_c {b : Nat} {kn : Nat → Prop} (h : x = x') (h2 : y = y') : MK b x y kn = MK b x' y' kn := by rw [h, h2]
@[congr] theorem mm_c {b : Bool} (h : x = x') (h2 : y = y') : MM b x y k = MM b x' y' k := by rw [h, h2]
@[congr] theorem slp_c {s n : Nat} {lo lo' hi hi' : Option AV} (h : x = x') (h2 : lo = lo') (h3 : hi = hi') (h4 : H = H') : SLP s n x lo hi H k = SLP s n x' lo' hi' H' k := by rw [h, h2, h3, h4]
@[congr] theorem cbs_c (h : x = x') (h2 : H = H') : CBS x H k = CBS x' H' k := by rw [h, h2]
@[congr] theorem csb_c {ks : List UInt8 → Prop} (h : x = x') : CSB x ks = CSB x' ks := by rw [h]
@[congr] theorem sls_c {lo lo' hi hi' : Option AV} (h : x = x') (h2 : lo = lo') (h3 : hi = hi') : SLS x lo hi k = SLS x' lo' hi' k := by rw [h, h2, h3]
@[congr] theorem sl_c {s : Nat} {lo lo' hi hi' : Option AV} (h : x = x') (h2 : lo = lo') (h3 : hi = hi') (h4 : H = H') : SL s x lo hi H k = SL s x' lo' hi' H' k := by rw [h, h2, h3, h4]
@[congr] theorem slice_c {s : Nat} {lo lo' hi hi' : Option AV} {kt : Kt} (h : x = x') (h2 : lo = lo') (h3 : hi = hi') (h4 : H = H') : SLICE s x lo hi H kt = SLICE s x' lo' hi' H' kt := by rw [h, h2, h3, h4]
@[congr] theorem sl0_c {w w' : AV} (h : x = x') (h2 : y = y') (h3 : z = z') (h4 : w = w') : SL0 x y z w k = SL0 x' y' z' w' k := by rw [h, h2, h3, h4]
@[congr] theorem lk_c {zs : List AV} {g o : Bool} (h : x = x') (h2 : y = y') (h3 : H = H') : LK zs g x y o H k = LK zs g x' y' o H' k := by rw [h, h2, h3]
@[congr] theorem look_c {zs : List AV} {g o : Bool} {kt : Kt} (h : x = x') (h2 : y = y') (h3 : H = H') : LOOK zs g x y o H kt = LOOK zs g x' y' o H' kt := by rw [h, h2, h3]
@[congr] theorem mu_c {kh : Heap → Prop} (h : x = x') (h2 : y = y') (h3 : z = z') (h4 : H = H') : MU x y z H kh = MU x' y' z' H' kh := by rw [h, h2, h3, h4]
@[congr] theorem mupd_c {kt : Kt} (h : x = x') (h2 : y = y') (h3 : z = z') (h4 : H = H') : MUPD x y z H kt = MUPD x' y' z' H' kt := by rw [h, h2, h3, h4]
@[congr] theorem app_c {e b : Nat} {kk : AV → Heap → Nat → Prop} (h : x = x') (h2 : y = y') (h3 : H = H') (h4 : nx = nx') : APP e b x y H nx kk = APP e b x' y' H' nx' kk := by rw [h, h2, h3, h4]
@[congr] theorem append_c {e b : Nat} {kt : Kt} (h : x = x') (h2 : y = y') (h3 : H = H') (h4 : nx = nx') : APPEND e b x y H nx kt = APPEND e b x' y' H' nx' kt := by rw [h, h2, h3, h4]
@[congr] theorem cp_c {e : Nat} {kh : AV → Heap → Prop} (h : x = x') (h2 : y = y') (h3 : H = H') : CP e x y H kh = CP e x' y' H' kh := by rw [h, h2, h3]
@[congr] theorem copy_c {e : Nat} {kt : Kt} (h : x = x') (h2 : y = y') (h3 : H = H') : COPY e x y H kt = COPY e x' y' H' kt := by rw [h, h2, h3]
@[congr] theorem cnd_c {A B : Prop} (h : x = x') : CND x A B = CND x' A B := by rw [h]
@[congr] theorem cndc_c {A B : Prop} (h : x = x') : CNDC x A B = CNDC x' A B := by rw [h]
@[congr] theorem bl_c {op : BinOp} (h : x = x') (h2 : y = y') : BL op x y k = BL op x' y' k := by rw [h, h2]
@[congr] theorem call_c {P : Program} {bs bs' : List AV} {kk : AV → Heap → Nat → Prop} (h : x = x') (h2 : bs = bs') (h3 : H = H') (h4 : nx = nx') : CALL P x bs H nx kk = CALL P x' bs' H' nx' kk := by rw [h, h2, h3, h4]
@[congr] theorem calld_c {P : Program} {bs bs' : List AV} {kt : Kt} (h : x = x') (h2 : bs = bs') (h3 : H = H') (h4 : nx = nx') : CALLD P x bs H nx kt = CALLD P x' bs' H' nx' kt := by rw [h, h2, h3, h4]
@[congr] theorem acalls_c {P : Program} {f : FuncId} {bs bs' : List AV} {kk : AV → Heap → Nat → Prop} (h2 : bs = bs') (h3 : H = H') (h4 : nx = nx') : ACalls P f bs H nx kk = ACalls P f bs' H' nx' kk := by rw [h2, h3, h4]
@[congr] theorem jn_c {J : J3} {B : J3 → Prop} : JN J B = JN J B := rfl
@[congr] theorem lp_c {F : J3 → J3} {xs xs' : List AV} (h : xs = xs') (h3 : H = H') (h4 : nx = nx') : LP F xs H nx = LP F xs' H' nx' := by rw [h, h3, h4]
@[congr] theorem disjK_c {l l' m m' : List Nat} {A : Prop} (h : l = l') (h2 : m = m') : disjK l m A = disjK l' m' A := by rw [h, h2]
@[congr] theorem gd_c {b b' : Bool} {A : Prop} (h : b = b') : gd b A = gd b' A := by rw [h]
end
@[simp ↓] theorem cnd_t (A B : Prop) : CND (.bool true) A B = A := rfl
@[simp ↓] theorem cnd_f (A B : Prop) : CND (.bool false) A B = B := rfl
@[simp ↓ low] theorem cnd (b : Bool) (A B : Prop) : CND (.bool b) A B = ((b = true → A) ∧ (b = false → B)) := propext cnd_bool
@[simp ↓] theorem cndc_t (A B : Prop) : CNDC (.bool true) A B = A := rfl
@[simp ↓] theorem cndc_f (A B : Prop) : CNDC (.bool false) A B = B := rfl
@[simp ↓] theorem cndc_any (A B : Prop) : CNDC .bany A B = (A ∧ B) := rfl
@[simp ↓ low] theorem cndc (b : Bool) (A B : Prop) : CNDC (.bool b) A B = ((b = true → A) ∧ (b = false → B)) := by cases b <;> simp
@[simp ↓] theorem pk (b : Bool) (x y : AV) (k : AV → Prop) : PK (.bool b) x y k = k (bif b then x else y) := rfl

variable {ki : IntKind} {a b : Int} {k : AV → Prop}
@[simp ↓] theorem bi_add : BI .add (.int ki a) (.int ki b) k = k (.int ki (ki.wrap (a + b))) := by simp [BI, BINI, IBIN, shiftOp, PURE, qk]
@[simp ↓] theorem bi_sub : BI .sub (.int ki a) (.int ki b) k = k (.int ki (ki.wrap (a - b))) := by simp [BI, BINI, IBIN, shiftOp, PURE, qk]
@[simp ↓] theorem bi_mul : BI .mul (.int ki a) (.int ki b) k = k (.int ki (ki.wrap (a * b))) := by simp [BI, BINI, IBIN, shiftOp, PURE, qk]
@[simp ↓] theorem bi_quo : BI .quo (.int ki a) (.int ki b) k = (b ≠ 0 ∧ k (.int ki (ki.wrap (a.tdiv b)))) := by simp [BI, BINI, IBIN, shiftOp, PURE, qk]
@[simp ↓] theorem bi_rem : BI .rem (.int ki a) (.int ki b) k = (b ≠ 0 ∧ k (.int ki (a.tmod b))) := by simp [BI, BINI, IBIN, shiftOp, PURE, qk]
@[simp ↓] theorem bi_shl {kj : IntKind} : BI .shl (.int ki a) (.int kj b) k = (0 ≤ b ∧ k (.int ki (ki.wrap (a * 2 ^ (min b.toNat ki.bits))))) := by simp [BI, BINI, IBIN, shiftOp, PURE, qk]
@[simp ↓] theorem bi_shr {kj : IntKind} : BI .shr (.int ki a) (.int kj b) k = (0 ≤ b ∧ k (.int ki (a.fdiv (2 ^ (min b.toNat ki.bits))))) := by simp [BI, BINI, IBIN, shiftOp, PURE, qk]
@[simp ↓] theorem bi_eql : BI .eql (.int ki a) (.int ki b) k = k (.bool (decide (a = b))) := by simp [BI, BINI, IBIN, icmp, shiftOp, PURE, qk]; rfl
@[simp ↓] theorem bi_neq : BI .neq (.int ki a) (.int ki b) k = k (.bool (!decide (a = b))) := by simp [BI, BINI, IBIN, icmp, shiftOp, PURE, qk]; rfl
@[simp ↓] theorem bi_lss : BI .lss (.int ki a) (.int ki b) k = k (.bool (decide (a < b))) := by simp [BI, BINI, IBIN, icmp, shiftOp, PURE, qk]
@[simp ↓] theorem bi_leq : BI .leq (.int ki a) (.int ki b) k = k (.bool (decide (a ≤ b))) := by simp [BI, BINI, IBIN, icmp, shiftOp, PURE, qk]
@[simp ↓] theorem bi_gtr : BI .gtr (.int ki a) (.int ki b) k = k (.bool (decide (b < a))) := by simp [BI, BINI, IBIN, icmp, shiftOp, PURE, qk]
@[simp ↓] theorem bi_geq : BI .geq (.int ki a) (.int ki b) k = k (.bool (decide (b ≤ a))) := by simp [BI, BINI, IBIN, icmp, shiftOp, PURE, qk]
@[simp ↓] theorem bi_and : BI .and (.int ki a) (.int ki b) k = k (.int ki (ki.wrap (BitVec.ofInt ki.bits a &&& BitVec.ofInt ki.bits b).toNat)) := by simp [BI, BINI, IBIN, ibits, shiftOp, PURE, qk]
@[simp ↓] theorem bi_or : BI .or (.int ki a) (.int ki b) k = k (.int ki (ki.wrap (BitVec.ofInt ki.bits a ||| BitVec.ofInt ki.bits b).toNat)) := by simp [BI, BINI, IBIN, ibits, shiftOp, PURE, qk]
@[simp ↓] theorem bi_xor : BI .xor (.int ki a) (.int ki b) k = k (.int ki (ki.wrap (BitVec.ofInt ki.bits a ^^^ BitVec.ofInt ki.bits b).toNat)) := by simp [BI, BINI, IBIN, ibits, shiftOp, PURE, qk]
@[simp ↓] theorem cv (kj : IntKind) : CV kj (.int ki a) k = k (.int kj (kj.wrap a)) := rfl
@[simp ↓] theorem uo_not (c : Bool) : UO .not (.bool c) k = k (.bool (!c)) := rfl
@[simp ↓] theorem uo_neg : UO .neg (.int ki a) k = k (.int ki (ki.wrap (0 - a))) := rfl
@[simp ↓] theorem bs_eql (s t : List UInt8) : BS .eql (.str s) (.str t) k = k (.bool (decide (s = t))) := by
  have : (s == t) = decide (s = t) := by rw [Bool.eq_iff_iff]; simp
  rw [← this]; rfl
@[simp ↓] theorem bs_neq (s t : List UInt8) : BS .neq (.str s) (.str t) k = k (.bool (!decide (s = t))) := by
  have : (s == t) = decide (s = t) := by rw [Bool.eq_iff_iff]; simp
  rw [← this]; rfl
@[simp ↓] theorem bs_lss (s t : List UInt8) : BS .lss (.str s) (.str t) k = k (.bool (Op.bytesLess s t)) := rfl
@[simp ↓] theorem bs_add (s t : List UInt8) : BS .add (.str s) (.str t) k = (s.length + t.length ≤ 9223372036854775807 ∧ k (.str (s ++ t))) := rfl
@[simp ↓] theorem bb_eql (c d : Bool) : BB .eql (.bool c) (.bool d) k = k (.bool (c == d)) := by simp [BB, BINB, eqlOp, PURE, qk]
@[simp ↓] theorem bb_neq (c d : Bool) : BB .neq (.bool c) (.bool d) k = k (.bool (c != d)) := by simp [BB, BINB, eqlOp, PURE, qk]; rfl

@[simp ↓] theorem mm_min : MM true (.int ki a) (.int ki b) k = k (.int ki (min a b)) := by
  have : (if b < a then b else a) = min a b := by split <;> omega
  simp [MM, MINMAX, PURE, qk, this]
@[simp ↓] theorem mm_max : MM false (.int ki a) (.int ki b) k = k (.int ki (max a b)) := by
  have : (if b > a then b else a) = max a b := by split <;> omega
  simp only [MM, MINMAX, PURE, qk, cond_false, this, true_and]
@[simp ↓] theorem csb_str (s : List UInt8) (ks : List UInt8 → Prop) : CSB (.str s) ks = ks s := rfl
@[simp ↓] theorem ba_eql (zs xs ys : List AV) : BA zs .eql (.agg xs) (.agg ys) k = ((eqCells zs xs).isSome = true ∧ OPTK (eqCells xs ys) fun t => k (.bool t)) := by
  simp only [BA, BINA, eqlOp, PURE, qk, OPTK]
  cases eqCells xs ys <;> simp
@[simp ↓] theorem ba_neq (zs xs ys : List AV) : BA zs .neq (.agg xs) (.agg ys) k = ((eqCells zs xs).isSome = true ∧ OPTK (eqCells xs ys) fun t => k (.bool (!t))) := by
  simp only [BA, BINA, eqlOp, PURE, qk, OPTK]
  cases eqCells xs ys <;> simp
@[simp] theorem eqCells_nil : eqCells [] [] = some true := rfl
@[simp] theorem eqCells_int {ki : IntKind} {a b : Int} {r s : List AV} : eqCells (.int ki a :: r) (.int ki b :: s) = (eqCells r s).map (fun t => a == b && t) := by simp [eqCells]
@[simp] theorem eqCells_str {a b : List UInt8} {r s : List AV} : eqCells (.str a :: r) (.str b :: s) = (eqCells r s).map (fun t => a == b && t) := rfl
@[simp] theorem eqCells_bool {a b : Bool} {r s : List AV} : eqCells (.bool a :: r) (.bool b :: s) = (eqCells r s).map (fun t => a == b && t) := rfl
@[simp ↓] theorem bl_ro (xs : List (List AV)) : BL .eql (.ro xs) .nils k = ((xs = [] → k .bany) ∧ (xs ≠ [] → k (.bool false))) := by simp [BL, BINL, eqlOp, PURE, qk]
@[simp ↓] theorem bl_slc (g o n : Nat) : BL .eql (.slc g o n) .nils k = ((n = 0 → k .bany) ∧ (n ≠ 0 → k (.bool false))) := by simp [BL, BINL, eqlOp, PURE, qk]
@[simp ↓] theorem bl_zs : BL .eql .zs .nils k = k .bany := by simp [BL, BINL, eqlOp, PURE, qk]
@[simp ↓] theorem bl_nil : BL .eql .nils .nils k = k (.bool true) := by simp [BL, BINL, eqlOp, PURE, qk]
@[simp ↓] theorem lns (s : List UInt8) : LNS (.str s) k = k (.int .i64 (s.length : Int)) := rfl
@[simp ↓] theorem lnl_ro (xs : List (List AV)) : LNL (.ro xs) k = k (.int .i64 (xs.length : Int)) := rfl
@[simp ↓] theorem lnl_slc (g off len : Nat) : LNL (.slc g off len) k = k (.int .i64 (len : Int)) := rfl
@[simp ↓] theorem lnl_nils : LNL .nils k = k (.int .i64 0) := rfl
@[simp ↓] theorem lnl_zs : LNL .zs k = k (.int .i64 0) := rfl
@[simp ↓] theorem ix_str (s : List UInt8) (n : Int) : IX (.str s) (.int ki n) k = (0 ≤ n ∧ n < s.length ∧ k (.int .u8 ((s.getD n.toNat 0).toNat : Int))) := rfl
@[simp ↓] theorem ia_ro (esz : Nat) (xs : List (List AV)) (n : Int) : IA esz (.ro xs) (.int ki n) k = (0 ≤ n ∧ n < xs.length ∧ (xs.getD n.toNat []).length = esz ∧ k (.rop (xs.getD n.toNat []) 0)) := rfl
@[simp ↓] theorem ia_slc (esz g off len : Nat) (n : Int) : IA esz (.slc g off len) (.int ki n) k = (0 ≤ n ∧ n < len ∧ k (.ptr g (off + n.toNat * esz))) := rfl
@[simp ↓] theorem fa_rop (o : Nat) (cs : List AV) (q : Nat) : FA o (.rop cs q) k = k (.rop cs (q + o)) := rfl
@[simp ↓] theorem fa_ptr (o g q : Nat) : FA o (.ptr g q) k = k (.ptr g (q + o)) := rfl
@[simp ↓] theorem nc_rop (cs : List AV) (q : Nat) : NC (.rop cs q) k = k (.rop cs q) := rfl
@[simp ↓] theorem nc_ptr (g q : Nat) : NC (.ptr g q) k = k (.ptr g q) := rfl
@[simp] theorem cells_int : (AV.int ki a).cells = [AV.int ki a] := rfl
@[simp] theorem cells_str (s : List UInt8) : (AV.str s).cells = [AV.str s] := rfl
@[simp] theorem cells_bool (c : Bool) : (AV.bool c).cells = [AV.bool c] := rfl
@[simp] theorem cells_agg (xs : List AV) : (AV.agg xs).cells = xs := rfl
@[simp] theorem cells_slc (g o n : Nat) : (AV.slc g o n).cells = [AV.slc g o n] := rfl
@[simp] theorem cells_ro (xs : List (List AV)) : (AV.ro xs).cells = [AV.ro xs] := rfl
@[simp] theorem sure_int : (AV.int ki a).sure = true := rfl
@[simp] theorem sure_str (s : List UInt8) : (AV.str s).sure = true := rfl
@[simp] theorem cells_bany : AV.bany.cells = [AV.bany] := rfl
@[simp] theorem sure_bool (c : Bool) : (AV.bool c).sure = true := rfl
@[simp] theorem sure_agg (xs : List AV) : (AV.agg xs).sure = true := rfl
@[simp] theorem sure_slc (g o n : Nat) : (AV.slc g o n).sure = true := rfl
@[simp] theorem sure_ro (xs : List (List AV)) : (AV.ro xs).sure = true := rfl
@[simp] theorem one_int : (AV.int ki a).one = true := rfl
@[simp] theorem one_str (s : List UInt8) : (AV.str s).one = true := rfl
@[simp] theorem one_bool (c : Bool) : (AV.bool c).one = true := rfl
@[simp] theorem one_slc (g o n : Nat) : (AV.slc g o n).one = true := rfl
@[simp] theorem one_ro (xs : List (List AV)) : (AV.ro xs).one = true := rfl

@[simp ↓] theorem ex_tup (vs : List AV) (i : Nat) : EX (.tup vs) i k = OPTK vs[i]? k := by
  simp only [EX, EXTR, PURE, qk, OPTK]
  cases vs[i]? <;> simp

theorem i64w {n : Int} (h : -9223372036854775808 ≤ n ∧ n ≤ 9223372036854775807) : IntKind.i64.wrap n = n := IntWalk.i64_in n h
theorem frz_int {H : Heap} {nx : Nat} : Frz H nx (.int ki a) (.int ki a) := .same _ (.int _ _)
theorem frz_bool {H : Heap} {nx : Nat} {c : Bool} : Frz H nx (.bool c) (.bool c) := .same _ (.bool _)
theorem frz_str {H : Heap} {nx : Nat} {s : List UInt8} : Frz H nx (.str s) (.str s) := .same _ (.str _)
end Go.Proofs.YtejohcohkgcmhaaDoor
namespace Go.Proofs.YtejohcohkgcmhaaDoor
open Go Go.RowKit

section
variable {k : AV → Prop} {ki : IntKind} {A : Prop}
def rowOf : Option AObj → Option (List AV)
  | some (.row _ cs) => some cs
  | _ => none
@[simp ↓] theorem ld_rop (sz : Nat) (cs : List AV) (q : Nat) (H : Heap) : LD false sz (.rop cs q) H k = OPTK cs[q]? k := by
  simp only [LD, LOAD, rdp, ldv, cond_false, qk, OPTK]
  cases cs[q]? <;> simp
@[simp ↓] theorem ld_rop_agg (sz : Nat) (cs : List AV) (q : Nat) (H : Heap) : LD true sz (.rop cs q) H k = (q + sz ≤ cs.length ∧ k (.agg ((cs.drop q).take sz))) := by
  simp only [LD, LOAD, rdp, ldv, cond_true, qk]
  by_cases h : q + sz ≤ cs.length <;> simp [h]
theorem rowk_ex {o : Option AObj} {kr : Nat → List AV → Prop} (h : ∀ s cs, o = some (.row s cs) → (A ↔ kr s cs)) (hn : (∀ s cs, o ≠ some (.row s cs)) → ¬ A) : A = ROWK o kr := by
  apply propext; constructor
  · intro ha
    by_cases he : ∃ s cs, o = some (.row s cs)
    · obtain ⟨s, cs, he⟩ := he; exact ⟨s, cs, he, (h s cs he).1 ha⟩
    · exact absurd ha (hn fun s cs e => he ⟨s, cs, e⟩)
  · rintro ⟨s, cs, he, hk⟩; exact (h s cs he).2 hk
@[simp ↓] theorem ld_p {sz g q : Nat} {H : Heap} : LD false sz (.ptr g q) H k = ROWK (H g) fun _ cs => OPTK cs[q]? k := by
  refine rowk_ex (fun s cs h => ?_) fun h => ?_
  · simp only [LD, LOAD, rdp, qk, h, ldv, cond_false, OPTK]; cases hq : cs[q]? <;> simp [hq]
  · simp only [LD, LOAD, rdp, qk]
    exact id
@[simp ↓] theorem ld_p_agg {sz g q : Nat} {H : Heap} : LD true sz (.ptr g q) H k = ROWK (H g) fun _ cs => q + sz ≤ cs.length ∧ k (.agg ((cs.drop q).take sz)) := by
  refine rowk_ex (fun s cs h => ?_) fun h => ?_
  · simp only [LD, LOAD, rdp, qk, h, ldv, cond_true]; by_cases hq : q + sz ≤ cs.length <;> simp [hq]
  · simp only [LD, LOAD, rdp, qk]
    exact id
@[simp ↓] theorem ldr_rop {kr : AV → List Nat → Prop} (sz : Nat) (cs : List AV) (q : Nat) (H : Heap) : LDR false sz (.rop cs q) H kr = OPTK cs[q]? fun v => kr v [] := by
  simp only [LDR, LOAD, rdp, ldv, cond_false, OPTK]
  cases cs[q]? <;> simp
@[simp ↓] theorem ldr_rop_agg {kr : AV → List Nat → Prop} (sz : Nat) (cs : List AV) (q : Nat) (H : Heap) : LDR true sz (.rop cs q) H kr = (q + sz ≤ cs.length ∧ kr (.agg ((cs.drop q).take sz)) []) := by
  simp only [LDR, LOAD, rdp, ldv, cond_true]
  by_cases h : q + sz ≤ cs.length <;> simp [h]
@[simp ↓] theorem ldr_p {kr : AV → List Nat → Prop} {sz g q : Nat} {H : Heap} : LDR false sz (.ptr g q) H kr = ROWK (H g) fun _ cs => OPTK cs[q]? fun v => kr v [g] := by
  refine rowk_ex (fun s cs h => ?_) fun h => ?_
  · simp only [LDR, LOAD, rdp, h, ldv, cond_false, OPTK]; cases hq : cs[q]? <;> simp [hq]
  · simp only [LDR, LOAD, rdp]
    exact id
@[simp ↓] theorem ldr_p_agg {kr : AV → List Nat → Prop} {sz g q : Nat} {H : Heap} : LDR true sz (.ptr g q) H kr = ROWK (H g) fun _ cs => q + sz ≤ cs.length ∧ kr (.agg ((cs.drop q).take sz)) [g] := by
  refine rowk_ex (fun s cs h => ?_) fun h => ?_
  · simp only [LDR, LOAD, rdp, h, ldv, cond_true]; by_cases hq : q + sz ≤ cs.length <;> simp [hq]
  · simp only [LDR, LOAD, rdp]
    exact id
@[simp ↓] theorem st_p {sz g q : Nat} {H : Heap} {v : AV} {kh : Heap → Prop} :
    ST sz (.ptr g q) v H kh = ROWK (H g) fun es cs => v.cells.length = sz ∧ q + sz ≤ cs.length ∧ v.cells.all AV.one = true ∧ v.sure = true ∧ kh (H.put g (some (.row es (splice cs q v.cells)))) := by
  refine rowk_ex (fun s cs h => ?_) fun h => ?_
  · simp only [ST, STORE, h, Heap.apply]
  · simp only [ST, STORE]
    exact id
@[simp ↓] theorem store_p {sz g q : Nat} {H : Heap} {v : AV} {kt : Kt} :
    STORE sz (.ptr g q) v H kt = ROWK (H g) fun es cs => v.cells.length = sz ∧ q + sz ≤ cs.length ∧ v.cells.all AV.one = true ∧ v.sure = true ∧ kt .und [g] [] [(g, some (.row es (splice cs q v.cells)))] := by
  refine rowk_ex (fun s cs h => ?_) fun h => ?_
  · simp only [STORE, h]
  · simp only [STORE]
    exact id
@[simp ↓] theorem bd_eq {pl : Nat → Option (Nat × Nat)} {z : List AV} {ps : List (Nat × AV)} : BD pl z ps k = OPTK (fillA pl z ps) fun cells => k (.agg cells) := by
  simp only [BD, BUILD, PURE, qk, OPTK]
  cases fillA pl z ps <;> simp
@[simp ↓] theorem bsl_eq {len esz : Nat} {z : List AV} {ps : List (Nat × AV)} {kc : List AV → Prop} : BSL len esz z ps kc = OPTK (fillA (fun i => some (i * esz, esz)) ((List.replicate len z).flatten) ps) kc := by
  simp only [BSL, OPTK]
  cases fillA (fun i => some (i * esz, esz)) ((List.replicate len z).flatten) ps <;> simp
@[simp] theorem fillA_nil {pl : Nat → Option (Nat × Nat)} {z : List AV} : fillA pl z [] = some z := rfl
@[simp ↓] theorem fillA_cons {pl : Nat → Option (Nat × Nat)} {z : List AV} {i : Nat} {v : AV} {r : List (Nat × AV)} {kc : List AV → Prop} : OPTK (fillA pl z ((i, v) :: r)) kc =
    OPTK (pl i) fun p => v.cells.length = p.2 ∧ p.1 + p.2 ≤ z.length ∧ v.sure = true ∧ OPTK (fillA pl (splice z p.1 v.cells) r) kc := by
  have e : fillA pl z ((i, v) :: r) = match pl i with
    | none => none
    | some (off, size) => if v.cells.length = size ∧ off + size ≤ z.length ∧ v.sure = true then fillA pl (splice z off v.cells) r else none := rfl
  rw [e]
  cases pl i with
  | none => simp
  | some p =>
    obtain ⟨off, size⟩ := p
    simp only [optk]
    by_cases h : v.cells.length = size ∧ off + size ≤ z.length ∧ v.sure = true
    · rw [if_pos h]; simp [h]
    · rw [if_neg h]
      rw [optk_none]
      apply propext
      constructor
      · intro h; exact h.elim
      · rintro ⟨h1, h2, h3, _⟩; exact h ⟨h1, h2, h3⟩
@[simp] theorem placeOf_eq {T : Nat → Option AT} {fs : List (Nat × Nat)} {i : Nat} : placeOf T fs i = match fs[i]? with | some (t, off) => some (off, sizeT T t) | none => none := rfl
@[simp ↓] theorem mk_int {b : Nat} {k1 k2 : IntKind} {n m : Int} {kn : Nat → Prop} : MK b (.int k1 n) (.int k2 m) kn = (m = n ∧ 0 ≤ n ∧ n ≤ 140737488355328 ∧ n.toNat * b ≤ 140737488355328 ∧ kn n.toNat) := rfl
@[simp ↓] theorem fi_one {s o : Nat} {xs : List AV} : FI false s o (.agg xs) k = OPTK xs[o]? k := by
  simp only [FI, FIELD, partOf, ldv, cond_false, PURE, qk, OPTK]
  cases xs[o]? <;> simp
@[simp ↓] theorem fi_agg {s o : Nat} {xs : List AV} : FI true s o (.agg xs) k = (o + s ≤ xs.length ∧ k (.agg ((xs.drop o).take s))) := by
  simp only [FI, FIELD, partOf, ldv, cond_true, PURE, qk]
  by_cases h : o + s ≤ xs.length <;> simp [h]
@[simp ↓] theorem ai_one {s l : Nat} {xs : List AV} {n : Int} : AI false s l (.agg xs) (.int ki n) k = (0 ≤ n ∧ n < l ∧ OPTK xs[n.toNat * s]? k) := by
  simp only [AI, AINDEX, FIELD, partOf, ldv, cond_false, PURE, qk, OPTK]
  cases xs[n.toNat * s]? <;> simp
@[simp ↓] theorem aa_ptr {s l g o : Nat} {n : Int} : AA s l (.ptr g o) (.int ki n) k = (0 ≤ n ∧ n < l ∧ k (.ptr g (o + n.toNat * s))) := rfl
@[simp ↓] theorem aa_rop {s l o : Nat} {cs : List AV} {n : Int} : AA s l (.rop cs o) (.int ki n) k = (0 ≤ n ∧ n < l ∧ k (.rop cs (o + n.toNat * s))) := rfl
@[simp ↓] theorem lnl_none : LNL (.ro []) k = k (.int .i64 0) := rfl
@[simp ↓] theorem nc_clo {f : FuncId} {c : List AV} : NC (.clo f c) k = k (.clo f c) := rfl

@[simp] theorem app_nil {H : Heap} : H.apply [] = H := rfl
@[simp] theorem app_cons {H : Heap} {g : Nat} {o : Option AObj} {r : Delta} : H.apply ((g, o) :: r) = (H.put g o).apply r := rfl
@[simp ↓] theorem disjK_nil {l : List Nat} {A : Prop} : disjK [] l A = A := rfl
@[simp ↓] theorem disjK_cons {g : Nat} {r l : List Nat} {A : Prop} : disjK (g :: r) l A = (g ∉ l ∧ disjK r l A) := rfl
@[simp] theorem domD_nil : domD [] = [] := rfl
@[simp] theorem domD_cons {g : Nat} {o : Option AObj} {r : Delta} : domD ((g, o) :: r) = g :: domD r := rfl
@[simp ↓] theorem gd_true {A : Prop} : gd true A = A := rfl
@[simp] theorem cells_ptr (g o : Nat) : (AV.ptr g o).cells = [AV.ptr g o] := rfl
@[simp] theorem cells_nils : AV.nils.cells = [AV.nils] := rfl
@[simp] theorem cells_amap (g : Nat) : (AV.amap g).cells = [AV.amap g] := rfl
@[simp] theorem sure_ptr (g o : Nat) : (AV.ptr g o).sure = true := rfl
@[simp] theorem sure_nils : AV.nils.sure = true := rfl
@[simp] theorem sure_amap (g : Nat) : (AV.amap g).sure = true := rfl
@[simp] theorem one_ptr (g o : Nat) : (AV.ptr g o).one = true := rfl
@[simp] theorem one_nils : AV.nils.one = true := rfl
@[simp] theorem one_amap (g : Nat) : (AV.amap g).one = true := rfl
theorem cells_clo (f : FuncId) (c : List AV) : (AV.clo f c).cells = [AV.clo f c] := rfl
@[simp] theorem sure_clo (f : FuncId) (c : List AV) : (AV.clo f c).sure = true := rfl
@[simp] theorem one_clo (f : FuncId) (c : List AV) : (AV.clo f c).one = true := rfl
@[simp] theorem splice_eq (cs : List AV) (o : Nat) (vs : List AV) : splice cs o vs = cs.take o ++ vs ++ cs.drop (o + vs.length) := rfl
@[simp] theorem nth_10 (x0 x1 x2 x3 x4 x5 x6 x7 x8 x9 x10 : AV) (xs : List AV) : nth (x0 :: x1 :: x2 :: x3 :: x4 :: x5 :: x6 :: x7 :: x8 :: x9 :: x10 :: xs) 10 = x10 := rfl
@[simp] theorem nth_11 (x0 x1 x2 x3 x4 x5 x6 x7 x8 x9 x10 x11 : AV) (xs : List AV) : nth (x0 :: x1 :: x2 :: x3 :: x4 :: x5 :: x6 :: x7 :: x8 :: x9 :: x10 :: x11 :: xs) 11 = x11 := rfl
@[simp] theorem nth_12 (x0 x1 x2 x3 x4 x5 x6 x7 x8 x9 x10 x11 x12 : AV) (xs : List AV) : nth (x0 :: x1 :: x2 :: x3 :: x4 :: x5 :: x6 :: x7 :: x8 :: x9 :: x10 :: x11 :: x12 :: xs) 12 = x12 := rfl
@[simp] theorem nth_13 (x0 x1 x2 x3 x4 x5 x6 x7 x8 x9 x10 x11 x12 x13 : AV) (xs : List AV) : nth (x0 :: x1 :: x2 :: x3 :: x4 :: x5 :: x6 :: x7 :: x8 :: x9 :: x10 :: x11 :: x12 :: x13 :: xs) 13 = x13 := rfl
@[simp] theorem nth_14 (x0 x1 x2 x3 x4 x5 x6 x7 x8 x9 x10 x11 x12 x13 x14 : AV) (xs : List AV) : nth (x0 :: x1 :: x2 :: x3 :: x4 :: x5 :: x6 :: x7 :: x8 :: x9 :: x10 :: x11 :: x12 :: x13 :: x14 :: xs) 14 = x14 := rfl
@[simp] theorem nth_15 (x0 x1 x2 x3 x4 x5 x6 x7 x8 x9 x10 x11 x12 x13 x14 x15 : AV) (xs : List AV) : nth (x0 :: x1 :: x2 :: x3 :: x4 :: x5 :: x6 :: x7 :: x8 :: x9 :: x10 :: x11 :: x12 :: x13 :: x14 :: x15 :: xs) 15 = x15 := rfl
@[simp] theorem nth_16 (x0 x1 x2 x3 x4 x5 x6 x7 x8 x9 x10 x11 x12 x13 x14 x15 x16 : AV) (xs : List AV) : nth (x0 :: x1 :: x2 :: x3 :: x4 :: x5 :: x6 :: x7 :: x8 :: x9 :: x10 :: x11 :: x12 :: x13 :: x14 :: x15 :: x16 :: xs) 16 = x16 := rfl
@[simp] theorem nth_17 (x0 x1 x2 x3 x4 x5 x6 x7 x8 x9 x10 x11 x12 x13 x14 x15 x16 x17 : AV) (xs : List AV) : nth (x0 :: x1 :: x2 :: x3 :: x4 :: x5 :: x6 :: x7 :: x8 :: x9 :: x10 :: x11 :: x12 :: x13 :: x14 :: x15 :: x16 :: x17 :: xs) 17 = x17 := rfl
@[simp] theorem nth_18 (x0 x1 x2 x3 x4 x5 x6 x7 x8 x9 x10 x11 x12 x13 x14 x15 x16 x17 x18 : AV) (xs : List AV) : nth (x0 :: x1 :: x2 :: x3 :: x4 :: x5 :: x6 :: x7 :: x8 :: x9 :: x10 :: x11 :: x12 :: x13 :: x14 :: x15 :: x16 :: x17 :: x18 :: xs) 18 = x18 := rfl
@[simp] theorem nth_19 (x0 x1 x2 x3 x4 x5 x6 x7 x8 x9 x10 x11 x12 x13 x14 x15 x16 x17 x18 x19 : AV) (xs : List AV) : nth (x0 :: x1 :: x2 :: x3 :: x4 :: x5 :: x6 :: x7 :: x8 :: x9 :: x10 :: x11 :: x12 :: x13 :: x14 :: x15 :: x16 :: x17 :: x18 :: x19 :: xs) 19 = x19 := rfl
@[simp] theorem nth_20 (x0 x1 x2 x3 x4 x5 x6 x7 x8 x9 x10 x11 x12 x13 x14 x15 x16 x17 x18 x19 x20 : AV) (xs : List AV) : nth (x0 :: x1 :: x2 :: x3 :: x4 :: x5 :: x6 :: x7 :: x8 :: x9 :: x10 :: x11 :: x12 :: x13 :: x14 :: x15 :: x16 :: x17 :: x18 :: x19 :: x20 :: xs) 20 = x20 := rfl
@[simp] theorem nth_21 (x0 x1 x2 x3 x4 x5 x6 x7 x8 x9 x10 x11 x12 x13 x14 x15 x16 x17 x18 x19 x20 x21 : AV) (xs : List AV) : nth (x0 :: x1 :: x2 :: x3 :: x4 :: x5 :: x6 :: x7 :: x8 :: x9 :: x10 :: x11 :: x12 :: x13 :: x14 :: x15 :: x16 :: x17 :: x18 :: x19 :: x20 :: x21 :: xs) 21 = x21 := rfl
@[simp] theorem nth_22 (x0 x1 x2 x3 x4 x5 x6 x7 x8 x9 x10 x11 x12 x13 x14 x15 x16 x17 x18 x19 x20 x21 x22 : AV) (xs : List AV) : nth (x0 :: x1 :: x2 :: x3 :: x4 :: x5 :: x6 :: x7 :: x8 :: x9 :: x10 :: x11 :: x12 :: x13 :: x14 :: x15 :: x16 :: x17 :: x18 :: x19 :: x20 :: x21 :: x22 :: xs) 22 = x22 := rfl
@[simp] theorem nth_23 (x0 x1 x2 x3 x4 x5 x6 x7 x8 x9 x10 x11 x12 x13 x14 x15 x16 x17 x18 x19 x20 x21 x22 x23 : AV) (xs : List AV) : nth (x0 :: x1 :: x2 :: x3 :: x4 :: x5 :: x6 :: x7 :: x8 :: x9 :: x10 :: x11 :: x12 :: x13 :: x14 :: x15 :: x16 :: x17 :: x18 :: x19 :: x20 :: x21 :: x22 :: x23 :: xs) 23 = x23 := rfl
attribute [simp] Heap.put_eq
@[simp] theorem Heap.put_put (H : Heap) (g : Nat) (a b : Option AObj) : (H.put g a).put g b = H.put g b := by
  funext x; simp only [Heap.put_eq]; split <;> rfl

/-- Appending. -/
@[simp ↓] theorem app_slc {esz bytes g off len nx : Nat} {x : AV} {H : Heap} {kk : AV → Heap → Nat → Prop} : APP esz bytes (.slc g off len) x H nx kk = OPTK (srcCells esz H x) fun p => ROWK (H g) fun s cells => s = esz ∧ p.2.1.all AV.one = true ∧
    off + len * esz ≤ cells.length ∧ (len + p.1) * bytes ≤ 140737488355328 ∧ kk (.slc nx 0 (len + p.1)) ((H.put g none).put nx (some (.row esz ((cells.drop off).take (len * esz) ++ p.2.1)))) (nx + 1) := by
  simp only [APP, APPEND, OPTK, ROWK]
  cases hs : srcCells esz H x with
  | none => simp
  | some p =>
    obtain ⟨m, news, rd⟩ := p
    cases hg : H g with
    | none => simp
    | some o =>
      cases o with
      | mp es => simp
      | row sz cells =>
        simp [Heap.apply]
        constructor
        · rintro ⟨h1, rfl, h2, h3, h4⟩; exact ⟨_, _, ⟨rfl, rfl⟩, rfl, h1, h2, h3, h4⟩
        · rintro ⟨_, _, ⟨rfl, rfl⟩, rfl, h1, h2, h3, h4⟩; exact ⟨h1, rfl, h2, h3, h4⟩
@[simp ↓] theorem app_nils {esz bytes nx : Nat} {x : AV} {H : Heap} {kk : AV → Heap → Nat → Prop} : APP esz bytes .nils x H nx kk = OPTK (srcCells esz H x) fun p => p.2.1.all AV.one = true ∧
    (p.1 = 0 → kk .nils H nx) ∧ (p.1 ≠ 0 → p.1 * bytes ≤ 140737488355328 ∧ kk (.slc nx 0 p.1) (H.put nx (some (.row esz p.2.1))) (nx + 1)) := by
  simp only [APP, APPEND, OPTK]
  cases hs : srcCells esz H x with
  | none => simp
  | some p => obtain ⟨m, news, rd⟩ := p; simp [Heap.apply]
@[simp ↓] theorem append_slc {esz bytes g off len nx : Nat} {x : AV} {H : Heap} {kt : Kt} : APPEND esz bytes (.slc g off len) x H nx kt = OPTK (srcCells esz H x) fun p => ROWK (H g) fun s cells => s = esz ∧ p.2.1.all AV.one = true ∧
    off + len * esz ≤ cells.length ∧ (len + p.1) * bytes ≤ 140737488355328 ∧ kt (.slc nx 0 (len + p.1)) (g :: p.2.2) [nx] [(g, none), (nx, some (.row esz ((cells.drop off).take (len * esz) ++ p.2.1)))] := by
  simp only [APPEND, OPTK, ROWK]
  cases hs : srcCells esz H x with
  | none => simp
  | some p =>
    obtain ⟨m, news, rd⟩ := p
    cases hg : H g with
    | none => simp
    | some o =>
      cases o with
      | mp es => simp
      | row sz cells =>
        simp
        constructor
        · rintro ⟨h1, rfl, h2, h3, h4⟩; exact ⟨_, _, ⟨rfl, rfl⟩, rfl, h1, h2, h3, h4⟩
        · rintro ⟨_, _, ⟨rfl, rfl⟩, rfl, h1, h2, h3, h4⟩; exact ⟨h1, rfl, h2, h3, h4⟩
@[simp ↓] theorem append_nils {esz bytes nx : Nat} {x : AV} {H : Heap} {kt : Kt} : APPEND esz bytes .nils x H nx kt = OPTK (srcCells esz H x) fun p => p.2.1.all AV.one = true ∧
    (p.1 = 0 → kt .nils p.2.2 [] []) ∧ (p.1 ≠ 0 → p.1 * bytes ≤ 140737488355328 ∧ kt (.slc nx 0 p.1) p.2.2 [nx] [(nx, some (.row esz p.2.1))]) := by
  simp only [APPEND, OPTK]
  cases hs : srcCells esz H x with
  | none => simp
  | some p => obtain ⟨m, news, rd⟩ := p; simp
@[simp ↓] theorem src_slc {esz g off len : Nat} {H : Heap} {kp : Nat × List AV × List Nat → Prop} : OPTK (srcCells esz H (.slc g off len)) kp = ROWK (H g) fun _ cells => off + len * esz ≤ cells.length ∧ kp (len, (cells.drop off).take (len * esz), [g]) := by
  simp only [srcCells, OPTK, ROWK]
  cases hg : H g with
  | none => simp
  | some o =>
    cases o with
    | mp es => simp
    | row sz cells =>
      by_cases h : off + len * esz ≤ cells.length
      · simp [h]
        constructor
        · intro hk; exact ⟨_, _, ⟨rfl, rfl⟩, h, hk⟩
        · rintro ⟨_, _, ⟨rfl, rfl⟩, _, hk⟩; exact hk
      · simp [h]
@[simp] theorem src_ro {esz : Nat} {xs : List (List AV)} {H : Heap} (h : ∀ x ∈ xs, x.length = esz) : srcCells esz H (.ro xs) = some (xs.length, xs.flatten, []) := by
  simp only [srcCells]
  rw [if_pos (by simpa using h)]
@[simp] theorem src_str {s : List UInt8} {H : Heap} : srcCells 1 H (.str s) = some (s.length, s.map (fun b => .int .u8 (b.toNat : Int)), []) := rfl
@[simp] theorem src_nils {esz : Nat} {H : Heap} : srcCells esz H .nils = some (0, [], []) := rfl

/-- What was there is there as it was. -/
def Keep (nx : Nat) (H' H : Heap) : Prop := ∀ g, g < nx → H' g = H g
@[simp] theorem Keep.rfl {nx : Nat} {H : Heap} : Keep nx H H = True := by simp [Keep]
theorem Keep.put {nx g : Nat} {o : Option AObj} {H H0 : Heap} (h : nx ≤ g) : Keep nx (H.put g o) H0 = Keep nx H H0 := by
  unfold Keep
  apply propext
  constructor
  · intro hk x hx; have := hk x hx; rwa [Heap.put_ne _ _ (by omega)] at this
  · intro hk x hx; rw [Heap.put_ne _ _ (by omega)]; exact hk x hx
@[simp] theorem Keep.put0 {nx : Nat} {o : Option AObj} {H H0 : Heap} : Keep nx (H.put nx o) H0 = Keep nx H H0 := Keep.put (Nat.le_refl _)
@[simp] theorem Keep.putS {nx i : Nat} {o : Option AObj} {H H0 : Heap} : Keep nx (H.put (nx + i) o) H0 = Keep nx H H0 := Keep.put (by omega)
theorem Keep.trans {n m : Nat} {H1 H2 H3 : Heap} (h : Keep m H1 H2) (hn : n ≤ m) (k : Keep n H2 H3) : Keep n H1 H3 := fun g hg => (h g (by omega)).trans (k g hg)
theorem QC.of' {P : Program} {f : FuncId} {args : List AV} {r : AV} (h : ∀ H nx, ACalls P f args H nx fun v H' _ => Frz H' nx v r ∧ Keep nx H' H) : QC P f args r := QC.of h
@[simp] theorem frz_i {H : Heap} {nx : Nat} {a : Int} {r : AV} : Frz H nx (.int ki a) r = (r = .int ki a) := by
  apply propext; constructor
  · intro h; cases h; rfl
  · rintro rfl; exact .same _ (.int _ _)
@[simp] theorem frz_b {H : Heap} {nx : Nat} {a : Bool} {r : AV} : Frz H nx (.bool a) r = (r = .bool a) := by
  apply propext; constructor
  · intro h; cases h; rfl
  · rintro rfl; exact .same _ (.bool _)
@[simp] theorem frz_s {H : Heap} {nx : Nat} {a : List UInt8} {r : AV} : Frz H nx (.str a) r = (r = .str a) := by
  apply propext; constructor
  · intro h; cases h; rfl
  · rintro rfl; exact .same _ (.str _)
theorem QC.call {P : Program} {f : FuncId} {args : List AV} {r : AV} (h : QC P f args r) {H : Heap} {nx : Nat} {kk : AV → Heap → Nat → Prop} (hk : kk r H nx) : ACalls P f args H nx kk :=
  (h H nx).mono fun v H' nx' ⟨h1, h2, h3⟩ => by subst h1; subst h2; subst h3; exact hk
end
end Go.Proofs.YtejohcohkgcmhaaDoor
namespace Go.Proofs.YtejohcohkgcmhaaDoor
open Go Go.RowKit

section
variable {k : AV → Prop} {ki : IntKind}
@[simp ↓] theorem mu_p {g : Nat} {key v : AV} {H : Heap} {kh : Heap → Prop} : MU (.amap g) key v H kh = MAPK (H g) fun es => OPTK (findK key es) fun r => kh (H.put g (some (.mp (match r with | some (i, _) => es.set i (key, v) | none => es ++ [(key, v)])))) := by
  simp only [MU, MUPD, OPTK, MAPK]
  cases hg : H g with
  | none => simp
  | some o =>
    cases o with
    | row s cs => simp
    | mp es =>
      simp only [Option.some.injEq, AObj.mp.injEq, exists_eq_left']
      cases findK key es with
      | none => simp
      | some r => cases r <;> simp [Heap.apply]
@[simp ↓] theorem lk_p {z : List AV} {agg ok : Bool} {g : Nat} {key : AV} {H : Heap} : LK z agg (.amap g) key ok H k = MAPK (H g) fun es => OPTK (findK key es) fun r => k (match r with | some (_, v) => (bif ok then .tup [v, .bool true] else v) | none => (bif ok then .tup [(bif agg then .agg z else z.getD 0 .junk), .bool false] else (bif agg then .agg z else z.getD 0 .junk))) := by
  simp only [LK, LOOK, qk, OPTK, MAPK]
  cases hg : H g with
  | none => simp
  | some o =>
    cases o with
    | row s cs => simp
    | mp es =>
      simp only [Option.some.injEq, AObj.mp.injEq, exists_eq_left']
      cases findK key es with
      | none => simp
      | some r => cases r <;> simp [Heap.apply]
@[simp ↓] theorem look_p {z : List AV} {agg ok : Bool} {g : Nat} {key : AV} {H : Heap} {kt : Kt} : LOOK z agg (.amap g) key ok H kt = MAPK (H g) fun es => OPTK (findK key es) fun r => kt (match r with | some (_, v) => (bif ok then .tup [v, .bool true] else v) | none => (bif ok then .tup [(bif agg then .agg z else z.getD 0 .junk), .bool false] else (bif agg then .agg z else z.getD 0 .junk))) [g] [] [] := by
  simp only [LOOK, OPTK, MAPK]
  cases hg : H g with
  | none => simp
  | some o =>
    cases o with
    | row s cs => simp
    | mp es =>
      simp only [Option.some.injEq, AObj.mp.injEq, exists_eq_left']
      cases findK key es with
      | none => simp
      | some r => cases r <;> simp [Heap.apply]
@[simp ↓] theorem mupd_p {g : Nat} {key v : AV} {H : Heap} {kt : Kt} : MUPD (.amap g) key v H kt = MAPK (H g) fun es => OPTK (findK key es) fun r => kt .und [g] [] [(g, some (.mp (match r with | some (i, _) => es.set i (key, v) | none => es ++ [(key, v)])))] := by
  simp only [MUPD, OPTK, MAPK]
  cases hg : H g with
  | none => simp
  | some o =>
    cases o with
    | row s cs => simp
    | mp es =>
      simp only [Option.some.injEq, AObj.mp.injEq, exists_eq_left']
      cases findK key es with
      | none => simp
      | some r => cases r <;> simp [Heap.apply]
theorem mu_new {n g p : Nat} {op : Option AObj} {es : List (AV × AV)} {key v : AV} {H H0 : Heap} {kh : Heap → Prop} (hH : H g = some (.mp es)) (hp : H p = op) (hpg : p ≠ g) (hK : Keep n H H0) (hn : n ≤ g) (hf : findK key es = some none)
    (hk : ∀ H', H' g = some (.mp (es ++ [(key, v)])) → H' p = op → Keep n H' H0 → kh H') : MU (.amap g) key v H kh := by
  rw [mu_p, hH, mapk, hf, optk]
  exact hk _ (Heap.put_at _ _ _) (by rw [Heap.put_ne _ _ hpg]; exact hp) ((Keep.put hn).symm ▸ hK)
@[simp ↓ high] theorem ia_map {α : Type} {esz : Nat} {l : List α} {f : α → List AV} {n : Int} : IA esz (.ro (l.map f)) (.int ki n) k = (0 ≤ n ∧ n < l.length ∧ OPTK l[n.toNat]? fun x => (f x).length = esz ∧ k (.rop (f x) 0)) := by
  rw [ia_ro]
  apply propext
  constructor
  · rintro ⟨h0, h1, h2, h3⟩
    have hlt : n.toNat < l.length := by simp at h1; omega
    refine ⟨h0, by simpa using h1, l[n.toNat], by simp [hlt], ?_⟩
    simp [List.getD_eq_getElem?_getD, hlt] at h2 h3
    exact ⟨h2, h3⟩
  · rintro ⟨h0, h1, x, h2, h3, h4⟩
    refine ⟨h0, by simpa using h1, ?_⟩
    simp [List.getD_eq_getElem?_getD, h2]
    exact ⟨h3, h4⟩
theorem optk_of {α : Type} {o : Option α} {v : α} {kk : α → Prop} (h : o = some v) (hk : kk v) : OPTK o kk := ⟨v, h, hk⟩
theorem optk_lt {α : Type} {l : List α} {n : Nat} {kk : α → Prop} (h : n < l.length) (hk : ∀ x, l[n]? = some x → kk x) : OPTK l[n]? kk := ⟨l[n], by simp [h], hk _ (by simp [h])⟩
@[simp] theorem findK_nil {key : AV} : findK key [] = some none := rfl
theorem findK_cons {key v : AV} {q : AV} {r : List (AV × AV)} : findK key ((q, v) :: r) = match keyEq key q with
    | some true => some (some (0, v))
    | some false => (findK key r).map (fun o => o.map fun p => (p.1 + 1, p.2))
    | none => none := rfl
@[simp] theorem findK_int {k1 : IntKind} {x y : Int} {v : AV} {r : List (AV × AV)} : findK (.int k1 x) ((.int k1 y, v) :: r) = if x = y then some (some (0, v)) else (findK (.int k1 x) r).map (fun o => o.map fun p => (p.1 + 1, p.2)) := by
  rw [findK_cons]
  by_cases h : x = y
  · simp [keyEq, h]
  · have e : (x == y) = false := by simpa using h
    simp [keyEq, h, e]
@[simp] theorem findK_str {x y : List UInt8} {v : AV} {r : List (AV × AV)} : findK (.str x) ((.str y, v) :: r) = if x = y then some (some (0, v)) else (findK (.str x) r).map (fun o => o.map fun p => (p.1 + 1, p.2)) := by
  rw [findK_cons]
  by_cases h : x = y
  · simp [keyEq, h]
  · have e : (x == y) = false := by simpa using h
    simp [keyEq, h, e]
@[simp] theorem keyEq_int {k1 : IntKind} {a b : Int} : keyEq (.int k1 a) (.int k1 b) = some (a == b) := by simp [keyEq]
@[simp] theorem keyEq_str {a b : List UInt8} : keyEq (.str a) (.str b) = some (a == b) := rfl
@[simp] theorem keyFit_int {k1 k2 : IntKind} {a : Int} : keyFit (.int k1) (.int k2 a) = true := rfl
@[simp] theorem keyFit_str {a : List UInt8} : keyFit .str (.str a) = true := rfl
theorem Frz.tup2 {H : Heap} {nx : Nat} {a b x y : AV} (h1 : Frz H nx a x) (h2 : Frz H nx b y) : Frz H nx (.tup [a, b]) (.tup [x, y]) := by
  refine .tup _ _ rfl fun j v u hv hu => ?_
  match j, hv, hu with
  | 0, hv, hu => cases hv; cases hu; exact h1
  | 1, hv, hu => cases hv; cases hu; exact h2
@[simp] theorem frz_tup2 {H : Heap} {nx : Nat} {a b x y : AV} : Frz H nx (.tup [a, b]) (.tup [x, y]) = (Frz H nx a x ∧ Frz H nx b y) := by
  apply propext; constructor
  · intro h
    cases h with
    | same _ h => cases h with | tup _ h => exact ⟨.same _ (h 0 _ rfl), .same _ (h 1 _ rfl)⟩
    | tup _ _ _ h => exact ⟨h 0 _ _ rfl rfl, h 1 _ _ rfl rfl⟩
  · rintro ⟨h1, h2⟩; exact h1.tup2 h2
/-- A row of numbers, made in the call. -/
theorem Frz.row {H : Heap} {nx g : Nat} {sz len : Nat} {cells : List AV} {xs : List (List AV)} (hg : nx ≤ g) (hH : H g = some (.row sz cells)) (hl : xs.length = len) (hs : ∀ x ∈ xs, x.length = sz) (hc : xs.flatten = cells) (hb : ∀ c ∈ cells, Bel (· < nx) c) :
    Frz H nx (.slc g 0 len) (.ro xs) := by
  have hflat : ∀ (xs : List (List AV)), (∀ x ∈ xs, x.length = sz) → ∀ (i : Nat) (x : List AV) (j : Nat) (v : AV), xs[i]? = some x → x[j]? = some v → xs.flatten[i * sz + j]? = some v := by
    intro xs
    induction xs with
    | nil => intro _ i x j v hx; simp at hx
    | cons y r ih =>
      intro hs i x j v hx hv
      have hy : y.length = sz := hs y (by simp)
      cases i with
      | zero =>
        simp at hx; subst hx
        have hj := (List.getElem?_eq_some_iff.1 hv).1
        rw [List.flatten_cons, List.getElem?_append_left (by omega)]; simpa using hv
      | succ i =>
        have hm : (i + 1) * sz = sz + i * sz := by rw [Nat.succ_mul, Nat.add_comm]
        rw [List.flatten_cons, List.getElem?_append_right (by omega)]
        rw [show (i + 1) * sz + j - y.length = i * sz + j by omega]
        exact ih (fun z hz => hs z (by simp [hz])) i x j v (by simpa using hx) hv
  have hlen : cells.length = len * sz := by
    have : ∀ xs : List (List AV), (∀ x ∈ xs, x.length = sz) → xs.flatten.length = xs.length * sz := by
      intro xs
      induction xs with
      | nil => intro _; simp
      | cons y r ih => intro hs; rw [List.flatten_cons, List.length_append, ih fun z hz => hs z (by simp [hz]), hs y (by simp), List.length_cons, Nat.succ_mul, Nat.add_comm]
    rw [← hc, ← hl]; exact this xs hs
  refine .slc g 0 len sz cells xs hg hH (by omega) hl hs (fun i j => (xs.getD i []).getD j .junk) (fun i x j v hx hv => ?_) (fun i x j v hx hv => ?_)
  · have := hflat xs hs i x j v hx hv
    rw [hc] at this
    simp only [Nat.zero_add, this, List.getD_eq_getElem?_getD, hx, Option.getD_some, hv]
  · have := hflat xs hs i x j v hx hv
    rw [hc] at this
    simp only [List.getD_eq_getElem?_getD, hx, Option.getD_some, hv]
    exact .same _ (hb v (List.mem_of_getElem? this))
@[simp] theorem frz_nils {H : Heap} {nx : Nat} : Frz H nx .nils (.ro []) = True := by simp [Frz.nils]
end
end Go.Proofs.YtejohcohkgcmhaaDoor
namespace Go.Proofs.YtejohcohkgcmhaaDoor
open Go Go.RowKit

theorem ACalls.pure {P : Program} {f : FuncId} {args : List AV} {r : AV} {H : Heap} {nx : Nat} (h : ACalls P f args H nx fun v H' _ => Frz H' nx v r ∧ Keep nx H' H) : ACalls P f args H nx fun v H' nx' => v = r ∧ H' = H ∧ nx' = nx := by
  refine ACalls.tidy fun hlive => ?_
  refine (ACalls.gc (R := fun v H' => v = r ∧ H' = H) h fun v H' nx' ⟨h1, h2⟩ => ⟨r, H, ⟨rfl, rfl⟩, h1, fun g o ho => ⟨hlive g o ho, by rw [h2 g (hlive g o ho)]; exact ho, .inl ho⟩⟩).mono fun v H' nx' ⟨⟨a, b⟩, c⟩ => ⟨a, b, c⟩

theorem LC.of_qcr {P : Program} {f : FuncId} {args : List AV} {r : AV} {H0 : Heap} {rd : List Nat} (hrd : ∀ g ∈ rd, (H0 g).isSome = true)
    (h : ∀ H nx, (∀ g ∈ rd, H g = H0 g ∧ g < nx) → ACalls P f args H nx fun v H' nx' => v = r ∧ H' = H ∧ nx' = nx) (hr : Bel (fun _ => False) r) : LC P f args H0 rd [] [] r := by
  intro A ρ H w cargs ⟨N, hN⟩ s ha hag _
  have sN : Sim (· < N) ρ H w := ⟨fun g o ho => hN g (s.live g o ho), fun g o ho => (s.obj g o ho).mono rfl (fun _ _ h => h) (fun g hg => ⟨rfl, hN g hg⟩), s.inj, s.lay⟩
  have aN : LRel (Kof ρ H w) ρ (· < N) args cargs.toList := ⟨ha.1, fun j v c hv hc => (ha.2 j v c hv hc).mono (fun _ _ h => h) (fun g hg => ⟨rfl, hN g hg⟩)⟩
  have hr' : ∀ g ∈ rd, H g = H0 g ∧ g < N := fun g hg => ⟨hag g hg, by
    obtain ⟨o, ho⟩ := Option.isSome_iff_exists.1 (hrd g hg)
    exact hN g (s.live g o ((hag g hg).trans ho))⟩
  refine flowUpon_mono (h H N hr' ρ w cargs sN aN) fun cv w' ⟨r', H', nx', ρ', ⟨q0, q1, q2⟩, q3, q4, q5⟩ => ?_
  subst q0; subst q1; subst q2
  have hA : (fun x => A x ∨ x ∈ ([] : List Nat)) = A := by funext x; simp
  refine ⟨ρ', ?_, ?_, ?_⟩
  · rw [hA]
    exact ⟨s.live, fun g o ho => (q3.obj g o ho).restrict (s.obj g o ho).bel, q3.inj, q3.lay⟩
  · rw [hA]
    exact q4.restrict (hr.mono fun _ h => h.elim)
  · rw [hA]
    exact ⟨fun g hg => ⟨(q5.agree g (hN g hg)).1, hg⟩, q5.k, q5.os, q5.tape, q5.output, q5.size⟩
theorem CALLD.of_qcr {P : Program} {f : FuncId} {args cap : List AV} {r : AV} {H : Heap} {nx : Nat} {k : Kt} (rd : List Nat) (hrd : ∀ g ∈ rd, (H g).isSome = true)
    (h : ∀ H' nx, (∀ g ∈ rd, H' g = H g ∧ g < nx) → ACalls P f (args ++ cap) H' nx fun v H'' nx' => v = r ∧ H'' = H' ∧ nx' = nx) (hr : Bel (fun _ => False) r) (hk : k r rd [] []) : CALLD P (.clo f cap) args H nx k :=
  ⟨r, rd, [], [], .inl rfl, LC.of_qcr hrd h hr, hk⟩
theorem ACalls.pure_call {P : Program} {f : FuncId} {args : List AV} {r : AV} {H : Heap} {nx : Nat} {kk : AV → Heap → Nat → Prop} (h : ACalls P f args H nx fun v H' _ => Frz H' nx v r ∧ Keep nx H' H) (hk : kk r H nx) : ACalls P f args H nx kk :=
  h.pure.mono fun v H' nx' ⟨h1, h2, h3⟩ => by subst h1; subst h2; subst h3; exact hk

/-- Values in which no memory stands. -/
def flat : AV → Bool
  | .int _ _ | .str _ | .bool _ => true
  | .agg xs | .tup xs => xs.attach.all fun ⟨x, _⟩ => flat x
  | _ => false
theorem flat_agg {xs : List AV} : flat (.agg xs) = xs.all flat := by rw [flat]; simp
theorem flat_tup {xs : List AV} : flat (.tup xs) = xs.all flat := by rw [flat]; simp
@[simp] theorem flat_int {k : IntKind} {n : Int} : flat (.int k n) = true := by rw [flat]
@[simp] theorem flat_str {s : List UInt8} : flat (.str s) = true := by rw [flat]
@[simp] theorem flat_bool {b : Bool} : flat (.bool b) = true := by rw [flat]
theorem VRel.flat {K K' : KHeap} {ρ ρ' : Nat → Loc} {A A' : Nat → Prop} {v : AV} {c : Value} (h : VRel K ρ A v c) : flat v = true → VRel K' ρ' A' v c := by
  induction h with
  | int k n => exact fun _ => .int k n
  | bool b => exact fun _ => .bool b
  | str s => exact fun _ => .str s
  | agg xs cs h1 _ ih =>
    intro hf
    rw [flat_agg] at hf
    exact .agg xs cs h1 fun j v c hv hc => ih j v c hv hc (List.all_eq_true.1 hf v (List.mem_of_getElem? hv))
  | tup xs cs h1 _ ih =>
    intro hf
    rw [flat_tup] at hf
    exact .tup xs cs h1 fun j v c hv hc => ih j v c hv hc (List.all_eq_true.1 hf v (List.mem_of_getElem? hv))
  | _ => intro hf; simp [Go.Proofs.YtejohcohkgcmhaaDoor.flat] at hf

/-- What is handed is read by value from now on. -/
def LFrz (H : Heap) (xs ys : List AV) : Prop := ys.length = xs.length ∧ ∀ (j : Nat) (v u : AV), xs[j]? = some v → ys[j]? = some u → Frz H 0 v u
theorem LFrz.nil {H : Heap} : LFrz H [] [] := ⟨rfl, fun j v u h => by simp at h⟩
theorem LFrz.cons {H : Heap} {v u : AV} {xs ys : List AV} (h : Frz H 0 v u) (k : LFrz H xs ys) : LFrz H (v :: xs) (u :: ys) := by
  refine ⟨by simp [k.1], fun j a b ha hb => ?_⟩
  cases j with
  | zero => simp at ha hb; subst ha; subst hb; exact h
  | succ j => exact k.2 j a b (by simpa using ha) (by simpa using hb)
theorem LFrz.rel {A : Nat → Prop} {ρ : Nat → Loc} {H : Heap} {w : World} {xs ys : List AV} {cs : List Value} (s : Sim A ρ H w) (h : LFrz H xs ys) (k : LRel (Kof ρ H w) ρ A xs cs) (A' : Nat → Prop) : LRel (Kof ρ (fun _ => none) w) ρ A' ys cs := by
  refine ⟨k.1.trans h.1.symm, fun j u c hu hc => ?_⟩
  have hj : j < xs.length := by have := (List.getElem?_eq_some_iff.1 hu).1; rw [h.1] at this; exact this
  have hv : xs[j]? = some xs[j] := List.getElem?_eq_getElem hj
  exact ((h.2 j _ u hv hu).rel s (fun g o ho => by cases ho) c (k.2 j _ c hv hc)).mono (fun _ _ h => h) (fun g hg => absurd hg (Nat.not_lt_zero _))

/-- A call that only reads what it is handed, and answers without memory. -/
theorem QC.reads {P : Program} {f : FuncId} {args args' : List AV} {r : AV} (h : QC P f args r) (hr : flat r = true) {H : Heap} {nx : Nat} (hf : LFrz H args' args) : ACalls P f args' H nx fun v H' nx' => v = r ∧ H' = H ∧ nx' = nx := by
  intro ρ w cargs s ha
  have s0 := (s.drop (H' := fun _ => none) (fun g o ho => by cases ho)).1
  refine flowUpon_mono (h (fun _ => none) nx ρ w cargs s0 (hf.rel s ha _)) fun cv w' ⟨r', H', nx', ρ', ⟨q0, q1, q2⟩, q3, q4, q5⟩ => ?_
  subst q0; subst q1; subst q2
  have keep : ∀ b o, w.heap[b]? = some o → w'.heap[b]? = some o := fun b o hb =>
    (Kof_some.1 (q5.k b o (Kof_some.2 ⟨fun g hg => by simp at hg, hb⟩))).2
  have hρ : ∀ g, g < nx' → ρ' g = ρ g := fun g hg => (q5.agree g hg).1
  have hK : ∀ b o, Kof ρ H w b = some o → Kof ρ' H w' b = some o := fun b o hb => by
    obtain ⟨h1, h2⟩ := Kof_some.1 hb
    refine Kof_some.2 ⟨fun g hg => ?_, keep b o h2⟩
    obtain ⟨o', ho'⟩ := Option.isSome_iff_exists.1 hg
    rw [hρ g (s.live g o' ho')]
    exact h1 g hg
  refine ⟨r', H, nx', ρ', ⟨rfl, rfl, rfl⟩, ⟨s.live, fun g o ho => ?_, fun x y hx hy hb => ?_, s.lay.mono hK⟩, q4.flat hr, ⟨fun g hg => ⟨hρ g hg, hg⟩, hK, q5.os, q5.tape, q5.output, q5.size⟩⟩
  · rw [hρ g (s.live g o ho)]
    have ho' := s.obj g o ho
    obtain ⟨ob, hob⟩ : ∃ ob, w.heap[(ρ g).block]? = some ob := ⟨_, Array.getElem?_eq_getElem ho'.block_lt⟩
    exact ho'.mono (by rw [keep _ _ hob, hob]) hK fun g hg => ⟨hρ g hg, hg⟩
  · obtain ⟨o1, ho1⟩ := Option.isSome_iff_exists.1 hx
    obtain ⟨o2, ho2⟩ := Option.isSome_iff_exists.1 hy
    rw [hρ x (s.live x o1 ho1), hρ y (s.live y o2 ho2)] at hb
    exact s.inj x y hx hy hb
theorem QC.readsC {P : Program} {f : FuncId} {args args' : List AV} {r : AV} (h : QC P f args r) (hr : flat r = true) {H : Heap} {nx : Nat} (hf : LFrz H args' args) {kk : AV → Heap → Nat → Prop} (hk : kk r H nx) : ACalls P f args' H nx kk :=
  (h.reads hr hf).mono fun v H' nx' ⟨h1, h2, h3⟩ => by subst h1; subst h2; subst h3; exact hk
/-- A call behind which nothing is owned any more. -/
theorem QC.gives {P : Program} {f : FuncId} {args args' : List AV} {r : AV} (h : QC P f args r) {H : Heap} {nx : Nat} (hf : LFrz H args' args) {kk : AV → Heap → Nat → Prop} (hk : kk r (fun _ => none) nx) : ACalls P f args' H nx kk := by
  intro ρ w cargs s ha
  obtain ⟨s0, f0⟩ := s.drop (H' := fun _ => none) (fun g o ho => by cases ho)
  refine flowUpon_mono (h (fun _ => none) nx ρ w cargs s0 (hf.rel s ha _)) fun cv w' ⟨r', H', nx', ρ', ⟨q0, q1, q2⟩, q3, q4, q5⟩ => ?_
  subst q0; subst q1; subst q2
  exact ⟨r', fun _ => none, nx', ρ', hk, q3, q4, f0.trans q5⟩
end Go.Proofs.YtejohcohkgcmhaaDoor
namespace Go.Proofs.YtejohcohkgcmhaaDoor
open Go Go.RowKit

abbrev Str := List UInt8
def I64 (n : Int) : Prop := -9223372036854775808 ≤ n ∧ n ≤ 9223372036854775807

/-- 'R S w cs x': the cells cs read as x, in world w, by blocks of S alone; so many cells each. -/
structure Ty (α : Type) where
  sz : Nat
  R : (Nat → Prop) → World → List Value → α → Prop
  len : ∀ {S : Nat → Prop} {w : World} {cs : List Value} {x : α}, R S w cs x → cs.length = sz
  mono : ∀ {S S' : Nat → Prop} {w w' : World} {cs : List Value} {x : α}, (∀ k, S k → S' k ∧ w'.heap[k]? = w.heap[k]?) → R S w cs x → R S' w' cs x

/-- The cells from one place on. -/
def CellsAt (w : World) (b off : Nat) (cs : List Value) : Prop := ∀ j v, cs[j]? = some v → w.cell? ⟨b, off + j, none⟩ = some v

theorem CellsAt.same {w w' : World} {b off : Nat} {cs : List Value} (h : CellsAt w b off cs) (hb : w'.heap[b]? = w.heap[b]?) : CellsAt w' b off cs :=
  fun j v hv => (World.cell?_of_block (w := w) (a := ⟨b, off + j, none⟩) hb).trans (h j v hv)

theorem CellsAt.c0 {w : World} {b off : Nat} {v : Value} {r : List Value} (h : CellsAt w b off (v :: r)) : w.cell? ⟨b, off, none⟩ = some v := h 0 v rfl
theorem CellsAt.c1 {w : World} {b off : Nat} {v0 v : Value} {r : List Value} (h : CellsAt w b off (v0 :: v :: r)) : w.cell? ⟨b, off + 1, none⟩ = some v := h 1 v rfl
theorem CellsAt.c2 {w : World} {b off : Nat} {v0 v1 v : Value} {r : List Value} (h : CellsAt w b off (v0 :: v1 :: v :: r)) : w.cell? ⟨b, off + 2, none⟩ = some v := h 2 v rfl
theorem CellsAt.c3 {w : World} {b off : Nat} {v0 v1 v2 v : Value} {r : List Value} (h : CellsAt w b off (v0 :: v1 :: v2 :: v :: r)) : w.cell? ⟨b, off + 3, none⟩ = some v := h 3 v rfl
theorem CellsAt.c4 {w : World} {b off : Nat} {v0 v1 v2 v3 v : Value} {r : List Value} (h : CellsAt w b off (v0 :: v1 :: v2 :: v3 :: v :: r)) : w.cell? ⟨b, off + 4, none⟩ = some v := h 4 v rfl
theorem CellsAt.c5 {w : World} {b off : Nat} {v0 v1 v2 v3 v4 v : Value} {r : List Value} (h : CellsAt w b off (v0 :: v1 :: v2 :: v3 :: v4 :: v :: r)) : w.cell? ⟨b, off + 5, none⟩ = some v := h 5 v rfl

def tInt : Ty Int where
  sz := 1
  R _ _ cs n := cs = [.int .i64 n] ∧ I64 n
  len h := by rw [h.1]; rfl
  mono _ h := h

def tByte : Ty UInt8 where
  sz := 1
  R _ _ cs n := cs = [.int .u8 (n.toNat : Int)]
  len h := by rw [h]; rfl
  mono _ h := h

def tStr : Ty Str where
  sz := 1
  R _ _ cs s := cs = [.string ⟨s.toArray⟩] ∧ s.length ≤ maxLen
  len h := by rw [h.1]; rfl
  mono _ h := h

def tBool : Ty Bool where
  sz := 1
  R _ _ cs b := cs = [.bool b]
  len h := by rw [h]; rfl
  mono _ h := h

/-- A slice. -/
def tSlice {α : Type} (T : Ty α) : Ty (List α) where
  sz := 1
  R S w cs l := ∃ a cap, cs = [.slice a l.length cap] ∧ l.length ≤ cap ∧ cap ≤ maxLen ∧ (a = none → cap = 0) ∧
    (l ≠ [] → ∃ b off, a = some ⟨b, off, none⟩ ∧ S b ∧ ∀ i x, l[i]? = some x → ∃ ec, CellsAt w b (off + i * T.sz) ec ∧ T.R S w ec x)
  len h := by obtain ⟨a, cap, rfl, _⟩ := h; rfl
  mono h hr := by
    obtain ⟨a, cap, e, h1, h2, h3, h4⟩ := hr
    refine ⟨a, cap, e, h1, h2, h3, fun hne => ?_⟩
    obtain ⟨b, off, ha, hS, hi⟩ := h4 hne
    refine ⟨b, off, ha, (h b hS).1, fun i x hx => ?_⟩
    obtain ⟨ec, hc, hR⟩ := hi i x hx
    exact ⟨ec, hc.same (h b hS).2, T.mono h hR⟩

theorem tSlice_nil {α : Type} (T : Ty α) (S : Nat → Prop) (w : World) : (tSlice T).R S w [.slice none 0 0] [] :=
  ⟨none, 0, rfl, Nat.le_refl _, Nat.zero_le _, fun _ => rfl, fun h => absurd rfl h⟩

/-- The first elements of a slice. -/
theorem tSlice_take {α : Type} {T : Ty α} {S : Nat → Prop} {w : World} {a : Option Addr} {n c : Nat} {l : List α} (h : (tSlice T).R S w [.slice a n c] l) (m : Nat) (hm : m ≤ n) :
    (tSlice T).R S w [.slice a m c] (l.take m) := by
  obtain ⟨a', cap, hv, hle, hcm, hnil, hel⟩ := h
  simp only [List.cons.injEq, Value.slice.injEq, and_true] at hv
  obtain ⟨rfl, rfl, rfl⟩ := hv
  have hl : (l.take m).length = m := by simp; omega
  refine ⟨a, c, by rw [hl], by omega, hcm, hnil, fun hne => ?_⟩
  obtain ⟨b, off, ha, hS, hc⟩ := hel (by intro h; simp [h] at hne)
  refine ⟨b, off, ha, hS, fun i x hx => hc i x ?_⟩
  rw [List.getElem?_take] at hx
  split at hx
  · exact hx
  · cases hx

/-- Everything that lies below a block number. -/
def Under (B : Nat) : Nat → Prop := fun k => k < B

theorem Ty.below {α : Type} (T : Ty α) {w w' : World} {cs : List Value} {x : α} (h : T.R (Under w.heap.size) w cs x) (hb : Below w.heap.size w w') : T.R (Under w'.heap.size) w' cs x :=
  T.mono (fun k hk => ⟨Nat.lt_of_lt_of_le hk hb.size, hb.block k hk⟩) h

theorem Ty.below' {α : Type} (T : Ty α) {B : Nat} {w w' : World} {cs : List Value} {x : α} (h : T.R (Under B) w cs x) (hb : Below B w w') : T.R (Under B) w' cs x :=
  T.mono (fun k hk => ⟨hk, hb.block k hk⟩) h

/-- An argument of a law, read as data. -/
def Opens (P : Program) {α : Type} (T : Ty α) (t : TypeId) : Prop :=
  P.cellsOf t = T.sz ∧ ∀ {H : Type} (enc : TypeId × Value → H) (w : World) (base : Nat) (sp : Nat → Bool) (held : Bool) (fuel : Nat) (cs : List Value) (x : DataW H × List MemPlace),
    DataW.trod enc P w base sp held fuel t cs = some x → ∃ y : α, T.R (Under w.heap.size) w cs y

theorem wf_i64 {n : Int} (h : (Lit.int .i64 n).wf = true) : I64 n := by
  simpa [Lit.wf, IntKind.min, IntKind.max, IntKind.signed, IntKind.bits, I64] using h

theorem opens_int {P : Program} {t : TypeId} (ht : P.underlying t = some (.int .i64)) (hc : P.cellsOf t = 1) : Opens P tInt t :=
  ⟨hc, fun enc w base sp held fuel cs x h => by
    obtain ⟨n, rfl, _, hw⟩ := DataW.trod_int ht h
    exact ⟨n, rfl, wf_i64 hw⟩⟩

theorem opens_bool {P : Program} {t : TypeId} (ht : P.underlying t = some .bool) (hc : P.cellsOf t = 1) : Opens P tBool t :=
  ⟨hc, fun enc w base sp held fuel cs x h => by
    obtain ⟨n, rfl, _⟩ := DataW.trod_bool ht h
    exact ⟨n, rfl⟩⟩

theorem opens_str {P : Program} {t : TypeId} (ht : P.underlying t = some .string) (hc : P.cellsOf t = 1) : Opens P tStr t :=
  ⟨hc, fun enc w base sp held fuel cs x h => by
    obtain ⟨s, rfl, _, hs⟩ := DataW.trod_string ht h
    exact ⟨s.data.toList, rfl, hs⟩⟩

theorem opens_byte {P : Program} {t : TypeId} (ht : P.underlying t = some (.int .u8)) (hc : P.cellsOf t = 1) : Opens P tByte t :=
  ⟨hc, fun enc w base sp held fuel cs x h => by
    obtain ⟨n, rfl, _, hw⟩ := DataW.trod_int ht h
    have hb : 0 ≤ n ∧ n ≤ 255 := by simpa [Lit.wf, IntKind.min, IntKind.max, IntKind.signed, IntKind.bits] using hw
    refine ⟨UInt8.ofNat n.toNat, ?_⟩
    show [Value.int .u8 n] = _
    have : ((UInt8.ofNat n.toNat).toNat : Int) = n := by
      simp [UInt8.toNat_ofNat']; omega
    rw [this]⟩

theorem cells?_some {w : World} {base : Nat} {a : Addr} {n : Nat} {cs : List Value} (h : w.cells? base a n = some cs) :
    cs.length = n ∧ ∀ j v, cs[j]? = some v → w.cell? (a.add j) = some v := by
  unfold World.cells? at h
  split at h
  · have hl := mapM_some_length h
    refine ⟨by simpa using hl, fun j v hv => ?_⟩
    have hj : j < n := by
      have := (List.getElem?_eq_some_iff.1 hv).1
      simp at hl; omega
    rw [mapM_some_get h j j (by simp [hj]), hv]
  · cases h

theorem cell?_spot {w : World} {a : Addr} {v : Value} (h : w.cell? a = some v) : a.spot = none := by
  unfold World.cell? at h
  split at h
  · split at h
    · cases h
    · rename_i hs; simpa using hs
  · cases h

theorem opens_slice {P : Program} {α : Type} {T : Ty α} {t e : TypeId} (ht : P.underlying t = some (.slice e)) (hc : P.cellsOf t = 1) (hE : Opens P T e) (hpos : 0 < T.sz) : Opens P (tSlice T) t :=
  ⟨hc, fun enc w base sp held fuel cs x h => by
    rcases Go.Deep.open_slice ht h with ⟨rfl, _⟩ | ⟨a, len, cap, m, n, D, Pl, rfl, hb, hl, hm, hmm, _, hel⟩
    · exact ⟨[], tSlice_nil T _ w⟩
    · have hlm : len ≤ m := by rw [hmm]; split <;> omega
      have hel' : ∀ i, i < len → ∃ y : α, ∃ ec, w.cells? base (a.add (i * P.cellsOf e)) (P.cellsOf e) = some ec ∧ T.R (Under w.heap.size) w ec y := by
        intro i hi
        obtain ⟨cs', h1, h2⟩ := hel i (by omega)
        obtain ⟨y, hy⟩ := hE.2 enc w base sp held n cs' _ h2
        exact ⟨y, cs', h1, hy⟩
      by_cases h0 : len = 0
      · subst h0
        exact ⟨[], some a, cap, rfl, Nat.zero_le _, hm, (fun h => by cases h), fun h => absurd rfl h⟩
      · obtain ⟨y0, ec0, hc0, hR0⟩ := hel' 0 (by omega)
        have hs0 := cells?_some hc0
        have hl0 : ec0.length = T.sz := T.len hR0
        have hcell0 : ∃ v, w.cell? a = some v := by
          have : 0 < ec0.length := by omega
          have := hs0.2 0 _ (List.getElem?_eq_getElem this)
          refine ⟨_, by simpa [Addr.add] using this⟩
        obtain ⟨v0, hv0⟩ := hcell0
        have hsp := cell?_spot hv0
        obtain ⟨b, off, sp⟩ := a
        simp only at hsp
        subst hsp
        have : ∃ f : Nat → α, ∀ i, i < len → ∃ ec, w.cells? base ((⟨b, off, none⟩ : Addr).add (i * P.cellsOf e)) (P.cellsOf e) = some ec ∧ T.R (Under w.heap.size) w ec (f i) := by
          haveI : Inhabited α := ⟨y0⟩
          exact Go.Deep.choose_lt hel'
        obtain ⟨f, hf⟩ := this
        refine ⟨(List.range len).map f, some ⟨b, off, none⟩, cap, by simp, by simpa using hl, hm, (fun h => by cases h), fun _ => ⟨b, off, rfl, World.block_lt_of_cell? w _ hv0, fun i y hy => ?_⟩⟩
        have hi : i < len := by
          have := (List.getElem?_eq_some_iff.1 hy).1
          simpa using this
        obtain ⟨ec, h1, h2⟩ := hf i hi
        have hyi : y = f i := by simpa [hi] using hy.symm
        subst hyi
        refine ⟨ec, fun j v hv => ?_, h2⟩
        have := (cells?_some h1).2 j v hv
        rw [hE.1] at this
        rw [Go.Deep.add_add] at this
        unfold Addr.add at this
        split at this
        · rename_i h00
          have e1 : i * T.sz = 0 := by omega
          have e2 : j = 0 := by omega
          rw [e1, e2]; exact this
        · simpa [Nat.add_assoc] using this⟩

end Go.Proofs.YtejohcohkgcmhaaDoor
namespace Go.Proofs.YtejohcohkgcmhaaDoor
open Go Go.RowKit

structure Val where
  kind : Int
  n : Int
  text : Str
  deriving DecidableEq

structure Cl where
  left : Val
  right : Val
  deriving DecidableEq

structure Ins where
  op : Int
  a : Int
  b : Int
  deriving DecidableEq

structure Cod where
  params : Int
  vars : Int
  ins : List Ins
  deriving DecidableEq

structure Prg where
  codes : List Cod
  words : List Str
  deriving DecidableEq

structure Frm where
  fn : Int
  at_ : Int
  vars : List Val
  stack : List Val
  deriving DecidableEq

structure Pmt where
  fuel : Int
  room : Int
  hops : Int
  deriving DecidableEq

structure Agt where
  id : Int
  trip : Int
  prog : Prg
  frames : List Frm
  heap : List Cl
  permit : Pmt
  deriving DecidableEq

def str (s : Str) : Value := .string ⟨s.toArray⟩

def Val.cells (v : Val) : List Value := [.int .i64 v.kind, .int .i64 v.n, .string ⟨v.text.toArray⟩]
def Val.ok (v : Val) : Prop := I64 v.kind ∧ I64 v.n ∧ v.text.length ≤ maxLen
def Ins.cells (i : Ins) : List Value := [.int .i64 i.op, .int .i64 i.a, .int .i64 i.b]
def Ins.ok (i : Ins) : Prop := I64 i.op ∧ I64 i.a ∧ I64 i.b
def Cl.cells (c : Cl) : List Value := c.left.cells ++ c.right.cells
def Cl.ok (c : Cl) : Prop := c.left.ok ∧ c.right.ok
def Pmt.cells (p : Pmt) : List Value := [.int .i64 p.fuel, .int .i64 p.room, .int .i64 p.hops]
def Pmt.ok (p : Pmt) : Prop := I64 p.fuel ∧ I64 p.room ∧ I64 p.hops

def tVal : Ty Val where
  sz := 3
  R _ _ cs v := cs = v.cells ∧ v.ok
  len h := by rw [h.1]; rfl
  mono _ h := h

def tIns : Ty Ins where
  sz := 3
  R _ _ cs v := cs = v.cells ∧ v.ok
  len h := by rw [h.1]; rfl
  mono _ h := h

def tCl : Ty Cl where
  sz := 6
  R _ _ cs v := cs = v.cells ∧ v.ok
  len h := by rw [h.1]; rfl
  mono _ h := h

def tPmt : Ty Pmt where
  sz := 3
  R _ _ cs v := cs = v.cells ∧ v.ok
  len h := by rw [h.1]; rfl
  mono _ h := h

def tCod : Ty Cod where
  sz := 3
  R S w cs c := ∃ v, cs = [.int .i64 c.params, .int .i64 c.vars, v] ∧ I64 c.params ∧ I64 c.vars ∧ (tSlice tIns).R S w [v] c.ins
  len h := by obtain ⟨v, rfl, _⟩ := h; rfl
  mono h hr := by obtain ⟨v, e, h1, h2, h3⟩ := hr; exact ⟨v, e, h1, h2, (tSlice tIns).mono h h3⟩

def tPrg : Ty Prg where
  sz := 2
  R S w cs p := ∃ v u, cs = [v, u] ∧ (tSlice tCod).R S w [v] p.codes ∧ (tSlice tStr).R S w [u] p.words
  len h := by obtain ⟨v, u, rfl, _⟩ := h; rfl
  mono h hr := by obtain ⟨v, u, e, h1, h2⟩ := hr; exact ⟨v, u, e, (tSlice tCod).mono h h1, (tSlice tStr).mono h h2⟩

def tFrm : Ty Frm where
  sz := 4
  R S w cs f := ∃ v u, cs = [.int .i64 f.fn, .int .i64 f.at_, v, u] ∧ I64 f.fn ∧ I64 f.at_ ∧ (tSlice tVal).R S w [v] f.vars ∧ (tSlice tVal).R S w [u] f.stack
  len h := by obtain ⟨v, u, rfl, _⟩ := h; rfl
  mono h hr := by obtain ⟨v, u, e, h0, h0', h1, h2⟩ := hr; exact ⟨v, u, e, h0, h0', (tSlice tVal).mono h h1, (tSlice tVal).mono h h2⟩

def tAgt : Ty Agt where
  sz := 9
  R S w cs a := ∃ v u f g, cs = [.int .i64 a.id, .int .i64 a.trip, v, u, f, g, .int .i64 a.permit.fuel, .int .i64 a.permit.room, .int .i64 a.permit.hops] ∧ I64 a.id ∧ I64 a.trip ∧ a.permit.ok ∧
    tPrg.R S w [v, u] a.prog ∧ (tSlice tFrm).R S w [f] a.frames ∧ (tSlice tCl).R S w [g] a.heap
  len h := by obtain ⟨v, u, f, g, rfl, _⟩ := h; rfl
  mono h hr := by
    obtain ⟨v, u, f, g, e, h0, h1, h2, h3, h4, h5⟩ := hr
    exact ⟨v, u, f, g, e, h0, h1, h2, tPrg.mono h h3, (tSlice tFrm).mono h h4, (tSlice tCl).mono h h5⟩

end Go.Proofs.YtejohcohkgcmhaaDoor
namespace Go.Proofs.YtejohcohkgcmhaaDoor
namespace VM

/-- Chapter 1: what is wrong with a value. -/
def wrong (v : Val) (cells : Int) : Int :=
  if v.kind < 0 ∨ 2 < v.kind then 1
  else if v.kind = 0 ∧ (v.n < -1073741824 ∨ 1073741824 < v.n) then 3
  else if v.kind = 1 ∧ 60 < v.text.length then 4
  else if v.kind = 2 ∧ (v.n < 0 ∨ cells ≤ v.n) then 6
  else if (v.kind = 1 ∧ v.n ≠ 0) ∨ (v.kind ≠ 1 ∧ v.text ≠ []) then 2
  else 0

def wordByte (c : UInt8) : Bool := decide (32 ≤ c.toNat) && decide (c.toNat ≤ 126) && !(c.toNat == 39)
def word (s : Str) : Bool := decide (s.length ≤ 12) && s.all wordByte

/-- What an instruction needs, and gives. -/
def effect (i : Ins) : Int × Int :=
  if i.op = 1 ∨ i.op = 2 ∨ i.op = 3 ∨ i.op = 12 then (0, 1)
  else if i.op = 4 ∨ i.op = 14 ∨ i.op = 16 ∨ i.op = 19 ∨ i.op = 18 then (1, 0)
  else if i.op = 5 ∨ i.op = 6 then (2, 1)
  else if i.op = 7 ∨ i.op = 8 ∨ i.op = 11 ∨ i.op = 13 then (1, 1)
  else if i.op = 9 ∨ i.op = 10 then (2, 0)
  else if i.op = 17 then (i.b, 1)
  else (0, 0)

def isIn (n most : Int) : Bool := decide (0 ≤ n) && decide (n < most)
def numOk (p : Prg) (c : Cod) (i : Ins) : Bool :=
  if i.op = 1 then decide (-1073741824 ≤ i.a) && decide (i.a ≤ 1073741824)
  else if i.op = 2 then isIn i.a p.words.length
  else if i.op = 3 ∨ i.op = 4 then isIn i.a c.vars
  else if i.op = 5 then decide (1 ≤ i.a) && decide (i.a ≤ 5)
  else if i.op = 15 ∨ i.op = 16 then isIn i.a c.ins.length
  else if i.op = 17 then isIn i.a p.codes.length && decide (some i.b = (p.codes[i.a.toNat]?).map (·.params))
  else decide (i.a = 0)
def numbers (p : Prg) (c : Cod) (i : Ins) : Int :=
  if i.op < 1 ∨ 19 < i.op then 1
  else if numOk p c i = false ∨ (i.op ≠ 17 ∧ i.b ≠ 0) then 3
  else 0

/-- Heights: what is still to be looked at, and what is known; its error is 8 end, 10 fit, 4 much. -/
def heightsGo (ins : List Ins) : Nat → List (Int × Int) → List Int → List Int × Int
  | 0, _, _ => ([], 0)
  | _ + 1, [], out => (out, 0)
  | f + 1, (at_, h) :: q, out =>
    match (if 0 ≤ at_ then ins[at_.toNat]? else none) with
    | none => ([], 8)
    | some i =>
      if 0 ≤ out.getD at_.toNat 0 then (if out.getD at_.toNat 0 ≠ h then ([], 10) else heightsGo ins f q out)
      else
        if h < (effect i).1 ∨ (i.op = 18 ∧ h ≠ 1) then ([], 10)
        else if 16 < h + (effect i).2 - (effect i).1 then ([], 4)
        else
          let h' := h + (effect i).2 - (effect i).1
          heightsGo ins f (q ++ (if i.op ≠ 15 ∧ i.op ≠ 18 then [(at_ + 1, h')] else []) ++ (if i.op = 15 ∨ i.op = 16 then [(i.a, h')] else [])) (out.set at_.toNat h)
def heights (ins : List Ins) : List Int × Int := heightsGo ins (2 * ins.length + 2) [(0, 0)] (List.replicate ins.length (-1))

def codeRange (c : Cod) : Bool := decide (c.params < 0 ∨ 4 < c.params ∨ c.vars < c.params ∨ 8 < c.vars ∨ c.ins.length < 1 ∨ 200 < c.ins.length)
/-- The first error of a list. -/
def firstErr {α : Type} (f : α → Int) : List α → Int
  | [] => 0
  | x :: r => if f x ≠ 0 then f x else firstErr f r
def codeErr (p : Prg) (c : Cod) : Int := if firstErr (numbers p c) c.ins ≠ 0 then firstErr (numbers p c) c.ins else (heights c.ins).2
def program (p : Prg) : Int :=
  if p.codes.length < 1 ∨ 5 < p.codes.length then 5
  else if 16 < p.words.length then 4
  else if p.words.all word = false then 7
  else if (p.codes.getD 0 ⟨0, 0, []⟩).params ≠ 0 then 10
  else if p.codes.any codeRange then 3
  else firstErr (codeErr p) p.codes

/-- A frame: number k of an agent's. -/
def frame (a : Agt) (k : Nat) (away : Bool) : Int :=
  match a.frames[k]? with
  | none => 0
  | some f =>
    match (if 0 ≤ f.fn then a.prog.codes[f.fn.toNat]? else none) with
    | none => 3
    | some c =>
      match (if 0 ≤ f.at_ then c.ins[f.at_.toNat]? else none) with
      | none => 3
      | some _ =>
        if (f.vars.length : Int) ≠ c.vars then 3
        else
          let hs := (heights c.ins).1
          let h := hs.getD f.at_.toNat 0
          let last := decide (k + 1 = a.frames.length)
          let waits := !last || away
          let prev := c.ins.getD (f.at_.toNat - 1) ⟨0, 0, 0⟩
          let bad := (!last && (decide (prev.op ≠ 17) || decide (prev.a ≠ ((a.frames[k + 1]?).map (·.fn)).getD 0))) || (last && decide (prev.op ≠ 13)) || decide (hs.getD (f.at_.toNat - 1) 0 < 0)
          if waits && (decide (f.at_ = 0) || bad) then 10
          else
            let h' := if waits then h - 1 else h
            if h' < 0 ∨ (f.stack.length : Int) ≠ h' then 10
            else firstErr (fun v => wrong v a.heap.length) (f.vars ++ f.stack)
def cellErr (n : Int) (c : Cl) : Int := if wrong c.left n ≠ 0 then wrong c.left n else wrong c.right n
def framesErr (a : Agt) (away : Bool) : Int := firstErr (fun k => frame a k away) (List.range a.frames.length)
def agent (a : Agt) (away : Bool) : Int :=
  if program a.prog ≠ 0 then program a.prog
  else if a.id < 0 ∨ 1073741824 < a.id ∨ a.trip < 0 ∨ 1073741824 < a.trip ∨ a.permit.fuel < 0 ∨ 2000 < a.permit.fuel ∨ a.permit.room < 0 ∨ 60 < a.permit.room ∨ a.permit.hops < 0 ∨ 12 < a.permit.hops then 3
  else if a.frames.length < 1 ∨ 12 < a.frames.length then 5
  else if 60 - a.permit.room < a.heap.length then 4
  else if framesErr a away ≠ 0 then framesErr a away
  else firstErr (cellErr a.heap.length) a.heap
end VM
end Go.Proofs.YtejohcohkgcmhaaDoor
namespace Go.Proofs.YtejohcohkgcmhaaDoor
namespace VM

def cInt (n : Int) : Val := ⟨0, n.tmod 1073741825, []⟩
def cText (s : Str) : Val := ⟨1, 0, s.take 60⟩
def bit (b : Bool) : Val := ⟨0, if b = true then 1 else 0, []⟩
def vzero : Val := ⟨0, 0, []⟩
/-- What an operation makes of two values. -/
def two (op : Int) (a b : Val) : Val × Int :=
  if op < 1 ∨ 5 < op then (vzero, 1)
  else if op = 5 then (bit (decide (a = b)), 0)
  else if (a.kind = 1 ∧ b.kind = 1) ∧ op = 1 then (cText (a.text ++ b.text), 0)
  else if (a.kind = 1 ∧ b.kind = 1) ∧ op = 4 then (bit (Op.bytesLess a.text b.text), 0)
  else if a.kind ≠ 0 ∨ b.kind ≠ 0 then (vzero, 11)
  else if op = 1 then (cInt (a.n + b.n), 0)
  else if op = 2 then (cInt (a.n - b.n), 0)
  else if op = 3 then (cInt (a.n * b.n), 0)
  else (bit (decide (a.n < b.n)), 0)

structure WrongOk (v : Val) (N : Int) : Prop where
  kind : v.kind = 0 ∨ v.kind = 1 ∨ v.kind = 2
  int : v.kind = 0 → -1073741824 ≤ v.n ∧ v.n ≤ 1073741824
  len : v.text.length ≤ 60
  cell : v.kind = 2 → 0 ≤ v.n ∧ v.n < N
  txt : v.kind = 1 → v.n = 0
  non : v.kind ≠ 1 → v.text = []
theorem wrong_ok {v : Val} {N : Int} (h : wrong v N = 0) : WrongOk v N := by
  unfold wrong at h
  split at h
  · cases h
  rename_i h1
  split at h
  · cases h
  rename_i h2
  split at h
  · cases h
  rename_i h3
  split at h
  · cases h
  rename_i h4
  split at h
  · cases h
  rename_i h5
  have hn : v.kind ≠ 1 → v.text = [] := fun hk => Classical.byContradiction fun ht => h5 (.inr ⟨hk, ht⟩)
  refine ⟨by omega, fun hk => by omega, ?_, fun hk => by omega, fun hk => Classical.byContradiction fun ht => h5 (.inl ⟨hk, ht⟩), hn⟩
  by_cases hk : v.kind = 1
  · omega
  · rw [hn hk]; simp
theorem ok_wrong {v : Val} {N : Int} (h : WrongOk v N) : wrong v N = 0 := by
  obtain ⟨h1, h2, h3, h4, h5, h6⟩ := h
  unfold wrong
  rw [if_neg (by omega), if_neg (by omega), if_neg (by omega), if_neg (by omega), if_neg]
  rintro (⟨a, b⟩ | ⟨a, b⟩)
  · exact b (h5 a)
  · exact b (h6 a)

/-- A value as a text. -/
def vshow (h : List Cl) : Nat → Val → Str
  | d, v => if v.kind = 0 then Lib.itoa v.n else if v.kind = 1 then v.text else match d with
    | 0 => [46, 46]
    | d + 1 => match (if 0 ≤ v.n then h[v.n.toNat]? else none) with
      | none => [46, 46]
      | some c => [40] ++ vshow h d c.left ++ [32] ++ vshow h d c.right ++ [41]

/-- Cells in the order in which they are come to. -/
def meet (o : List Nat) (v : Val) : List Nat := if v.kind = 2 ∧ v.n.toNat ∉ o then o ++ [v.n.toNat] else o
def drain (h : List Cl) : Nat → List Nat → Nat → List Nat
  | 0, o, _ => o
  | f + 1, o, d => match o[d]? with
    | none => o
    | some n => match h[n]? with
      | none => o
      | some c => drain h f (meet (meet o c.left) c.right) (d + 1)
def orderGo (h : List Cl) : List Val → List Nat → List Nat
  | [], o => o
  | v :: r, o => orderGo h r (drain h (h.length - o.length) (meet o v) o.length)
def order (h : List Cl) (l : List Val) : List Nat := orderGo h l []
def put (o : List Nat) (v : Val) : Val := if v.kind = 2 then { v with n := (o.idxOf v.n.toNat : Nat) } else v
def putC (o : List Nat) (c : Cl) : Cl := ⟨put o c.left, put o c.right⟩
def canonV (h : List Cl) (l : List Val) : List Val := l.map (put (order h l))
def canonC (h : List Cl) (l : List Val) : List Cl := (order h l).filterMap fun n => (h[n]?).map (putC (order h l))
/-- Cells, and values, that may be. -/
def right (h : List Cl) (l : List Val) : Bool := l.all (fun v => decide (wrong v h.length = 0)) && h.all (fun c => decide (wrong c.left h.length = 0) && decide (wrong c.right h.length = 0))
end VM
end Go.Proofs.YtejohcohkgcmhaaDoor
namespace Go.Proofs.YtejohcohkgcmhaaDoor
open Go Go.RowKit

def Val.avs (v : Val) : List AV := [.int .i64 v.kind, .int .i64 v.n, .str v.text]
def Cl.avs (c : Cl) : List AV := c.left.avs ++ c.right.avs
def Ins.avs (i : Ins) : List AV := [.int .i64 i.op, .int .i64 i.a, .int .i64 i.b]
@[simp] theorem avs_len (v : Val) : v.avs.length = 3 := rfl
@[simp] theorem cl_avs_len (c : Cl) : c.avs.length = 6 := rfl

theorem wrong1_qc (v : Val) (n : Int) : QC Tryd.prog 12 [.agg v.avs, .int .i64 n] (.int .i64 (VM.wrong v n)) := by
  refine QC.of' fun H nx => zwref1_WrongValue_calls _ _ H nx _ ?_
  obtain ⟨kind, m, text⟩ := v
  simp [zwref1_WrongValue_vc, Val.avs]
  simp only [← List.length_eq_zero_iff]
  repeat' first | apply And.intro | intro _
  all_goals (simp only [VM.wrong, ne_eq, ← List.length_eq_zero_iff]; (repeat' split) <;> omega)
set_option maxHeartbeats 2000000 in
theorem wrong_qc (v : Val) (n : Int) : QC Tryd.prog 11 [.agg v.avs, .int .i64 n] (.int .i64 (VM.wrong v n)) := by
  refine QC.of' fun H nx => cell_Wrong_calls _ _ H nx _ ?_
  obtain ⟨kind, m, text⟩ := v
  by_cases ht : text = []
  all_goals
    simp [cell_Wrong_vc, Val.avs, ht]
    repeat' first | apply And.intro | intro _ | (refine JN.same ?_; simp [ht, cell_Wrong_b1, cell_Wrong_b2, cell_Wrong_b3, cell_Wrong_j1, cell_Wrong_j2, cell_Wrong_j3])
  all_goals (simp only [VM.wrong, ht, ne_eq, not_true_eq_false, not_false_eq_true, and_true, and_false, or_false, List.length_nil]; (repeat' split) <;> omega)

/-- Of numbers, texts and truths alone. -/
def scal : AV → Bool
  | .int _ _ | .str _ | .bool _ => true
  | _ => false
theorem frz_scal {H : Heap} {nx : Nat} {v r : AV} (hv : scal v = true) (h : Frz H nx v r) : r = v := by
  cases h <;> first | rfl | cases hv
theorem frz_agg {H : Heap} {nx : Nat} {xs : List AV} {r : AV} (hs : xs.all scal = true) : Frz H nx (.agg xs) r = (r = .agg xs) := by
  apply propext
  constructor
  · intro h
    cases h with
    | same _ _ => rfl
    | agg _ ys hl hj =>
      congr 1
      refine List.ext_getElem hl fun j h1 h2 => ?_
      have := hj j xs[j] ys[j] (by simp [h2]) (by simp [h1])
      exact frz_scal (List.all_eq_true.1 hs _ (List.getElem_mem h2)) this
  · rintro rfl
    refine .same _ (.agg _ fun j v hv => ?_)
    have := List.all_eq_true.1 hs v (List.mem_of_getElem? hv)
    cases v <;> first | (cases this; done) | exact .int _ _ | exact .str _ | exact .bool _
@[simp] theorem frz_val {H : Heap} {nx : Nat} {v : Val} {r : AV} : Frz H nx (.agg v.avs) r = (r = .agg v.avs) := frz_agg rfl
@[simp] theorem frz_val3 {H : Heap} {nx : Nat} {a b : Int} {s : List UInt8} {r : AV} : Frz H nx (.agg [.int .i64 a, .int .i64 b, .str s]) r = (r = .agg [.int .i64 a, .int .i64 b, .str s]) := frz_agg rfl
end Go.Proofs.YtejohcohkgcmhaaDoor
