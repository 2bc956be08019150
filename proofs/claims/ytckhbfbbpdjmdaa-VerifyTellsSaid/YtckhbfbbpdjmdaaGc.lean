/- What a call made may be forgotten, or is never written again: then it is read by value. -/
import Derived.Test.YtckhbfbbpdjmdaaCall
namespace Go.Proofs.Ytckhbfbbpdjmdaa
open Go Go.RowKit

/-- A value that names such numbers alone. -/
inductive Bel (A : Nat → Prop) : AV → Prop
  | junk : Bel A .junk
  | und : Bel A .und
  | int (k : IntKind) (n : Int) : Bel A (.int k n)
  | bool (b : Bool) : Bel A (.bool b)
  | str (s : List UInt8) : Bel A (.str s)
  | nilp : Bel A .nilp
  | nils : Bel A .nils
  | nilf : Bel A .nilf
  | nilm : Bel A .nilm
  | zs : Bel A .zs
  | ptr (g off : Nat) : A g → Bel A (.ptr g off)
  | slc (g off len : Nat) : A g → Bel A (.slc g off len)
  | amap (g : Nat) : A g → Bel A (.amap g)
  | ro (xs : List (List AV)) : (∀ (i : Nat) (x : List AV) (j : Nat) (v : AV), xs[i]? = some x → x[j]? = some v → Bel A v) → Bel A (.ro xs)
  | rop (cs : List AV) (o : Nat) : (∀ (j : Nat) (v : AV), cs[j]? = some v → Bel A v) → Bel A (.rop cs o)
  | agg (xs : List AV) : (∀ (j : Nat) (v : AV), xs[j]? = some v → Bel A v) → Bel A (.agg xs)
  | tup (xs : List AV) : (∀ (j : Nat) (v : AV), xs[j]? = some v → Bel A v) → Bel A (.tup xs)
  | clo (f : FuncId) (xs : List AV) : (∀ (j : Nat) (v : AV), xs[j]? = some v → Bel A v) → Bel A (.clo f xs)

/-- An object that names such numbers alone. -/
def BelO (A : Nat → Prop) : AObj → Prop
  | .row _ cells => ∀ (j : Nat) x, cells[j]? = some x → Bel A x
  | .mp es => ∀ (j : Nat) kv, es[j]? = some kv → Bel A kv.1 ∧ Bel A kv.2

theorem VRel.bel {K : KHeap} {ρ : Nat → Loc} {A : Nat → Prop} {v : AV} {c : Value} (h : VRel K ρ A v c) : Bel A v := by
  induction h with
  | junk v => exact .junk
  | und => exact .und
  | int k n => exact .int k n
  | bool b => exact .bool b
  | str s => exact .str s
  | nilp => exact .nilp
  | nils => exact .nils
  | nilf => exact .nilf
  | nilm => exact .nilm
  | zs a => exact .zs
  | ptr g off a hg ha => exact .ptr g off hg
  | slc g off len cap a hg h1 h2 => exact .slc g off len hg
  | amap g r hg hr => exact .amap g hg
  | ro xs a len cap sz b off C h1 h2 h3 h4 h5 _ ih => exact .ro xs ih
  | rop cs o b p a C h1 h2 _ ih => exact .rop cs o ih
  | agg xs cs h1 _ ih =>
    exact .agg xs fun j v hv => by
      have hlt := (List.getElem?_eq_some_iff.1 hv).1
      exact ih j v _ hv (Array.getElem?_eq_getElem (by omega))
  | tup xs cs h1 _ ih =>
    exact .tup xs fun j v hv => by
      have hlt := (List.getElem?_eq_some_iff.1 hv).1
      exact ih j v _ hv (Array.getElem?_eq_getElem (by omega))
  | clo f xs cs h1 _ ih =>
    exact .clo f xs fun j v hv => by
      have hlt := (List.getElem?_eq_some_iff.1 hv).1
      exact ih j v _ hv (Array.getElem?_eq_getElem (by omega))

theorem VRel.restrict {K : KHeap} {ρ : Nat → Loc} {A A' : Nat → Prop} {v : AV} {c : Value} (h : VRel K ρ A v c) : Bel A' v → VRel K ρ A' v c := by
  induction h with
  | junk v => exact fun _ => .junk v
  | und => exact fun _ => .und
  | int k n => exact fun _ => .int k n
  | bool b => exact fun _ => .bool b
  | str s => exact fun _ => .str s
  | nilp => exact fun _ => .nilp
  | nils => exact fun _ => .nils
  | nilf => exact fun _ => .nilf
  | nilm => exact fun _ => .nilm
  | zs a => exact fun _ => .zs a
  | ptr g off a hg ha => intro hb; cases hb with | ptr _ _ h => exact .ptr g off a h ha
  | slc g off len cap a hg h1 h2 => intro hb; cases hb with | slc _ _ _ h => exact .slc g off len cap a h h1 h2
  | amap g r hg hr => intro hb; cases hb with | amap _ h => exact .amap g r h hr
  | ro xs a len cap sz b off C h1 h2 h3 h4 h5 _ ih => intro hb; cases hb with | ro _ h => exact .ro xs a len cap sz b off C h1 h2 h3 h4 h5 fun i x j v hx hv => ih i x j v hx hv (h i x j v hx hv)
  | rop cs o b p a C h1 h2 _ ih => intro hb; cases hb with | rop _ _ h => exact .rop cs o b p a C h1 h2 fun j v hv => ih j v hv (h j v hv)
  | agg xs cs h1 _ ih => intro hb; cases hb with | agg _ h => exact .agg xs cs h1 fun j v c hv hc => ih j v c hv hc (h j v hv)
  | tup xs cs h1 _ ih => intro hb; cases hb with | tup _ h => exact .tup xs cs h1 fun j v c hv hc => ih j v c hv hc (h j v hv)
  | clo f xs cs h1 _ ih => intro hb; cases hb with | clo _ _ h => exact .clo f xs cs h1 fun j v c hv hc => ih j v c hv hc (h j v hv)

/-- A value, with what it names of what goes read by value. -/
inductive Frz (H : Heap) (nx : Nat) : AV → AV → Prop
  | same (v : AV) : Bel (· < nx) v → Frz H nx v v
  | nils : Frz H nx .nils (.ro [])
  | zs : Frz H nx .zs (.ro [])
  | slc (g off len sz : Nat) (cells : List AV) (xs : List (List AV)) : nx ≤ g → H g = some (.row sz cells) → off + len * sz ≤ cells.length → xs.length = len → (∀ x ∈ xs, x.length = sz) →
      (U : Nat → Nat → AV) → (∀ (i : Nat) (x : List AV) (j : Nat) (v : AV), xs[i]? = some x → x[j]? = some v → cells[off + i * sz + j]? = some (U i j)) →
      (∀ (i : Nat) (x : List AV) (j : Nat) (v : AV), xs[i]? = some x → x[j]? = some v → Frz H nx (U i j) v) → Frz H nx (.slc g off len) (.ro xs)
  | agg (xs ys : List AV) : ys.length = xs.length → (∀ (j : Nat) (v u : AV), xs[j]? = some v → ys[j]? = some u → Frz H nx v u) → Frz H nx (.agg xs) (.agg ys)
  | tup (xs ys : List AV) : ys.length = xs.length → (∀ (j : Nat) (v u : AV), xs[j]? = some v → ys[j]? = some u → Frz H nx v u) → Frz H nx (.tup xs) (.tup ys)

theorem Frz.rel {A : Nat → Prop} {ρ : Nat → Loc} {H H0 : Heap} {w : World} {nx : Nat} (s : Sim A ρ H w) (h0 : ∀ g o, H0 g = some o → g < nx ∧ H g = some o) {v u : AV} (h : Frz H nx v u) :
    ∀ (c : Value), VRel (Kof ρ H w) ρ A v c → VRel (Kof ρ H0 w) ρ (· < nx) u c := by
  have hK : ∀ b o, Kof ρ H w b = some o → Kof ρ H0 w b = some o := fun b o hb => by
    obtain ⟨h1, h2⟩ := Kof_some.1 hb
    refine Kof_some.2 ⟨fun g hg => ?_, h2⟩
    obtain ⟨o', ho'⟩ := Option.isSome_iff_exists.1 hg
    exact h1 g (by rw [(h0 g o' ho').2]; rfl)
  induction h with
  | same v hb => exact fun c hc => (hc.restrict hb).mono hK (fun _ h => ⟨rfl, h⟩)
  | nils =>
    intro c hc
    cases hc
    exact .ro [] none 0 0 0 0 0 (fun _ _ => undef) rfl (Nat.le_refl _) (fun h => absurd rfl h) (fun x hx => by cases hx) (fun i x j v hx => by simp at hx) (fun i x j v hx => by simp at hx)
  | zs =>
    intro c hc
    cases hc with
    | zs a => exact .ro [] a 0 0 0 0 0 (fun _ _ => undef) rfl (Nat.le_refl _) (fun h => absurd rfl h) (fun x hx => by cases hx) (fun i x j v hx => by simp at hx) (fun i x j v hx => by simp at hx)
  | slc g off len sz cells xs hg hH hle hl hsz U hU _ ih =>
    intro c hc
    cases hc with
    | slc _ _ _ cap a hA hcl hcap =>
      obtain ⟨cc, el, lo, hi, q1, q2, q3, q4, q5, q6⟩ := s.obj g _ hH
      have hKb : Kof ρ H0 w (ρ g).block = some (.cells cc el (lo, hi)) := by
        refine Kof_some.2 ⟨fun x hx e => ?_, q1⟩
        obtain ⟨o', ho'⟩ := Option.isSome_iff_exists.1 hx
        obtain ⟨h1, h2⟩ := h0 x o' ho'
        have := s.inj x g (by rw [h2]; rfl) (by rw [hH]; rfl) e
        omega
      have hex : ∀ (i : Nat) (x : List AV) (j : Nat) (v : AV), xs[i]? = some x → x[j]? = some v → ∃ cv, cc[(ρ g).base + (off + i * sz + j)]? = some cv ∧ VRel (Kof ρ H w) ρ A (U i j) cv := fun i x j v hx hv => q6 _ _ (hU i x j v hx hv)
      refine .ro xs a len cap sz (ρ g).block ((ρ g).base + off) (fun i j => (cc[(ρ g).base + (off + i * sz + j)]?).getD undef) hl.symm hcl (fun hne => ?_) hsz (fun i x j v hx hv => ?_) (fun i x j v hx hv => ?_)
      · have hpos : 0 < xs.length := List.length_pos_iff.2 hne
        exact (hcap (by omega)).2
      · obtain ⟨cv, h1, h2⟩ := hex i x j v hx hv
        unfold kcell
        rw [hKb]
        simp only [h1, Option.getD_some]
        rw [← h1]; congr 1; omega
      · obtain ⟨cv, h1, h2⟩ := hex i x j v hx hv
        rw [h1]
        exact ih i x j v hx hv cv h2
  | agg xs ys hl _ ih =>
    intro c hc
    cases hc with
    | agg _ cs h1 h2 =>
    exact .agg ys cs (by omega) fun j v c hv hc => by
        have hlt := (List.getElem?_eq_some_iff.1 hv).1
        have hx : xs[j]? = some (xs[j]'(by omega)) := List.getElem?_eq_getElem (by omega)
        exact ih j _ v hx hv c (h2 j _ c hx hc)
  | tup xs ys hl _ ih =>
    intro c hc
    cases hc with
    | tup _ cs h1 h2 =>
    exact .tup ys cs (by omega) fun j v c hv hc => by
        have hlt := (List.getElem?_eq_some_iff.1 hv).1
        have hx : xs[j]? = some (xs[j]'(by omega)) := List.getElem?_eq_getElem (by omega)
        exact ih j _ v hx hv c (h2 j _ c hx hc)

/-- What the call made goes, or is by value from now on. -/
theorem ACalls.gc {P : Program} {f : FuncId} {args : List AV} {H : Heap} {nx : Nat} {Q : AV → Heap → Nat → Prop} {R : AV → Heap → Prop} (h : ACalls P f args H nx Q)
    (hq : ∀ v H' nx', Q v H' nx' → ∃ r H0, R r H0 ∧ Frz H' nx v r ∧ (∀ g o, H0 g = some o → g < nx ∧ H' g = some o ∧ (H g = some o ∨ BelO (· < nx) o))) :
    ACalls P f args H nx fun v H' nx' => R v H' ∧ nx' = nx := by
  intro ρ w cargs s ha
  refine flowUpon_mono (h ρ w cargs s ha) fun cv w' ⟨v, H', nx', ρ', q1, q2, q3, q4⟩ => ?_
  obtain ⟨r, H0, hR, hF, h0⟩ := hq v H' nx' q1
  have h0' : ∀ g o, H0 g = some o → g < nx ∧ H' g = some o := fun g o ho => ⟨(h0 g o ho).1, (h0 g o ho).2.1⟩
  have hK : ∀ b o, Kof ρ' H' w' b = some o → Kof ρ' H0 w' b = some o := fun b o hb => by
    obtain ⟨h1, h2⟩ := Kof_some.1 hb
    refine Kof_some.2 ⟨fun g hg => ?_, h2⟩
    obtain ⟨o', ho'⟩ := Option.isSome_iff_exists.1 hg
    exact h1 g (by rw [(h0' g o' ho').2]; rfl)
  refine ⟨r, H0, nx, ρ', ⟨hR, rfl⟩, ⟨fun g o ho => (h0 g o ho).1, fun g o ho => ?_, fun x y hx hy hb => ?_⟩, hF.rel q2 h0' cv q3, ⟨fun g hg => ⟨(q4.agree g hg).1, hg⟩, fun b o hb => hK b o (q4.k b o hb), q4.os, q4.tape, q4.output, q4.size⟩⟩
  · obtain ⟨hg, hH', hbel⟩ := h0 g o ho
    have hobj := q2.obj g o hH'
    have hcells : BelO (· < nx) o := by
      rcases hbel with hs | hb
      · have := s.obj g o hs
        cases o with
        | row sz cells =>
          obtain ⟨_, _, _, _, _, _, _, _, _, p6⟩ := this
          intro j x hx
          obtain ⟨cv, _, hv⟩ := p6 j x hx
          exact hv.bel
        | mp es =>
          obtain ⟨en, cl, p1, p2, p3⟩ := this
          intro j kv hkv
          have hlt := (List.getElem?_eq_some_iff.1 hkv).1
          obtain ⟨a1, a2⟩ := p3 j kv _ hkv (Array.getElem?_eq_getElem (by omega))
          exact ⟨a1.bel, a2.bel⟩
      · exact hb
    cases o with
    | row sz cells =>
      obtain ⟨c, el, lo, hi, p1, p2, p3, p4, p5, p6⟩ := hobj
      exact ⟨c, el, lo, hi, p1, p2, p3, p4, p5, fun j x hx => let ⟨cv, a1, a2⟩ := p6 j x hx; ⟨cv, a1, (a2.restrict (hcells j x hx)).mono hK (fun _ h => ⟨rfl, h⟩)⟩⟩
    | mp es =>
      obtain ⟨en, cl, p1, p2, p3⟩ := hobj
      exact ⟨en, cl, p1, p2, fun j kv x hkv hx => let ⟨a1, a2⟩ := p3 j kv x hkv hx; ⟨(a1.restrict (hcells j kv hkv).1).mono hK (fun _ h => ⟨rfl, h⟩), (a2.restrict (hcells j kv hkv).2).mono hK (fun _ h => ⟨rfl, h⟩)⟩⟩
  · obtain ⟨o1, ho1⟩ := Option.isSome_iff_exists.1 hx
    obtain ⟨o2, ho2⟩ := Option.isSome_iff_exists.1 hy
    exact q2.inj x y (by rw [(h0' x o1 ho1).2]; rfl) (by rw [(h0' y o2 ho2).2]; rfl) hb

/-- A call that only computes. -/
def QC (P : Program) (f : FuncId) (args : List AV) (r : AV) : Prop := ∀ H nx, ACalls P f args H nx fun v H' nx' => v = r ∧ H' = H ∧ nx' = nx

/-- Numbers that are not taken have no object. -/
theorem ACalls.tidy {P : Program} {f : FuncId} {args : List AV} {H : Heap} {nx : Nat} {Q : AV → Heap → Nat → Prop} (h : (∀ g o, H g = some o → g < nx) → ACalls P f args H nx Q) : ACalls P f args H nx Q :=
  fun ρ w cargs s ha => h (fun g o ho => s.live g o ho) ρ w cargs s ha

theorem QC.of {P : Program} {f : FuncId} {args : List AV} {r : AV} (h : ∀ H nx, ACalls P f args H nx fun v H' _ => Frz H' nx v r ∧ ∀ g, g < nx → H' g = H g) : QC P f args r := by
  intro H nx
  refine ACalls.tidy fun hlive => ?_
  refine (ACalls.gc (R := fun v H' => v = r ∧ H' = H) (h H nx) fun v H' nx' ⟨h1, h2⟩ => ⟨r, H, ⟨rfl, rfl⟩, h1, fun g o ho => ⟨hlive g o ho, by rw [h2 g (hlive g o ho)]; exact ho, .inl ho⟩⟩).mono fun v H' nx' ⟨⟨a, b⟩, c⟩ => ⟨a, b, c⟩

theorem Bel.mono {A B : Nat → Prop} {v : AV} (h : Bel A v) (hAB : ∀ g, A g → B g) : Bel B v := by
  induction h with
  | junk => exact .junk
  | und => exact .und
  | int k n => exact .int k n
  | bool b => exact .bool b
  | str s => exact .str s
  | nilp => exact .nilp
  | nils => exact .nils
  | nilf => exact .nilf
  | nilm => exact .nilm
  | zs => exact .zs
  | ptr g off h => exact .ptr g off (hAB g h)
  | slc g off len h => exact .slc g off len (hAB g h)
  | amap g h => exact .amap g (hAB g h)
  | ro xs _ ih => exact .ro xs ih
  | rop cs o _ ih => exact .rop cs o ih
  | agg xs _ ih => exact .agg xs ih
  | tup xs _ ih => exact .tup xs ih
  | clo f xs _ ih => exact .clo f xs ih

theorem ObjRel.restrict {K : KHeap} {ρ : Nat → Loc} {A A' : Nat → Prop} {w : World} {l : Loc} {o : AObj} (h : ObjRel K ρ A w l o) (hb : BelO A' o) : ObjRel K ρ A' w l o := by
  cases o with
  | row sz cells =>
    obtain ⟨c, el, lo, hi, p1, p2, p3, p4, p5, p6⟩ := h
    exact ⟨c, el, lo, hi, p1, p2, p3, p4, p5, fun j x hx => let ⟨cv, a1, a2⟩ := p6 j x hx; ⟨cv, a1, a2.restrict (hb j x hx)⟩⟩
  | mp es =>
    obtain ⟨en, cl, p1, p2, p3⟩ := h
    exact ⟨en, cl, p1, p2, fun j kv x hkv hx => let ⟨a1, a2⟩ := p3 j kv x hkv hx; ⟨a1.restrict (hb j kv hkv).1, a2.restrict (hb j kv hkv).2⟩⟩
theorem ObjRel.bel {K : KHeap} {ρ : Nat → Loc} {A : Nat → Prop} {w : World} {l : Loc} {o : AObj} (h : ObjRel K ρ A w l o) : BelO A o := by
  cases o with
  | row sz cells =>
    obtain ⟨_, _, _, _, _, _, _, _, _, p6⟩ := h
    intro j x hx
    obtain ⟨cv, _, hv⟩ := p6 j x hx
    exact hv.bel
  | mp es =>
    obtain ⟨en, cl, p1, p2, p3⟩ := h
    intro j kv hkv
    have hlt := (List.getElem?_eq_some_iff.1 hkv).1
    obtain ⟨a1, a2⟩ := p3 j kv _ hkv (Array.getElem?_eq_getElem (by omega))
    exact ⟨a1.bel, a2.bel⟩

/-- A call that only computes, where the order is drawn. -/
theorem LC.of_qc {P : Program} {f : FuncId} {args : List AV} {r : AV} (h : QC P f args r) (hr : Bel (fun _ => False) r) (H0 : Heap) : LC P f args H0 [] [] [] r := by
  intro A ρ H w cargs ⟨N, hN⟩ s ha _ _
  have sN : Sim (· < N) ρ H w := ⟨fun g o ho => hN g (s.live g o ho), fun g o ho => (s.obj g o ho).mono rfl (fun _ _ h => h) (fun g hg => ⟨rfl, hN g hg⟩), s.inj⟩
  have aN : LRel (Kof ρ H w) ρ (· < N) args cargs.toList := ⟨ha.1, fun j v c hv hc => (ha.2 j v c hv hc).mono (fun _ _ h => h) (fun g hg => ⟨rfl, hN g hg⟩)⟩
  refine flowUpon_mono (h H N ρ w cargs sN aN) fun cv w' ⟨r', H', nx', ρ', ⟨q0, q1, q2⟩, q3, q4, q5⟩ => ?_
  subst q0; subst q1; subst q2
  have hA : (fun x => A x ∨ x ∈ ([] : List Nat)) = A := by funext x; simp
  refine ⟨ρ', ?_, ?_, ?_⟩
  · rw [hA]
    exact ⟨s.live, fun g o ho => (q3.obj g o ho).restrict (s.obj g o ho).bel, q3.inj⟩
  · rw [hA]
    exact q4.restrict (hr.mono fun _ h => h.elim)
  · rw [hA]
    exact ⟨fun g hg => ⟨(q5.agree g (hN g hg)).1, hg⟩, q5.k, q5.os, q5.tape, q5.output, q5.size⟩
theorem CALLD.of_qc {P : Program} {f : FuncId} {args cap : List AV} {r : AV} {H : Heap} {nx : Nat} {k : Kt} (h : QC P f (args ++ cap) r) (hr : Bel (fun _ => False) r) (hk : k r [] [] []) : CALLD P (.clo f cap) args H nx k :=
  ⟨r, [], [], [], .inl rfl, LC.of_qc h hr H, hk⟩
end Go.Proofs.Ytckhbfbbpdjmdaa
