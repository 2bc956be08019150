/- What a run comes to is so: where the order is drawn. What a run comes to is so: a function. strconv.Atoi: a word's number, and whether it is one. What is known of functions of Go's library, and of slices.Clone of what is empty, for runs. The closed question of the laws of chapter 6: run. Right agents, that go on or are away: what is asked of them, and how they pass into one another. What is right never gets stuck; who begins is right: in plain words. Words, and values: what the program's functions, and the document's, make of them. Numbers of instructions. Heights: what the program's function makes of a code. Programs: what the program's function says is wrong with them. -/
import Derived.Test.YtobioljjoipimaaDoorG9
import Derived.Test.YtobioljjoipimaaDoorG6
import Derived.Test.YtobioljjoipimaaDoorG7
import Derived.Test.YtobioljjoipimaaDoorG5
import Derived.Test.YtobioljjoipimaaDoorG8
set_option linter.unusedSimpArgs false
set_option linter.unusedVariables false
set_option maxRecDepth 8000
namespace Go.Proofs.YtobioljjoipimaaDoor
open Go Go.RowKit
def zhc (r : Rec) : Rec := { r with env := fun _ => .junk, H := fun _ => none }
section
variable {P : Program} {T : Nat → Option AT} {eqs : Nat → Bool} (hT : TOk P T) (hE : EOk P T eqs)
variable {A0 : Nat → Prop} {ρ0 : Nat → Loc} {Hi : Heap} {w0 : World} {X : HB} {n0 nE N : Nat}
theorem EffB.at {o : Oper} {e : Operand → AV} {H H1 : Heap} {rd fr : List Nat} {D : zg} {v : AV} (h : EffB P o e H rd fr D v) (hr : ∀ g ∈ rd, H1 g = H g) : EffB P o e H1 rd fr D v :=
  fun A ρ Hm w ev hB s hx hrd hf => h A ρ Hm w ev hB s hx (fun g hg => (hrd g hg).trans (hr g hg)) hf
theorem zid.at {o : Oper} {e : Operand → AV} {H H1 : Heap} {rd fr : List Nat} {D : zg} {v : AV} {pt : Option AV} (h : zid P o e H rd fr D v pt) (hr : ∀ g ∈ rd, H1 g = H g) : zid P o e H1 rd fr D v pt := by
  intro g q e
  obtain ⟨h1, h2, h3, h4, h5⟩ := h g q e
  exact ⟨h1, h2, h3, by rw [hr g (by rw [h1]; simp)]; exact h4, h5⟩
include hT hE in
theorem zzl {o : Oper} {env : Env} {H : Heap} {nx : Nat} {v : AV} {rd fr : List Nat} {D : zg} (h : xaop T eqs env.ev H nx o = some (v, rd, fr, D)) :
    (fr = [] ∨ fr = [nx]) ∧ EffB P o env.ev H rd fr D v ∧ (noW o = true → fr = [] ∧ D = []) ∧ zid P o env.ev H rd fr D v (ptOf T env.ev o) := by
  obtain ⟨v', rd', fr', D', h1, h2, h3, h4⟩ := zke hT hE (zsp T eqs _ _ _ _ h (fun v' rd' fr' D' => v' = v ∧ rd' = rd ∧ fr' = fr ∧ D' = D) ⟨rfl, rfl, rfl, rfl⟩)
  obtain ⟨rfl, rfl, rfl, rfl⟩ := h3
  refine ⟨h1, fun A ρ H w ev _ s hx hr hf => h2 A ρ H w ev s hx hr hf, h4, fun g q hp => ?_⟩
  unfold ptOf at hp
  split at hp
  · rename_i t x hop
    split at hp
    · rename_i a hta
      split at hp
      · rename_i hag
        have hp := Option.some.inj hp
        obtain ⟨i, d, z, hat⟩ := hT.at hta
        have any : ∀ {H1 : Heap} {s : Nat} {cs : List AV} {v : AV}, H1 g = some (.row s cs) → cs[q]? = some v → EffB P o env.ev H1 [g] [] [] v := by
          intro H1 s cs v hg hv
          obtain ⟨v', rd', he, rfl, rfl⟩ := zne (H0 := H1) (e := env.ev) (k := fun v' rd' _ _ => v' = v ∧ rd' = [g]) hat hop (by
            simp only [hp, LOAD, rdp, hg, ldv, hag, cond_false, hv, and_self])
          exact fun A ρ H w ev _ s hx hr hf => he A ρ H w ev s hx hr hf
        simp only [xaop, hop, hta, zmb, hp] at h
        cases hg : H g with
        | none => simp only [rdp, hg] at h; cases h
        | some ob =>
          cases ob with
          | mp es => simp only [rdp, hg] at h; cases h
          | it a b c => simp only [rdp, hg] at h; cases h
          | row s cs =>
            simp only [rdp, hg, ldv, hag, cond_false] at h
            cases hv : cs[q]? with
            | none => simp only [hv] at h; cases h
            | some u =>
              simp only [hv] at h
              cases h
              exact ⟨rfl, rfl, rfl, ⟨s, cs, by first | rfl | exact hg, hv⟩, fun H1 ⟨s', cs', h1, h2⟩ => any h1 h2⟩
      · cases hp
    · cases hp
  · cases hp
theorem zgi {H : HB} : ∀ {rs : List Nat} {g : Nat}, isH (zaz H rs) g = true → g ∈ rs ∧ toH (zaz H rs) g = toH H g
  | [], g, h => by simp [zaz, isH, Tr.get_nil] at h
  | x :: r, g, h => by
    unfold zaz at h ⊢
    cases hx : H.get x with
    | none =>
      rw [hx] at h
      obtain ⟨h1, h2⟩ := zgi h
      exact ⟨List.mem_cons_of_mem _ h1, h2⟩
    | some o =>
      simp only [hx] at h ⊢
      obtain ⟨ob, h'⟩ := zgu.1 h
      rw [zov] at h' ⊢
      by_cases hg : g = x
      · subst hg
        exact ⟨by simp, by rw [Heap.put_at]; exact hx.symm⟩
      · rw [Heap.put_ne _ _ hg] at h' ⊢
        obtain ⟨h1, h2⟩ := zgi (zgu.2 ⟨ob, h'⟩)
        exact ⟨List.mem_cons_of_mem _ h1, h2⟩
theorem zpo {H H' : HB} : ∀ {rs : List Nat}, (∀ p ∈ zcy H H' rs, p.2 = toH H' p.1) ∧ (∀ g ∈ domD (zcy H H' rs), isH H g = true ∨ isH H' g = true) ∧ ∀ g ∈ rs, g ∉ domD (zcy H H' rs) → toH H g = toH H' g
  | [] => ⟨fun p hp => (by cases hp), fun g hg => (by simp [zcy, domD] at hg), fun g hg => (by cases hg)⟩
  | x :: r => by
    obtain ⟨h1, h2, h3⟩ := zpo (H := H) (H' := H') (rs := r)
    unfold zcy
    simp only
    cases he : obEq (H.get x) (H'.get x) with
    | true =>
      refine ⟨h1, h2, fun g hg hn => ?_⟩
      rcases List.mem_cons.1 hg with rfl | hg
      · exact zaal he
      · exact h3 g hg hn
    | false =>
      refine ⟨fun p hp => ?_, fun g hg => ?_, fun g hg hn => ?_⟩
      · rcases List.mem_cons.1 hp with rfl | hp
        · rfl
        · exact h1 p hp
      · simp only [domD, List.map_cons, List.mem_cons] at hg
        rcases hg with rfl | hg
        · by_cases ha : isH H g = true
          · exact .inl ha
          · by_cases hb : isH H' g = true
            · exact .inr hb
            · have e1 : H.get g = none := zew ha
              have e2 : H'.get g = none := zew hb
              rw [e1, e2] at he
              cases he
        · exact h2 g hg
      · simp only [domD, List.map_cons, List.mem_cons, not_or] at hn
        rcases List.mem_cons.1 hg with rfl | hg
        · exact absurd rfl hn.1
        · exact h3 g hg hn.2
theorem zjt : ∀ {n nx g : Nat}, g ∈ zbw nx n ↔ nx ≤ g ∧ g < nx + n
  | 0, nx, g => by simp [zbw]
  | n + 1, nx, g => by
    simp only [zbw, List.mem_cons, zjt]
    omega
theorem znz : ∀ (n nx : Nat), (zbw nx n).length = n
  | 0, _ => rfl
  | n + 1, nx => by simp [zbw, znz n]
theorem zvg {D : zg} {f : Heap} (h : ∀ p ∈ D, p.2 = f p.1) : ∀ {H : Heap} {g : Nat}, g ∈ domD D → H.apply D g = f g := by
  induction D with
  | nil => intro H g hg; cases hg
  | cons p r ih =>
    intro H g hg
    obtain ⟨x, o⟩ := p
    simp only [domD, List.map_cons, List.mem_cons] at hg
    show ((H.put x o).apply r) g = f g
    by_cases hr : g ∈ domD r
    · exact ih (fun p hp => h p (List.mem_cons_of_mem _ hp)) hr
    · rw [zbh r _ g hr]
      rcases hg with rfl | hg
      · rw [Heap.put_at]; exact h (g, o) (by simp)
      · exact absurd hg hr
theorem zvn {call : XCl} (hcall : zdp P call) {o : Oper} {e : Operand → AV} {f : Nat} {args : List AV} (hx : xcal o e = some (f, args)) {H : HB} {nx : Nat} {v : AV} {rd fr : List Nat} {D : zg} (h : zql call f args H nx = some (v, rd, fr, D)) :
    (∀ g, g ∈ fr ↔ nx ≤ g ∧ g < nx + fr.length) ∧ EffB P o e (toH H) rd fr D v := by
  unfold zql at h
  simp only at h
  split at h
  · rename_i v1 H1 nx1 hc
    simp only [Option.some.injEq, Prod.mk.injEq] at h
    obtain ⟨rfl, rfl, rfl, rfl⟩ := h
    generalize hrs : zis H 1000 (args.foldl (fun l v => zln 3 v l) []) [] = rs at hc ⊢
    have d := fun ev => Does.call hcall hx hc ev
    have hle := (d fun _ => undef).le
    have hdom := (d fun _ => undef).dom
    have e1 : ∀ g, g ∈ zbw nx (nx1 - nx) ↔ nx ≤ g ∧ g < nx1 := fun g => by rw [zjt]; omega
    refine ⟨fun g => by rw [znz]; rw [zjt], fun A ρ Hm w ev hB s hxx hrd hfr => ?_⟩
    have hag : ∀ g, isH (zaz H rs) g = true → Hm g = toH (zaz H rs) g := fun g hg => by
      obtain ⟨h1, h2⟩ := zgi hg
      rw [hrd g h1, h2]
    refine zh ((d ev).run A ρ Hm w hB s hxx hag fun g h1 h2 => hfr g ((e1 g).2 ⟨h1, h2⟩)) fun cv w' ⟨ρ', q1, q2, q3⟩ => ?_
    have hA : (fun g => A g ∨ nx ≤ g ∧ g < nx1) = (fun x => A x ∨ x ∈ zbw nx (nx1 - nx)) := by funext g; rw [e1]
    obtain ⟨m1, m2, m3⟩ := zpo (H := zaz H rs) (H' := H1) (rs := rs)
    have hH : mix Hm (zaz H rs) nx nx1 H1 = Hm.apply (zcy (zaz H rs) H1 rs ++ (zbw nx (nx1 - nx)).map fun g => (g, H1.get g)) := by
      funext g
      have told : ∀ p ∈ zcy (zaz H rs) H1 rs ++ (zbw nx (nx1 - nx)).map fun g => (g, H1.get g), p.2 = toH H1 p.1 := fun p hp => by
        rcases List.mem_append.1 hp with hp | hp
        · exact m1 p hp
        · obtain ⟨x, _, rfl⟩ := List.mem_map.1 hp; rfl
      have hdm : ∀ g, g ∈ domD (zcy (zaz H rs) H1 rs ++ (zbw nx (nx1 - nx)).map fun g => (g, H1.get g)) ↔ g ∈ domD (zcy (zaz H rs) H1 rs) ∨ (nx ≤ g ∧ g < nx1) := fun g => by
        rw [← e1]
        simp [domD]
      by_cases hg : g ∈ domD (zcy (zaz H rs) H1 rs ++ (zbw nx (nx1 - nx)).map fun g => (g, H1.get g))
      · rw [zvg (f := toH H1) told hg, zbo]
        rcases (hdm g).1 hg with h | h
        · rcases m2 g h with h | h
          · exact .inl h
          · exact hdom g h
        · exact .inr h
      · rw [zbh _ _ _ hg]
        rw [hdm, not_or] at hg
        by_cases ht : Tk (zaz H rs) nx nx1 g
        · rw [zbo ht]
          rcases ht with ht | ht
          · rw [hag g ht]
            exact (m3 g (zgi ht).1 hg.1).symm
          · exact absurd ht hg.2
        · rw [zcx ht]
    rw [hA, hH] at q1 q2 q3
    exact ⟨ρ', q1, q2, q3⟩
  · cases h
include hT hE in
theorem zvm {call : XCl} (hcall : zdp P call) {o : Oper} {E : EB} {H : HB} {nx : Nat} {v : AV} {rd fr : List Nat} {D : zg} (h : znk T eqs call o E H nx = some (v, rd, fr, D)) :
    FrOk nx fr ∧ (∀ g, g ∈ fr ↔ nx ≤ g ∧ g < nx + fr.length) ∧ EffB P o (toE E).ev (toH H) rd fr D v ∧ (noW o = true → fr = [] ∧ D = []) ∧ zid P o (toE E).ev (toH H) rd fr D v (ptOf T (toE E).ev o) := by
  unfold znk at h
  split at h
  · rename_i hcl
    split at h
    · rename_i f args hx
      obtain ⟨h1, h2⟩ := zvn hcall hx h
      have hop : ∃ c, o.op = .call c := by
        unfold isCl at hcl
        split at hcl
        · exact ⟨_, by assumption⟩
        · cases hcl
      obtain ⟨c, hop⟩ := hop
      exact ⟨.inr (.inr fun g hg => (h1 g).1 hg), h1, h2, fun hn => by simp [noW, hop] at hn, fun g q e => by simp [ptOf, hop] at e⟩
    · cases h
  · obtain ⟨h1, h2, h3, h4⟩ := zzl hT hE h
    exact ⟨.of h1, zwg h1, h2, h3, h4⟩
theorem zwf {H : HB} {D : zg} (hD : ∀ g ∈ domD D, Tk X n0 nE g) : (mix Hi X n0 nE H).apply D = mix Hi X n0 nE (zek D H) := by
  funext g
  by_cases ht : Tk X n0 nE g
  · rw [zbo ht, ziq]
    exact zen D _ _ g (.inl (zbo ht))
  · rw [zcx ht, zbh D _ g fun h => ht (hD g h), zcx ht]
include hT hE in
theorem zms {β : Type} {call : XCl} (hcall : zdp P call) {all : List Oper} : ∀ (rest : List Oper) (kn : zag) (E : EB) (H : HB) (nx : Nat) (log : List Rec) (c : EB → HB → Nat → List Rec → Option β) (r : β), zja T eqs call all rest kn E H nx log c = some r → KnOk kn (toE E) →
    ∃ L E' H' nx', c E' H' nx' (log ++ L.map zhc) = some r ∧ zai H nx H' nx' ∧ (nx' ≤ nE → n0 ≤ nx → (∀ g, isH H g = true → Tk X n0 nx g) → zeq P all rest L (toE E) (mix Hi X n0 nE H) nx (toE E') (mix Hi X n0 nE H') nx')
  | [], kn, E, H, nx, log, c, r, h, _ => ⟨[], E, H, nx, by rw [List.map_nil, List.append_nil]; exact h, zai.refl H nx, fun _ _ _ => ⟨rfl, rfl, rfl⟩⟩
  | o :: rest, kn, E, H, nx, log, c, r, h, hkn => by
    have run : ∀ kn1, KnOk kn1 (toE E) → (o.guard = none ∨ ∃ j want t, o.guard = some (j, want) ∧ gdst all j = some t ∧ toE E t = .bool want) →
        (match znk T eqs call o E H nx with
          | some (v, rd, fr, D) => match chkD H rd fr D with
            | true => fV v fun v => putD D H fun H' => fN (nx + fr.length) fun nx' => putE E o.dst v fun E' => zja T eqs call all rest (zbg o.dst kn1) E' H' nx' (log ++ [⟨v, rd, fr, D, false, fun _ => .junk, fun _ => none, ptOf T (toE E).ev o, isCl o⟩]) c
            | false => none
          | none => none) = some r →
        ∃ L E' H' nx', c E' H' nx' (log ++ L.map zhc) = some r ∧ zai H nx H' nx' ∧ (nx' ≤ nE → n0 ≤ nx → (∀ g, isH H g = true → Tk X n0 nx g) → zeq P all (o :: rest) L (toE E) (mix Hi X n0 nE H) nx (toE E') (mix Hi X n0 nE H') nx') := by
      intro kn1 hk1 hg hs
      split at hs
      · rename_i v rd fr D hx
        split at hs
        · rename_i hck
          rw [zoc, zme, zqf, zmc] at hs
          obtain ⟨h1, h2, h3, h4, h5⟩ := zvm hT hE hcall hx
          obtain ⟨c1, c2⟩ := zpr hck
          obtain ⟨L, E', H', nx', q1, q2, q3⟩ := zms hcall rest _ _ _ _ _ c r hs (by rw [zcu]; exact hk1.drop o.dst v)
          have d := (Does.eff h3 h2 hck fun _ => undef)
          refine ⟨⟨v, rd, fr, D, false, toE E, mix Hi X n0 nE H, ptOf T (toE E).ev o, isCl o⟩ :: L, E', H', nx', by simpa [zhc] using q1, zai.trans ⟨d.le, d.dom⟩ q2, fun hn hn0 hdm => ?_⟩
          have hle2 := q2.1
          have hrd : ∀ g ∈ rd, mix Hi X n0 nE H g = toH H g := fun g hg => zbo ((hdm g (c1 g hg)).mono (by omega))
          have hDk : ∀ g ∈ domD D, Tk X n0 nE g := fun g hg => by
            rcases c2 g hg with h | h
            · exact (hdm g h).mono (by omega)
            · have := (h2 g).1 h
              exact .inr ⟨by omega, by omega⟩
          refine ⟨rfl, rfl, ⟨h1, h4, ?_⟩, ?_⟩
          · simp only [Bool.false_eq_true, if_false]
            exact ⟨h3.at hrd, h5.at hrd, hg⟩
          · have := q3 hn (by omega) fun g hg => ?_
            · rw [zcu, ← zwf hDk] at this
              exact this
            · rcases d.dom g hg with h | h
              · exact (hdm g h).mono (by omega)
              · exact .inr ⟨by omega, h.2⟩
        · cases hs
      · cases hs
    have skip : ∀ kn1, KnOk kn1 (toE E) → (∃ j want t, o.guard = some (j, want) ∧ gdst all j = some t ∧ (toE E t = .und ∨ toE E t = .bool (!want))) →
        (putE E o.dst .und fun E' => zja T eqs call all rest (zbl o.dst kn1) E' H nx (log ++ [⟨.und, [], [], [], true, fun _ => .junk, fun _ => none, none, false⟩]) c) = some r →
        ∃ L E' H' nx', c E' H' nx' (log ++ L.map zhc) = some r ∧ zai H nx H' nx' ∧ (nx' ≤ nE → n0 ≤ nx → (∀ g, isH H g = true → Tk X n0 nx g) → zeq P all (o :: rest) L (toE E) (mix Hi X n0 nE H) nx (toE E') (mix Hi X n0 nE H') nx') := by
      intro kn1 hk1 hg hs
      rw [zmc] at hs
      obtain ⟨L, E', H', nx', q1, q2, q3⟩ := zms hcall rest _ _ _ _ _ c r hs (by rw [zcu]; exact hk1.skip o.dst)
      refine ⟨⟨.und, [], [], [], true, toE E, mix Hi X n0 nE H, none, false⟩ :: L, E', H', nx', by simpa [zhc] using q1, q2, fun hn hn0 hdm => ⟨rfl, rfl, ⟨.inl rfl, fun _ => ⟨rfl, rfl⟩, (if_pos rfl).mpr ⟨rfl, rfl, rfl, rfl, rfl, hg⟩⟩, ?_⟩⟩
      have := q3 hn hn0 hdm
      rw [zcu] at this
      exact this
    simp only [zja] at h
    split at h
    · rename_i hg
      exact run kn hkn (.inl hg) h
    · rename_i j want hg
      split at h
      · cases h
      · rename_i t ht
        split at h
        · rename_i hk
          have hu := hkn t none (zbp hk)
          exact skip kn hkn ⟨j, want, t, hg, ht, .inl hu⟩ h
        · rename_i b hk
          have hb := hkn t (some b) (zbp hk)
          simp only at hb
          split at h
          · rename_i hbw
            have : b = want := by simpa using hbw
            subst this
            exact run kn hkn (.inr ⟨j, b, t, hg, ht, hb⟩) h
          · rename_i hbw
            have : b = !want := by cases b <;> cases want <;> simp_all
            subst this
            exact skip kn hkn ⟨j, want, t, hg, ht, .inr hb⟩ h
        · split at h
          · rename_i b hb
            have hk2 : KnOk ((t, some b) :: kn) (toE E) := by
              have := hkn.know hb
              rwa [zhf hb] at this
            split at h
            · rename_i hbw
              have : b = want := by simpa using hbw
              subst this
              exact run _ hk2 (.inr ⟨j, b, t, hg, ht, hb⟩) h
            · rename_i hbw
              have : b = !want := by cases b <;> cases want <;> simp_all
              subst this
              exact skip _ hk2 ⟨j, want, t, hg, ht, .inr hb⟩ h
          · cases h
/-! The conditions. -/
theorem zgk {l m : List Nat} (h : zqg l m = true) : disj l m := by
  rw [zcq]
  intro g hg hm
  have := List.all_eq_true.1 h g hg
  simp only [Bool.not_eq_true', List.any_eq_false, Nat.beq_eq] at this
  exact this g hm rfl
theorem zui {L : List Rec} {p : Nat × Nat} (h : zuj (L.map zhc) p = true) : zfd L p := by
  unfold zuj at h
  unfold zfd
  simp only [List.getElem?_map] at h
  cases ha : L[p.1]? with
  | none => simp [ha] at h
  | some a =>
    cases hb : L[p.2]? with
    | none => simp [ha, hb] at h
    | some b =>
      simp only [ha, hb, Option.map_some, Bool.and_eq_true] at h
      obtain ⟨⟨h1, h2⟩, h3⟩ := h
      have d1 := zgk h1
      have d2 := zgk h2
      refine ⟨?_, ?_⟩
      · rw [zcq] at d1 d2 ⊢
        intro g hg
        rw [List.mem_append, not_or]
        exact ⟨d1 g hg, d2 g hg⟩
      · unfold zzo at h3
        unfold zlg
        simp only [zhc] at h3
        cases hc : b.cl with
        | false => simp only [hc] at h3; exact zgk h3
        | true =>
          simp only [hc] at h3
          split at h3
          · rename_i g q _ hpt
            rw [hpt]
            intro x hx e
            have := List.all_eq_true.1 h3 x hx
            simp only [e, Bool.or_eq_true, Bool.not_eq_true'] at this
            rcases this with h | h
            · simp at h
            · split at h
              · rename_i s cs hrow
                split at h
                · rename_i u hu
                  exact ⟨s, cs, hrow, by rw [hu, zix 40 _ _ h]⟩
                · cases h
              · cases h
          · rename_i hne
            have := zgk h3
            cases hpt : a.pt with
            | none => exact this
            | some q =>
              cases q <;> first | exact this | skip
              exact absurd hpt (hne _ _ rfl)
end
end Go.Proofs.YtobioljjoipimaaDoor
set_option maxRecDepth 8000
namespace Go.Proofs.YtobioljjoipimaaDoor
open Go Go.RowKit
def ExOk : XO → Exit → Prop
  | .nrm, e => e = .normal
  | .exi i, e => e = .exit i
  | .ret, e => e = .ret
section
variable {P : Program} {T : Nat → Option AT} {eqs : Nat → Bool} (hT : TOk P T) (hE : EOk P T eqs)
variable {A0 : Nat → Prop} {ρ0 : Nat → Loc} {Hi : Heap} {w0 : World} {X : HB} {n0 nE N : Nat}
abbrev QX (A0 : Nat → Prop) (ρ0 : Nat → Loc) (Hi : Heap) (w0 : World) (X : HB) (n0 nE N : Nat) (x : XO) (E : EB) (H : HB) (nx : Nat) : Exit → Act → World → Prop := fun e a w => ExOk x e ∧ SX A0 ρ0 Hi w0 X n0 nE N E H nx a w
def zpc (P : Program) (A0 : Nat → Prop) (ρ0 : Nat → Loc) (Hi : Heap) (w0 : World) (X : HB) (n0 nE N : Nat) (c : Code) (E : EB) (H : HB) (nx : Nat) (x : XO) (E' : EB) (H' : HB) (nx' : Nat) : Prop :=
  zai H nx H' nx' ∧ (nx' ≤ nE → ∀ a w, SX A0 ρ0 Hi w0 X n0 nE N E H nx a w → c.wp P (QX A0 ρ0 Hi w0 X n0 nE N x E' H' nx') a w)
theorem zqk {c : Code} {body : EB → HB → Nat → Option (XO × EB × HB × Nat)} (hb : ∀ E H nx x E' H' nx', body E H nx = some (x, E', H', nx') → zpc P A0 ρ0 Hi w0 X n0 nE N c E H nx x E' H' nx') :
    ∀ (n : Nat) (E : EB) (H : HB) (nx : Nat) (x : XO) (E' : EB) (H' : HB) (nx' : Nat), znj body n E H nx = some (x, E', H', nx') → zai H nx H' nx' ∧ (nx' ≤ nE → ∀ a w, SX A0 ρ0 Hi w0 X n0 nE N E H nx a w → Code.rounds P c (QX A0 ρ0 Hi w0 X n0 nE N x E' H' nx') n a w)
  | 0, E, H, nx, x, E', H', nx', h => by simp [znj] at h
  | n + 1, E, H, nx, x, E', H', nx', h => by
    unfold znj at h
    split at h
    · rename_i x1 E1 H1 nx1 h1
      obtain ⟨g1, p1⟩ := hb _ _ _ _ _ _ _ h1
      cases x1 with
      | nrm =>
        simp only at h
        obtain ⟨g2, p2⟩ := zqk hb n _ _ _ _ _ _ _ h
        refine ⟨g1.trans g2, fun hn a w st => ?_⟩
        have := g2.1
        refine Code.wp_mono (fun e a w q => ?_) (p1 (by omega) a w st)
        obtain ⟨rfl, q⟩ := q
        exact p2 hn a w q
      | exi i =>
        simp only [Option.some.injEq, Prod.mk.injEq] at h
        obtain ⟨rfl, rfl, rfl, rfl⟩ := h
        refine ⟨g1, fun hn a w st => Code.wp_mono (fun e a w q => ?_) (p1 hn a w st)⟩
        obtain ⟨h1, q⟩ := q
        have h1' : e = .exit i := h1
        subst h1'
        exact ⟨rfl, q⟩
      | ret =>
        simp only [Option.some.injEq, Prod.mk.injEq] at h
        obtain ⟨rfl, rfl, rfl, rfl⟩ := h
        refine ⟨g1, fun hn a w st => Code.wp_mono (fun e a w q => ?_) (p1 hn a w st)⟩
        obtain ⟨h1, q⟩ := q
        have h1' : e = .ret := h1
        subst h1'
        exact ⟨rfl, q⟩
    · cases h
include hT hE in
theorem zcm (hM : P.follows .mixedOrders = true) {call : XCl} (hcall : zdp P call) (fx : FX A0 n0 nE) : ∀ (c : Code) (E : EB) (H : HB) (nx : Nat) (x : XO) (E' : EB) (H' : HB) (nx' : Nat), wfC N c = true → zba T eqs call c E H nx = some (x, E', H', nx') → zpc P A0 ρ0 Hi w0 X n0 nE N c E H nx x E' H' nx'
  | .skip, E, H, nx, x, E', H', nx', _, h => by
    simp only [zba, Option.some.injEq, Prod.mk.injEq] at h
    obtain ⟨rfl, rfl, rfl, rfl⟩ := h
    exact ⟨zai.refl _ _, fun _ a w st => wp_skip ⟨rfl, st⟩⟩
  | .label _, E, H, nx, x, E', H', nx', _, h => by
    simp only [zba, Option.some.injEq, Prod.mk.injEq] at h
    obtain ⟨rfl, rfl, rfl, rfl⟩ := h
    exact ⟨zai.refl _ _, fun _ a w st => wp_label ⟨rfl, st⟩⟩
  | .exit i, E, H, nx, x, E', H', nx', _, h => by
    simp only [zba, Option.some.injEq, Prod.mk.injEq] at h
    obtain ⟨rfl, rfl, rfl, rfl⟩ := h
    exact ⟨zai.refl _ _, fun _ a w st => wp_exit ⟨rfl, st⟩⟩
  | .ret, E, H, nx, x, E', H', nx', _, h => by
    simp only [zba, Option.some.injEq, Prod.mk.injEq] at h
    obtain ⟨rfl, rfl, rfl, rfl⟩ := h
    exact ⟨zai.refl _ _, fun _ a w st => wp_ret ⟨rfl, st⟩⟩
  | .scope c, E, H, nx, x, E', H', nx', hwf, h => by
    simp only [zba] at h
    obtain ⟨g1, p1⟩ := zcm hM hcall fx c _ _ _ _ _ _ _ hwf h
    refine ⟨g1, fun hn a w st => wp_scope_straight (Code.wp_mono (fun e a w q => ?_) (p1 hn a w st))⟩
    obtain ⟨h1, q⟩ := q
    cases x <;> (have h1' := h1; unfold ExOk at h1'; subst h1'; exact ⟨rfl, q⟩)
  | .region id ops false, E, H, nx, x, E', H', nx', hwf, h => by
    simp only [zba] at h
    simp only [wfC, Bool.not_false, Bool.true_or, Bool.and_true] at hwf
    obtain ⟨E1, H1, nx1, h1, h2, h3⟩ := zon (ρ0 := ρ0) (Hi := Hi) (w0 := w0) (X := X) hT hE hcall fx ops.toList [] E H nx _ _ h hwf (zng hwf) (fun t b hm => by cases hm)
    simp only [Option.some.injEq, Prod.mk.injEq] at h1
    obtain ⟨rfl, rfl, rfl, rfl⟩ := h1
    exact ⟨h2, fun hn a w st => wp_region_list (h3 hn a w st)⟩
  | .region id ops true, E, H, nx, x, E', H', nx', hwf, h => by
    simp only [zba] at h
    simp only [wfC, Bool.not_true, Bool.false_or, Bool.and_eq_true] at hwf
    obtain ⟨L, E1, H1, nx1, h1, h2, h3⟩ := zms (Hi := Hi) (X := X) (n0 := n0) (nE := nE) hT hE hcall ops.toList [] E H nx [] _ _ h (fun t b hm => by cases hm)
    rw [List.nil_append] at h1
    split at h1
    · rename_i hck
      simp only [Option.some.injEq, Prod.mk.injEq] at h1
      obtain ⟨rfl, rfl, rfl, rfl⟩ := h1
      refine ⟨h2, fun hn a w st => ?_⟩
      have hch := h3 hn st.le st.dom
      have hco : zgl L (ziv ops) := (zfl L _).2 fun p hp => zui (List.all_eq_true.1 hck p hp)
      obtain ⟨ρ, s, hv, f⟩ := st.ex
      have hle := h2.1
      have hfalse : ∀ i, (Array.replicate ops.size false).getD i false = false := fun i => by
        simp only [Array.getD]
        split <;> simp
      have hls : lsOf (Array.replicate ops.size false) = fun _ => false := funext hfalse
      have hA : AD (AX A0 n0 nx) L (fun _ => false) = AX A0 n0 nx := by
        funext g; simp [AD]
      have hA2 := zzt (A0 := A0) st.le hle
      refine wp_region_any hM (zml (B := AX A0 n0 nx) (ρ0 := ρ) (w0 := w) hwf.2 hch hco (fun g h1 h2 h3 => ?_) fx.bddX (fun a' w' ρ' s' v' t' d' f' => ?_) _ _ _ _ ⟨by simp, (fun i hi => by rw [hfalse] at hi; cases hi), st.size, st.defers, ρ, ?_, ?_, ?_⟩ ?_)
      · rcases h3 with h3 | h3
        · exact fx.free g (by have := st.le; omega) (by omega) h3
        · omega
      · rw [hA2] at s' v' f'
        refine ⟨rfl, ⟨ρ', s', v', f.trans f'⟩, t', d', by have := st.le; omega, fun g hg => ?_⟩
        rcases h2.2 g hg with h | h
        · exact (st.dom g h).mono hle
        · exact .inr ⟨by have := st.le; omega, h.2⟩
      · have e : ({ w with drawn := w.drawn + 1 } : World).heap = w.heap := rfl
        rw [hls, hA, zhh.hD_none]
        exact s.heap e
      · have e : ({ w with drawn := w.drawn + 1 } : World).heap = w.heap := rfl
        rw [hls, hA, zhh.hD_none]
        exact ⟨fun g hg => ⟨rfl, hg⟩, fun b o hb => by rw [zct e]; exact hb, rfl, rfl, rfl, Nat.le_refl _⟩
      · intro t
        have e : ({ w with drawn := w.drawn + 1 } : World).heap = w.heap := rfl
        rw [hls, hA, zhh.hD_none, zct e]
        have : eD (fun _ => false) ops.toList L 0 (toE E) t = toE E t := by
          rw [zjy.eD_off _ _ _ _ fun _ _ => rfl]
        rw [this]
        exact hv t
      · exact Nat.le_trans (List.length_filter_le _ _) (by simp)
    · cases h1
  | .seq c d, E, H, nx, x, E', H', nx', hwf, h => by
    simp only [wfC, Bool.and_eq_true] at hwf
    simp only [zba] at h
    split at h
    · rename_i x1 E1 H1 nx1 h1
      obtain ⟨g1, p1⟩ := zcm hM hcall fx c _ _ _ _ _ _ _ hwf.1 h1
      cases x1 with
      | nrm =>
        simp only at h
        obtain ⟨g2, p2⟩ := zcm hM hcall fx d _ _ _ _ _ _ _ hwf.2 h
        refine ⟨g1.trans g2, fun hn a w st => wp_seq (Code.wp_mono (fun e a w q => ?_) (p1 (by have := g2.1; omega) a w st))⟩
        obtain ⟨rfl, q⟩ := q
        exact p2 hn a w q
      | exi i =>
        simp only [Option.some.injEq, Prod.mk.injEq] at h
        obtain ⟨rfl, rfl, rfl, rfl⟩ := h
        refine ⟨g1, fun hn a w st => wp_seq (Code.wp_mono (fun e a w q => ?_) (p1 hn a w st))⟩
        obtain ⟨h1, q⟩ := q
        have h1' : e = .exit i := h1
        subst h1'
        exact ⟨rfl, q⟩
      | ret =>
        simp only [Option.some.injEq, Prod.mk.injEq] at h
        obtain ⟨rfl, rfl, rfl, rfl⟩ := h
        refine ⟨g1, fun hn a w st => wp_seq (Code.wp_mono (fun e a w q => ?_) (p1 hn a w st))⟩
        obtain ⟨h1, q⟩ := q
        have h1' : e = .ret := h1
        subst h1'
        exact ⟨rfl, q⟩
    · cases h
  | .cond y c d, E, H, nx, x, E', H', nx', hwf, h => by
    simp only [wfC, Bool.and_eq_true] at hwf
    simp only [zba] at h
    split at h
    · rename_i t ht
      have hev : ∀ a w, SX A0 ρ0 Hi w0 X n0 nE N E H nx a w → a.eval y = .bool t := fun a w st => by
        obtain ⟨ρ, s, hv, f⟩ := st.ex
        have := zsr hv y
        rw [ht] at this
        generalize a.eval y = cv at this
        cases this
        rfl
      cases t with
      | true =>
        simp only at h
        obtain ⟨g1, p1⟩ := zcm hM hcall fx c _ _ _ _ _ _ _ hwf.1 h
        exact ⟨g1, fun hn a w st => wp_cond (hev a w st) (p1 hn a w st)⟩
      | false =>
        simp only at h
        obtain ⟨g1, p1⟩ := zcm hM hcall fx d _ _ _ _ _ _ _ hwf.2 h
        exact ⟨g1, fun hn a w st => wp_cond (hev a w st) (p1 hn a w st)⟩
    · cases h
  | .block id c, E, H, nx, x, E', H', nx', hwf, h => by
    simp only [zba] at h
    split at h
    · rename_i x1 E1 H1 nx1 h1
      obtain ⟨g1, p1⟩ := zcm hM hcall fx c _ _ _ _ _ _ _ hwf h1
      cases x1 with
      | nrm =>
        simp only [Option.some.injEq, Prod.mk.injEq] at h
        obtain ⟨rfl, rfl, rfl, rfl⟩ := h
        refine ⟨g1, fun hn a w st => wp_block (Code.wp_mono (fun e a w q => ?_) (p1 hn a w st))⟩
        obtain ⟨rfl, q⟩ := q
        exact ⟨rfl, q⟩
      | ret =>
        simp only [Option.some.injEq, Prod.mk.injEq] at h
        obtain ⟨rfl, rfl, rfl, rfl⟩ := h
        refine ⟨g1, fun hn a w st => wp_block (Code.wp_mono (fun e a w q => ?_) (p1 hn a w st))⟩
        obtain ⟨h1, q⟩ := q
        have h1' : e = .ret := h1
        subst h1'
        exact ⟨rfl, q⟩
      | exi i =>
        simp only at h
        split at h
        · rename_i hi
          rw [Nat.beq_eq] at hi
          subst hi
          simp only [Option.some.injEq, Prod.mk.injEq] at h
          obtain ⟨rfl, rfl, rfl, rfl⟩ := h
          refine ⟨g1, fun hn a w st => wp_block (Code.wp_mono (fun e a w q => ?_) (p1 hn a w st))⟩
          obtain ⟨h1, q⟩ := q
          have h1' : e = .exit i := h1
          subst h1'
          simp only [Exit.inBlock, if_true]
          exact ⟨rfl, q⟩
        · rename_i hi
          simp only [Option.some.injEq, Prod.mk.injEq] at h
          obtain ⟨rfl, rfl, rfl, rfl⟩ := h
          refine ⟨g1, fun hn a w st => wp_block (Code.wp_mono (fun e a w q => ?_) (p1 hn a w st))⟩
          obtain ⟨h1, q⟩ := q
          have h1' : e = .exit i := h1
          subst h1'
          simp only [Exit.inBlock]
          rw [if_neg (by intro e; subst e; simp at hi)]
          exact ⟨rfl, q⟩
    · cases h
  | .loop c, E, H, nx, x, E', H', nx', hwf, h => by
    simp only [zba] at h
    obtain ⟨g1, p1⟩ := zqk (c := c) (fun E H nx x E' H' nx' h => zcm hM hcall fx c E H nx x E' H' nx' hwf h) 3000 E H nx x E' H' nx' h
    exact ⟨g1, fun hn a w st => wp_loop_rounds 3000 (p1 hn a w st)⟩
theorem zom {β : Type} (hT : TOk P T) {Hm : Heap} {A : Nat → Prop} {ρ : Nat → Loc} {w : World} {a : Act} {E : EB} {H : HB} (s : Sim A ρ Hm w) (hv : ∀ t, VRel (Kof ρ Hm w) ρ A (toE E t) (a.tmps.getD t undef)) (hag : ∀ g, isH H g = true → Hm g = toH H g) :
    ∀ (rs : List ResultVar) (c : List AV → Option β) (r : β), xret T rs E H c = some r → ∃ vs, c vs = some r ∧ ∃ cs, LRel (Kof ρ Hm w) ρ A vs cs ∧ cs.length = rs.length ∧
      ∀ acc : Array Value, (List.foldlM (fun (acc : Array Value) (r : ResultVar) => acc.push <$> zbn a.tmps r) acc rs).run P w = .ok (acc ++ cs.toArray) w
  | [], c, r, h => ⟨[], h, [], LRel.nil, rfl, fun acc => by simp [Sem.run_pure]⟩
  | .tmp t :: rs, c, r, h => by
    simp only [xret, zod] at h
    obtain ⟨vs, h1, cs, h2, h3, h4⟩ := zom hT s hv hag rs _ r h
    refine ⟨_, h1, a.tmps.getD t undef :: cs, LRel.cons (hv t) h2, by simp [h3], fun acc => ?_⟩
    have hr : (zbn a.tmps (.tmp t)).run P w = .ok (a.tmps.getD t undef) w := rfl
    simp only [List.foldlM_cons, Sem.run_bind, zjn hr, Result.andThen_ok, h4]
    congr 1
    apply Array.ext'
    simp
  | .cell b t :: rs, c, r, h => by
    simp only [xret] at h
    split at h
    · rename_i at_ ht
      obtain ⟨i, d, z, ha⟩ := hT.at ht
      split at h
      · rename_i v rd _ _ hx
        rw [zoc] at h
        obtain ⟨vs, h1, cs, h2, h3, h4⟩ := zom hT s hv hag rs _ r h
        unfold zmb at hx
        split at hx
        · rename_i cells off rd' hrd
          split at hx
          · rename_i v' hl
            simp only [Option.some.injEq, Prod.mk.injEq] at hx
            obtain ⟨rfl, rfl, _, _⟩ := hx
            have hrds : ∀ g ∈ rd', Hm g = toH H g := fun g hg => by
              unfold rdp at hrd
              split at hrd
              · rename_i g' _ _
                split at hrd
                · rename_i hgg
                  cases hrd
                  simp at hg
                  subst hg
                  exact hag _ (zgu.2 ⟨_, hgg⟩)
                · cases hrd
              · cases hrd; cases hg
              · cases hrd
            obtain ⟨bb, q, he, hc⟩ := zmz s (hv b) hrd hrds
            obtain ⟨cv, hr, hR⟩ := zeu (P := P) ha hc hl
            refine ⟨_, h1, cv :: cs, LRel.cons hR h2, by simp [h3], fun acc => ?_⟩
            have hr' : (zbn a.tmps (.cell b t)).run P w = .ok cv w := by
              simp only [zbn, Sem.run_bind, he, asAddr, Sem.run_pure, Result.andThen_ok, hr]
            simp only [List.foldlM_cons, Sem.run_bind, zjn hr', Result.andThen_ok, h4]
            congr 1
            apply Array.ext'
            simp
          · cases hx
        · cases hx
      · cases h
    · cases h
theorem zrp {β : Type} : ∀ (args : List AV) (t : Nat) (E : EB) (c : EB → Option β) (r : β), zqh args t E c = some r → ∃ E', c E' = some r ∧ ∀ u, toE E' u = if t ≤ u ∧ u < t + args.length then nth args (u - t) else toE E u
  | [], t, E, c, r, h => ⟨E, h, fun u => by rw [if_neg (by simp only [List.length_nil]; omega)]⟩
  | v :: rs, t, E, c, r, h => by
    simp only [zqh, zoc] at h
    rw [Tr.setK_eq] at h
    obtain ⟨E', h1, h2⟩ := zrp rs (t + 1) _ c r h
    refine ⟨E', h1, fun u => ?_⟩
    rw [h2]
    have hs : toE (Tr.setK (t + 1) E t (some v) id) u = if u = t then v else toE E u := by
      have := congrFun (zcu E (some t) v) u
      rw [show zmd E (some t) v = Tr.setK (t + 1) E t (some v) id from rfl] at this
      rw [this, zcf]
      by_cases h : u = t
      · subst h; simp
      · rw [if_neg (by simpa using Ne.symm h), if_neg h]
    rw [hs]
    simp only [List.length_cons]
    by_cases h1 : t + 1 ≤ u ∧ u < t + 1 + rs.length
    · rw [if_pos h1, if_pos (by omega)]
      have : u - t = (u - (t + 1)) + 1 := by omega
      rw [this]
      simp [nth]
    · rw [if_neg h1]
      by_cases h3 : u = t
      · subst h3
        rw [if_pos rfl, if_pos (by omega)]
        simp [nth]
      · rw [if_neg h3, if_neg (by omega)]
def zzv (P : Program) (orc : Nat → List AV → Option AV) : Prop := ∀ f args v, orc f args = some v → ∀ H : Heap, LC P f args H [] [] [] v
def FnOk (P : Program) (ok : Nat → Bool) : Prop := ∀ f fn c, ok f = true → P.funcs[f]? = some fn → fn.body = some c → wfC fn.ntmps c = true ∧ (fn.name == "runtime.NumGoroutine") = false
include hT hE in
theorem zso (hM : P.follows .mixedOrders = true) {ok : Nat → Bool} {orc : Nat → List AV → Option AV} (ho : zzv P orc) (hf : FnOk P ok) : ∀ n, zdp P (xfun T eqs P ok orc n)
  | 0, f, args, H, nx, v, H', nx', h, cargs => by simp [xfun] at h
  | n + 1, f, args, H, nx, v, H', nx', h, cargs => by
    have ih := zso hM ho hf n
    unfold xfun at h
    split at h
    · rename_i u hu
      simp only [Option.some.injEq, Prod.mk.injEq] at h
      obtain ⟨rfl, rfl, rfl⟩ := h
      refine ⟨Nat.le_refl _, fun g hg => .inl hg, fun A ρ Hm w hB s ha hag hfree => ?_⟩
      refine zh (ho f args u hu (fun _ => none) A ρ Hm w cargs hB s ha (fun g hg => by cases hg) (fun g hg => by cases hg)) fun cv w' ⟨ρ', q1, q2, q3⟩ => ?_
      have hA : (fun x => A x ∨ x ∈ ([] : List Nat)) = (fun g => A g ∨ nx ≤ g ∧ g < nx) := by funext g; simp; omega
      have hH : Hm.apply [] = mix Hm H nx nx H := by
        funext g
        show Hm g = _
        by_cases ht : Tk H nx nx g
        · rw [zbo ht]
          rcases ht with h | h
          · exact hag g h
          · omega
        · rw [zcx ht]
      rw [hA, hH] at q1 q2 q3
      exact ⟨ρ', q1, q2, q3⟩
    · split at h
      · cases h
      · rename_i hok
        split at h
        · rename_i fn hfn
          split at h
          · rename_i c hc
            split at h
            · rename_i hlen
              obtain ⟨hwf, hname⟩ := hf f fn c hok hfn hc
              have hlen := Nat.le_of_ble_eq_true hlen
              obtain ⟨E0, h1, h2⟩ := zrp _ _ _ _ _ h
              split at h1
              · rename_i x E1 H1 nx1 hx
                have key : ∀ (A : Nat → Prop) (ρ : Nat → Loc) (Hm : Heap) (w : World), FX A nx nx1 → zpc P A ρ Hm w H nx nx1 fn.ntmps c E0 H nx x E1 H1 nx1 := fun A ρ Hm w fx => zcm hT hE hM ih fx c E0 H nx x E1 H1 nx1 hwf hx
                have hg : zai H nx H1 nx1 := (key (fun _ => False) (fun _ => default) (fun _ => none) default ⟨fun _ _ _ h => h, ⟨0, fun _ h => h.elim⟩⟩).1
                have fin : ∀ (h1 : xret T fn.results.toList E1 H1 (fun vs => some (match vs with | [v] => v | vs => .tup vs, H1, nx1)) = some (v, H', nx')) (hx2 : ∀ e, ExOk x e → e = .normal ∨ e = .ret),
                    Does P H nx v H' nx' (fun K ρ A => LRel K ρ A args cargs.toList) fun w => (callFunc f cargs).run P w := by
                  intro h1 hx2
                  have hout : H' = H1 ∧ nx' = nx1 := by
                    have : ∀ (rs : List ResultVar) (cc : List AV → AV), xret T rs E1 H1 (fun vs => some (cc vs, H1, nx1)) = some (v, H', nx') → H' = H1 ∧ nx' = nx1 := by
                      intro rs
                      induction rs with
                      | nil => intro cc h; simp only [xret, Option.some.injEq, Prod.mk.injEq] at h; exact ⟨h.2.1.symm, h.2.2.symm⟩
                      | cons r rs ih =>
                        intro cc h
                        cases r with
                        | tmp t => simp only [xret, zod] at h; exact ih (fun vs => cc (toE E1 t :: vs)) h
                        | cell b t =>
                          simp only [xret] at h
                          split at h
                          · split at h
                            · rename_i v' _ _ _ _
                              rw [zoc] at h
                              exact ih (fun vs => cc (v' :: vs)) h
                            · cases h
                          · cases h
                    exact this _ (fun vs => match vs with | [v] => v | vs => .tup vs) h1
                  obtain ⟨rfl, rfl⟩ := hout
                  refine ⟨hg.1, hg.2, fun A ρ Hm w hB s ha hag hfree => ?_⟩
                  have fx : FX A nx nx' := ⟨hfree, hB⟩
                  have hp := (key A ρ Hm w fx).2 (Nat.le_refl _)
                  have hcl : cargs.size = args.length := by simpa using ha.1
                  have hcall : (callFunc f cargs).run P w = .ok (.enter f cargs) w := by
                    have hname' : ¬ fn.name = "runtime.NumGoroutine" := by simpa using hname
                    simp [callFunc, program, Sem.run_bind, Sem.run, hfn, hname', hc, pure]
                  rw [hcall]
                  simp only [zk]
                  have hA0 : AX A nx nx = A := by funext g; simp [AX]; omega
                  have hH0 : mix Hm H nx nx' H = Hm := by
                    funext g
                    by_cases ht : Tk H nx nx' g
                    · rw [zbo ht]
                      by_cases hi : isH H g = true
                      · exact (hag g hi).symm
                      · rw [zew hi]
                        rcases ht with h | h
                        · exact absurd h hi
                        · cases e : Hm g with
                          | none => rfl
                          | some o => exact absurd (s.live g o e) (hfree g h.1 h.2)
                    · rw [zcx ht]
                  refine calls_of_wp hfn hc (Code.wp_mono (fun e a w' q => ?_) (hp _ w ⟨⟨ρ, ?_, fun t => ?_, ?_⟩, by simp; omega, rfl, Nat.le_refl _, fun g hg => .inl hg⟩))
                  · obtain ⟨he, st⟩ := q
                    have done : a.defers = [] ∧ ∃ v', (results fn a.tmps).run P w' = .ok v' w' ∧ ∃ u, Ending.returned v' = .returned u ∧ zzx A ρ Hm w H nx v H' nx' u w' := by
                      obtain ⟨ρ', s', hv', f'⟩ := st.ex
                      obtain ⟨vs, q1, cs, q2, q3, q4⟩ := zom (P := P) hT s' hv' (fun g hg => zbo (st.dom g hg)) fn.results.toList _ _ h1
                      refine ⟨st.defers, ?_⟩
                      have hm : (fn.results.mapM (zbn a.tmps)).run P w' = .ok cs.toArray w' := by
                        rw [Array.mapM_eq_foldlM]
                        have := q4 #[]
                        rw [Array.foldlM_toList] at this
                        simpa using this
                      have hrun : ∀ v, (if h : cs.toArray.size = 1 then cs.toArray[0] else Value.tuple cs.toArray) = v → (results fn a.tmps).run P w' = .ok v w' := by
                        intro v hv
                        have e : results fn a.tmps = (do let vs ← fn.results.mapM (zbn a.tmps); pure (if h : vs.size = 1 then vs[0] else .tuple vs)) := by
                          unfold results zbn
                          rfl
                        rw [e]
                        simp only [Sem.run_bind, hm, Result.andThen_ok, Sem.run_pure, hv]
                      simp only [Option.some.injEq, Prod.mk.injEq, and_true] at q1
                      split at q1
                      · rename_i u
                        subst q1
                        obtain ⟨cv, hcv, hR⟩ := q2.get (j := 0) (v := u) rfl
                        have hc1 : cs = [cv] := by
                          have hl := q2.1
                          match cs, hl, hcv with
                          | [x], _, h => simp at h; rw [h]
                        subst hc1
                        exact ⟨cv, hrun cv (by simp), cv, rfl, ρ', s', hR, f'⟩
                      · rename_i hne
                        have hc1 : cs.length ≠ 1 := by
                          intro hl
                          have := q2.1
                          rw [hl] at this
                          match vs, this with
                          | [x], _ => exact hne x rfl
                        subst q1
                        exact ⟨.tuple cs.toArray, hrun _ (by simp [hc1]), _, rfl, ρ', s', .tup _ _ (by simpa using q2.1) fun j v c hv hc => q2.2 j v c hv (by simpa using hc), f'⟩
                    rcases hx2 e he with rfl | rfl
                    · exact done
                    · exact done
                  · rw [hA0, hH0]; exact s
                  · rw [hA0, hH0, h2]
                    show VRel _ _ _ _ ((cargs ++ Array.replicate (fn.ntmps - cargs.size) undef).getD t undef)
                    by_cases ht : t < args.length
                    · rw [if_pos (by omega)]
                      obtain ⟨cv, h1, h2⟩ := ha.get (List.getElem?_eq_getElem ht)
                      have : (cargs ++ Array.replicate (fn.ntmps - cargs.size) undef).getD t undef = cv := by
                        rw [Array.getD_eq_getD_getElem?, Array.getElem?_append_left (by omega)]
                        simp only [Array.getElem?_toList] at h1
                        rw [h1]; rfl
                      rw [this, Nat.sub_zero, nth, List.getD_eq_getElem?_getD, List.getElem?_eq_getElem ht]
                      exact h2
                    · rw [if_neg (by omega)]
                      exact .junk _
                  · rw [hA0, hH0]; exact Fr.refl _ _ _ _
                split at h1
                · cases h1
                · exact fin h1 fun e he => .inl he
                · exact fin h1 fun e he => .inr he
              · cases h1
            · cases h
          · cases h
        · cases h
theorem QC.closed {call : XCl} (hc : zdp P call) {f : FuncId} {v : AV} {H' : HB} {nx' : Nat} (h : call f [] .nil 0 = some (v, H', nx')) (hf : flat v = true) : QC P f [] v := by
  intro H nx ρ w cargs s ha
  have s0 : Sim (fun _ => False) ρ (fun _ => none) w := by
    have := (s.drop (H' := fun _ => none) (fun g o ho => by cases ho)).1
    exact ⟨fun g o ho => (by cases ho), fun g o ho => (by cases ho), fun g g' hg _ _ => (by cases hg), this.lay⟩
  have d := hc f [] .nil 0 v H' nx' h cargs
  have ha0 : LRel (Kof ρ (fun _ => none) w) ρ (fun _ => False) [] cargs.toList := ⟨ha.1, fun j v c hv => by simp at hv⟩
  refine zh (d.run (fun _ => False) ρ (fun _ => none) w ⟨0, fun _ h => h.elim⟩ s0 ha0 (fun g hg => by simp [isH, Tr.get_nil] at hg) (fun _ _ _ h => h)) fun cv w' ⟨ρ', q3, q4, q5⟩ => ?_
  have keep : ∀ b o, w.heap[b]? = some o → w'.heap[b]? = some o := fun b o hb =>
    (zj.1 (q5.k b o (zj.2 ⟨fun g hg => by simp at hg, hb⟩))).2
  have hK : ∀ b o, Kof ρ H w b = some o → Kof ρ H w' b = some o := fun b o hb => by
    obtain ⟨h1, h2⟩ := zj.1 hb
    exact zj.2 ⟨h1, keep b o h2⟩
  refine ⟨v, H, nx, ρ, ⟨rfl, rfl, rfl⟩, ⟨s.live, fun g o ho => ?_, s.inj, s.lay.mono hK⟩, q4.flat hf, ⟨fun g hg => ⟨rfl, hg⟩, hK, q5.os, q5.tape, q5.output, q5.size⟩⟩
  have ho' := s.obj g o ho
  obtain ⟨ob, hob⟩ : ∃ ob, w.heap[(ρ g).block]? = some ob := ⟨_, Array.getElem?_eq_getElem ho'.block_lt⟩
  exact ho'.mono (by rw [keep _ _ hob, hob]) hK fun g hg => ⟨rfl, hg⟩
end
end Go.Proofs.YtobioljjoipimaaDoor
namespace Go.Proofs.YtobioljjoipimaaDoor
open Go Go.RowKit
theorem zry : (Tryd.prog.globalNamed "strconv.ErrSyntax").isSome = true := by kernel_rfl
theorem zuf : (Tryd.prog.globalNamed "strconv.ErrRange").isSome = true := by kernel_rfl
theorem LayE.var {n : String} {w : World} (h : LayE n (fun b => w.heap[b]?)) (hn : (Tryd.prog.globalNamed n).isSome = true) : ∃ t p, w.var? Tryd.prog n = some #[.iface t p] := by
  obtain ⟨g, hg⟩ := Option.isSome_iff_exists.1 hn
  obtain ⟨t, p, e, m, hc⟩ := h g hg
  have hc' : w.heap[g]? = _ := hc
  exact ⟨t, p, by unfold World.var?; rw [hg, Option.bind_some, hc']⟩
theorem zsi (w : World) (e : TypeId) (s : ByteArray) : Below w.heap.size w (Lib.bytesWorld w e s) := ⟨rfl, rfl, rfl, by rw [Lib.bytesWorld_size]; omega, fun k hk => Lib.bytesWorld_at_old w e s k hk⟩
def zoi (s : List UInt8) : AV := match Lib.atoiAll s with
  | .ok v => .tup [.int .i64 v, .inil]
  | .range => .tup [.int .i64 (Lib.atoiSat s), .ifc]
  | _ => .tup [.int .i64 0, .ifc]
theorem tup2 {n : Int} {x : AV} {c : Value} (h : ∀ K ρ A, VRel K ρ A x c) (K : zf) (ρ : Nat → Loc) (A : Nat → Prop) : VRel K ρ A (.tup [.int .i64 n, x]) (.tuple #[.int .i64 n, c]) :=
  .tup _ _ rfl fun j v c' hv hc => by
    match j with
    | 0 => cases hv; cases hc; exact .int _ _
    | 1 => cases hv; cases hc; exact h K ρ A
set_option maxRecDepth 8000 in
theorem zaau (s : List UInt8) (h : s.length ≤ 281474976710656) : QC Tryd.prog 106 [.str s] (zoi s) := by
  refine QC.of_calls (c := zx Tryd.f106) Tryd.func106 (by kernel_rfl) (by kernel_rfl) fun K ρ A w cargs hl ha => ?_
  have hc : cargs = #[.string ⟨s.toArray⟩] := by
    obtain ⟨hlen, hg⟩ := ha
    have hlen' : cargs.toList.length = 1 := hlen
    match he : cargs.toList, hlen' with
    | [v], _ =>
      have := hg 0 (.str s) v rfl (by rw [he]; rfl)
      cases this
      exact Array.ext' (by rw [he])
  subst hc
  have hs : (ByteArray.mk s.toArray).size = s.length := by show s.toArray.size = _; simp
  have hd : (ByteArray.mk s.toArray).data.toList = s := by simp
  unfold zoi
  cases hv : Lib.atoiAll s with
  | ok v =>
    refine (Tryd.strconv_Atoi_ok ⟨s.toArray⟩ (by omega) v (by rw [hd]; exact hv) w).mono fun e w' ⟨he, hw⟩ => ⟨⟨_, he, tup2 fun _ _ _ => .inil⟩, ?_⟩
    rcases hw with rfl | ⟨t, rfl⟩
    · exact .refl _ _
    · exact zsi w _ t
  | range =>
    obtain ⟨t, p, hvar⟩ := hl.2.2.1.var zuf
    have hx : Lib.atoiSat (ByteArray.mk s.toArray).data.toList = Lib.atoiSat s := by rw [hd]
    exact (Tryd.strconv_Atoi_range_var ⟨s.toArray⟩ (by omega) (by rw [hd]; exact hv) t p w hvar).mono fun e w' ⟨N, he, _, _, hw⟩ => ⟨⟨_, hx ▸ he, tup2 fun _ _ _ => .ifc _ ⟨_, _, rfl⟩⟩, hw⟩
  | _ =>
    obtain ⟨t, p, hvar⟩ := hl.2.1.var zry
    exact (Tryd.strconv_Atoi_syntax_var ⟨s.toArray⟩ (by omega) (by rw [hd]; exact hv) t p w hvar).mono fun e w' ⟨N, he, _, _, hw⟩ => ⟨⟨_, he, tup2 fun _ _ _ => .ifc _ ⟨_, _, rfl⟩⟩, hw⟩
end Go.Proofs.YtobioljjoipimaaDoor
set_option maxRecDepth 8000
namespace Go.Proofs.YtobioljjoipimaaDoor
open Go Go.RowKit
theorem QC.nz {P : Program} {f : FuncId} {args : List AV} (h : ∀ H nx, zb P f args H nx fun v H' _ => (v = .nils ∨ v = .zs) ∧ Keep nx H' H) : QC P f args .zs := by
  intro H nx
  have h1 : zb P f args H nx fun v H' nx' => (v = .nils ∨ v = .zs) ∧ H' = H ∧ nx' = nx := by
    refine zb.tidy fun hlive => ?_
    refine (zb.gc (R := fun v H' => (v = .nils ∨ v = .zs) ∧ H' = H) (h H nx) fun v H' nx' ⟨h1, h2⟩ => ⟨v, H, ⟨h1, rfl⟩, .same v (by rcases h1 with rfl | rfl; exact .nils; exact .zs), fun g o ho => ⟨hlive g o ho, by rw [h2 g (hlive g o ho)]; exact ho, .inl ho⟩⟩).mono fun v H' nx' ⟨⟨a, b⟩, c⟩ => ⟨a, b, c⟩
  intro ρ w cargs s ha
  refine zh (h1 ρ w cargs s ha) fun cv w' ⟨v, H', nx', ρ', ⟨q1, q2, q3⟩, q4, q5, q6⟩ => ⟨.zs, H', nx', ρ', ⟨rfl, q2, q3⟩, q4, ?_, q6⟩
  rcases q1 with rfl | rfl
  · cases q5; exact .zs none
  · exact q5
def zcr (sz by_ : Nat) (a0 : AV) (H : Heap) (nx : Nat) (Q : QT) : Prop :=
 BL BinOp.eql a0 AV.nils fun v1 =>
 CNDC v1
 (Q AV.nils H nx)
 (PUTH H nx (AObj.row sz []) fun H2 =>
 APP sz by_ AV.zs a0 H2 (nx + 1) fun v3 H4 nx5 =>
 Q v3 H4 nx5)
theorem zwv {f sz by_ : Nat} (h : ∀ (a0 : AV) (H : Heap) (nx : Nat) (Q : QT), zcr sz by_ a0 H nx Q → zb Tryd.prog f [a0] H nx Q) : QC Tryd.prog f [.ro []] .zs := by
  refine QC.nz fun H nx => h _ H nx _ ?_
  unfold zcr BL BINL
  simp only [zw, CNDC, qk, PURE]
  refine ⟨fun _ => ⟨⟨.inl (by trivial), by simp [Keep]⟩, ?_⟩, fun h => absurd rfl h⟩
  simp only [PUTH, APP, zad, ze, List.all_nil, if_true, List.length_nil, List.flatten_nil, true_and]
  exact ⟨fun _ => ⟨.inr (by trivial), fun g hg => Heap.put_ne _ _ (by omega)⟩, fun h => absurd rfl h⟩
theorem zia {f sz by_ : Nat} (h : ∀ (a0 : AV) (H : Heap) (nx : Nat) (Q : QT), zcr sz by_ a0 H nx Q → zb Tryd.prog f [a0] H nx Q) {a : AV} (ha : (∃ g o, a = .slc g o 0) ∨ a = .zs ∨ a = .ro []) (H : Heap) : LC Tryd.prog f [a] H [] [] [] .zs := by
  have hl := LC.of_qc (zwv h) .zs H
  intro A ρ Hm w cargs hB s hr hrd hfr
  refine hl A ρ Hm w cargs hB s ⟨hr.1, fun j v c hv hc => ?_⟩ hrd hfr
  cases j with
  | succ j => simp at hv
  | zero =>
    simp at hv
    subst hv
    have := hr.2 0 a c rfl hc
    rcases ha with ⟨g, o, rfl⟩ | rfl | rfl
    · cases this with
      | slc _ _ _ cap ad h1 h2 h3 => exact .ro [] ad 0 cap 0 0 0 (fun _ _ => undef) rfl (Nat.zero_le _) (fun h => absurd rfl h) (fun x hx => by cases hx) (fun i x j v hx => by simp at hx) (fun i x j v hx => by simp at hx)
    · cases this with
      | zs ad => exact .ro [] ad 0 0 0 0 0 (fun _ _ => undef) rfl (Nat.le_refl _) (fun h => absurd rfl h) (fun x hx => by cases hx) (fun i x j v hx => by simp at hx) (fun i x j v hx => by simp at hx)
    · exact this
def zsz : List Nat := [80, 81, 78, 79]
theorem zabi (a0 : AV) (H : Heap) (nx : Nat) (Q : QT) : zcr 3 32 a0 H nx Q → zb Tryd.prog 80 [a0] H nx Q :=
  zm (lv := lvOf []) (c := zx Tryd.f80) znq zoe mixed Tryd.func80 (by kernel_rfl) (by kernel_rfl) (by kernel_rfl) (by kernel_rfl) (by kernel_rfl)
theorem zabh (a0 : AV) (H : Heap) (nx : Nat) (Q : QT) : zcr 6 64 a0 H nx Q → zb Tryd.prog 81 [a0] H nx Q :=
  zm (lv := lvOf []) (c := zx Tryd.f81) znq zoe mixed Tryd.func81 (by kernel_rfl) (by kernel_rfl) (by kernel_rfl) (by kernel_rfl) (by kernel_rfl)
theorem zabg (a0 : AV) (H : Heap) (nx : Nat) (Q : QT) : zcr 3 24 a0 H nx Q → zb Tryd.prog 78 [a0] H nx Q :=
  zm (lv := lvOf []) (c := zx Tryd.f78) znq zoe mixed Tryd.func78 (by kernel_rfl) (by kernel_rfl) (by kernel_rfl) (by kernel_rfl) (by kernel_rfl)
theorem zabf (a0 : AV) (H : Heap) (nx : Nat) (Q : QT) : zcr 1 16 a0 H nx Q → zb Tryd.prog 79 [a0] H nx Q :=
  zm (lv := lvOf []) (c := zx Tryd.f79) znq zoe mixed Tryd.func79 (by kernel_rfl) (by kernel_rfl) (by kernel_rfl) (by kernel_rfl) (by kernel_rfl)
noncomputable def orcX (f : Nat) (args : List AV) : Option AV := match Nat.beq f 106 with
  | true => match args with
    | [.str s] => match Nat.ble s.length 100000 with | true => some (zoi s) | false => none
    | _ => none
  | false => match Nat.beq f 76 with
    | true => match args with
      | [.int .i64 n] => match !iLt n (-9223372036854775808) && !iLt 9223372036854775807 n with | true => some (.str (Lib.itoa n)) | false => none
      | _ => none
    | false => match zsz.any (Nat.beq f) with
      | true => match args with
        | [.slc _ _ 0] | [.zs] | [.ro []] => some .zs
        | _ => none
      | false => none
theorem zzj (s : List UInt8) : Bel (fun _ => False) (zoi s) := by
  unfold zoi
  split
  · exact .tup _ fun j v hv => by match j with
                                  | 0 => simp at hv; subst hv; exact .int _ _
                                  | 1 => simp at hv; subst hv; exact .inil
                                  | j + 2 => simp at hv
  · exact .tup _ fun j v hv => by match j with
                                  | 0 => simp at hv; subst hv; exact .int _ _
                                  | 1 => simp at hv; subst hv; exact .ifc
                                  | j + 2 => simp at hv
  · exact .tup _ fun j v hv => by match j with
                                  | 0 => simp at hv; subst hv; exact .int _ _
                                  | 1 => simp at hv; subst hv; exact .ifc
                                  | j + 2 => simp at hv
theorem zaaf : zzv Tryd.prog orcX := by
  intro f args v h H
  unfold orcX at h
  split at h
  · rename_i hf
    rw [Nat.beq_eq] at hf
    subst hf
    split at h
    · split at h
      · rename_i hl
        cases h
        exact LC.of_qc (zaau _ (by have := Nat.le_of_ble_eq_true hl; omega)) (zzj _) H
      · cases h
    · cases h
  · split at h
    · rename_i hf
      rw [Nat.beq_eq] at hf
      subst hf
      split at h
      · split at h
        · rename_i hl
          cases h
          simp only [zra, Bool.and_eq_true, Bool.not_eq_true', decide_eq_false_iff_not] at hl
          exact LC.of_qc (zst _ (by omega) (by omega)) (.str _) H
        · cases h
      · cases h
    · split at h
      · rename_i hf
        simp only [zsz, List.any_cons, List.any_nil, Bool.or_false, Bool.or_eq_true, Nat.beq_eq] at hf
        have fin : ∀ a : AV, (∃ g o, a = .slc g o 0) ∨ a = .zs ∨ a = .ro [] → LC Tryd.prog f [a] H [] [] [] .zs := fun a ha => by
          rcases hf with rfl | rfl | rfl | rfl
          · exact zia zabi ha H
          · exact zia zabh ha H
          · exact zia zabg ha H
          · exact zia zabf ha H
        split at h
        · cases h; exact fin _ (.inl ⟨_, _, rfl⟩)
        · cases h; exact fin _ (.inr (.inl rfl))
        · cases h; exact fin _ (.inr (.inr rfl))
        · cases h
      · cases h
def wfF (P : Program) (f : Nat) : Bool := match P.funcs[f]? with
  | some fn => match fn.body with
    | some c => wfC fn.ntmps c && !(fn.name == "runtime.NumGoroutine")
    | none => true
  | none => true
def okX (f : Nat) : Bool := Nat.blt f 120
theorem zabp : (List.range 120).all (wfF Tryd.prog) = true := by kernel_rfl
theorem zaaz : FnOk Tryd.prog okX := by
  intro f fn c h hf hc
  have := List.all_eq_true.1 zabp f (List.mem_range.2 (by simpa [okX] using h))
  unfold wfF at this
  rw [hf] at this
  simp only [hc, Bool.and_eq_true, Bool.not_eq_true'] at this
  exact this
noncomputable def zve (n : Nat) : XCl := xfun tab eqsT Tryd.prog okX orcX n
theorem zzi (n : Nat) : zdp Tryd.prog (zve n) := zso zbf zbm mixed zaaf zaaz n
def zox (x : Option (AV × HB × Nat)) : Bool := match x with
  | some (.bool b, _, _) => b
  | _ => false
theorem QC.runs {n : Nat} {f : FuncId} (h : zox (zve n f [] .nil 0) = true) : QC Tryd.prog f [] (.bool true) := by
  unfold zox at h
  split at h
  · rename_i b H' nx' e
    subst h
    exact QC.closed (zzi n) e (by simp)
  · cases h
end Go.Proofs.YtobioljjoipimaaDoor
set_option maxRecDepth 100000
namespace Go.Proofs.YtobioljjoipimaaDoor
open Go Go.RowKit
theorem zsm : zox (zve 60 14 [] .nil 0) = true := by kernel_rfl
theorem zxd : QC Tryd.prog 14 [] (.bool true) := QC.runs zsm
end Go.Proofs.YtobioljjoipimaaDoor
set_option maxRecDepth 8000
namespace Go.Proofs.YtobioljjoipimaaDoor
namespace VM
theorem firstErr_all {α : Type} {f : α → Int} : ∀ {l : List α}, (∀ x ∈ l, f x = 0) → firstErr f l = 0
  | [], _ => rfl
  | x :: r, h => by
    unfold firstErr
    rw [if_neg (by rw [h x (by simp)]; simp)]
    exact firstErr_all fun y hy => h y (by simp [hy])
section
variable {a : Agt} {k : Nat} {f : Frm}
theorem frame_open (hk : a.frames[k]? = some f) (ok : FrOk a.prog a.heap.length f) (away : Bool) : frame a k away =
    if (!decide (k + 1 = a.frames.length) || away) && (decide (f.at_ = 0) || ((!decide (k + 1 = a.frames.length) && (decide (((codeAt a.prog f.fn).ins.getD (f.at_.toNat - 1) ⟨0, 0, 0⟩).op ≠ 17) || decide (((codeAt a.prog f.fn).ins.getD (f.at_.toNat - 1) ⟨0, 0, 0⟩).a ≠ ((a.frames[k + 1]?).map (·.fn)).getD 0))) || (decide (k + 1 = a.frames.length) && decide (((codeAt a.prog f.fn).ins.getD (f.at_.toNat - 1) ⟨0, 0, 0⟩).op ≠ 13)) || decide ((hts a.prog f).getD (f.at_.toNat - 1) 0 < 0))) then 10
    else if (if (!decide (k + 1 = a.frames.length) || away) = true then (hts a.prog f).getD f.at_.toNat 0 - 1 else (hts a.prog f).getD f.at_.toNat 0) < 0 ∨ (f.stack.length : Int) ≠ (if (!decide (k + 1 = a.frames.length) || away) = true then (hts a.prog f).getD f.at_.toNat 0 - 1 else (hts a.prog f).getD f.at_.toNat 0) then 10
    else firstErr (fun v => wrong v a.heap.length) (f.vars ++ f.stack) := by
  have hc : a.prog.codes[f.fn.toNat]? = some (codeAt a.prog f.fn) := by
    unfold codeAt; rw [List.getD_eq_getElem?_getD, List.getElem?_eq_getElem ok.code]; rfl
  have hi : (codeAt a.prog f.fn).ins[f.at_.toNat]? = some ((codeAt a.prog f.fn).ins[f.at_.toNat]'ok.ins) := List.getElem?_eq_getElem ok.ins
  unfold frame
  rw [hk]
  simp only
  rw [if_pos ok.fn0, hc]
  simp only
  rw [if_pos ok.at0, hi]
  simp only
  rw [if_neg (by have := ok.vars; omega)]
  rfl
theorem vals_zero (ok : FrOk a.prog a.heap.length f) : firstErr (fun v => wrong v a.heap.length) (f.vars ++ f.stack) = 0 := firstErr_all fun v hv => by
  rcases List.mem_append.1 hv with h | h
  · exact ok_wrong (ok.vv v h)
  · exact ok_wrong (ok.sv v h)
theorem getD_of {l : List Int} {n : Nat} {x : Int} (h : l[n]? = some x) : l.getD n 0 = x := by rw [List.getD_eq_getElem?_getD, h]; rfl
theorem frame_still (hk : a.frames[k]? = some f) (hl : k + 1 = a.frames.length) (ok : FrOk a.prog a.heap.length f) (st : Still a.prog f) : frame a k false = 0 := by
  rw [frame_open hk ok]
  have h := getD_of st
  simp only [hl, decide_true, Bool.not_true, Bool.false_or, Bool.false_and, Bool.false_eq_true, if_false]
  rw [h, if_neg (by omega)]
  exact vals_zero ok
theorem frame_waits {fn : Int} (hk : a.frames[k]? = some f) (hl : k + 1 ≠ a.frames.length) (ok : FrOk a.prog a.heap.length f) (w : Waits a.prog f fn) (hfn : ((a.frames[k + 1]?).map (·.fn)).getD 0 = fn) (away : Bool) : frame a k away = 0 := by
  rw [frame_open hk ok]
  have h := getD_of w.hei
  have h0 : ¬ f.at_ = 0 := by have := w.pos; omega
  have h4 : ¬ (hts a.prog f).getD (f.at_.toNat - 1) 0 < 0 := by have := w.seen; omega
  simp only [hl, decide_false, Bool.not_false, Bool.true_or, Bool.true_and, if_true, h0, w.op, w.to, hfn, h4, ne_eq, not_true_eq_false, Bool.false_and, Bool.or_false, Bool.false_eq_true, if_false]
  rw [h, if_neg (by omega)]
  exact vals_zero ok
end
theorem chain_get {p : Prg} {fs : List Frm} {fn : Int} (h : WChain p fs fn) : ∀ (f : Frm), f.fn = fn → ∀ (k : Nat) (g : Frm), fs[k]? = some g → Waits p g ((((fs ++ [f])[k + 1]?).map (·.fn)).getD 0) := by
  induction h with
  | nil fn => intro f _ k g hg; simp at hg
  | snoc gs g' fn hc hw ih =>
    intro f hf k g hg
    by_cases hk : k < gs.length
    · rw [List.getElem?_append_left hk] at hg
      have := ih g' rfl k g hg
      rw [List.append_assoc, show k + 1 = k + 1 from rfl]
      have e : (gs ++ ([g'] ++ [f]))[k + 1]? = (gs ++ [g'])[k + 1]? := by
        rw [← List.append_assoc, List.getElem?_append_left (by simp; omega)]
      rw [e]; exact this
    · have hk' : k = gs.length := by have := (List.getElem?_eq_some_iff.1 hg).1; simp at this; omega
      subst hk'
      rw [List.getElem?_append_right (Nat.le_refl _)] at hg
      simp at hg
      subst hg
      have e : ((gs ++ [g']) ++ [f])[gs.length + 1]? = some f := by
        rw [List.getElem?_append_right (by simp)]; simp
      rw [e]
      simp only [Option.map_some, Option.getD_some, hf]
      exact hw
theorem cells_zero {h : List Cl} {N : Int} (hc : ∀ c ∈ h, WrongOk c.left N ∧ WrongOk c.right N) : firstErr (cellErr N) h = 0 := firstErr_all fun c h => by
  unfold cellErr
  rw [if_neg (by rw [ok_wrong (hc c h).1]; simp)]
  exact ok_wrong (hc c h).2
theorem agent_zero {a : Agt} {away : Bool} (hp : program a.prog = 0) (h1 : 0 ≤ a.id ∧ a.id ≤ 1073741824) (h2 : 0 ≤ a.trip ∧ a.trip ≤ 1073741824) (h3 : 0 ≤ a.permit.fuel ∧ a.permit.fuel ≤ 2000) (h4 : 0 ≤ a.permit.room) (h5 : 0 ≤ a.permit.hops ∧ a.permit.hops ≤ 12) (h6 : 1 ≤ a.frames.length ∧ a.frames.length ≤ 12)
    (h7 : (a.heap.length : Int) + a.permit.room ≤ 60) (h8 : ∀ k, k < a.frames.length → frame a k away = 0) (h9 : ∀ c ∈ a.heap, WrongOk c.left a.heap.length ∧ WrongOk c.right a.heap.length) : agent a away = 0 := by
  unfold agent
  rw [if_neg (by rw [hp]; simp), if_neg (by omega), if_neg (by omega), if_neg (by omega)]
  have hf : framesErr a away = 0 := firstErr_all fun k hk => h8 k (List.mem_range.1 hk)
  rw [if_neg (by rw [hf]; simp)]
  exact cells_zero h9
theorem waits_at {a : Agt} {fs : List Frm} {f : Frm} (fr : a.frames = fs ++ [f]) (ok : ∀ g ∈ fs ++ [f], FrOk a.prog a.heap.length g) (chain : WChain a.prog fs f.fn) (away : Bool) {k : Nat} (hk : k < fs.length) : frame a k away = 0 := by
  have hg : fs[k]? = some fs[k] := List.getElem?_eq_getElem hk
  have hg' : a.frames[k]? = some fs[k] := by rw [fr, List.getElem?_append_left hk]; exact hg
  refine frame_waits hg' (by rw [fr]; simp; omega) (ok _ (by simp)) (chain_get chain f rfl k _ hg) (by rw [fr]) away
theorem live_agent {a : Agt} {fs : List Frm} {f : Frm} (l : Live a fs f) : agent a false = 0 := by
  have hlen : a.frames.length = fs.length + 1 := by rw [l.fr]; simp
  have flen := l.flen
  refine agent_zero l.prog l.id l.trip l.fuel l.room l.hops ⟨by omega, by omega⟩ l.hlen (fun k hk => ?_) l.cells
  by_cases h : k < fs.length
  · exact waits_at l.fr l.ok l.chain false h
  · have hk' : k = fs.length := by omega
    subst hk'
    exact frame_still (by rw [l.fr]; simp) (by omega) (l.ok f (by simp)) l.still
end VM
end Go.Proofs.YtobioljjoipimaaDoor
set_option maxRecDepth 8000
namespace Go.Proofs.YtobioljjoipimaaDoor
namespace VM
theorem first_code {p : Prg} (hp : program p = 0) : 0 < p.codes.length ∧ 0 < (codeAt p 0).ins.length ∧ 0 ≤ (codeAt p 0).vars ∧ (codeAt p 0).vars ≤ 8 ∧ there (hts p ⟨0, 0, [], []⟩) (0, 0) := by
  have h0 : 0 < p.codes.length := by
    unfold program at hp
    by_cases h1 : p.codes.length < 1 ∨ 5 < p.codes.length
    · rw [if_pos h1] at hp; omega
    · omega
  have hcm := code_mem (p := p) (n := 0) (by simpa using h0)
  obtain ⟨pr, _⟩ := zcd hp
  obtain ⟨crange, calm, hz⟩ := pr _ hcm
  have hk := heights_ok calm hz
  unfold codeRange at crange
  rw [decide_eq_false_iff_not] at crange
  exact ⟨h0, by omega, by omega, by omega, hk.start⟩
theorem new_live {id : Int} {p : Prg} {m : Pmt} (hp : program p = 0) (hi : 0 ≤ id ∧ id ≤ 1000) (h1 : 0 ≤ m.fuel ∧ m.fuel ≤ 2000) (h2 : 0 ≤ m.room ∧ m.room ≤ 60) (h3 : 0 ≤ m.hops ∧ m.hops ≤ 12) :
    Live (newAgt id p m) [] ⟨0, 0, List.replicate (codeAt p 0).vars.toNat vzero, []⟩ := by
  obtain ⟨c1, c2, c3, c4, c5⟩ := first_code hp
  refine ⟨rfl, hp, by simp only [newAgt]; omega, by simp only [newAgt]; omega, h1, h2.1, h3, by simp, by simp only [newAgt, List.length_nil]; omega, fun g hg => ?_, .nil _, c5.2, fun c hc => by cases hc⟩
  simp only [List.nil_append, List.mem_singleton] at hg
  subst hg
  exact ⟨by simp, by simp, by simpa [newAgt] using c1, by simpa [newAgt] using c2, by simp only [List.length_replicate, newAgt]; omega, fun v hv => by rw [List.eq_of_mem_replicate hv]; exact zero_ok _, fun v hv => by cases hv⟩
theorem new_away {id : Int} {p : Prg} {m : Pmt} (hp : program p = 0) (hi : 0 ≤ id ∧ id ≤ 1000) (h1 : 0 ≤ m.fuel ∧ m.fuel ≤ 2000) (h2 : 0 ≤ m.room ∧ m.room ≤ 60) (h3 : 0 ≤ m.hops ∧ m.hops ≤ 12) : agent (newAgt id p m) true = 10 := by
  have l := new_live hp hi h1 h2 h3
  have hf : framesErr (newAgt id p m) true = 10 := by
    have e : frame (newAgt id p m) 0 true = 10 := by
      rw [frame_open (f := ⟨0, 0, List.replicate (codeAt p 0).vars.toNat vzero, []⟩) rfl (l.ok _ (by simp))]
      simp
    show firstErr (fun k => frame (newAgt id p m) k true) [0] = 10
    simp [firstErr, e]
  unfold agent
  rw [if_neg (by show ¬ program p ≠ 0; rw [hp]; simp), if_neg (by simp only [newAgt]; omega), if_neg (by simp only [newAgt, List.length_singleton]; omega), if_neg (by simp only [newAgt, List.length_nil]; omega), if_pos (by rw [hf]; simp), hf]
end VM
end Go.Proofs.YtobioljjoipimaaDoor
set_option maxRecDepth 8000
namespace Go.Proofs.YtobioljjoipimaaDoor
open Go Go.RowKit
theorem zwj (i : Ins) : QC Tryd.prog 73 [.agg i.avs] (.tup [.int .i64 (VM.effect i).1, .int .i64 (VM.effect i).2]) := by
  refine QC.of' fun H nx => zkt _ H nx _ ?_
  obtain ⟨op, a, b⟩ := i
  simp [zhb, Ins.avs]
  repeat' first | apply And.intro | intro _
  all_goals simp [VM.effect, *]
theorem zzz (s : Str) (hs : s.length ≤ maxLen) : QC Tryd.prog 50 [.str s] (.bool (VM.word s)) := by
  refine fun H nx => znp _ H nx _ ?_
  simp only [maxLen] at hs
  simp [zle]
  refine ⟨fun h => by simp [VM.word]; omega, fun h => ?_⟩
  have hl : s.length ≤ 12 := by omega
  have hw : VM.word s = s.all VM.wordByte := by simp [VM.word, hl]
  refine LP.mk (fun n xs H' nx' => ∃ i : Nat, i ≤ s.length ∧ n = s.length - i ∧ xs = [.str s, .int .i64 s.length, .int .i64 i] ∧ H = H' ∧ nx = nx' ∧ s.all VM.wordByte = (s.drop i).all VM.wordByte) s.length ⟨0, by omega, by omega, rfl, rfl, rfl, rfl⟩ ?_
  rintro n xs H' nx' ⟨i, hi, rfl, rfl, rfl, rfl, hall⟩
  rw [zaaa] at hall
  simp [zlf]
  refine ⟨fun h => ?_, fun h => ?_⟩
  · rw [dif_pos h] at hall
    have hg : s.getD i 0 = s[i] := by simp [List.getD, h]
    simp [h]
    have hb : VM.wordByte s[i] = false → VM.word s = false := fun hb => by rw [hw, hall, hb]; rfl
    refine ⟨fun h1 => hb (by simp [VM.wordByte]; omega), fun h1 => ⟨fun h2 => hb (by simp [VM.wordByte]; omega), fun h2 => ⟨fun h3 => hb (by simp [VM.wordByte]; omega), fun h3 => ?_⟩⟩⟩
    rw [i64w (by omega)]
    refine ⟨s.length - (i + 1), by omega, i + 1, by omega, rfl, by simp, ?_⟩
    have : VM.wordByte s[i] = true := by simp [VM.wordByte]; omega
    rw [hall, this]; rfl
  · rw [dif_neg (by omega)] at hall
    rw [hw, hall]
end Go.Proofs.YtobioljjoipimaaDoor
set_option maxRecDepth 8000
namespace Go.Proofs.YtobioljjoipimaaDoor
open Go Go.RowKit
theorem zacf (n m : Int) : QC Tryd.prog 77 [.int .i64 n, .int .i64 m] (.bool (VM.isIn n m)) := by
  refine QC.of' fun H nx => zih _ _ H nx _ ?_
  simp [zes, VM.isIn]
  constructor <;> intros <;> omega
set_option maxHeartbeats 2000000 in
theorem zuk (p : Prg) (c : Cod) (i : Ins) (H : Heap) (nx g : Nat) (hg : H g = some (.row 2 p.avs)) (hgn : g < nx) :
    zb Tryd.prog 51 [.ptr g 0, .rop c.avs 0, .agg i.avs] H nx fun v H' nx' => Frz H' nx v (.int .i64 (VM.numbers p c i)) ∧ Keep nx H' H := by
  refine zjj _ _ _ H nx _ ?_
  obtain ⟨op, a, b⟩ := i
  have hne : g ≠ nx := by omega
  simp [zfx, Ins.avs, hg, hne, Prg.avs, Cod.avs]
  refine JN.cut (fun xs H' nx' => xs = [.ptr nx 0, .bool (VM.numOk p c ⟨op, a, b⟩)] ∧ H' = H.put nx (some (.row 3 [.int .i64 op, .int .i64 a, .int .i64 b])) ∧ nx' = nx + 1) ?_ ?_
  · rintro xs H' nx' ⟨rfl, rfl, rfl⟩
    simp only [VM.numbers]
    cases hk : VM.numOk p c ⟨op, a, b⟩
    all_goals simp [zar, zaq, zap, zao, zan, zam, zal, zak, zaj]
    all_goals repeat' first | apply And.intro | intro _
    all_goals ((repeat' split) <;> omega)
  · simp [hg, hne, Prg.avs, Cod.avs, zar, zaq, zap, zao, zan, zam, zal, zak, zaj]
    repeat' first | apply And.intro | intro _ | (refine JN.same ?_; simp [hg, hne, Prg.avs, Cod.avs, zar, zaq, zap, zao, zan, zam, zal, zak, zaj]) | (refine zaa.of_qc (zacf _ _) (.bool _) ?_; simp [hg, hne, Prg.avs, Cod.avs, zar, zaq, zap, zao, zan, zam, zal, zak, zaj]) | (simp [hg, hne, Prg.avs, Cod.avs, zar, zaq, zap, zao, zan, zam, zal, zak, zaj]; done)
    all_goals try (simp [VM.numOk, *]; done)
    all_goals try (simp [VM.numOk, *]; omega)
    · rename_i h; simp [VM.isIn] at h; omega
    · rename_i h; simp [VM.isIn] at h; omega
    · rename_i h
      have h' : 0 ≤ a ∧ a < p.codes.length := by simpa [VM.isIn] using h
      refine zaag (by omega) fun x hx => ?_
      obtain ⟨_, e⟩ := List.getElem?_eq_some_iff.1 hx
      subst e
      simp [VM.numOk, *]
end Go.Proofs.YtobioljjoipimaaDoor
set_option maxRecDepth 8000
namespace Go.Proofs.YtobioljjoipimaaDoor
open Go Go.RowKit
def QAt (H : Heap) (nx : Nat) (lo : Nat) (v : AV) (q : List (Int × Int)) : Prop := ∃ g off cells, v = .slc g off q.length ∧ H g = some (.row 2 cells) ∧ cells.drop off = prs q ∧ off ≤ cells.length ∧ lo ≤ g ∧ g < nx
def HInv (c : Cod) (H0 : Heap) (n0 : Nat) (f : Nat) (xs : List AV) (H : Heap) (nx : Nat) : Prop := ∃ (q : List (Int × Int)) (out : List Int) (v : AV),
  xs = [.ptr n0 0, .slc (n0 + 1) 0 c.ins.length, v] ∧ QAt H nx (n0 + 2) v q ∧ H n0 = some (.row 3 c.avs) ∧ H (n0 + 1) = some (.row 1 (zo out)) ∧ out.length = c.ins.length ∧ Keep n0 H H0 ∧ n0 + 2 < nx ∧
  VM.heightsGo c.ins f q out = VM.heights c.ins ∧ q.length + 2 * zgh out < f ∧ f ≤ 2 * c.ins.length + 2 ∧ (∀ x ∈ q, 0 ≤ x.2 ∧ x.2 ≤ 16) ∧ (∀ x ∈ out, -1 ≤ x ∧ x ≤ 16)
set_option maxHeartbeats 2000000 in
theorem zny (c : Cod) (hlen : c.ins.length ≤ 1048576) (hcalm : Calm c.ins) :
    QC Tryd.prog 39 [.agg c.avs] (.tup [.ro ((VM.heights c.ins).1.map fun n => [.int .i64 n]), .int .i64 (VM.heights c.ins).2]) := by
  refine QC.of' fun H nx => zjl _ H nx _ ?_
  simp [zgc, Cod.avs]
  refine ⟨by omega, by omega, ?_⟩
  refine LP.mk (fun m xs H' nx' => ∃ i : Nat, i ≤ c.ins.length ∧ m = c.ins.length - i ∧ xs = [.ptr nx 0, .slc (nx + 1) 0 c.ins.length, .int .i64 c.ins.length, .int .i64 i] ∧ nx' = nx + 2 ∧
    H' = (H.put nx (some (.row 3 c.avs))).put (nx + 1) (some (.row 1 (zo (List.replicate i (-1) ++ List.replicate (c.ins.length - i) 0))))) c.ins.length
    ⟨0, by omega, by omega, by simp, rfl, by simp [zo, Cod.avs]⟩ ?_
  rintro m xs H' nx' ⟨i, hi, rfl, rfl, rfl, rfl⟩
  simp [zgd]
  refine ⟨fun h => ?_, fun h => ?_⟩
  · refine ⟨h, by omega, ?_⟩
    rw [i64w (by omega)]
    refine ⟨c.ins.length - (i + 1), by omega, i + 1, by omega, rfl, by simp, ?_⟩
    rw [zwi _ _ h]
  obtain rfl : i = c.ins.length := by omega
  refine LP.mk (HInv c H nx) (2 * c.ins.length + 2) ⟨[(0, 0)], List.replicate c.ins.length (-1), .slc (nx + 2) 0 1, rfl, ⟨nx + 2, 0, [.int .i64 0, .int .i64 0], rfl, by simp, by simp [prs], by simp, by omega, by omega⟩, by simp, by simp, by simp, by simp, by omega, rfl, ?_, by omega, ?_, ?_⟩ ?_
  · unfold zgh; simp [List.countP_replicate]; omega
  · intro x hx; simp at hx; subst hx; simp
  · intro x hx; have := List.eq_of_mem_replicate hx; omega
  rintro f xs H1 n1 ⟨q, out, v, rfl, ⟨g, off, cells, rfl, hg, hcells, hoff, hlo, hhi⟩, hb, ho, hol, hK, hn, hgo, hmeas, hf, hq, hout⟩
  cases q with
  | nil =>
    simp [zab]
    cases f with
    | zero => simp at hmeas
    | succ f =>
      have e : VM.heights c.ins = (out, 0) := by rw [← hgo]; rfl
      rw [e]
      refine ⟨⟨Frz.row (sz := 1) (cells := zo out) (by omega) ho (by simp [hol]) (by simp) ?_ ?_, rfl⟩, hK⟩
      · exact zsj out
      · intro x hx; simp [zo] at hx; obtain ⟨a, _, rfl⟩ := hx; exact .int _ _
  | cons x q =>
    obtain ⟨at_, h⟩ := x
    have hc0 : cells[off]? = some (.int .i64 at_) := by have := congrArg (·[0]?) hcells; simpa [prs] using this
    have hc1 : cells[off + 1]? = some (.int .i64 h) := by have := congrArg (·[1]?) hcells; simpa [prs] using this
    have hdrop : cells.drop (off + 2) = prs q := by
      have := congrArg (List.drop 2) hcells
      simpa [prs] using this
    have hoff2 : off + 2 ≤ cells.length := by
      have := congrArg List.length hcells
      simp [prs, zit] at this; omega
    cases f with
    | zero => simp at hmeas
    | succ f =>
    have hh := hq (at_, h) (by simp)
    simp only at hh
    have hq' : ∀ x ∈ q, 0 ≤ x.2 ∧ x.2 ≤ 16 := fun x hx => hq x (by simp [hx])
    simp only [List.length_cons] at hmeas
    simp only [VM.heightsGo] at hgo
    by_cases hr : 0 ≤ at_ ∧ at_ < c.ins.length
    case neg =>
      have e : (if 0 ≤ at_ then c.ins[at_.toNat]? else none) = none := by
        split
        · exact List.getElem?_eq_none (by omega)
        · rfl
      rw [e] at hgo
      simp only at hgo
      rw [← hgo]
      by_cases h0 : at_ < 0
      · simp [zab, hg, hc0, hc1, h0, hK]; omega
      · have : (c.ins.length : Int) ≤ at_ := by omega
        simp [zab, hg, hc0, hc1, h0, this, hK]; omega
    case pos =>
    obtain ⟨hr0, hr1⟩ := hr
    have hlt : at_.toNat < c.ins.length := by omega
    obtain ⟨i, hi⟩ : ∃ i, c.ins[at_.toNat]? = some i := ⟨_, List.getElem?_eq_getElem hlt⟩
    obtain ⟨o, ho'⟩ : ∃ o, out[at_.toNat]? = some o := ⟨_, List.getElem?_eq_getElem (by omega)⟩
    have hod : out.getD at_.toNat 0 = o := by simp [List.getD_eq_getElem?_getD, ho']
    rw [if_pos hr0, hi, hod] at hgo
    simp only at hgo
    by_cases hs : 0 ≤ o
    · rw [if_pos hs] at hgo
      by_cases hne : o = h
      · subst hne
        rw [if_neg (by simp)] at hgo
        simp [zab, hg, hc0, hc1, ho, hr0, hr1, zka, ho', hs, Int.not_lt.2 hr0, Int.not_le.2 hr1, Int.not_lt.2 hs]
        refine ⟨by omega, f, by omega, q, out, _, rfl, ⟨g, off + 2, cells, rfl, hg, hdrop, hoff2, hlo, hhi⟩, hb, ho, hol, hK, hn, hgo, by omega, by omega, hq', hout⟩
      · rw [if_pos hne] at hgo
        rw [← hgo]
        simp [zab, hg, hc0, hc1, ho, hr0, hr1, zka, ho', hs, hne, hK]
        omega
    rw [if_neg hs] at hgo
    have hbd := zhz i (hcalm i (List.mem_of_getElem? hi))
    have n1' : g ≠ nx := by omega
    have n2' : g ≠ nx + 1 := by omega
    have n3' : g ≠ n1 := by omega
    have n4' : nx ≠ n1 := by omega
    have n5' : nx + 1 ≠ n1 := by omega
    have hns : o < 0 := by omega
    obtain ⟨_, hi'⟩ := List.getElem?_eq_some_iff.1 hi
    simp [zab, hg, hc0, hc1, ho, hb, hr0, hr1, zka, ho', hs, hns, hi', Cod.avs, Ins.avs, Int.not_lt.2 hr0, Int.not_le.2 hr1]
    refine ⟨by omega, by omega, QC.call (zwj i) ?_⟩
    rw [zvf _ _ _ (by omega)]
    have h2g : ((H1.put (nx + 1) (some (.row 1 (zo (out.set at_.toNat h))))).put n1 (some (.row 3 [.int .i64 i.op, .int .i64 i.a, .int .i64 i.b]))) g = some (.row 2 cells) := by simp [n2', n3', hg]
    have h2b : ((H1.put (nx + 1) (some (.row 1 (zo (out.set at_.toNat h))))).put n1 (some (.row 3 [.int .i64 i.op, .int .i64 i.a, .int .i64 i.b]))) nx = some (.row 3 c.avs) := by simp [n4', hb]
    have h2o : ((H1.put (nx + 1) (some (.row 1 (zo (out.set at_.toNat h))))).put n1 (some (.row 3 [.int .i64 i.op, .int .i64 i.a, .int .i64 i.b]))) (nx + 1) = some (.row 1 (zo (out.set at_.toNat h))) := by simp [n5']
    have h2n : ((H1.put (nx + 1) (some (.row 1 (zo (out.set at_.toNat h))))).put n1 (some (.row 3 [.int .i64 i.op, .int .i64 i.a, .int .i64 i.b]))) n1 = some (.row 3 [.int .i64 i.op, .int .i64 i.a, .int .i64 i.b]) := by simp
    have h2K : Keep nx ((H1.put (nx + 1) (some (.row 1 (zo (out.set at_.toNat h))))).put n1 (some (.row 3 [.int .i64 i.op, .int .i64 i.a, .int .i64 i.b]))) H := by rw [Keep.put (by omega), Keep.put (by omega)]; exact hK
    generalize ((H1.put (nx + 1) (some (.row 1 (zo (out.set at_.toNat h))))).put n1 (some (.row 3 [.int .i64 i.op, .int .i64 i.a, .int .i64 i.b]))) = H2 at *
    have hu := zld (out := out) (k := at_.toNat) (h := h) (by omega) (by omega) hh.1
    generalize hE : VM.effect i = E at *
    obtain ⟨nd, gv⟩ := E
    simp only at hbd hgo
    have w1 : IntKind.i64.wrap (gv - nd) = gv - nd := i64w (by omega)
    have w2 : IntKind.i64.wrap (h + (gv - nd)) = h + (gv - nd) := i64w (by omega)
    have w3 : IntKind.i64.wrap (at_ + 1) = at_ + 1 := i64w (by omega)
    by_cases hc1 : h < nd ∨ (i.op = 18 ∧ h ≠ 1)
    · rw [if_pos hc1] at hgo
      rw [← hgo]
      by_cases hc2 : h < nd
      · simp [zp, hc2, h2K]
      · have h18 : i.op = 18 := by omega
        have h1 : h ≠ 1 := by omega
        simp [zp, hc2, h2n, h18, h1, h2K]
    rw [if_neg hc1] at hgo
    have hc2 : ¬ h < nd := by omega
    have hc2' : nd ≤ h := by omega
    by_cases hc3 : 16 < h + gv - nd
    · rw [if_pos hc3] at hgo
      rw [← hgo]
      have hc3' : 16 < h + (gv - nd) := by omega
      by_cases h18 : i.op = 18
      · have h1 : h = 1 := by omega
        subst h1
        simp [zp, hc2, h2n, h18, w1, w2, hc3', h2K]
      · simp [zp, hc2, h2n, h18, w1, w2, hc3', h2K]
    rw [if_neg hc3] at hgo
    have hc4 : ¬ 16 < h + (gv - nd) := by omega
    have e4 : h + gv - nd = h + (gv - nd) := by omega
    rw [e4] at hgo
    have fin : ∀ (l : List (Int × Int)) (v : AV) (H3 : Heap) (n3 : Nat), VM.heightsGo c.ins f (q ++ l) (out.set at_.toNat h) = VM.heights c.ins → l.length ≤ 2 → (∀ x ∈ l, 0 ≤ x.2 ∧ x.2 ≤ 16) →
        QAt H3 n3 (nx + 2) v (q ++ l) → H3 nx = some (.row 3 c.avs) → H3 (nx + 1) = some (.row 1 (zo (out.set at_.toNat h))) → Keep nx H3 H → nx + 2 < n3 →
        ∃ m, m < f + 1 ∧ HInv c H nx m [.ptr nx 0, .slc (nx + 1) 0 c.ins.length, v] H3 n3 := by
      intro l v H3 n3 p1 p2 p3 p4 p5 p6 p7 p8
      refine ⟨f, by omega, q ++ l, _, v, rfl, p4, p5, p6, by simpa using hol, p7, p8, p1, by simp; omega, by omega, fun x hx => ?_, fun x hx => ?_⟩
      · rcases List.mem_append.1 hx with hx | hx
        · exact hq' x hx
        · exact p3 x hx
      · rcases List.mem_or_eq_of_mem_set hx with h9 | h9
        · exact hout x h9
        · omega
    have hq0 : QAt H2 (n1 + 1) (nx + 2) (.slc g (off + 2) q.length) q := ⟨g, off + 2, cells, rfl, h2g, hdrop, hoff2, hlo, by omega⟩
    have n6' : g ≠ n1 + 1 := by omega
    have n7' : n1 ≠ g := by omega
    have n8' : nx ≠ g := by omega
    have n9' : nx + 1 ≠ g := by omega
    have htake : List.take (q.length * 2) (List.drop (off + 2) cells) = prs q := by rw [hdrop]; exact List.take_of_length_le (by rw [zit]; exact Nat.le_refl _)
    have hclen : off + 2 + q.length * 2 = cells.length := by
      have := congrArg List.length hdrop
      simp [zit] at this; omega
    have hql : q.length < 2097156 := by omega
    by_cases h15 : i.op = 15
    · simp [zp, hc2, hc2', h2n, h15, w1, w2, w3, hc4, h2g, n6', htake]
      refine ⟨by omega, by omega, fin [(i.a, h + (gv - nd))] _ _ _ (by simpa [h15] using hgo) (by simp) (by simp; omega) ⟨n1 + 1 + 1, 0, prs q ++ [.int .i64 i.a, .int .i64 (h + (gv - nd))], by simp, by simp, by simp [zjp, prs], by simp, by omega, by omega⟩ ?_ ?_ ?_ (by omega)⟩
      · rw [Heap.put_ne _ _ (by omega), Heap.put_ne _ _ (by omega), Heap.put_ne _ _ (by omega)]; exact h2b
      · rw [Heap.put_ne _ _ (by omega), Heap.put_ne _ _ (by omega), Heap.put_ne _ _ (by omega)]; exact h2o
      · rw [Keep.put (by omega), Keep.put (by omega), Keep.put (by omega)]; exact h2K
    by_cases h18 : i.op = 18
    · have h1 : h = 1 := by omega
      subst h1
      simp [zp, hc2, hc2', h2n, h18, w1, w2, w3, hc4, h2g]
      have := fin [] (.slc g (off + 2) q.length) H2 (n1 + 1) (by simpa [h15, h18] using hgo) (by simp) (by simp) (by simpa using hq0) h2b h2o h2K (by omega)
      exact this
    have n10 : ¬ n1 = n1 + 1 + 1 := by omega
    by_cases h16 : i.op = 16
    · simp [zp, hc2, hc2', h2n, h16, w1, w2, w3, hc4, h2g, n6', n7', n10, htake, zit]
      have htake2 : List.take ((q.length + 1) * 2) (prs q ++ [AV.int .i64 (at_ + 1), AV.int .i64 (h + (gv - nd))]) = prs q ++ [AV.int .i64 (at_ + 1), AV.int .i64 (h + (gv - nd))] := List.take_of_length_le (by simp [zit]; omega)
      rw [htake2]
      refine ⟨by omega, by omega, by omega, by omega, fin [(at_ + 1, h + (gv - nd)), (i.a, h + (gv - nd))] (.slc (n1 + 1 + 1 + 1 + 1) 0 (q.length + 1 + 1)) _ _ (by simpa [h15, h16, h18] using hgo) (by simp) (by simp; omega) ⟨n1 + 1 + 1 + 1 + 1, 0, prs q ++ [.int .i64 (at_ + 1), .int .i64 (h + (gv - nd))] ++ [.int .i64 i.a, .int .i64 (h + (gv - nd))], by simp, by simp, by simp [zjp, prs], by simp, by omega, by omega⟩ ?_ ?_ ?_ (by omega)⟩
      · rw [Heap.put_ne _ _ (by omega), Heap.put_ne _ _ (by omega), Heap.put_ne _ _ (by omega), Heap.put_ne _ _ (by omega), Heap.put_ne _ _ (by omega), Heap.put_ne _ _ (by omega)]; exact h2b
      · rw [Heap.put_ne _ _ (by omega), Heap.put_ne _ _ (by omega), Heap.put_ne _ _ (by omega), Heap.put_ne _ _ (by omega), Heap.put_ne _ _ (by omega), Heap.put_ne _ _ (by omega)]; exact h2o
      · rw [Keep.put (by omega), Keep.put (by omega), Keep.put (by omega), Keep.put (by omega), Keep.put (by omega), Keep.put (by omega)]; exact h2K
    · simp [zp, hc2, hc2', h2n, h15, h16, h18, w1, w2, w3, hc4, h2g, n6', n7', n10, htake]
      refine ⟨by omega, by omega, fin [(at_ + 1, h + (gv - nd))] (.slc (n1 + 1 + 1) 0 (q.length + 1)) _ _ (by simpa [h15, h16, h18] using hgo) (by simp) (by simp; omega) ⟨n1 + 1 + 1, 0, prs q ++ [.int .i64 (at_ + 1), .int .i64 (h + (gv - nd))], by simp, by simp, by simp [zjp, prs], by simp, by omega, by omega⟩ ?_ ?_ ?_ (by omega)⟩
      · rw [Heap.put_ne _ _ (by omega), Heap.put_ne _ _ (by omega), Heap.put_ne _ _ (by omega)]; exact h2b
      · rw [Heap.put_ne _ _ (by omega), Heap.put_ne _ _ (by omega), Heap.put_ne _ _ (by omega)]; exact h2o
      · rw [Keep.put (by omega), Keep.put (by omega), Keep.put (by omega)]; exact h2K
end Go.Proofs.YtobioljjoipimaaDoor
set_option maxRecDepth 8000
namespace Go.Proofs.YtobioljjoipimaaDoor
open Go Go.RowKit
set_option maxHeartbeats 4000000 in
theorem znt (p : Prg) (hp : p.ok) : QC Tryd.prog 19 [.agg p.avs] (.int .i64 (VM.program p)) := by
  refine QC.of' fun H nx => zjk _ H nx _ ?_
  simp [zfy, Prg.avs]
  have hb0 : (H.put nx (some (.row 2 [.ro (p.codes.map Cod.avs), .ro (p.words.map fun w => [.str w])]))) nx = some (.row 2 p.avs) := by simp [Prg.avs]
  have hK0 : Keep nx (H.put nx (some (.row 2 [.ro (p.codes.map Cod.avs), .ro (p.words.map fun w => [.str w])]))) H := by simp
  generalize (H.put nx (some (.row 2 [.ro (p.codes.map Cod.avs), .ro (p.words.map fun w => [.str w])]))) = H1 at *
  refine ⟨fun h1 => by unfold VM.program; rw [if_pos (by omega)], fun h1 => ⟨fun h2 => by unfold VM.program; rw [if_pos (by omega)], fun h2 => ⟨fun h3 => by unfold VM.program; rw [if_neg (by omega), if_pos (by omega)], fun h3 => ?_⟩⟩⟩
  have e0 : VM.program p = if p.words.all VM.word = false then 7 else if (p.codes.getD 0 ⟨0, 0, []⟩).params ≠ 0 then 10 else if p.codes.any VM.codeRange then 3 else VM.firstErr (VM.codeErr p) p.codes := by
    unfold VM.program; rw [if_neg (by omega), if_neg (by omega)]
  obtain ⟨c0, hc0⟩ : ∃ c0, p.codes[0]? = some c0 := ⟨p.codes[0]'(by omega), List.getElem?_eq_getElem _⟩
  refine LP.mk (fun m xs H' nx' => ∃ i : Nat, i ≤ p.words.length ∧ m = p.words.length - i ∧ xs = [.ptr nx 0, .ro (p.words.map fun w => [.str w]), .int .i64 p.words.length, .int .i64 i] ∧ H1 = H' ∧ nx + 1 = nx' ∧ p.words.all VM.word = (p.words.drop i).all VM.word) p.words.length
    ⟨0, by omega, by omega, by simp, rfl, rfl, rfl⟩ ?_
  rintro m xs H' nx' ⟨i, hi, rfl, rfl, rfl, rfl, hall⟩
  by_cases hlt : i < p.words.length
  · obtain ⟨w, hw⟩ : ∃ w, p.words[i]? = some w := ⟨_, List.getElem?_eq_getElem hlt⟩
    obtain ⟨_, hw'⟩ := List.getElem?_eq_some_iff.1 hw
    rw [zzn _ _ _ _ hw] at hall
    simp [zcz, hlt, hw']
    refine QC.call (zzz w (hp w (List.mem_of_getElem? hw))) ?_
    simp [zgb]
    cases hx : VM.word w
    · rw [hx] at hall
      simp [hK0]
      rw [e0, hall]; rfl
    · rw [hx] at hall
      simp
      rw [i64w (by omega)]
      exact ⟨p.words.length - (i + 1), by omega, i + 1, by omega, rfl, rfl, by simpa using hall⟩
  obtain rfl : i = p.words.length := by omega
  have hall' : p.words.all VM.word = true := by rw [hall]; simp
  rw [hall'] at e0
  simp only [Bool.true_eq_false, if_false] at e0
  obtain ⟨_, hc0'⟩ := List.getElem?_eq_some_iff.1 hc0
  have h01 : 0 < p.codes.length := by omega
  simp [zcz, hb0, Prg.avs, hc0', Cod.avs, h01]
  have hcg : p.codes.getD 0 ⟨0, 0, []⟩ = c0 := by simp [List.getD_eq_getElem?_getD, hc0]
  rw [hcg] at e0
  refine ⟨fun h4 => ⟨by rw [e0, if_pos h4], hK0⟩, fun h4 => ?_⟩
  rw [if_neg (by simpa using h4)] at e0
  refine LP.mk (fun m xs H' nx' => ∃ i : Nat, i ≤ p.codes.length ∧ m = p.codes.length - i ∧ xs = [.ptr nx 0, .int .i64 p.codes.length, .int .i64 i] ∧ H1 = H' ∧ nx + 1 = nx' ∧ p.codes.any VM.codeRange = (p.codes.drop i).any VM.codeRange) p.codes.length
    ⟨0, by omega, by omega, by simp, rfl, rfl, rfl⟩ ?_
  rintro m xs H' nx' ⟨i, hi, rfl, rfl, rfl, rfl, hany⟩
  by_cases hlt : i < p.codes.length
  · obtain ⟨c, hc⟩ : ∃ c, p.codes[i]? = some c := ⟨_, List.getElem?_eq_getElem hlt⟩
    obtain ⟨_, hc'⟩ := List.getElem?_eq_some_iff.1 hc
    rw [zzm _ _ _ _ hc] at hany
    simp [zda, hb0, Prg.avs, hlt, hc', Cod.avs, hK0]
    have w0 : IntKind.i64.wrap ((i : Int) + 1) = (i : Int) + 1 := i64w (by omega)
    rw [w0]
    cases hx : VM.codeRange c
    · have hx' := hx
      unfold VM.codeRange at hx'
      rw [decide_eq_false_iff_not] at hx'
      rw [hx] at hany
      refine ⟨fun _ => by omega, fun _ => ⟨fun _ => by omega, fun _ => ⟨fun _ => by omega, fun _ => ⟨fun _ => by omega, fun _ => ⟨fun _ => ?_, fun _ => ⟨fun _ => by omega, fun _ => ?_⟩⟩⟩⟩⟩⟩
      · exfalso; omega
      · exact ⟨p.codes.length - (i + 1), by omega, i + 1, by omega, rfl, rfl, by simpa using hany⟩
    · have hx' := hx
      unfold VM.codeRange at hx'
      rw [decide_eq_true_eq] at hx'
      rw [hx, Bool.true_or] at hany
      rw [hany] at e0
      simp only [if_true] at e0
      rw [e0]
      repeat' first | apply And.intro | intro _
      all_goals first | rfl | (exfalso; omega)
  obtain rfl : i = p.codes.length := by omega
  have hany' : p.codes.any VM.codeRange = false := by rw [hany]; simp
  rw [hany'] at e0
  simp only [Bool.false_eq_true, if_false] at e0
  simp [zda, hb0, Prg.avs]
  have hr : ∀ x ∈ p.codes, VM.codeRange x = false := by simpa using hany'
  clear hany hany' hall hall' hlt hi
  refine LP.mk (fun m xs H' nx' => ∃ i : Nat, i ≤ p.codes.length ∧ m = p.codes.length - i ∧ xs = [.ptr nx 0, .int .i64 p.codes.length, .int .i64 i] ∧ H' nx = some (.row 2 p.avs) ∧ Keep nx H' H ∧ nx < nx' ∧ VM.program p = VM.firstErr (VM.codeErr p) (p.codes.drop i)) p.codes.length
    ⟨0, by omega, by omega, by simp, hb0, hK0, by omega, by simpa using e0⟩ ?_
  rintro m xs H2 n2 ⟨k, hk, rfl, rfl, hb2, hK2, hn2, hfe⟩
  by_cases hlt : k < p.codes.length
  case neg =>
    obtain rfl : k = p.codes.length := by omega
    simp [zdb, hK2]
    rw [hfe]; simp [VM.firstErr]
  obtain ⟨c, hc⟩ : ∃ c, p.codes[k]? = some c := ⟨_, List.getElem?_eq_getElem hlt⟩
  obtain ⟨_, hc'⟩ := List.getElem?_eq_some_iff.1 hc
  have hcr := hr c (List.mem_of_getElem? hc)
  have hlen : c.ins.length ≤ 200 := by
    unfold VM.codeRange at hcr
    rw [decide_eq_false_iff_not] at hcr
    omega
  rw [zds _ _ _ _ hc] at hfe
  simp [zdb, hb2, Prg.avs, hlt, hc', Cod.avs]
  refine LP.mk (fun m xs H' nx' => ∃ j : Nat, j ≤ c.ins.length ∧ m = c.ins.length - j ∧ xs = [.ptr nx 0, .int .i64 k, .int .i64 p.codes.length, .int .i64 k, .ro (c.ins.map Ins.avs), .int .i64 c.ins.length, .int .i64 j] ∧ H' nx = some (.row 2 p.avs) ∧ Keep nx H' H ∧ nx < nx' ∧ VM.firstErr (VM.numbers p c) c.ins = VM.firstErr (VM.numbers p c) (c.ins.drop j)) c.ins.length
    ⟨0, by omega, by omega, by simp, hb2, hK2, hn2, by simp⟩ ?_
  rintro m xs H3 n3 ⟨j, hj, rfl, rfl, hb3, hK3, hn3, hfj⟩
  have hne : nx ≠ n3 := by omega
  by_cases hjl : j < c.ins.length
  · obtain ⟨i, hi⟩ : ∃ i, c.ins[j]? = some i := ⟨_, List.getElem?_eq_getElem hjl⟩
    obtain ⟨_, hi'⟩ := List.getElem?_eq_some_iff.1 hi
    rw [zds _ _ _ _ hi] at hfj
    simp [zdc, hb3, Prg.avs, hlt, hc', Cod.avs, hjl, hi', Ins.avs, hne]
    refine zaa.of_qcr [nx] (by simp [hne, hb3]) (r := .int .i64 (VM.numbers p c i)) (fun H' n' hag => ?_) (.int _ _) ?_
    · have := hag nx (by simp)
      exact (zuk p c i H' n' nx (by rw [this.1]; simp [hne, hb3]) this.2).pure
    · simp [zga]
      have hK4 : Keep nx (H3.put n3 (some (.row 3 [.int .i64 i.op, .int .i64 i.a, .int .i64 i.b]))) H := by rw [Keep.put (by omega)]; exact hK3
      refine ⟨fun hz => ⟨?_, hK4⟩, fun hz => ?_⟩
      · rw [if_pos hz] at hfj
        rw [hfe]
        have : VM.codeErr p c = VM.numbers p c i := by unfold VM.codeErr; rw [hfj, if_pos hz]
        rw [this, if_pos hz]
      · rw [i64w (by omega)]
        rw [if_neg (by simpa using hz)] at hfj
        exact ⟨c.ins.length - (j + 1), by omega, j + 1, by omega, rfl, rfl, by rw [if_neg hne]; exact hb3, hK4, by omega, hfj⟩
  obtain rfl : j = c.ins.length := by omega
  have hz : VM.firstErr (VM.numbers p c) c.ins = 0 := by rw [hfj]; simp [VM.firstErr]
  have hce : VM.codeErr p c = (VM.heights c.ins).2 := by unfold VM.codeErr; rw [if_neg (by simpa using hz)]
  rw [hce] at hfe
  simp [zdc, hb3, Prg.avs, hlt, hc', Cod.avs]
  refine QC.call (zny c (by omega) (zta hr (zce hz))) ?_
  simp [zfz]
  refine ⟨fun h0 => ⟨?_, hK3⟩, fun h0 => ?_⟩
  · rw [if_pos h0] at hfe; exact hfe
  · rw [if_neg (by simpa using h0)] at hfe
    rw [i64w (by omega)]
    exact ⟨p.codes.length - (k + 1), by omega, k + 1, by omega, rfl, rfl, hb3, hK3, hn3, hfe⟩
end Go.Proofs.YtobioljjoipimaaDoor
