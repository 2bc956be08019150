/- What a run comes to is so: where the order is drawn. What a run comes to is so: a function. DERIVED: THE SHELF's CONTRACTS AT THIS DUMP, IN PLAIN WORDS (tools/lay-plain.mjs out of 'YtiinnjjmoifoeaaGreatDoorShelf0.lean', which tools/lay-shelf.mjs wrote): THE SAME DECLARATIONS UNDER THE SAME NAMES: 'import', 'namespace', 'open', 'def', 'theorem' AND NOTHING ELSE: no command of the shelf's: FOR A HAND-IN. Each laying: the table of numbers ('.._ren') and one theorem, a field a fact of the dump's own or the kernel's comparison; each contract: ONE APPLICATION. strconv.Itoa: a number's digits. strconv.Atoi: a word's number, and whether it is one. clear, at elements of any number of cells. slices.Delete over an owned row (api.Agent). slices.Delete over an owned row (int). What is known of functions of Go's library, and of slices.Clone of what is empty, for runs. The closed question of the laws of chapter 10: run. -/
import Derived.Test.YtiinnjjmoifoeaaGreatDoorG9
import Derived.Test.YtiinnjjmoifoeaaGreatDoorG6
import Derived.Shelf.Strconv.Atoi
import Derived.Shelf.Strconv.Itoa0
import Derived.Shelf.Strconv.Itoa1
import Derived.Shelf.LaysM
import Derived.Shelf.Strconv.Itoa2
import Derived.Shelf.Strconv.Itoa3
import Derived.Shelf.Strconv.AtoiErrFast
import Derived.Shelf.Strconv.ParseIntEmpty
import Derived.Shelf.Strconv.AtoiFail
import Derived.Shelf.Strconv.Clone
import Derived.Shelf.Strconv.SyntaxError
import Derived.Shelf.LaysC
import Derived.Shelf.Strconv.ToError
import Derived.Shelf.Strconv.Lower
import Derived.Shelf.Strconv.ParseUint10
import Derived.Shelf.Strconv.ParseUint10Empty
import Derived.Shelf.Strconv.ParseUint10Any
import Derived.Shelf.Strconv.ParseInt10
import Derived.Shelf.Strconv.AtoiLong
import Derived.Shelf.Strconv.AtoiInnerAll
import Derived.Shelf.Strconv.RangeError
import Derived.Shelf.Strconv.ToErrorRange
import Derived.Shelf.Strconv.AtoiAll
import Derived.Shelf.Strconv.ErrVarAll
import Derived.Ground.Names2Prog
import Derived.Test.YtiinnjjmoifoeaaGreatDoorProg
import Derived.Test.YtiinnjjmoifoeaaGreatDoorG5
import Derived.Lib.ItoaLen
import Derived.Lib.SliceRun
import Derived.Test.YtiinnjjmoifoeaaGreatDoorG3
import Derived.Test.YtiinnjjmoifoeaaGreatDoorG4
import Derived.Deep.RegionLaw
import Derived.Lib.Walk
import Derived.WalkKit
import Derived.Deep.LoopGhost
import Derived.Sort.WalkB12
set_option linter.unusedSimpArgs false
set_option linter.unusedVariables false
set_option maxRecDepth 8000
namespace Go.Proofs.YtiinnjjmoifoeaaGreatDoor
open Go Go.RowKit
def zfn (r : Rec) : Rec := { r with env := fun _ => .junk, H := fun _ => none }
section
variable {P : Program} {T : Nat → Option AT} {eqs : Nat → Bool} (hT : TOk P T) (hE : EOk P T eqs)
variable {A0 : Nat → Prop} {ρ0 : Nat → Loc} {Hi : Heap} {w0 : World} {X : HB} {n0 nE N : Nat}
theorem EffB.at {o : Oper} {e : Operand → AV} {H H1 : Heap} {rd fr : List Nat} {D : zi} {v : AV} (h : EffB P o e H rd fr D v) (hr : ∀ g ∈ rd, H1 g = H g) : EffB P o e H1 rd fr D v :=
  fun A ρ Hm w ev hB s hx hrd hf => h A ρ Hm w ev hB s hx (fun g hg => (hrd g hg).trans (hr g hg)) hf
theorem zgh.at {o : Oper} {e : Operand → AV} {H H1 : Heap} {rd fr : List Nat} {D : zi} {v : AV} {pt : Option AV} (h : zgh P o e H rd fr D v pt) (hr : ∀ g ∈ rd, H1 g = H g) : zgh P o e H1 rd fr D v pt := by
  intro g q e
  obtain ⟨h1, h2, h3, h4, h5⟩ := h g q e
  exact ⟨h1, h2, h3, by rw [hr g (by rw [h1]; simp)]; exact h4, h5⟩
include hT hE in
theorem zxp {o : Oper} {env : Env} {H : Heap} {nx : Nat} {v : AV} {rd fr : List Nat} {D : zi} (h : xaop T eqs env.ev H nx o = some (v, rd, fr, D)) :
    (fr = [] ∨ fr = [nx]) ∧ EffB P o env.ev H rd fr D v ∧ (noW o = true → fr = [] ∧ D = []) ∧ zgh P o env.ev H rd fr D v (ptOf T env.ev o) := by
  obtain ⟨v', rd', fr', D', h1, h2, h3, h4⟩ := zil hT hE (zqn T eqs _ _ _ _ h (fun v' rd' fr' D' => v' = v ∧ rd' = rd ∧ fr' = fr ∧ D' = D) ⟨rfl, rfl, rfl, rfl⟩)
  obtain ⟨rfl, rfl, rfl, rfl⟩ := h3
  refine ⟨h1, fun A ρ H w ev _ s hx hr hf => h2 A ρ H w ev s hx hr hf, h4, fun g q hp => ?_⟩
  unfold ptOf at hp
  split at hp
  · rename_i t x hop
    split at hp
    · rename_i a hta
      split at hp
      · rename_i hag
        have hp := Option.some.inj hp
        obtain ⟨i, d, z, hat⟩ := hT.at hta
        have any : ∀ {H1 : Heap} {s : Nat} {cs : List AV} {v : AV}, H1 g = some (.row s cs) → cs[q]? = some v → EffB P o env.ev H1 [g] [] [] v := by
          intro H1 s cs v hg hv
          obtain ⟨v', rd', he, rfl, rfl⟩ := zlf (H0 := H1) (e := env.ev) (k := fun v' rd' _ _ => v' = v ∧ rd' = [g]) hat hop (by
            simp only [hp, LOAD, rdp, hg, ldv, hag, cond_false, hv, and_self])
          exact fun A ρ H w ev _ s hx hr hf => he A ρ H w ev s hx hr hf
        simp only [xaop, hop, hta, zjy, hp] at h
        cases hg : H g with
        | none => simp only [rdp, hg] at h; cases h
        | some ob =>
          cases ob with
          | mp es => simp only [rdp, hg] at h; cases h
          | it a b c => simp only [rdp, hg] at h; cases h
          | row s cs =>
            simp only [rdp, hg, ldv, hag, cond_false] at h
            cases hv : cs[q]? with
            | none => simp only [hv] at h; cases h
            | some u =>
              simp only [hv] at h
              cases h
              exact ⟨rfl, rfl, rfl, ⟨s, cs, by first | rfl | exact hg, hv⟩, fun H1 ⟨s', cs', h1, h2⟩ => any h1 h2⟩
      · cases hp
    · cases hp
  · cases hp
theorem zey {H : HB} : ∀ {rs : List Nat} {g : Nat}, isH (zap H rs) g = true → g ∈ rs ∧ toH (zap H rs) g = toH H g
  | [], g, h => by simp [zap, isH, Tr.get_nil] at h
  | x :: r, g, h => by
    unfold zap at h ⊢
    cases hx : H.get x with
    | none =>
      rw [hx] at h
      obtain ⟨h1, h2⟩ := zey h
      exact ⟨List.mem_cons_of_mem _ h1, h2⟩
    | some o =>
      simp only [hx] at h ⊢
      obtain ⟨ob, h'⟩ := zfk.1 h
      rw [zmq] at h' ⊢
      by_cases hg : g = x
      · subst hg
        exact ⟨by simp, by rw [Heap.put_at]; exact hx.symm⟩
      · rw [Heap.put_ne _ _ hg] at h' ⊢
        obtain ⟨h1, h2⟩ := zey (zfk.2 ⟨ob, h'⟩)
        exact ⟨List.mem_cons_of_mem _ h1, h2⟩
theorem znl {H H' : HB} : ∀ {rs : List Nat}, (∀ p ∈ zcj H H' rs, p.2 = toH H' p.1) ∧ (∀ g ∈ domD (zcj H H' rs), isH H g = true ∨ isH H' g = true) ∧ ∀ g ∈ rs, g ∉ domD (zcj H H' rs) → toH H g = toH H' g
  | [] => ⟨fun p hp => (by cases hp), fun g hg => (by simp [zcj, domD] at hg), fun g hg => (by cases hg)⟩
  | x :: r => by
    obtain ⟨h1, h2, h3⟩ := znl (H := H) (H' := H') (rs := r)
    unfold zcj
    simp only
    cases he : obEq (H.get x) (H'.get x) with
    | true =>
      refine ⟨h1, h2, fun g hg hn => ?_⟩
      rcases List.mem_cons.1 hg with rfl | hg
      · exact zym he
      · exact h3 g hg hn
    | false =>
      refine ⟨fun p hp => ?_, fun g hg => ?_, fun g hg hn => ?_⟩
      · rcases List.mem_cons.1 hp with rfl | hp
        · rfl
        · exact h1 p hp
      · simp only [domD, List.map_cons, List.mem_cons] at hg
        rcases hg with rfl | hg
        · by_cases ha : isH H g = true
          · exact .inl ha
          · by_cases hb : isH H' g = true
            · exact .inr hb
            · have e1 : H.get g = none := zdy ha
              have e2 : H'.get g = none := zdy hb
              rw [e1, e2] at he
              cases he
        · exact h2 g hg
      · simp only [domD, List.map_cons, List.mem_cons, not_or] at hn
        rcases List.mem_cons.1 hg with rfl | hg
        · exact absurd rfl hn.1
        · exact h3 g hg hn.2
theorem zia : ∀ {n nx g : Nat}, g ∈ zbj nx n ↔ nx ≤ g ∧ g < nx + n
  | 0, nx, g => by simp [zbj]
  | n + 1, nx, g => by
    simp only [zbj, List.mem_cons, zia]
    omega
theorem zlv : ∀ (n nx : Nat), (zbj nx n).length = n
  | 0, _ => rfl
  | n + 1, nx => by simp [zbj, zlv n]
theorem ztd {D : zi} {f : Heap} (h : ∀ p ∈ D, p.2 = f p.1) : ∀ {H : Heap} {g : Nat}, g ∈ domD D → H.apply D g = f g := by
  induction D with
  | nil => intro H g hg; cases hg
  | cons p r ih =>
    intro H g hg
    obtain ⟨x, o⟩ := p
    simp only [domD, List.map_cons, List.mem_cons] at hg
    show ((H.put x o).apply r) g = f g
    by_cases hr : g ∈ domD r
    · exact ih (fun p hp => h p (List.mem_cons_of_mem _ hp)) hr
    · rw [zay r _ g hr]
      rcases hg with rfl | hg
      · rw [Heap.put_at]; exact h (g, o) (by simp)
      · exact absurd hg hr
theorem ztk {call : XCl} (hcall : zcu P call) {o : Oper} {e : Operand → AV} {f : Nat} {args : List AV} (hx : xcal o e = some (f, args)) {H : HB} {nx : Nat} {v : AV} {rd fr : List Nat} {D : zi} (h : zog call f args H nx = some (v, rd, fr, D)) :
    (∀ g, g ∈ fr ↔ nx ≤ g ∧ g < nx + fr.length) ∧ EffB P o e (toH H) rd fr D v := by
  unfold zog at h
  simp only at h
  split at h
  · rename_i v1 H1 nx1 hc
    simp only [Option.some.injEq, Prod.mk.injEq] at h
    obtain ⟨rfl, rfl, rfl, rfl⟩ := h
    generalize hrs : zgz H 1000 (args.foldl (fun l v => zjl 3 v l) []) [] = rs at hc ⊢
    have d := fun ev => Does.call hcall hx hc ev
    have hle := (d fun _ => undef).le
    have hdom := (d fun _ => undef).dom
    have e1 : ∀ g, g ∈ zbj nx (nx1 - nx) ↔ nx ≤ g ∧ g < nx1 := fun g => by rw [zia]; omega
    refine ⟨fun g => by rw [zlv]; rw [zia], fun A ρ Hm w ev hB s hxx hrd hfr => ?_⟩
    have hag : ∀ g, isH (zap H rs) g = true → Hm g = toH (zap H rs) g := fun g hg => by
      obtain ⟨h1, h2⟩ := zey hg
      rw [hrd g h1, h2]
    refine zm ((d ev).run A ρ Hm w hB s hxx hag fun g h1 h2 => hfr g ((e1 g).2 ⟨h1, h2⟩)) fun cv w' ⟨ρ', q1, q2, q3⟩ => ?_
    have hA : (fun g => A g ∨ nx ≤ g ∧ g < nx1) = (fun x => A x ∨ x ∈ zbj nx (nx1 - nx)) := by funext g; rw [e1]
    obtain ⟨m1, m2, m3⟩ := znl (H := zap H rs) (H' := H1) (rs := rs)
    have hH : mix Hm (zap H rs) nx nx1 H1 = Hm.apply (zcj (zap H rs) H1 rs ++ (zbj nx (nx1 - nx)).map fun g => (g, H1.get g)) := by
      funext g
      have told : ∀ p ∈ zcj (zap H rs) H1 rs ++ (zbj nx (nx1 - nx)).map fun g => (g, H1.get g), p.2 = toH H1 p.1 := fun p hp => by
        rcases List.mem_append.1 hp with hp | hp
        · exact m1 p hp
        · obtain ⟨x, _, rfl⟩ := List.mem_map.1 hp; rfl
      have hdm : ∀ g, g ∈ domD (zcj (zap H rs) H1 rs ++ (zbj nx (nx1 - nx)).map fun g => (g, H1.get g)) ↔ g ∈ domD (zcj (zap H rs) H1 rs) ∨ (nx ≤ g ∧ g < nx1) := fun g => by
        rw [← e1]
        simp [domD]
      by_cases hg : g ∈ domD (zcj (zap H rs) H1 rs ++ (zbj nx (nx1 - nx)).map fun g => (g, H1.get g))
      · rw [ztd (f := toH H1) told hg, zbe]
        rcases (hdm g).1 hg with h | h
        · rcases m2 g h with h | h
          · exact .inl h
          · exact hdom g h
        · exact .inr h
      · rw [zay _ _ _ hg]
        rw [hdm, not_or] at hg
        by_cases ht : Tk (zap H rs) nx nx1 g
        · rw [zbe ht]
          rcases ht with ht | ht
          · rw [hag g ht]
            exact (m3 g (zey ht).1 hg.1).symm
          · exact absurd ht hg.2
        · rw [zch ht]
    rw [hA, hH] at q1 q2 q3
    exact ⟨ρ', q1, q2, q3⟩
  · cases h
include hT hE in
theorem ztj {call : XCl} (hcall : zcu P call) {o : Oper} {E : EB} {H : HB} {nx : Nat} {v : AV} {rd fr : List Nat} {D : zi} (h : zlk T eqs call o E H nx = some (v, rd, fr, D)) :
    FrOk nx fr ∧ (∀ g, g ∈ fr ↔ nx ≤ g ∧ g < nx + fr.length) ∧ EffB P o (toE E).ev (toH H) rd fr D v ∧ (noW o = true → fr = [] ∧ D = []) ∧ zgh P o (toE E).ev (toH H) rd fr D v (ptOf T (toE E).ev o) := by
  unfold zlk at h
  split at h
  · rename_i hcl
    split at h
    · rename_i f args hx
      obtain ⟨h1, h2⟩ := ztk hcall hx h
      have hop : ∃ c, o.op = .call c := by
        unfold isCl at hcl
        split at hcl
        · exact ⟨_, by assumption⟩
        · cases hcl
      obtain ⟨c, hop⟩ := hop
      exact ⟨.inr (.inr fun g hg => (h1 g).1 hg), h1, h2, fun hn => by simp [noW, hop] at hn, fun g q e => by simp [ptOf, hop] at e⟩
    · cases h
  · obtain ⟨h1, h2, h3, h4⟩ := zxp hT hE h
    exact ⟨.of h1, zpb h1, h2, h3, h4⟩
theorem zuf {H : HB} {D : zi} (hD : ∀ g ∈ domD D, Tk X n0 nE g) : (mix Hi X n0 nE H).apply D = mix Hi X n0 nE (zcw D H) := by
  funext g
  by_cases ht : Tk X n0 nE g
  · rw [zbe ht, zgw]
    exact zdr D _ _ g (.inl (zbe ht))
  · rw [zch ht, zay D _ g fun h => ht (hD g h), zch ht]
include hT hE in
theorem zks {β : Type} {call : XCl} (hcall : zcu P call) {all : List Oper} : ∀ (rest : List Oper) (kn : zae) (E : EB) (H : HB) (nx : Nat) (log : List Rec) (c : EB → HB → Nat → List Rec → Option β) (r : β), zhj T eqs call all rest kn E H nx log c = some r → KnOk kn (toE E) →
    ∃ L E' H' nx', c E' H' nx' (log ++ L.map zfn) = some r ∧ zaf H nx H' nx' ∧ (nx' ≤ nE → n0 ≤ nx → (∀ g, isH H g = true → Tk X n0 nx g) → zdt P all rest L (toE E) (mix Hi X n0 nE H) nx (toE E') (mix Hi X n0 nE H') nx')
  | [], kn, E, H, nx, log, c, r, h, _ => ⟨[], E, H, nx, by rw [List.map_nil, List.append_nil]; exact h, zaf.refl H nx, fun _ _ _ => ⟨rfl, rfl, rfl⟩⟩
  | o :: rest, kn, E, H, nx, log, c, r, h, hkn => by
    have run : ∀ kn1, KnOk kn1 (toE E) → (o.guard = none ∨ ∃ j want t, o.guard = some (j, want) ∧ gdst all j = some t ∧ toE E t = .bool want) →
        (match zlk T eqs call o E H nx with
          | some (v, rd, fr, D) => match chkD H rd fr D with
            | true => fV v fun v => putD D H fun H' => fN (nx + fr.length) fun nx' => putE E o.dst v fun E' => zhj T eqs call all rest (zax o.dst kn1) E' H' nx' (log ++ [⟨v, rd, fr, D, false, fun _ => .junk, fun _ => none, ptOf T (toE E).ev o, isCl o⟩]) c
            | false => none
          | none => none) = some r →
        ∃ L E' H' nx', c E' H' nx' (log ++ L.map zfn) = some r ∧ zaf H nx H' nx' ∧ (nx' ≤ nE → n0 ≤ nx → (∀ g, isH H g = true → Tk X n0 nx g) → zdt P all (o :: rest) L (toE E) (mix Hi X n0 nE H) nx (toE E') (mix Hi X n0 nE H') nx') := by
      intro kn1 hk1 hg hs
      split at hs
      · rename_i v rd fr D hx
        split at hs
        · rename_i hck
          rw [zke, zha, zly, zka] at hs
          obtain ⟨h1, h2, h3, h4, h5⟩ := ztj hT hE hcall hx
          obtain ⟨c1, c2⟩ := znp hck
          obtain ⟨L, E', H', nx', q1, q2, q3⟩ := zks hcall rest _ _ _ _ _ c r hs (by rw [zcf]; exact hk1.drop o.dst v)
          have d := (Does.eff h3 h2 hck fun _ => undef)
          refine ⟨⟨v, rd, fr, D, false, toE E, mix Hi X n0 nE H, ptOf T (toE E).ev o, isCl o⟩ :: L, E', H', nx', by simpa [zfn] using q1, zaf.trans ⟨d.le, d.dom⟩ q2, fun hn hn0 hdm => ?_⟩
          have hle2 := q2.1
          have hrd : ∀ g ∈ rd, mix Hi X n0 nE H g = toH H g := fun g hg => zbe ((hdm g (c1 g hg)).mono (by omega))
          have hDk : ∀ g ∈ domD D, Tk X n0 nE g := fun g hg => by
            rcases c2 g hg with h | h
            · exact (hdm g h).mono (by omega)
            · have := (h2 g).1 h
              exact .inr ⟨by omega, by omega⟩
          refine ⟨rfl, rfl, ⟨h1, h4, ?_⟩, ?_⟩
          · simp only [Bool.false_eq_true, if_false]
            exact ⟨h3.at hrd, h5.at hrd, hg⟩
          · have := q3 hn (by omega) fun g hg => ?_
            · rw [zcf, ← zuf hDk] at this
              exact this
            · rcases d.dom g hg with h | h
              · exact (hdm g h).mono (by omega)
              · exact .inr ⟨by omega, h.2⟩
        · cases hs
      · cases hs
    have skip : ∀ kn1, KnOk kn1 (toE E) → (∃ j want t, o.guard = some (j, want) ∧ gdst all j = some t ∧ (toE E t = .und ∨ toE E t = .bool (!want))) →
        (putE E o.dst .und fun E' => zhj T eqs call all rest (zbc o.dst kn1) E' H nx (log ++ [⟨.und, [], [], [], true, fun _ => .junk, fun _ => none, none, false⟩]) c) = some r →
        ∃ L E' H' nx', c E' H' nx' (log ++ L.map zfn) = some r ∧ zaf H nx H' nx' ∧ (nx' ≤ nE → n0 ≤ nx → (∀ g, isH H g = true → Tk X n0 nx g) → zdt P all (o :: rest) L (toE E) (mix Hi X n0 nE H) nx (toE E') (mix Hi X n0 nE H') nx') := by
      intro kn1 hk1 hg hs
      rw [zka] at hs
      obtain ⟨L, E', H', nx', q1, q2, q3⟩ := zks hcall rest _ _ _ _ _ c r hs (by rw [zcf]; exact hk1.skip o.dst)
      refine ⟨⟨.und, [], [], [], true, toE E, mix Hi X n0 nE H, none, false⟩ :: L, E', H', nx', by simpa [zfn] using q1, q2, fun hn hn0 hdm => ⟨rfl, rfl, ⟨.inl rfl, fun _ => ⟨rfl, rfl⟩, (if_pos rfl).mpr ⟨rfl, rfl, rfl, rfl, rfl, hg⟩⟩, ?_⟩⟩
      have := q3 hn hn0 hdm
      rw [zcf] at this
      exact this
    simp only [zhj] at h
    split at h
    · rename_i hg
      exact run kn hkn (.inl hg) h
    · rename_i j want hg
      split at h
      · cases h
      · rename_i t ht
        split at h
        · rename_i hk
          have hu := hkn t none (zbf hk)
          exact skip kn hkn ⟨j, want, t, hg, ht, .inl hu⟩ h
        · rename_i b hk
          have hb := hkn t (some b) (zbf hk)
          simp only at hb
          split at h
          · rename_i hbw
            have : b = want := by simpa using hbw
            subst this
            exact run kn hkn (.inr ⟨j, b, t, hg, ht, hb⟩) h
          · rename_i hbw
            have : b = !want := by cases b <;> cases want <;> simp_all
            subst this
            exact skip kn hkn ⟨j, want, t, hg, ht, .inr hb⟩ h
        · split at h
          · rename_i b hb
            have hk2 : KnOk ((t, some b) :: kn) (toE E) := by
              have := hkn.know hb
              rwa [zfq hb] at this
            split at h
            · rename_i hbw
              have : b = want := by simpa using hbw
              subst this
              exact run _ hk2 (.inr ⟨j, b, t, hg, ht, hb⟩) h
            · rename_i hbw
              have : b = !want := by cases b <;> cases want <;> simp_all
              subst this
              exact skip _ hk2 ⟨j, want, t, hg, ht, .inr hb⟩ h
          · cases h
/-! The conditions. -/
theorem zfa {l m : List Nat} (h : zoc l m = true) : disj l m := by
  rw [zcd]
  intro g hg hm
  have := List.all_eq_true.1 h g hg
  simp only [Bool.not_eq_true', List.any_eq_false, Nat.beq_eq] at this
  exact this g hm rfl
theorem zsf {L : List Rec} {p : Nat × Nat} (h : zsg (L.map zfn) p = true) : zee L p := by
  unfold zsg at h
  unfold zee
  simp only [List.getElem?_map] at h
  cases ha : L[p.1]? with
  | none => simp [ha] at h
  | some a =>
    cases hb : L[p.2]? with
    | none => simp [ha, hb] at h
    | some b =>
      simp only [ha, hb, Option.map_some, Bool.and_eq_true] at h
      obtain ⟨⟨h1, h2⟩, h3⟩ := h
      have d1 := zfa h1
      have d2 := zfa h2
      refine ⟨?_, ?_⟩
      · rw [zcd] at d1 d2 ⊢
        intro g hg
        rw [List.mem_append, not_or]
        exact ⟨d1 g hg, d2 g hg⟩
      · unfold zxr at h3
        unfold zjf
        simp only [zfn] at h3
        cases hc : b.cl with
        | false => simp only [hc] at h3; exact zfa h3
        | true =>
          simp only [hc] at h3
          split at h3
          · rename_i g q _ hpt
            rw [hpt]
            intro x hx e
            have := List.all_eq_true.1 h3 x hx
            simp only [e, Bool.or_eq_true, Bool.not_eq_true'] at this
            rcases this with h | h
            · simp at h
            · split at h
              · rename_i s cs hrow
                split at h
                · rename_i u hu
                  exact ⟨s, cs, hrow, by rw [hu, zhg 40 _ _ h]⟩
                · cases h
              · cases h
          · rename_i hne
            have := zfa h3
            cases hpt : a.pt with
            | none => exact this
            | some q =>
              cases q <;> first | exact this | skip
              exact absurd hpt (hne _ _ rfl)
end
end Go.Proofs.YtiinnjjmoifoeaaGreatDoor
set_option maxRecDepth 8000
namespace Go.Proofs.YtiinnjjmoifoeaaGreatDoor
open Go Go.RowKit
def ExOk : XO → Exit → Prop
  | .nrm, e => e = .normal
  | .exi i, e => e = .exit i
  | .ret, e => e = .ret
section
variable {P : Program} {T : Nat → Option AT} {eqs : Nat → Bool} (hT : TOk P T) (hE : EOk P T eqs)
variable {A0 : Nat → Prop} {ρ0 : Nat → Loc} {Hi : Heap} {w0 : World} {X : HB} {n0 nE N : Nat}
abbrev QX (A0 : Nat → Prop) (ρ0 : Nat → Loc) (Hi : Heap) (w0 : World) (X : HB) (n0 nE N : Nat) (x : XO) (E : EB) (H : HB) (nx : Nat) : Exit → Act → World → Prop := fun e a w => ExOk x e ∧ SX A0 ρ0 Hi w0 X n0 nE N E H nx a w
def zmv (P : Program) (A0 : Nat → Prop) (ρ0 : Nat → Loc) (Hi : Heap) (w0 : World) (X : HB) (n0 nE N : Nat) (c : Code) (E : EB) (H : HB) (nx : Nat) (x : XO) (E' : EB) (H' : HB) (nx' : Nat) : Prop :=
  zaf H nx H' nx' ∧ (nx' ≤ nE → ∀ a w, SX A0 ρ0 Hi w0 X n0 nE N E H nx a w → c.wp P (QX A0 ρ0 Hi w0 X n0 nE N x E' H' nx') a w)
theorem zof {c : Code} {body : EB → HB → Nat → Option (XO × EB × HB × Nat)} (hb : ∀ E H nx x E' H' nx', body E H nx = some (x, E', H', nx') → zmv P A0 ρ0 Hi w0 X n0 nE N c E H nx x E' H' nx') :
    ∀ (n : Nat) (E : EB) (H : HB) (nx : Nat) (x : XO) (E' : EB) (H' : HB) (nx' : Nat), zlj body n E H nx = some (x, E', H', nx') → zaf H nx H' nx' ∧ (nx' ≤ nE → ∀ a w, SX A0 ρ0 Hi w0 X n0 nE N E H nx a w → Code.rounds P c (QX A0 ρ0 Hi w0 X n0 nE N x E' H' nx') n a w)
  | 0, E, H, nx, x, E', H', nx', h => by simp [zlj] at h
  | n + 1, E, H, nx, x, E', H', nx', h => by
    unfold zlj at h
    split at h
    · rename_i x1 E1 H1 nx1 h1
      obtain ⟨g1, p1⟩ := hb _ _ _ _ _ _ _ h1
      cases x1 with
      | nrm =>
        simp only at h
        obtain ⟨g2, p2⟩ := zof hb n _ _ _ _ _ _ _ h
        refine ⟨g1.trans g2, fun hn a w st => ?_⟩
        have := g2.1
        refine Code.wp_mono (fun e a w q => ?_) (p1 (by omega) a w st)
        obtain ⟨rfl, q⟩ := q
        exact p2 hn a w q
      | exi i =>
        simp only [Option.some.injEq, Prod.mk.injEq] at h
        obtain ⟨rfl, rfl, rfl, rfl⟩ := h
        refine ⟨g1, fun hn a w st => Code.wp_mono (fun e a w q => ?_) (p1 hn a w st)⟩
        obtain ⟨h1, q⟩ := q
        have h1' : e = .exit i := h1
        subst h1'
        exact ⟨rfl, q⟩
      | ret =>
        simp only [Option.some.injEq, Prod.mk.injEq] at h
        obtain ⟨rfl, rfl, rfl, rfl⟩ := h
        refine ⟨g1, fun hn a w st => Code.wp_mono (fun e a w q => ?_) (p1 hn a w st)⟩
        obtain ⟨h1, q⟩ := q
        have h1' : e = .ret := h1
        subst h1'
        exact ⟨rfl, q⟩
    · cases h
include hT hE in
theorem zbz (hM : P.follows .mixedOrders = true) {call : XCl} (hcall : zcu P call) (fx : FX A0 n0 nE) : ∀ (c : Code) (E : EB) (H : HB) (nx : Nat) (x : XO) (E' : EB) (H' : HB) (nx' : Nat), wfC N c = true → zaq T eqs call c E H nx = some (x, E', H', nx') → zmv P A0 ρ0 Hi w0 X n0 nE N c E H nx x E' H' nx'
  | .skip, E, H, nx, x, E', H', nx', _, h => by
    simp only [zaq, Option.some.injEq, Prod.mk.injEq] at h
    obtain ⟨rfl, rfl, rfl, rfl⟩ := h
    exact ⟨zaf.refl _ _, fun _ a w st => wp_skip ⟨rfl, st⟩⟩
  | .label _, E, H, nx, x, E', H', nx', _, h => by
    simp only [zaq, Option.some.injEq, Prod.mk.injEq] at h
    obtain ⟨rfl, rfl, rfl, rfl⟩ := h
    exact ⟨zaf.refl _ _, fun _ a w st => wp_label ⟨rfl, st⟩⟩
  | .exit i, E, H, nx, x, E', H', nx', _, h => by
    simp only [zaq, Option.some.injEq, Prod.mk.injEq] at h
    obtain ⟨rfl, rfl, rfl, rfl⟩ := h
    exact ⟨zaf.refl _ _, fun _ a w st => wp_exit ⟨rfl, st⟩⟩
  | .ret, E, H, nx, x, E', H', nx', _, h => by
    simp only [zaq, Option.some.injEq, Prod.mk.injEq] at h
    obtain ⟨rfl, rfl, rfl, rfl⟩ := h
    exact ⟨zaf.refl _ _, fun _ a w st => wp_ret ⟨rfl, st⟩⟩
  | .scope c, E, H, nx, x, E', H', nx', hwf, h => by
    simp only [zaq] at h
    obtain ⟨g1, p1⟩ := zbz hM hcall fx c _ _ _ _ _ _ _ hwf h
    refine ⟨g1, fun hn a w st => wp_scope_straight (Code.wp_mono (fun e a w q => ?_) (p1 hn a w st))⟩
    obtain ⟨h1, q⟩ := q
    cases x <;> (have h1' := h1; unfold ExOk at h1'; subst h1'; exact ⟨rfl, q⟩)
  | .region id ops false, E, H, nx, x, E', H', nx', hwf, h => by
    simp only [zaq] at h
    simp only [wfC, Bool.not_false, Bool.true_or, Bool.and_true] at hwf
    obtain ⟨E1, H1, nx1, h1, h2, h3⟩ := zmg (ρ0 := ρ0) (Hi := Hi) (w0 := w0) (X := X) hT hE hcall fx ops.toList [] E H nx _ _ h hwf (zlh hwf) (fun t b hm => by cases hm)
    simp only [Option.some.injEq, Prod.mk.injEq] at h1
    obtain ⟨rfl, rfl, rfl, rfl⟩ := h1
    exact ⟨h2, fun hn a w st => wp_region_list (h3 hn a w st)⟩
  | .region id ops true, E, H, nx, x, E', H', nx', hwf, h => by
    simp only [zaq] at h
    simp only [wfC, Bool.not_true, Bool.false_or, Bool.and_eq_true] at hwf
    obtain ⟨L, E1, H1, nx1, h1, h2, h3⟩ := zks (Hi := Hi) (X := X) (n0 := n0) (nE := nE) hT hE hcall ops.toList [] E H nx [] _ _ h (fun t b hm => by cases hm)
    rw [List.nil_append] at h1
    split at h1
    · rename_i hck
      simp only [Option.some.injEq, Prod.mk.injEq] at h1
      obtain ⟨rfl, rfl, rfl, rfl⟩ := h1
      refine ⟨h2, fun hn a w st => ?_⟩
      have hch := h3 hn st.le st.dom
      have hco : zfb L (zhe ops) := (zek L _).2 fun p hp => zsf (List.all_eq_true.1 hck p hp)
      obtain ⟨ρ, s, hv, f⟩ := st.ex
      have hle := h2.1
      have hfalse : ∀ i, (Array.replicate ops.size false).getD i false = false := fun i => by
        simp only [Array.getD]
        split <;> simp
      have hls : lsOf (Array.replicate ops.size false) = fun _ => false := funext hfalse
      have hA : AD (AX A0 n0 nx) L (fun _ => false) = AX A0 n0 nx := by
        funext g; simp [AD]
      have hA2 := zxz (A0 := A0) st.le hle
      refine wp_region_any hM (zkj (B := AX A0 n0 nx) (ρ0 := ρ) (w0 := w) hwf.2 hch hco (fun g h1 h2 h3 => ?_) fx.bddX (fun a' w' ρ' s' v' t' d' f' => ?_) _ _ _ _ ⟨by simp, (fun i hi => by rw [hfalse] at hi; cases hi), st.size, st.defers, ρ, ?_, ?_, ?_⟩ ?_)
      · rcases h3 with h3 | h3
        · exact fx.free g (by have := st.le; omega) (by omega) h3
        · omega
      · rw [hA2] at s' v' f'
        refine ⟨rfl, ⟨ρ', s', v', f.trans f'⟩, t', d', by have := st.le; omega, fun g hg => ?_⟩
        rcases h2.2 g hg with h | h
        · exact (st.dom g h).mono hle
        · exact .inr ⟨by have := st.le; omega, h.2⟩
      · have e : ({ w with drawn := w.drawn + 1 } : World).heap = w.heap := rfl
        rw [hls, hA, zfs.hD_none]
        exact s.heap e
      · have e : ({ w with drawn := w.drawn + 1 } : World).heap = w.heap := rfl
        rw [hls, hA, zfs.hD_none]
        exact ⟨fun g hg => ⟨rfl, hg⟩, fun b o hb => by rw [zce e]; exact hb, rfl, rfl, rfl, Nat.le_refl _⟩
      · intro t
        have e : ({ w with drawn := w.drawn + 1 } : World).heap = w.heap := rfl
        rw [hls, hA, zfs.hD_none, zce e]
        have : eD (fun _ => false) ops.toList L 0 (toE E) t = toE E t := by
          rw [zif.eD_off _ _ _ _ fun _ _ => rfl]
        rw [this]
        exact hv t
      · exact Nat.le_trans (List.length_filter_le _ _) (by simp)
    · cases h1
  | .seq c d, E, H, nx, x, E', H', nx', hwf, h => by
    simp only [wfC, Bool.and_eq_true] at hwf
    simp only [zaq] at h
    split at h
    · rename_i x1 E1 H1 nx1 h1
      obtain ⟨g1, p1⟩ := zbz hM hcall fx c _ _ _ _ _ _ _ hwf.1 h1
      cases x1 with
      | nrm =>
        simp only at h
        obtain ⟨g2, p2⟩ := zbz hM hcall fx d _ _ _ _ _ _ _ hwf.2 h
        refine ⟨g1.trans g2, fun hn a w st => wp_seq (Code.wp_mono (fun e a w q => ?_) (p1 (by have := g2.1; omega) a w st))⟩
        obtain ⟨rfl, q⟩ := q
        exact p2 hn a w q
      | exi i =>
        simp only [Option.some.injEq, Prod.mk.injEq] at h
        obtain ⟨rfl, rfl, rfl, rfl⟩ := h
        refine ⟨g1, fun hn a w st => wp_seq (Code.wp_mono (fun e a w q => ?_) (p1 hn a w st))⟩
        obtain ⟨h1, q⟩ := q
        have h1' : e = .exit i := h1
        subst h1'
        exact ⟨rfl, q⟩
      | ret =>
        simp only [Option.some.injEq, Prod.mk.injEq] at h
        obtain ⟨rfl, rfl, rfl, rfl⟩ := h
        refine ⟨g1, fun hn a w st => wp_seq (Code.wp_mono (fun e a w q => ?_) (p1 hn a w st))⟩
        obtain ⟨h1, q⟩ := q
        have h1' : e = .ret := h1
        subst h1'
        exact ⟨rfl, q⟩
    · cases h
  | .cond y c d, E, H, nx, x, E', H', nx', hwf, h => by
    simp only [wfC, Bool.and_eq_true] at hwf
    simp only [zaq] at h
    split at h
    · rename_i t ht
      have hev : ∀ a w, SX A0 ρ0 Hi w0 X n0 nE N E H nx a w → a.eval y = .bool t := fun a w st => by
        obtain ⟨ρ, s, hv, f⟩ := st.ex
        have := zqq hv y
        rw [ht] at this
        generalize a.eval y = cv at this
        cases this
        rfl
      cases t with
      | true =>
        simp only at h
        obtain ⟨g1, p1⟩ := zbz hM hcall fx c _ _ _ _ _ _ _ hwf.1 h
        exact ⟨g1, fun hn a w st => wp_cond (hev a w st) (p1 hn a w st)⟩
      | false =>
        simp only at h
        obtain ⟨g1, p1⟩ := zbz hM hcall fx d _ _ _ _ _ _ _ hwf.2 h
        exact ⟨g1, fun hn a w st => wp_cond (hev a w st) (p1 hn a w st)⟩
    · cases h
  | .block id c, E, H, nx, x, E', H', nx', hwf, h => by
    simp only [zaq] at h
    split at h
    · rename_i x1 E1 H1 nx1 h1
      obtain ⟨g1, p1⟩ := zbz hM hcall fx c _ _ _ _ _ _ _ hwf h1
      cases x1 with
      | nrm =>
        simp only [Option.some.injEq, Prod.mk.injEq] at h
        obtain ⟨rfl, rfl, rfl, rfl⟩ := h
        refine ⟨g1, fun hn a w st => wp_block (Code.wp_mono (fun e a w q => ?_) (p1 hn a w st))⟩
        obtain ⟨rfl, q⟩ := q
        exact ⟨rfl, q⟩
      | ret =>
        simp only [Option.some.injEq, Prod.mk.injEq] at h
        obtain ⟨rfl, rfl, rfl, rfl⟩ := h
        refine ⟨g1, fun hn a w st => wp_block (Code.wp_mono (fun e a w q => ?_) (p1 hn a w st))⟩
        obtain ⟨h1, q⟩ := q
        have h1' : e = .ret := h1
        subst h1'
        exact ⟨rfl, q⟩
      | exi i =>
        simp only at h
        split at h
        · rename_i hi
          rw [Nat.beq_eq] at hi
          subst hi
          simp only [Option.some.injEq, Prod.mk.injEq] at h
          obtain ⟨rfl, rfl, rfl, rfl⟩ := h
          refine ⟨g1, fun hn a w st => wp_block (Code.wp_mono (fun e a w q => ?_) (p1 hn a w st))⟩
          obtain ⟨h1, q⟩ := q
          have h1' : e = .exit i := h1
          subst h1'
          simp only [Exit.inBlock, if_true]
          exact ⟨rfl, q⟩
        · rename_i hi
          simp only [Option.some.injEq, Prod.mk.injEq] at h
          obtain ⟨rfl, rfl, rfl, rfl⟩ := h
          refine ⟨g1, fun hn a w st => wp_block (Code.wp_mono (fun e a w q => ?_) (p1 hn a w st))⟩
          obtain ⟨h1, q⟩ := q
          have h1' : e = .exit i := h1
          subst h1'
          simp only [Exit.inBlock]
          rw [if_neg (by intro e; subst e; simp at hi)]
          exact ⟨rfl, q⟩
    · cases h
  | .loop c, E, H, nx, x, E', H', nx', hwf, h => by
    simp only [zaq] at h
    obtain ⟨g1, p1⟩ := zof (c := c) (fun E H nx x E' H' nx' h => zbz hM hcall fx c E H nx x E' H' nx' hwf h) 3000 E H nx x E' H' nx' h
    exact ⟨g1, fun hn a w st => wp_loop_rounds 3000 (p1 hn a w st)⟩
theorem zmf {β : Type} (hT : TOk P T) {Hm : Heap} {A : Nat → Prop} {ρ : Nat → Loc} {w : World} {a : Act} {E : EB} {H : HB} (s : Sim A ρ Hm w) (hv : ∀ t, VRel (Kof ρ Hm w) ρ A (toE E t) (a.tmps.getD t undef)) (hag : ∀ g, isH H g = true → Hm g = toH H g) :
    ∀ (rs : List ResultVar) (c : List AV → Option β) (r : β), xret T rs E H c = some r → ∃ vs, c vs = some r ∧ ∃ cs, LRel (Kof ρ Hm w) ρ A vs cs ∧ cs.length = rs.length ∧
      ∀ acc : Array Value, (List.foldlM (fun (acc : Array Value) (r : ResultVar) => acc.push <$> zbd a.tmps r) acc rs).run P w = .ok (acc ++ cs.toArray) w
  | [], c, r, h => ⟨[], h, [], LRel.nil, rfl, fun acc => by simp [Sem.run_pure]⟩
  | .tmp t :: rs, c, r, h => by
    simp only [xret, zlx] at h
    obtain ⟨vs, h1, cs, h2, h3, h4⟩ := zmf hT s hv hag rs _ r h
    refine ⟨_, h1, a.tmps.getD t undef :: cs, LRel.cons (hv t) h2, by simp [h3], fun acc => ?_⟩
    have hr : (zbd a.tmps (.tmp t)).run P w = .ok (a.tmps.getD t undef) w := rfl
    simp only [List.foldlM_cons, Sem.run_bind, zhv hr, Result.andThen_ok, h4]
    congr 1
    apply Array.ext'
    simp
  | .cell b t :: rs, c, r, h => by
    simp only [xret] at h
    split at h
    · rename_i at_ ht
      obtain ⟨i, d, z, ha⟩ := hT.at ht
      split at h
      · rename_i v rd _ _ hx
        rw [zke] at h
        obtain ⟨vs, h1, cs, h2, h3, h4⟩ := zmf hT s hv hag rs _ r h
        unfold zjy at hx
        split at hx
        · rename_i cells off rd' hrd
          split at hx
          · rename_i v' hl
            simp only [Option.some.injEq, Prod.mk.injEq] at hx
            obtain ⟨rfl, rfl, _, _⟩ := hx
            have hrds : ∀ g ∈ rd', Hm g = toH H g := fun g hg => by
              unfold rdp at hrd
              split at hrd
              · rename_i g' _ _
                split at hrd
                · rename_i hgg
                  cases hrd
                  simp at hg
                  subst hg
                  exact hag _ (zfk.2 ⟨_, hgg⟩)
                · cases hrd
              · cases hrd; cases hg
              · cases hrd
            obtain ⟨bb, q, he, hc⟩ := zla s (hv b) hrd hrds
            obtain ⟨cv, hr, hR⟩ := zdv (P := P) ha hc hl
            refine ⟨_, h1, cv :: cs, LRel.cons hR h2, by simp [h3], fun acc => ?_⟩
            have hr' : (zbd a.tmps (.cell b t)).run P w = .ok cv w := by
              simp only [zbd, Sem.run_bind, he, asAddr, Sem.run_pure, Result.andThen_ok, hr]
            simp only [List.foldlM_cons, Sem.run_bind, zhv hr', Result.andThen_ok, h4]
            congr 1
            apply Array.ext'
            simp
          · cases hx
        · cases hx
      · cases h
    · cases h
theorem zpo {β : Type} : ∀ (args : List AV) (t : Nat) (E : EB) (c : EB → Option β) (r : β), zod args t E c = some r → ∃ E', c E' = some r ∧ ∀ u, toE E' u = if t ≤ u ∧ u < t + args.length then nth args (u - t) else toE E u
  | [], t, E, c, r, h => ⟨E, h, fun u => by rw [if_neg (by simp only [List.length_nil]; omega)]⟩
  | v :: rs, t, E, c, r, h => by
    simp only [zod, zke] at h
    rw [Tr.setK_eq] at h
    obtain ⟨E', h1, h2⟩ := zpo rs (t + 1) _ c r h
    refine ⟨E', h1, fun u => ?_⟩
    rw [h2]
    have hs : toE (Tr.setK (t + 1) E t (some v) id) u = if u = t then v else toE E u := by
      have := congrFun (zcf E (some t) v) u
      rw [show zkb E (some t) v = Tr.setK (t + 1) E t (some v) id from rfl] at this
      rw [this, zbu]
      by_cases h : u = t
      · subst h; simp
      · rw [if_neg (by simpa using Ne.symm h), if_neg h]
    rw [hs]
    simp only [List.length_cons]
    by_cases h1 : t + 1 ≤ u ∧ u < t + 1 + rs.length
    · rw [if_pos h1, if_pos (by omega)]
      have : u - t = (u - (t + 1)) + 1 := by omega
      rw [this]
      simp [nth]
    · rw [if_neg h1]
      by_cases h3 : u = t
      · subst h3
        rw [if_pos rfl, if_pos (by omega)]
        simp [nth]
      · rw [if_neg h3, if_neg (by omega)]
def zyb (P : Program) (orc : Nat → List AV → Option AV) : Prop := ∀ f args v, orc f args = some v → ∀ H : Heap, LC P f args H [] [] [] v
def zva (P : Program) (orcE : Nat → List AV → HB → Nat → Option XR) : Prop := ∀ f args H nx v rd fr D, orcE f args H nx = some (v, rd, fr, D) → (fr = [] ∨ fr = [nx]) ∧ LC P f args (toH H) rd fr D v
def FnOk (P : Program) (ok : Nat → Bool) : Prop := ∀ f fn c, ok f = true → P.funcs[f]? = some fn → fn.body = some c → wfC fn.ntmps c = true ∧ (fn.name == "runtime.NumGoroutine") = false
include hT hE in
theorem zqm (hM : P.follows .mixedOrders = true) {ok : Nat → Bool} {orc : Nat → List AV → Option AV} (ho : zyb P orc) {orcE : Nat → List AV → HB → Nat → Option XR} (hoe : zva P orcE) (hf : FnOk P ok) : ∀ n, zcu P (xfun T eqs P ok orc orcE n)
  | 0, f, args, H, nx, v, H', nx', h, cargs => by simp [xfun] at h
  | n + 1, f, args, H, nx, v, H', nx', h, cargs => by
    have ih := zqm hM ho hoe hf n
    unfold xfun at h
    split at h
    · rename_i u hu
      simp only [Option.some.injEq, Prod.mk.injEq] at h
      obtain ⟨rfl, rfl, rfl⟩ := h
      refine ⟨Nat.le_refl _, fun g hg => .inl hg, fun A ρ Hm w hB s ha hag hfree => ?_⟩
      refine zm (ho f args u hu (fun _ => none) A ρ Hm w cargs hB s ha (fun g hg => by cases hg) (fun g hg => by cases hg)) fun cv w' ⟨ρ', q1, q2, q3⟩ => ?_
      have hA : (fun x => A x ∨ x ∈ ([] : List Nat)) = (fun g => A g ∨ nx ≤ g ∧ g < nx) := by funext g; simp; omega
      have hH : Hm.apply [] = mix Hm H nx nx H := by
        funext g
        show Hm g = _
        by_cases ht : Tk H nx nx g
        · rw [zbe ht]
          rcases ht with h | h
          · exact hag g h
          · omega
        · rw [zch ht]
      rw [hA, hH] at q1 q2 q3
      exact ⟨ρ', q1, q2, q3⟩
    · split at h
      · rename_i v1 rd fr D he
        split at h
        · rename_i hck
          simp only [zke, zha, zly, Option.some.injEq, Prod.mk.injEq] at h
          obtain ⟨rfl, rfl, rfl⟩ := h
          obtain ⟨h1, h2⟩ := hoe f args H nx _ _ _ _ he
          exact Does.of (fun A ρ Hm w hB s ha hr hfr => h2 A ρ Hm w cargs hB s ha hr hfr) (zpb h1) hck
        · cases h
      split at h
      · cases h
      · rename_i hok
        split at h
        · rename_i fn hfn
          split at h
          · rename_i c hc
            split at h
            · rename_i hlen
              obtain ⟨hwf, hname⟩ := hf f fn c hok hfn hc
              have hlen := Nat.le_of_ble_eq_true hlen
              obtain ⟨E0, h1, h2⟩ := zpo _ _ _ _ _ h
              split at h1
              · rename_i x E1 H1 nx1 hx
                have key : ∀ (A : Nat → Prop) (ρ : Nat → Loc) (Hm : Heap) (w : World), FX A nx nx1 → zmv P A ρ Hm w H nx nx1 fn.ntmps c E0 H nx x E1 H1 nx1 := fun A ρ Hm w fx => zbz hT hE hM ih fx c E0 H nx x E1 H1 nx1 hwf hx
                have hg : zaf H nx H1 nx1 := (key (fun _ => False) (fun _ => default) (fun _ => none) default ⟨fun _ _ _ h => h, ⟨0, fun _ h => h.elim⟩⟩).1
                have fin : ∀ (h1 : xret T fn.results.toList E1 H1 (fun vs => some (match vs with | [v] => v | vs => .tup vs, H1, nx1)) = some (v, H', nx')) (hx2 : ∀ e, ExOk x e → e = .normal ∨ e = .ret),
                    Does P H nx v H' nx' (fun K ρ A => LRel K ρ A args cargs.toList) fun w => (callFunc f cargs).run P w := by
                  intro h1 hx2
                  have hout : H' = H1 ∧ nx' = nx1 := by
                    have : ∀ (rs : List ResultVar) (cc : List AV → AV), xret T rs E1 H1 (fun vs => some (cc vs, H1, nx1)) = some (v, H', nx') → H' = H1 ∧ nx' = nx1 := by
                      intro rs
                      induction rs with
                      | nil => intro cc h; simp only [xret, Option.some.injEq, Prod.mk.injEq] at h; exact ⟨h.2.1.symm, h.2.2.symm⟩
                      | cons r rs ih =>
                        intro cc h
                        cases r with
                        | tmp t => simp only [xret, zlx] at h; exact ih (fun vs => cc (toE E1 t :: vs)) h
                        | cell b t =>
                          simp only [xret] at h
                          split at h
                          · split at h
                            · rename_i v' _ _ _ _
                              rw [zke] at h
                              exact ih (fun vs => cc (v' :: vs)) h
                            · cases h
                          · cases h
                    exact this _ (fun vs => match vs with | [v] => v | vs => .tup vs) h1
                  obtain ⟨rfl, rfl⟩ := hout
                  refine ⟨hg.1, hg.2, fun A ρ Hm w hB s ha hag hfree => ?_⟩
                  have fx : FX A nx nx' := ⟨hfree, hB⟩
                  have hp := (key A ρ Hm w fx).2 (Nat.le_refl _)
                  have hcl : cargs.size = args.length := by simpa using ha.1
                  have hcall : (callFunc f cargs).run P w = .ok (.enter f cargs) w := by
                    have hname' : ¬ fn.name = "runtime.NumGoroutine" := by simpa using hname
                    simp [callFunc, program, Sem.run_bind, Sem.run, hfn, hname', hc, pure]
                  rw [hcall]
                  simp only [zh]
                  have hA0 : AX A nx nx = A := by funext g; simp [AX]; omega
                  have hH0 : mix Hm H nx nx' H = Hm := by
                    funext g
                    by_cases ht : Tk H nx nx' g
                    · rw [zbe ht]
                      by_cases hi : isH H g = true
                      · exact (hag g hi).symm
                      · rw [zdy hi]
                        rcases ht with h | h
                        · exact absurd h hi
                        · cases e : Hm g with
                          | none => rfl
                          | some o => exact absurd (s.live g o e) (hfree g h.1 h.2)
                    · rw [zch ht]
                  refine calls_of_wp hfn hc (Code.wp_mono (fun e a w' q => ?_) (hp _ w ⟨⟨ρ, ?_, fun t => ?_, ?_⟩, by simp; omega, rfl, Nat.le_refl _, fun g hg => .inl hg⟩))
                  · obtain ⟨he, st⟩ := q
                    have done : a.defers = [] ∧ ∃ v', (results fn a.tmps).run P w' = .ok v' w' ∧ ∃ u, Ending.returned v' = .returned u ∧ zyd A ρ Hm w H nx v H' nx' u w' := by
                      obtain ⟨ρ', s', hv', f'⟩ := st.ex
                      obtain ⟨vs, q1, cs, q2, q3, q4⟩ := zmf (P := P) hT s' hv' (fun g hg => zbe (st.dom g hg)) fn.results.toList _ _ h1
                      refine ⟨st.defers, ?_⟩
                      have hm : (fn.results.mapM (zbd a.tmps)).run P w' = .ok cs.toArray w' := by
                        rw [Array.mapM_eq_foldlM]
                        have := q4 #[]
                        rw [Array.foldlM_toList] at this
                        simpa using this
                      have hrun : ∀ v, (if h : cs.toArray.size = 1 then cs.toArray[0] else Value.tuple cs.toArray) = v → (results fn a.tmps).run P w' = .ok v w' := by
                        intro v hv
                        have e : results fn a.tmps = (do let vs ← fn.results.mapM (zbd a.tmps); pure (if h : vs.size = 1 then vs[0] else .tuple vs)) := by
                          unfold results zbd
                          rfl
                        rw [e]
                        simp only [Sem.run_bind, hm, Result.andThen_ok, Sem.run_pure, hv]
                      simp only [Option.some.injEq, Prod.mk.injEq, and_true] at q1
                      split at q1
                      · rename_i u
                        subst q1
                        obtain ⟨cv, hcv, hR⟩ := q2.get (j := 0) (v := u) rfl
                        have hc1 : cs = [cv] := by
                          have hl := q2.1
                          match cs, hl, hcv with
                          | [x], _, h => simp at h; rw [h]
                        subst hc1
                        exact ⟨cv, hrun cv (by simp), cv, rfl, ρ', s', hR, f'⟩
                      · rename_i hne
                        have hc1 : cs.length ≠ 1 := by
                          intro hl
                          have := q2.1
                          rw [hl] at this
                          match vs, this with
                          | [x], _ => exact hne x rfl
                        subst q1
                        exact ⟨.tuple cs.toArray, hrun _ (by simp [hc1]), _, rfl, ρ', s', .tup _ _ (by simpa using q2.1) fun j v c hv hc => q2.2 j v c hv (by simpa using hc), f'⟩
                    rcases hx2 e he with rfl | rfl
                    · exact done
                    · exact done
                  · rw [hA0, hH0]; exact s
                  · rw [hA0, hH0, h2]
                    show VRel _ _ _ _ ((cargs ++ Array.replicate (fn.ntmps - cargs.size) undef).getD t undef)
                    by_cases ht : t < args.length
                    · rw [if_pos (by omega)]
                      obtain ⟨cv, h1, h2⟩ := ha.get (List.getElem?_eq_getElem ht)
                      have : (cargs ++ Array.replicate (fn.ntmps - cargs.size) undef).getD t undef = cv := by
                        rw [Array.getD_eq_getD_getElem?, Array.getElem?_append_left (by omega)]
                        simp only [Array.getElem?_toList] at h1
                        rw [h1]; rfl
                      rw [this, Nat.sub_zero, nth, List.getD_eq_getElem?_getD, List.getElem?_eq_getElem ht]
                      exact h2
                    · rw [if_neg (by omega)]
                      exact .junk _
                  · rw [hA0, hH0]; exact Fr.refl _ _ _ _
                split at h1
                · cases h1
                · exact fin h1 fun e he => .inl he
                · exact fin h1 fun e he => .inr he
              · cases h1
            · cases h
          · cases h
        · cases h
theorem QC.closed {call : XCl} (hc : zcu P call) {f : FuncId} {v : AV} {H' : HB} {nx' : Nat} (h : call f [] .nil 0 = some (v, H', nx')) (hf : flat v = true) : QC P f [] v := by
  intro H nx ρ w cargs s ha
  have s0 : Sim (fun _ => False) ρ (fun _ => none) w := by
    have := (s.drop (H' := fun _ => none) (fun g o ho => by cases ho)).1
    exact ⟨fun g o ho => (by cases ho), fun g o ho => (by cases ho), fun g g' hg _ _ => (by cases hg), this.lay⟩
  have d := hc f [] .nil 0 v H' nx' h cargs
  have ha0 : LRel (Kof ρ (fun _ => none) w) ρ (fun _ => False) [] cargs.toList := ⟨ha.1, fun j v c hv => by simp at hv⟩
  refine zm (d.run (fun _ => False) ρ (fun _ => none) w ⟨0, fun _ h => h.elim⟩ s0 ha0 (fun g hg => by simp [isH, Tr.get_nil] at hg) (fun _ _ _ h => h)) fun cv w' ⟨ρ', q3, q4, q5⟩ => ?_
  have keep : ∀ b o, w.heap[b]? = some o → w'.heap[b]? = some o := fun b o hb =>
    (zj.1 (q5.k b o (zj.2 ⟨fun g hg => by simp at hg, hb⟩))).2
  have hK : ∀ b o, Kof ρ H w b = some o → Kof ρ H w' b = some o := fun b o hb => by
    obtain ⟨h1, h2⟩ := zj.1 hb
    exact zj.2 ⟨h1, keep b o h2⟩
  refine ⟨v, H, nx, ρ, ⟨rfl, rfl, rfl⟩, ⟨s.live, fun g o ho => ?_, s.inj, s.lay.mono hK⟩, q4.flat hf, ⟨fun g hg => ⟨rfl, hg⟩, hK, q5.os, q5.tape, q5.output, q5.size⟩⟩
  have ho' := s.obj g o ho
  obtain ⟨ob, hob⟩ : ∃ ob, w.heap[(ρ g).block]? = some ob := ⟨_, Array.getElem?_eq_getElem ho'.block_lt⟩
  exact ho'.mono (by rw [keep _ _ hob, hob]) hK fun g hg => ⟨rfl, hg⟩
end
end Go.Proofs.YtiinnjjmoifoeaaGreatDoor
namespace Go.Proofs
open Go.Shelf
def Tryz.laysM171_ren : Go.Shelf.Ren := ⟨fun | 171 => 14 | 243 => 33 | 246 => 64 | 283 => 103 | 284 => 104 | 285 => 105 | 286 => 106 | 129 => 138 | 317 => 137 | 318 => 139 | 319 => 140 | 320 => 141 | 337 => 151 | 338 => 152 | n => n, fun | 3 => 3 | 9 => 9 | 2 => 2 | 4 => 4 | 171 => 203 | 0 => 0 | 53 => 109 | 37 => 22 | 5 => 5 | 173 => 206 | 212 => 238 | 51 => 111 | 20 => 20 | 213 => 239 | 46 => 110 | 232 => 258 | 233 => 259 | n => n, fun | 17 => 0 | 18 => 1 | 19 => 2 | n => n⟩
theorem Tryz.laysM171 : Go.Proofs.LaysM.n171 Tryz.prog Tryz.laysM171_ren := {
  mixed := by kernel_rfl
  f129 := Tryz.func138.trans (congrArg some (by kernel_rfl))
  f171 := Tryz.func14.trans (congrArg some (by kernel_rfl))
  f243 := Tryz.func33.trans (congrArg some (by kernel_rfl))
  f246 := Tryz.func64.trans (congrArg some (by kernel_rfl))
  f283 := Tryz.func103.trans (congrArg some (by kernel_rfl))
  f284 := Tryz.func104.trans (congrArg some (by kernel_rfl))
  f285 := Tryz.func105.trans (congrArg some (by kernel_rfl))
  f286 := Tryz.func106.trans (congrArg some (by kernel_rfl))
  f317 := Tryz.func137.trans (congrArg some (by kernel_rfl))
  f318 := Tryz.func139.trans (congrArg some (by kernel_rfl))
  f319 := Tryz.func140.trans (congrArg some (by kernel_rfl))
  f320 := Tryz.func141.trans (congrArg some (by kernel_rfl))
  f337 := Tryz.func151.trans (congrArg some (by kernel_rfl))
  f338 := Tryz.func152.trans (congrArg some (by kernel_rfl))
  t0 := Tryz.underlying0
  a0 := Tryz.isAgg0
  z0 := Tryz.sizeOf0
  v0 := Tryz.zeroValue0
  t2 := Tryz.underlying2
  a2 := Tryz.isAgg2
  z2 := Tryz.sizeOf2
  v2 := Tryz.zeroValue2
  t3 := Tryz.underlying3
  a3 := Tryz.isAgg3
  z3 := Tryz.sizeOf3
  v3 := Tryz.zeroValue3
  t4 := Tryz.underlying4
  a4 := Tryz.isAgg4
  z4 := Tryz.sizeOf4
  v4 := Tryz.zeroValue4
  t5 := Tryz.underlying5
  a5 := Tryz.isAgg5
  z5 := Tryz.sizeOf5
  v5 := Tryz.zeroValue5
  t9 := Tryz.underlying9
  a9 := Tryz.isAgg9
  z9 := Tryz.sizeOf9
  v9 := Tryz.zeroValue9
  t20 := Tryz.underlying20
  a20 := Tryz.isAgg20
  z20 := Tryz.sizeOf20
  v20 := Tryz.zeroValue20
  t37 := Tryz.underlying22
  a37 := Tryz.isAgg22
  z37 := Tryz.sizeOf22
  v37 := Tryz.zeroValue22
  t46 := Tryz.underlying110
  a46 := Tryz.isAgg110
  z46 := Tryz.sizeOf110
  v46 := Tryz.zeroValue110
  t51 := Tryz.underlying111
  a51 := Tryz.isAgg111
  z51 := Tryz.sizeOf111
  v51 := Tryz.zeroValue111
  t53 := Tryz.underlying109
  a53 := Tryz.isAgg109
  z53 := Tryz.sizeOf109
  v53 := Tryz.zeroValue109
  t171 := Tryz.underlying203
  a171 := Tryz.isAgg203
  z171 := Tryz.sizeOf203
  v171 := Tryz.zeroValue203
  t173 := Tryz.underlying206
  a173 := Tryz.isAgg206
  z173 := Tryz.sizeOf206
  v173 := Tryz.zeroValue206
  t212 := Tryz.underlying238
  a212 := Tryz.isAgg238
  z212 := Tryz.sizeOf238
  v212 := Tryz.zeroValue238
  t213 := Tryz.underlying239
  a213 := Tryz.isAgg239
  z213 := Tryz.sizeOf239
  t232 := Tryz.underlying258
  a232 := Tryz.isAgg258
  z232 := Tryz.sizeOf258
  v232 := Tryz.zeroValue258
  t233 := Tryz.underlying259
  a233 := Tryz.isAgg259
  z233 := Tryz.sizeOf259
  v233 := Tryz.zeroValue259
  g17 := by kernel_rfl
  g18 := by kernel_rfl
  g19 := by kernel_rfl
  i0 := by kernel_rfl
  i2 := by kernel_rfl
  i3 := by kernel_rfl
  i4 := by kernel_rfl
  i5 := by kernel_rfl
  i9 := by kernel_rfl
  i20 := by kernel_rfl
  i37 := by kernel_rfl
  i46 := by kernel_rfl
  i51 := by kernel_rfl
  i53 := by kernel_rfl
  i171 := by kernel_rfl
  i173 := by kernel_rfl
  i212 := by kernel_rfl
  i232 := by kernel_rfl
  i233 := by kernel_rfl
  m17 := by kernel_rfl
  m18 := by kernel_rfl
  m19 := by kernel_rfl }
open Go.RowKit Go.Sort Go.Lib in
theorem Tryz.strconv_Itoa (n : Int) (h0 : -9223372036854775808 ≤ n) (h1 : n ≤ 9223372036854775807) (w : World) (htab : Lib.TabIs Tryz.prog w "internal/strconv.uint64pow10" .u64 Lib.pow10Tab) :
    Calls Tryz.prog 14 #[.int .i64 n] w fun e w' => e = .returned (.string ⟨(Lib.itoa n).toArray⟩) ∧ ∃ k os, w' = grow (w.drewN k) os := Any.strconv_Itoa Tryz.laysM171 n h0 h1 w htab
def Tryz.laysC172_ren : Go.Shelf.Ren := ⟨fun | 172 => 153 | 244 => 160 | 245 => 161 | 247 => 162 | 279 => 163 | 280 => 164 | 281 => 165 | 282 => 166 | 287 => 167 | 316 => 168 | 171 => 14 | 205 => 169 | 321 => 170 | 322 => 171 | 243 => 33 | 246 => 64 | 283 => 103 | 284 => 104 | 285 => 105 | 286 => 106 | 129 => 138 | 317 => 137 | 318 => 139 | 319 => 140 | 320 => 141 | 337 => 151 | 338 => 152 | n => n, fun | 9 => 9 | 3 => 3 | 75 => 255 | 76 => 256 | 4 => 4 | 5 => 5 | 167 => 261 | 37 => 22 | 0 => 0 | 85 => 262 | 2 => 2 | 168 => 264 | 53 => 109 | 175 => 267 | 46 => 110 | 210 => 271 | 127 => 274 | 145 => 277 | 143 => 275 | 21 => 21 | 171 => 203 | 173 => 206 | 212 => 238 | 51 => 111 | 20 => 20 | 213 => 239 | 232 => 258 | 233 => 259 | 80 => 144 | n => n, fun | 15 => 3 | 16 => 4 | 17 => 0 | 18 => 1 | 19 => 2 | n => n⟩
theorem Tryz.laysC172 : Go.Proofs.LaysC.n172 Tryz.prog Tryz.laysC172_ren := {
  mixed := by kernel_rfl
  f129 := Tryz.func138.trans (congrArg some (by kernel_rfl))
  f171 := Tryz.func14.trans (congrArg some (by kernel_rfl))
  f172 := Tryz.func153.trans (congrArg some (by kernel_rfl))
  f205 := Tryz.func169.trans (congrArg some (by kernel_rfl))
  f243 := Tryz.func33.trans (congrArg some (by kernel_rfl))
  f244 := Tryz.func160.trans (congrArg some (by kernel_rfl))
  f245 := Tryz.func161.trans (congrArg some (by kernel_rfl))
  f246 := Tryz.func64.trans (congrArg some (by kernel_rfl))
  f247 := Tryz.func162.trans (congrArg some (by kernel_rfl))
  f279 := Tryz.func163.trans (congrArg some (by kernel_rfl))
  f280 := Tryz.func164.trans (congrArg some (by kernel_rfl))
  f281 := Tryz.func165.trans (congrArg some (by kernel_rfl))
  f282 := Tryz.func166.trans (congrArg some (by kernel_rfl))
  f283 := Tryz.func103.trans (congrArg some (by kernel_rfl))
  f284 := Tryz.func104.trans (congrArg some (by kernel_rfl))
  f285 := Tryz.func105.trans (congrArg some (by kernel_rfl))
  f286 := Tryz.func106.trans (congrArg some (by kernel_rfl))
  f287 := Tryz.func167.trans (congrArg some (by kernel_rfl))
  f316 := Tryz.func168.trans (congrArg some (by kernel_rfl))
  f317 := Tryz.func137.trans (congrArg some (by kernel_rfl))
  f318 := Tryz.func139.trans (congrArg some (by kernel_rfl))
  f319 := Tryz.func140.trans (congrArg some (by kernel_rfl))
  f320 := Tryz.func141.trans (congrArg some (by kernel_rfl))
  f321 := Tryz.func170.trans (congrArg some (by kernel_rfl))
  f322 := Tryz.func171.trans (congrArg some (by kernel_rfl))
  f337 := Tryz.func151.trans (congrArg some (by kernel_rfl))
  f338 := Tryz.func152.trans (congrArg some (by kernel_rfl))
  t0 := Tryz.underlying0
  a0 := Tryz.isAgg0
  z0 := Tryz.sizeOf0
  v0 := Tryz.zeroValue0
  t2 := Tryz.underlying2
  a2 := Tryz.isAgg2
  z2 := Tryz.sizeOf2
  v2 := Tryz.zeroValue2
  t3 := Tryz.underlying3
  a3 := Tryz.isAgg3
  z3 := Tryz.sizeOf3
  v3 := Tryz.zeroValue3
  t4 := Tryz.underlying4
  a4 := Tryz.isAgg4
  z4 := Tryz.sizeOf4
  v4 := Tryz.zeroValue4
  t5 := Tryz.underlying5
  a5 := Tryz.isAgg5
  z5 := Tryz.sizeOf5
  v5 := Tryz.zeroValue5
  t9 := Tryz.underlying9
  a9 := Tryz.isAgg9
  z9 := Tryz.sizeOf9
  v9 := Tryz.zeroValue9
  t20 := Tryz.underlying20
  a20 := Tryz.isAgg20
  z20 := Tryz.sizeOf20
  v20 := Tryz.zeroValue20
  t21 := Tryz.underlying21
  a21 := Tryz.isAgg21
  z21 := Tryz.sizeOf21
  v21 := Tryz.zeroValue21
  t37 := Tryz.underlying22
  a37 := Tryz.isAgg22
  z37 := Tryz.sizeOf22
  v37 := Tryz.zeroValue22
  t46 := Tryz.underlying110
  a46 := Tryz.isAgg110
  z46 := Tryz.sizeOf110
  v46 := Tryz.zeroValue110
  t51 := Tryz.underlying111
  a51 := Tryz.isAgg111
  z51 := Tryz.sizeOf111
  v51 := Tryz.zeroValue111
  t53 := Tryz.underlying109
  a53 := Tryz.isAgg109
  z53 := Tryz.sizeOf109
  v53 := Tryz.zeroValue109
  t75 := Tryz.underlying255
  a75 := Tryz.isAgg255
  z75 := Tryz.sizeOf255
  v75 := Tryz.zeroValue255
  t76 := Tryz.underlying256
  a76 := Tryz.isAgg256
  z76 := Tryz.sizeOf256
  v76 := Tryz.zeroValue256
  t85 := Tryz.underlying262
  a85 := Tryz.isAgg262
  z85 := Tryz.sizeOf262
  v85 := Tryz.zeroValue262
  t127 := Tryz.underlying274
  a127 := Tryz.isAgg274
  z127 := Tryz.sizeOf274
  v127 := Tryz.zeroValue274
  t143 := Tryz.underlying275
  a143 := Tryz.isAgg275
  z143 := Tryz.sizeOf275
  v143 := Tryz.zeroValue275
  t145 := Tryz.underlying277
  a145 := Tryz.isAgg277
  z145 := Tryz.sizeOf277
  v145 := Tryz.zeroValue277
  t167 := Tryz.underlying261
  a167 := Tryz.isAgg261
  z167 := Tryz.sizeOf261
  v167 := Tryz.zeroValue261
  t168 := Tryz.underlying264
  a168 := Tryz.isAgg264
  z168 := Tryz.sizeOf264
  v168 := Tryz.zeroValue264
  t171 := Tryz.underlying203
  a171 := Tryz.isAgg203
  z171 := Tryz.sizeOf203
  v171 := Tryz.zeroValue203
  t173 := Tryz.underlying206
  a173 := Tryz.isAgg206
  z173 := Tryz.sizeOf206
  v173 := Tryz.zeroValue206
  t175 := Tryz.underlying267
  a175 := Tryz.isAgg267
  z175 := Tryz.sizeOf267
  v175 := Tryz.zeroValue267
  t210 := Tryz.underlying271
  a210 := Tryz.isAgg271
  z210 := Tryz.sizeOf271
  v210 := Tryz.zeroValue271
  t212 := Tryz.underlying238
  a212 := Tryz.isAgg238
  z212 := Tryz.sizeOf238
  v212 := Tryz.zeroValue238
  t213 := Tryz.underlying239
  a213 := Tryz.isAgg239
  z213 := Tryz.sizeOf239
  t232 := Tryz.underlying258
  a232 := Tryz.isAgg258
  z232 := Tryz.sizeOf258
  v232 := Tryz.zeroValue258
  t233 := Tryz.underlying259
  a233 := Tryz.isAgg259
  z233 := Tryz.sizeOf259
  v233 := Tryz.zeroValue259
  g15 := by kernel_rfl
  g16 := by kernel_rfl
  g17 := by kernel_rfl
  g18 := by kernel_rfl
  g19 := by kernel_rfl
  t80 := Tryz.underlying144
  a80 := Tryz.isAgg144
  z80 := Tryz.sizeOf144
  v80 := Tryz.zeroValue144
  i0 := by kernel_rfl
  i2 := by kernel_rfl
  i3 := by kernel_rfl
  i4 := by kernel_rfl
  i5 := by kernel_rfl
  i9 := by kernel_rfl
  i20 := by kernel_rfl
  i21 := by kernel_rfl
  i37 := by kernel_rfl
  i46 := by kernel_rfl
  i51 := by kernel_rfl
  i53 := by kernel_rfl
  i75 := by kernel_rfl
  i76 := by kernel_rfl
  i80 := by kernel_rfl
  i85 := by kernel_rfl
  i127 := by kernel_rfl
  i143 := by kernel_rfl
  i145 := by kernel_rfl
  i167 := by kernel_rfl
  i168 := by kernel_rfl
  i171 := by kernel_rfl
  i173 := by kernel_rfl
  i175 := by kernel_rfl
  i210 := by kernel_rfl
  i212 := by kernel_rfl
  i232 := by kernel_rfl
  i233 := by kernel_rfl
  m15 := by kernel_rfl
  m16 := by kernel_rfl
  m17 := by kernel_rfl
  m18 := by kernel_rfl
  m19 := by kernel_rfl
  c0 := by kernel_rfl
  c2 := by kernel_rfl
  c3 := by kernel_rfl
  c4 := by kernel_rfl
  c5 := by kernel_rfl
  c9 := by kernel_rfl
  c20 := by kernel_rfl
  c21 := by kernel_rfl
  c37 := by kernel_rfl
  c46 := by kernel_rfl
  c51 := by kernel_rfl
  c53 := by kernel_rfl
  c75 := by kernel_rfl
  c76 := by kernel_rfl
  c80 := by kernel_rfl
  c85 := by kernel_rfl
  c127 := by kernel_rfl
  c143 := by kernel_rfl
  c145 := by kernel_rfl
  c167 := by kernel_rfl
  c168 := by kernel_rfl
  c171 := by kernel_rfl
  c173 := by kernel_rfl
  c175 := by kernel_rfl
  c210 := by kernel_rfl
  c212 := by kernel_rfl
  c213 := by kernel_rfl
  c232 := by kernel_rfl
  c233 := by kernel_rfl }
open Go.RowKit in
theorem Tryz.strconv_Atoi_ok (s : ByteArray) (hmax : s.size ≤ 9223372036854775806) (v : Int) (h : Lib.atoiAll s.data.toList = .ok v) (w : World) :
    Calls Tryz.prog 153 #[.string s] w fun e w' => e = .returned (.tuple #[.int .i64 v, .nilIface]) ∧ (w' = w ∨ ∃ t, w' = Lib.bytesWorld w 5 t) := Any.strconv_Atoi_ok Tryz.laysC172 s hmax v h w
open Go.RowKit in
theorem Tryz.strconv_Atoi_syntax_var (s : ByteArray) (hlim : s.size ≤ 281474976710656) (h : Lib.atoiAll s.data.toList = Lib.atoiAll []) (tp : TypeId) (p : Value) (w : World) (hvar : w.var? Tryz.prog "strconv.ErrSyntax" = some #[.iface tp p]) :
    Calls Tryz.prog 153 #[.string s] w fun e w' => ∃ N, e = .returned (.tuple #[.int .i64 0, .iface 264 (.pointer (some ⟨N, 0, none⟩))]) ∧ w.heap.size ≤ N ∧ w'.heap[N]? = some (.cells #[.string ⟨#[65, 116, 111, 105]⟩, .string s, .iface tp p] 271 (0, 0)) ∧ Below w.heap.size w w' := Any.strconv_Atoi_syntax_var Tryz.laysC172 s hlim h tp p w hvar
open Go.RowKit in
theorem Tryz.strconv_Atoi_range_var (s : ByteArray) (hlim : s.size ≤ 281474976710656) (h : Lib.atoiAll s.data.toList = .range) (tp : TypeId) (p : Value) (w : World) (hvar : w.var? Tryz.prog "strconv.ErrRange" = some #[.iface tp p]) :
    Calls Tryz.prog 153 #[.string s] w fun e w' => ∃ N, e = .returned (.tuple #[.int .i64 (Lib.atoiSat s.data.toList), .iface 264 (.pointer (some ⟨N, 0, none⟩))]) ∧ w.heap.size ≤ N ∧ w'.heap[N]? = some (.cells #[.string ⟨#[65, 116, 111, 105]⟩, .string s, .iface tp p] 271 (0, 0)) ∧ Below w.heap.size w w' := Any.strconv_Atoi_range_var Tryz.laysC172 s hlim h tp p w hvar
end Go.Proofs
set_option maxRecDepth 8000
namespace Go.Proofs.YtiinnjjmoifoeaaGreatDoor
open Go Go.RowKit
theorem Sim.below {A : Nat → Prop} {ρ : Nat → Loc} {H : Heap} {w w' : World} (s : Sim A ρ H w) (b : Below w.heap.size w w') : Sim A ρ H w' ∧ Fr A ρ H w A ρ H w' := by
  have hK : ∀ b' o, Kof ρ H w b' = some o → Kof ρ H w' b' = some o := fun b' o hb => by
    obtain ⟨h1, h2⟩ := zj.1 hb
    exact zj.2 ⟨h1, by rw [b.block b' (Array.getElem?_eq_some_iff.1 h2).1]; exact h2⟩
  refine ⟨⟨s.live, fun g o ho => ?_, s.inj, s.lay.mono hK⟩, ⟨fun _ h => ⟨rfl, h⟩, hK, b.os, b.tape, b.output, b.size⟩⟩
  exact (s.obj g o ho).mono (b.block _ (s.obj g o ho).block_lt) hK (fun _ h => ⟨rfl, h⟩)
theorem QC.of_calls {P : Program} {f : FuncId} {fn : Func} {c : Code} {args : List AV} {r : AV} (hf : P.funcs[f]? = some fn) (hb : fn.body = some c) (hname : (fn.name == "runtime.NumGoroutine") = false)
    (h : ∀ (K : zf) (ρ : Nat → Loc) (A : Nat → Prop) (w : World) (cargs : Array Value), LayK (fun b => w.heap[b]?) → LRel K ρ A args cargs.toList → Calls P f cargs w fun e w' => (∃ v, e = .returned v ∧ ∀ (K : zf) (ρ : Nat → Loc) (A : Nat → Prop), VRel K ρ A r v) ∧ Below w.heap.size w w') : QC P f args r := by
  intro H nx ρ w cargs s ha
  have hcall : (callFunc f cargs).run P w = .ok (.enter f cargs) w := by
    have hname' : ¬ fn.name = "runtime.NumGoroutine" := by simpa using hname
    simp [callFunc, program, Sem.run_bind, Sem.run, hf, hname', hb, pure]
  rw [hcall]
  simp only [zh]
  refine (h _ _ _ w cargs (s.lay.mono fun b o hb => (zj.1 hb).2) ha).mono fun e w' ⟨⟨v, he, hv⟩, hw⟩ => ?_
  obtain ⟨s', f'⟩ := s.below hw
  exact ⟨v, he, r, H, nx, ρ, ⟨rfl, rfl, rfl⟩, s', hv _ _ _, f'⟩
theorem zvv : (Tryz.prog.globalNamed "internal/strconv.uint64pow10").isSome = true := by kernel_rfl
theorem LayK.tab {w : World} (h : LayK (fun b => w.heap[b]?)) : Lib.TabIs Tryz.prog w "internal/strconv.uint64pow10" .u64 Lib.pow10Tab := by
  obtain ⟨g, hg⟩ := Option.isSome_iff_exists.1 zvv
  obtain ⟨e, m, hc⟩ := h.1 g hg
  unfold Lib.TabIs World.var?
  have hc' : w.heap[g]? = _ := hc
  rw [hg, Option.bind_some, hc']
set_option maxRecDepth 8000 in
theorem zyq (n : Int) (h0 : -9223372036854775808 ≤ n) (h1 : n ≤ 9223372036854775807) : QC Tryz.prog 14 [.int .i64 n] (.str (Lib.itoa n)) := by
  refine QC.of_calls (c := zw Tryz.f14) Tryz.func14 (by kernel_rfl) (by kernel_rfl) fun K ρ A w cargs hl ha => ?_
  have hc : cargs = #[.int .i64 n] := by
    obtain ⟨hlen, hg⟩ := ha
    have hlen' : cargs.toList.length = 1 := hlen
    match he : cargs.toList, hlen' with
    | [v], _ =>
      have := hg 0 (.int .i64 n) v rfl (by rw [he]; rfl)
      cases this
      exact Array.ext' (by rw [he])
  subst hc
  refine (Tryz.strconv_Itoa n h0 h1 w hl.tab).mono fun e w' ⟨he, k, os, hw⟩ => ?_
  subst he hw
  refine ⟨⟨_, rfl, fun K ρ A => .str _⟩, ⟨rfl, rfl, rfl, ?_, fun b hb => ?_⟩⟩
  · simp [Sort.grow, World.drewN]
  · simp only [Sort.grow, World.drewN]
    rw [Array.getElem?_append_left (by simpa using hb)]
end Go.Proofs.YtiinnjjmoifoeaaGreatDoor
set_option maxRecDepth 8000
namespace Go.Proofs.YtiinnjjmoifoeaaGreatDoor
open Go Go.RowKit
theorem zpw : (Tryz.prog.globalNamed "strconv.ErrSyntax").isSome = true := by kernel_rfl
theorem zsd : (Tryz.prog.globalNamed "strconv.ErrRange").isSome = true := by kernel_rfl
theorem LayE.var {n : String} {w : World} (h : LayE n (fun b => w.heap[b]?)) (hn : (Tryz.prog.globalNamed n).isSome = true) : ∃ t p, w.var? Tryz.prog n = some #[.iface t p] := by
  obtain ⟨g, hg⟩ := Option.isSome_iff_exists.1 hn
  obtain ⟨t, p, e, m, hc⟩ := h g hg
  have hc' : w.heap[g]? = _ := hc
  exact ⟨t, p, by unfold World.var?; rw [hg, Option.bind_some, hc']⟩
theorem zqi (w : World) (e : TypeId) (s : ByteArray) : Below w.heap.size w (Lib.bytesWorld w e s) := ⟨rfl, rfl, rfl, by rw [Lib.bytesWorld_size]; omega, fun k hk => Lib.bytesWorld_at_old w e s k hk⟩
def zmd (s : List UInt8) : AV := match Lib.atoiAll s with
  | .ok v => .tup [.int .i64 v, .inil]
  | .range => .tup [.int .i64 (Lib.atoiSat s), .ifc]
  | _ => .tup [.int .i64 0, .ifc]
theorem tup2 {n : Int} {x : AV} {c : Value} (h : ∀ K ρ A, VRel K ρ A x c) (K : zf) (ρ : Nat → Loc) (A : Nat → Prop) : VRel K ρ A (.tup [.int .i64 n, x]) (.tuple #[.int .i64 n, c]) :=
  .tup _ _ rfl fun j v c' hv hc => by
    match j with
    | 0 => cases hv; cases hc; exact .int _ _
    | 1 => cases hv; cases hc; exact h K ρ A
set_option maxRecDepth 8000 in
theorem zyy (s : List UInt8) (h : s.length ≤ 281474976710656) : QC Tryz.prog 153 [.str s] (zmd s) := by
  refine QC.of_calls (c := zw Tryz.f153) Tryz.func153 (by kernel_rfl) (by kernel_rfl) fun K ρ A w cargs hl ha => ?_
  have hc : cargs = #[.string ⟨s.toArray⟩] := by
    obtain ⟨hlen, hg⟩ := ha
    have hlen' : cargs.toList.length = 1 := hlen
    match he : cargs.toList, hlen' with
    | [v], _ =>
      have := hg 0 (.str s) v rfl (by rw [he]; rfl)
      cases this
      exact Array.ext' (by rw [he])
  subst hc
  have hs : (ByteArray.mk s.toArray).size = s.length := by show s.toArray.size = _; simp
  have hd : (ByteArray.mk s.toArray).data.toList = s := by simp
  unfold zmd
  cases hv : Lib.atoiAll s with
  | ok v =>
    refine (Tryz.strconv_Atoi_ok ⟨s.toArray⟩ (by omega) v (by rw [hd]; exact hv) w).mono fun e w' ⟨he, hw⟩ => ⟨⟨_, he, tup2 fun _ _ _ => .inil⟩, ?_⟩
    rcases hw with rfl | ⟨t, rfl⟩
    · exact .refl _ _
    · exact zqi w _ t
  | range =>
    obtain ⟨t, p, hvar⟩ := hl.2.2.1.var zsd
    have hx : Lib.atoiSat (ByteArray.mk s.toArray).data.toList = Lib.atoiSat s := by rw [hd]
    exact (Tryz.strconv_Atoi_range_var ⟨s.toArray⟩ (by omega) (by rw [hd]; exact hv) t p w hvar).mono fun e w' ⟨N, he, _, _, hw⟩ => ⟨⟨_, hx ▸ he, tup2 fun _ _ _ => .ifc _ ⟨_, _, rfl⟩⟩, hw⟩
  | _ =>
    obtain ⟨t, p, hvar⟩ := hl.2.1.var zpw
    exact (Tryz.strconv_Atoi_syntax_var ⟨s.toArray⟩ (by omega) (by rw [hd]; exact hv) t p w hvar).mono fun e w' ⟨N, he, _, _, hw⟩ => ⟨⟨_, he, tup2 fun _ _ _ => .ifc _ ⟨_, _, rfl⟩⟩, hw⟩
end Go.Proofs.YtiinnjjmoifoeaaGreatDoor
set_option maxRecDepth 8000
namespace Go.Proofs.YtiinnjjmoifoeaaGreatDoor
open Go Go.RowKit
theorem zgc {P : Program} (w : World) (t e ty : TypeId) (z : Value) (ht : P.underlying t = some (.slice e)) (hv : ∀ w, (zeroValue e).run P w = .ok z w) (b o n c : Nat) (hn : 0 < n) (us : List Value) (hus : (Builtin.zeroCells z.cells n).toList = us) (h1 : ∀ u ∈ us, u.oneCell' = true)
    (hc : ∀ j, j < us.length → (w.cell? ⟨b, o + j, none⟩).isSome = true) (hf : ∀ j, j < us.length → w.frozen? ⟨b, o + j, none⟩ = false) :
    (Builtin.clear_ #[t] ty #[.slice (some ⟨b, o, none⟩) n c]).run P w = .ok (.tuple #[]) (w.setCells b o us) := by
  have hst := run_storeCells_cells (P := P) b o us 0 w (by simpa using hc) (by simpa using hf) h1
  simp only [Nat.add_zero] at hst
  obtain ⟨m, rfl⟩ : ∃ m, n = m + 1 := ⟨n - 1, by omega⟩
  simp [Builtin.clear_, run_underlying ht, hv, hus, hst]
end Go.Proofs.YtiinnjjmoifoeaaGreatDoor
set_option maxRecDepth 8000
namespace Go.Proofs.YtiinnjjmoifoeaaGreatDoor
section
open Go Go.RowKit Go.Lib Go.Sort
set_option maxRecDepth 100000 in
set_option maxHeartbeats 4000000 in
theorem zyv (blk off cap n i j : Nat) (w W1 W2 : World) (hcap : n ≤ cap) (_hm : n ≤ 9223372036854775807) (hij : i < j) (hj : j ≤ n) (i0 : TypeInfo) (hi0 : Tryz.prog.info? 67 = some i0) (hz1 : i0.size = 9) (A : Addr)
    (hA : (if cap = j then some (⟨blk, off, none⟩ : Addr) else some ⟨blk, off + j * 9, none⟩) = some A) (news : List Value) (hl : Hid (news.length = (n - j) * 9)) (hsrc : Hid (∀ t u, news[t]? = some u → w.drew.cell? (A.add t) = some u)) (s2 : Hid (∀ u ∈ news, u.oneCell' = true))
    (s3 : Hid (∀ t, t < news.length → (w.drew.cell? ⟨blk, off + i * 9 + t, none⟩).isSome = true ∧ w.drew.frozen? ⟨blk, off + i * 9 + t, none⟩ = false))
    (hW : Hid (W1 = w.drew.setCells blk (off + i * 9) news))
    (hcl : ∀ ty, (Builtin.clear_ #[43] ty #[.slice (some ⟨blk, off + (i + (n - j)) * 9, none⟩) (n - (i + (n - j))) (cap - (i + (n - j)))]).run Tryz.prog W1 = .ok (.tuple #[]) W2) :
    Calls Tryz.prog 53 #[.slice (some ⟨blk, off, none⟩) n cap, .int .i64 i, .int .i64 j] w fun e w' => e = .returned (.slice (some ⟨blk, off, none⟩) (i + (n - j)) cap) ∧ w' = W2 := by
  have hic : i ≤ cap := by omega
  have hjc : j ≤ cap := by omega
  have heq : ¬ i = j := by omega
  have t22 := Tryz.underlying43
  go_enter Tryz.func53, Tryz.ntmps53
  go_wp2_with fail
  go_region_law (refine step_append_room rfl (.tmp 22) (.tmp 25) 43 rfl 67 i0 9 t22 hi0 hz1 blk off i cap (by simp [Act.eval, Act.put]) A (n - j) (cap - j) news (by simp [Act.eval, Act.put]) hl.out hsrc.out s2.out (by omega) s3.out ?_; rw [← hW.out])
  go_wp2
  go_ret
  exact ⟨rfl, rfl⟩
end
open Go Go.RowKit
def zAC : List Value := [.int .i64 0, .int .i64 0, .slice none 0 0, .slice none 0 0, .slice none 0 0, .slice none 0 0, .int .i64 0, .int .i64 0, .int .i64 0]
theorem zzb (w : World) : (zeroValue 67).run Tryz.prog w = .ok (.agg zAC.toArray) w := by
  kernel_rfl
theorem zzl : ∃ i0, Tryz.prog.info? 67 = some i0 ∧ i0.size = 9 :=
  ⟨(Tryz.prog.info? 67).get (by kernel_rfl), (Option.some_get _).symm, by kernel_rfl⟩
set_option maxRecDepth 20000 in
theorem zta {g len i j nx : Nat} {cells : List AV} {H0 : Heap} (hg : H0 g = some (.row 9 cells)) (hl : len * 9 ≤ cells.length) (hij : i < j) (hj : j ≤ len) (hm : len ≤ 4611686018427387904) (hone : ∀ c ∈ cells, c.one = true) :
    LC Tryz.prog 53 [.slc g 0 len, .int .i64 i, .int .i64 j] H0 [g] [nx] [(g, none), (nx, some (.row 9 (cells.take (i * 9) ++ (cells.take (len * 9)).drop (j * 9))))] (.slc nx 0 (i + (len - j))) := by
  intro AA ρ H w cargs hB s ha hrd hfr
  have hg : H g = some (.row 9 cells) := (hrd g (by simp)).trans hg
  have hgs : (H g).isSome = true := by rw [hg]; rfl
  have hnx : ¬ AA nx := hfr nx (by simp)
  obtain ⟨c, el', lo, hi, q1, q2, q3, q4, q5, q6⟩ := s.obj g _ hg
  obtain ⟨cs, rfl, rs⟩ : ∃ cs, cargs = #[cs, .int .i64 i, .int .i64 j] ∧ VRel (Kof ρ H w) ρ AA (.slc g 0 len) cs := by
    obtain ⟨hlen, hg2⟩ := ha
    have hlen' : cargs.toList.length = 3 := hlen
    match he : cargs.toList, hlen' with
    | [a, b, d], _ =>
      have h0 := hg2 0 _ a rfl (by rw [he]; rfl)
      have h1 := hg2 1 _ b rfl (by rw [he]; rfl)
      have h2 := hg2 2 _ d rfl (by rw [he]; rfl)
      cases h1; cases h2
      exact ⟨a, Array.ext' (by rw [he]), h0⟩
  cases rs with
  | slc _ _ _ cap ad hA hlc hcap =>
  have hc0 : 0 < cap := by omega
  obtain ⟨hcb, rfl⟩ := hcap hc0
  have hsz : (ρ g).sz = 9 := q4.symm
  rw [hsz] at hcb
  simp only [Nat.add_zero] at hcb ⊢
  generalize hbl : (ρ g).block = blk at *
  generalize hb0 : (ρ g).base = b0 at *
  have hdc : w.drew.heap[blk]? = some (.cells c el' (lo, hi)) := q1
  obtain ⟨news, hnews⟩ : ∃ news, news = (c.toList.drop (b0 + j * 9)).take ((len - j) * 9) := ⟨_, rfl⟩
  have hnl : news.length = (len - j) * 9 := by rw [hnews, List.length_take, List.length_drop, Array.length_toList]; omega
  have hget : ∀ t, t < (len - j) * 9 → news[t]? = c[b0 + j * 9 + t]? := fun t ht => by rw [hnews, List.getElem?_take, if_pos ht, List.getElem?_drop, Array.getElem?_toList]
  have hcell : ∀ q, w.drew.cell? ⟨blk, q, none⟩ = c[q]? := fun q => by simp [World.cell?, hdc]
  have hrel : ∀ (q : Nat) v, cells[q]? = some v → ∃ cv, c[b0 + q]? = some cv ∧ VRel (Kof ρ H w) ρ AA v cv := q6
  have s2 : ∀ u ∈ news, u.oneCell' = true := fun u hu => by
    obtain ⟨t, ht⟩ := List.getElem?_of_mem hu
    have hlt := (List.getElem?_eq_some_iff.1 ht).1
    rw [hget t (by omega)] at ht
    have hm2 : cells[j * 9 + t]? = some (cells[j * 9 + t]'(by omega)) := List.getElem?_eq_getElem (by omega)
    obtain ⟨cv, g1, g2⟩ := hrel _ _ hm2
    rw [show b0 + (j * 9 + t) = b0 + j * 9 + t by omega, ht] at g1
    cases g1
    exact g2.one (hone _ (List.getElem_mem _))
  have hno : ∀ q, q < (ρ g).tot → w.drew.frozen? ⟨blk, q, none⟩ = false := fun q hq' => by
    simp only [World.frozen?, hdc]
    have := q2 q hq'
    simp; omega
  have hsome : ∀ q, q < c.size → (w.drew.cell? ⟨blk, q, none⟩).isSome = true := fun q hq' => by rw [hcell]; simp [hq']
  obtain ⟨A, hA, hsrc⟩ : ∃ A : Addr, (if cap = j then some (⟨blk, b0, none⟩ : Addr) else some ⟨blk, b0 + j * 9, none⟩) = some A ∧ ∀ t u, news[t]? = some u → w.drew.cell? (A.add t) = some u := by
    by_cases h : cap = j
    · refine ⟨_, by rw [if_pos h], fun t u hu => ?_⟩
      have := (List.getElem?_eq_some_iff.1 hu).1
      omega
    · refine ⟨_, by rw [if_neg h], fun t u hu => ?_⟩
      have ht := (List.getElem?_eq_some_iff.1 hu).1
      rw [zaa, hcell, ← hget t (by omega)]; exact hu
  obtain ⟨i0, hi0, hz1⟩ := zzl
  obtain ⟨W1, hW⟩ : ∃ W1, W1 = w.drew.setCells blk (b0 + i * 9) news := ⟨_, rfl⟩
  obtain ⟨c1, b1, b2, b3⟩ := zak blk news (b0 + i * 9) w.drew c el' (lo, hi) hdc (by omega)
  obtain ⟨r1, r2, r3, r4, r5⟩ := zau blk news (b0 + i * 9) w.drew
  rw [← hW] at b1 r1 r2 r3 r4 r5
  obtain ⟨zs, hzs⟩ : ∃ zs, (Builtin.zeroCells (Value.cells (.agg zAC.toArray)) (len - (i + (len - j)))).toList = zs := ⟨_, rfl⟩
  have zl : zs.length = (len - (i + (len - j))) * 9 := by rw [← hzs, Array.length_toList, zbr]; rfl
  obtain ⟨W2, hW2⟩ : ∃ W2, W2 = W1.setCells blk (b0 + (i + (len - j)) * 9) zs := ⟨_, rfl⟩
  have z1 : ∀ u ∈ zs, u.oneCell' = true := fun u hu => by
    rw [← hzs] at hu
    have key : ∀ q : Nat, q < 9 → ((Value.cells (.agg zAC.toArray))[q]!).oneCell' = true := by decide
    simp only [Builtin.zeroCells, Array.toList_map, List.mem_map] at hu
    obtain ⟨q, _, rfl⟩ := hu
    exact key _ (Nat.mod_lt _ (by decide))
  have hcl : ∀ ty, (Builtin.clear_ #[43] ty #[.slice (some ⟨blk, b0 + (i + (len - j)) * 9, none⟩) (len - (i + (len - j))) (cap - (i + (len - j)))]).run Tryz.prog W1 = .ok (.tuple #[]) W2 := fun ty => by
    rw [hW2]
    refine zgc W1 _ 67 ty (.agg zAC.toArray) Tryz.underlying43 zzb blk _ _ _ (by omega) zs hzs z1 (fun q hq' => ?_) (fun q hq' => ?_)
    · simp [World.cell?, b1]; omega
    · simp only [World.frozen?, b1]
      have := q2 (b0 + (i + (len - j)) * 9 + q) (by omega)
      simp; omega
  obtain ⟨c2, e1, e2, e3⟩ := zak blk zs (b0 + (i + (len - j)) * 9) W1 c1 el' (lo, hi) b1 (by omega)
  obtain ⟨t1, t2, t3, t4, t5⟩ := zau blk zs (b0 + (i + (len - j)) * 9) W1
  rw [← hW2] at e1 t1 t2 t3 t4 t5
  have run := zyv blk b0 cap len i j w W1 W2 hlc (by omega) hij hj i0 hi0 hz1 A hA news hnl hsrc s2 (fun q hq' => ⟨hsome _ (by omega), hno _ (by omega)⟩) hW hcl
  have hcall : (callFunc 53 #[.slice (some ⟨blk, b0, none⟩) len cap, .int .i64 i, .int .i64 j]).run Tryz.prog w = .ok (.enter 53 #[.slice (some ⟨blk, b0, none⟩) len cap, .int .i64 i, .int .i64 j]) w := by
    have hf := Tryz.func53
    have hb : Tryz.f53.body = some (zw Tryz.f53) := by kernel_rfl
    have hname : (Tryz.f53.name == "runtime.NumGoroutine") = false := by kernel_rfl
    have hname' : ¬ Tryz.f53.name = "runtime.NumGoroutine" := by simpa using hname
    simp [callFunc, program, Sem.run_bind, Sem.run, hf, hname', hb, pure]
  rw [hcall]
  simp only [zh]
  refine run.mono fun e w' ⟨he, hw⟩ => ?_
  subst hw
  have hgt : ∀ q, (cells.take (i * 9) ++ (cells.take (len * 9)).drop (j * 9))[q]? = if q < i * 9 then cells[q]? else if q - i * 9 < (len - j) * 9 then cells[j * 9 + (q - i * 9)]? else none := fun q => by
    rw [List.getElem?_append, List.length_take, Nat.min_eq_left (by omega)]
    split
    · rw [List.getElem?_take, if_pos (by assumption)]
    · rw [List.getElem?_drop, List.getElem?_take]
      by_cases h : q - i * 9 < (len - j) * 9
      · rw [if_pos h, if_pos (by omega)]
      · rw [if_neg h, if_neg (by omega)]
  obtain ⟨s', f'⟩ := s.move (w' := w') (g := g) (g' := nx) hgs hnx (.row 9 (cells.take (i * 9) ++ (cells.take (len * 9)).drop (j * 9))) ⟨blk, b0, (ρ g).tot, (ρ g).sz⟩ hbl.symm (fun b hb => by rw [hbl] at hb; rw [t1 b hb, r1 b hb]; rfl) (by rw [t2, r2]; exact Nat.le_refl _)
    ⟨c2, el', lo, hi, e1, q2, by show c2.size = (ρ g).tot; omega, hsz.symm, by show b0 + _ ≤ (ρ g).tot; simp only [List.length_append, List.length_take, List.length_drop]; omega, fun q v hv => by
      show ∃ cv, c2[b0 + q]? = some cv ∧ _
      rw [hgt] at hv
      split at hv
      · rename_i h
        obtain ⟨cv, g1, g2⟩ := hrel _ v hv
        refine ⟨cv, ?_, g2⟩
        rw [e3, if_neg (by omega), b3, if_neg (by omega)]; exact g1
      · rename_i h
        split at hv
        · rename_i h2
          obtain ⟨cv, g1, g2⟩ := hrel _ v hv
          refine ⟨cv, ?_, g2⟩
          rw [e3, if_neg (by omega), b3, if_pos (by omega), hget _ (by omega), ← g1]
          congr 1
          omega
        · cases hv⟩ (by rw [t3, r3]; rfl) (by rw [t4, r4]; rfl) (by rw [t5, r5]; rfl)
  have hA' : (fun x => AA x ∨ x = nx) = (fun x => AA x ∨ x ∈ [nx]) := by funext x; simp
  simp only [hA'] at s' f'
  exact ⟨_, he, _, s', .slc nx 0 _ cap _ (.inr (by simp)) (by omega) (fun _ => by rw [if_pos rfl]; exact ⟨by show b0 + 0 + cap * (ρ g).sz ≤ (ρ g).tot; rw [hsz]; omega, rfl⟩), f'⟩
end Go.Proofs.YtiinnjjmoifoeaaGreatDoor
set_option maxRecDepth 8000
namespace Go.Proofs.YtiinnjjmoifoeaaGreatDoor
section
open Go Go.RowKit Go.Lib Go.Sort
set_option maxRecDepth 100000 in
set_option maxHeartbeats 4000000 in
theorem zyu (blk off cap n i j : Nat) (w W1 W2 : World) (hcap : n ≤ cap) (_hm : n ≤ 9223372036854775807) (hij : i < j) (hj : j ≤ n) (i0 : TypeInfo) (hi0 : Tryz.prog.info? 3 = some i0) (hz1 : i0.size = 1) (A : Addr)
    (hA : (if cap = j then some (⟨blk, off, none⟩ : Addr) else some ⟨blk, off + j, none⟩) = some A) (news : List Value) (hl : Hid (news.length = (n - j) * 1)) (hsrc : Hid (∀ t u, news[t]? = some u → w.drew.cell? (A.add t) = some u)) (s2 : Hid (∀ u ∈ news, u.oneCell' = true))
    (s3 : Hid (∀ t, t < news.length → (w.drew.cell? ⟨blk, off + i * 1 + t, none⟩).isSome = true ∧ w.drew.frozen? ⟨blk, off + i * 1 + t, none⟩ = false))
    (hW : Hid (W1 = w.drew.setCells blk (off + i * 1) news))
    (hcl : ∀ ty, (Builtin.clear_ #[44] ty #[.slice (some ⟨blk, off + (i + (n - j)), none⟩) (n - (i + (n - j))) (cap - (i + (n - j)))]).run Tryz.prog W1 = .ok (.tuple #[]) W2) :
    Calls Tryz.prog 54 #[.slice (some ⟨blk, off, none⟩) n cap, .int .i64 i, .int .i64 j] w fun e w' => e = .returned (.slice (some ⟨blk, off, none⟩) (i + (n - j)) cap) ∧ w' = W2 := by
  have hic : i ≤ cap := by omega
  have hjc : j ≤ cap := by omega
  have heq : ¬ i = j := by omega
  have t22 := Tryz.underlying44
  go_enter Tryz.func54, Tryz.ntmps54
  go_wp2_with fail
  go_region_law (refine step_append_room rfl (.tmp 22) (.tmp 25) 44 rfl 3 i0 1 t22 hi0 hz1 blk off i cap (by simp [Act.eval, Act.put]) A (n - j) (cap - j) news (by simp [Act.eval, Act.put]) hl.out hsrc.out s2.out (by omega) s3.out ?_; rw [← hW.out])
  go_wp2
  go_ret
  exact ⟨rfl, rfl⟩
end
open Go Go.RowKit
theorem zza (w : World) : (zeroValue 3).run Tryz.prog w = .ok (.int .i64 0) w := by
  kernel_rfl
theorem zzk : ∃ i0, Tryz.prog.info? 3 = some i0 ∧ i0.size = 1 :=
  ⟨(Tryz.prog.info? 3).get (by kernel_rfl), (Option.some_get _).symm, by kernel_rfl⟩
set_option maxRecDepth 20000 in
theorem zsz {g len i j nx : Nat} {cells : List AV} {H0 : Heap} (hg : H0 g = some (.row 1 cells)) (hl : len * 1 ≤ cells.length) (hij : i < j) (hj : j ≤ len) (hm : len ≤ 4611686018427387904) (hone : ∀ c ∈ cells, c.one = true) :
    LC Tryz.prog 54 [.slc g 0 len, .int .i64 i, .int .i64 j] H0 [g] [nx] [(g, none), (nx, some (.row 1 (cells.take (i * 1) ++ (cells.take (len * 1)).drop (j * 1))))] (.slc nx 0 (i + (len - j))) := by
  intro AA ρ H w cargs hB s ha hrd hfr
  have hg : H g = some (.row 1 cells) := (hrd g (by simp)).trans hg
  have hgs : (H g).isSome = true := by rw [hg]; rfl
  have hnx : ¬ AA nx := hfr nx (by simp)
  obtain ⟨c, el', lo, hi, q1, q2, q3, q4, q5, q6⟩ := s.obj g _ hg
  obtain ⟨cs, rfl, rs⟩ : ∃ cs, cargs = #[cs, .int .i64 i, .int .i64 j] ∧ VRel (Kof ρ H w) ρ AA (.slc g 0 len) cs := by
    obtain ⟨hlen, hg2⟩ := ha
    have hlen' : cargs.toList.length = 3 := hlen
    match he : cargs.toList, hlen' with
    | [a, b, d], _ =>
      have h0 := hg2 0 _ a rfl (by rw [he]; rfl)
      have h1 := hg2 1 _ b rfl (by rw [he]; rfl)
      have h2 := hg2 2 _ d rfl (by rw [he]; rfl)
      cases h1; cases h2
      exact ⟨a, Array.ext' (by rw [he]), h0⟩
  cases rs with
  | slc _ _ _ cap ad hA hlc hcap =>
  have hc0 : 0 < cap := by omega
  obtain ⟨hcb, rfl⟩ := hcap hc0
  have hsz : (ρ g).sz = 1 := q4.symm
  rw [hsz] at hcb
  simp only [Nat.add_zero] at hcb ⊢
  generalize hbl : (ρ g).block = blk at *
  generalize hb0 : (ρ g).base = b0 at *
  have hdc : w.drew.heap[blk]? = some (.cells c el' (lo, hi)) := q1
  obtain ⟨news, hnews⟩ : ∃ news, news = (c.toList.drop (b0 + j * 1)).take ((len - j) * 1) := ⟨_, rfl⟩
  have hnl : news.length = (len - j) * 1 := by rw [hnews, List.length_take, List.length_drop, Array.length_toList]; omega
  have hget : ∀ t, t < (len - j) * 1 → news[t]? = c[b0 + j * 1 + t]? := fun t ht => by rw [hnews, List.getElem?_take, if_pos ht, List.getElem?_drop, Array.getElem?_toList]
  have hcell : ∀ q, w.drew.cell? ⟨blk, q, none⟩ = c[q]? := fun q => by simp [World.cell?, hdc]
  have hrel : ∀ (q : Nat) v, cells[q]? = some v → ∃ cv, c[b0 + q]? = some cv ∧ VRel (Kof ρ H w) ρ AA v cv := q6
  have s2 : ∀ u ∈ news, u.oneCell' = true := fun u hu => by
    obtain ⟨t, ht⟩ := List.getElem?_of_mem hu
    have hlt := (List.getElem?_eq_some_iff.1 ht).1
    rw [hget t (by omega)] at ht
    have hm2 : cells[j * 1 + t]? = some (cells[j * 1 + t]'(by omega)) := List.getElem?_eq_getElem (by omega)
    obtain ⟨cv, g1, g2⟩ := hrel _ _ hm2
    rw [show b0 + (j * 1 + t) = b0 + j * 1 + t by omega, ht] at g1
    cases g1
    exact g2.one (hone _ (List.getElem_mem _))
  have hno : ∀ q, q < (ρ g).tot → w.drew.frozen? ⟨blk, q, none⟩ = false := fun q hq' => by
    simp only [World.frozen?, hdc]
    have := q2 q hq'
    simp; omega
  have hsome : ∀ q, q < c.size → (w.drew.cell? ⟨blk, q, none⟩).isSome = true := fun q hq' => by rw [hcell]; simp [hq']
  obtain ⟨A, hA, hsrc⟩ : ∃ A : Addr, (if cap = j then some (⟨blk, b0, none⟩ : Addr) else some ⟨blk, b0 + j, none⟩) = some A ∧ ∀ t u, news[t]? = some u → w.drew.cell? (A.add t) = some u := by
    by_cases h : cap = j
    · refine ⟨_, by rw [if_pos h], fun t u hu => ?_⟩
      have := (List.getElem?_eq_some_iff.1 hu).1
      omega
    · refine ⟨_, by rw [if_neg h], fun t u hu => ?_⟩
      have ht := (List.getElem?_eq_some_iff.1 hu).1
      rw [zaa, hcell, show b0 + j = b0 + j * 1 by omega, ← hget t (by omega)]; exact hu
  obtain ⟨i0, hi0, hz1⟩ := zzk
  obtain ⟨W1, hW⟩ : ∃ W1, W1 = w.drew.setCells blk (b0 + i * 1) news := ⟨_, rfl⟩
  obtain ⟨c1, b1, b2, b3⟩ := zak blk news (b0 + i * 1) w.drew c el' (lo, hi) hdc (by omega)
  obtain ⟨r1, r2, r3, r4, r5⟩ := zau blk news (b0 + i * 1) w.drew
  rw [← hW] at b1 r1 r2 r3 r4 r5
  obtain ⟨zs, hzs⟩ : ∃ zs, (Builtin.zeroCells (Value.cells (.int .i64 0)) (len - (i + (len - j)))).toList = zs := ⟨_, rfl⟩
  have zl : zs.length = (len - (i + (len - j))) * 1 := by rw [← hzs, Array.length_toList, zbr]; rfl
  obtain ⟨W2, hW2⟩ : ∃ W2, W2 = W1.setCells blk (b0 + (i + (len - j))) zs := ⟨_, rfl⟩
  have z1 : ∀ u ∈ zs, u.oneCell' = true := fun u hu => by
    rw [← hzs] at hu
    have key : ∀ q : Nat, q < 1 → ((Value.cells (.int .i64 0))[q]!).oneCell' = true := by decide
    simp only [Builtin.zeroCells, Array.toList_map, List.mem_map] at hu
    obtain ⟨q, _, rfl⟩ := hu
    exact key _ (Nat.mod_lt _ (by decide))
  have hcl : ∀ ty, (Builtin.clear_ #[44] ty #[.slice (some ⟨blk, b0 + (i + (len - j)), none⟩) (len - (i + (len - j))) (cap - (i + (len - j)))]).run Tryz.prog W1 = .ok (.tuple #[]) W2 := fun ty => by
    rw [hW2]
    refine zgc W1 _ 3 ty (.int .i64 0) Tryz.underlying44 zza blk _ _ _ (by omega) zs hzs z1 (fun q hq' => ?_) (fun q hq' => ?_)
    · simp [World.cell?, b1]; omega
    · simp only [World.frozen?, b1]
      have := q2 (b0 + (i + (len - j)) + q) (by omega)
      simp; omega
  obtain ⟨c2, e1, e2, e3⟩ := zak blk zs (b0 + (i + (len - j))) W1 c1 el' (lo, hi) b1 (by omega)
  obtain ⟨t1, t2, t3, t4, t5⟩ := zau blk zs (b0 + (i + (len - j))) W1
  rw [← hW2] at e1 t1 t2 t3 t4 t5
  have run := zyu blk b0 cap len i j w W1 W2 hlc (by omega) hij hj i0 hi0 hz1 A hA news hnl hsrc s2 (fun q hq' => ⟨hsome _ (by omega), hno _ (by omega)⟩) hW hcl
  have hcall : (callFunc 54 #[.slice (some ⟨blk, b0, none⟩) len cap, .int .i64 i, .int .i64 j]).run Tryz.prog w = .ok (.enter 54 #[.slice (some ⟨blk, b0, none⟩) len cap, .int .i64 i, .int .i64 j]) w := by
    have hf := Tryz.func54
    have hb : Tryz.f54.body = some (zw Tryz.f54) := by kernel_rfl
    have hname : (Tryz.f54.name == "runtime.NumGoroutine") = false := by kernel_rfl
    have hname' : ¬ Tryz.f54.name = "runtime.NumGoroutine" := by simpa using hname
    simp [callFunc, program, Sem.run_bind, Sem.run, hf, hname', hb, pure]
  rw [hcall]
  simp only [zh]
  refine run.mono fun e w' ⟨he, hw⟩ => ?_
  subst hw
  have hgt : ∀ q, (cells.take (i * 1) ++ (cells.take (len * 1)).drop (j * 1))[q]? = if q < i * 1 then cells[q]? else if q - i * 1 < (len - j) * 1 then cells[j * 1 + (q - i * 1)]? else none := fun q => by
    rw [List.getElem?_append, List.length_take, Nat.min_eq_left (by omega)]
    split
    · rw [List.getElem?_take, if_pos (by assumption)]
    · rw [List.getElem?_drop, List.getElem?_take]
      by_cases h : q - i * 1 < (len - j) * 1
      · rw [if_pos h, if_pos (by omega)]
      · rw [if_neg h, if_neg (by omega)]
  obtain ⟨s', f'⟩ := s.move (w' := w') (g := g) (g' := nx) hgs hnx (.row 1 (cells.take (i * 1) ++ (cells.take (len * 1)).drop (j * 1))) ⟨blk, b0, (ρ g).tot, (ρ g).sz⟩ hbl.symm (fun b hb => by rw [hbl] at hb; rw [t1 b hb, r1 b hb]; rfl) (by rw [t2, r2]; exact Nat.le_refl _)
    ⟨c2, el', lo, hi, e1, q2, by show c2.size = (ρ g).tot; omega, hsz.symm, by show b0 + _ ≤ (ρ g).tot; simp only [List.length_append, List.length_take, List.length_drop]; omega, fun q v hv => by
      show ∃ cv, c2[b0 + q]? = some cv ∧ _
      rw [hgt] at hv
      split at hv
      · rename_i h
        obtain ⟨cv, g1, g2⟩ := hrel _ v hv
        refine ⟨cv, ?_, g2⟩
        rw [e3, if_neg (by omega), b3, if_neg (by omega)]; exact g1
      · rename_i h
        split at hv
        · rename_i h2
          obtain ⟨cv, g1, g2⟩ := hrel _ v hv
          refine ⟨cv, ?_, g2⟩
          rw [e3, if_neg (by omega), b3, if_pos (by omega), hget _ (by omega), ← g1]
          congr 1
          omega
        · cases hv⟩ (by rw [t3, r3]; rfl) (by rw [t4, r4]; rfl) (by rw [t5, r5]; rfl)
  have hA' : (fun x => AA x ∨ x = nx) = (fun x => AA x ∨ x ∈ [nx]) := by funext x; simp
  simp only [hA'] at s' f'
  exact ⟨_, he, _, s', .slc nx 0 _ cap _ (.inr (by simp)) (by omega) (fun _ => by rw [if_pos rfl]; exact ⟨by show b0 + 0 + cap * (ρ g).sz ≤ (ρ g).tot; rw [hsz]; omega, rfl⟩), f'⟩
end Go.Proofs.YtiinnjjmoifoeaaGreatDoor
set_option maxRecDepth 8000
namespace Go.Proofs.YtiinnjjmoifoeaaGreatDoor
open Go Go.RowKit
theorem QC.nz {P : Program} {f : FuncId} {args : List AV} (h : ∀ H nx, zb P f args H nx fun v H' _ => (v = .nils ∨ v = .zs) ∧ Keep nx H' H) : QC P f args .zs := by
  intro H nx
  have h1 : zb P f args H nx fun v H' nx' => (v = .nils ∨ v = .zs) ∧ H' = H ∧ nx' = nx := by
    refine zb.tidy fun hlive => ?_
    refine (zb.gc (R := fun v H' => (v = .nils ∨ v = .zs) ∧ H' = H) (h H nx) fun v H' nx' ⟨h1, h2⟩ => ⟨v, H, ⟨h1, rfl⟩, .same v (by rcases h1 with rfl | rfl; exact .nils; exact .zs), fun g o ho => ⟨hlive g o ho, by rw [h2 g (hlive g o ho)]; exact ho, .inl ho⟩⟩).mono fun v H' nx' ⟨⟨a, b⟩, c⟩ => ⟨a, b, c⟩
  intro ρ w cargs s ha
  refine zm (h1 ρ w cargs s ha) fun cv w' ⟨v, H', nx', ρ', ⟨q1, q2, q3⟩, q4, q5, q6⟩ => ⟨.zs, H', nx', ρ', ⟨rfl, q2, q3⟩, q4, ?_, q6⟩
  rcases q1 with rfl | rfl
  · cases q5; exact .zs none
  · exact q5
def zbh (sz by_ : Nat) (a0 : AV) (H : Heap) (nx : Nat) (Q : QT) : Prop :=
 BL .eql a0 .nils fun v1 =>
 CNDC v1
 (Q .nils H nx)
 (PUTH H nx (.row sz []) fun H2 =>
 APP sz by_ .zs a0 H2 (nx + 1) fun v3 H4 nx5 =>
 Q v3 H4 nx5)
theorem zuq {f sz by_ : Nat} (h : ∀ (a0 : AV) (H : Heap) (nx : Nat) (Q : QT), zbh sz by_ a0 H nx Q → zb Tryz.prog f [a0] H nx Q) : QC Tryz.prog f [.ro []] .zs := by
  refine QC.nz fun H nx => h _ H nx _ ?_
  unfold zbh BL BINL
  simp only [zt, CNDC, qk, PURE]
  refine ⟨fun _ => ⟨⟨.inl (by trivial), by simp [Keep]⟩, ?_⟩, fun h => absurd rfl h⟩
  simp only [PUTH, APP, zad, ze, List.all_nil, if_true, List.length_nil, List.flatten_nil, true_and]
  exact ⟨fun _ => ⟨.inr (by trivial), fun g hg => Heap.put_ne _ _ (by omega)⟩, fun h => absurd rfl h⟩
theorem zde {f sz by_ : Nat} (h : ∀ (a0 : AV) (H : Heap) (nx : Nat) (Q : QT), zbh sz by_ a0 H nx Q → zb Tryz.prog f [a0] H nx Q) {a : AV} (ha : (∃ g o, a = .slc g o 0) ∨ a = .zs ∨ a = .ro []) (H : Heap) : LC Tryz.prog f [a] H [] [] [] .zs := by
  have hl := LC.of_qc (zuq h) .zs H
  intro A ρ Hm w cargs hB s hr hrd hfr
  refine hl A ρ Hm w cargs hB s ⟨hr.1, fun j v c hv hc => ?_⟩ hrd hfr
  cases j with
  | succ j => simp at hv
  | zero =>
    simp at hv
    subst hv
    have := hr.2 0 a c rfl hc
    rcases ha with ⟨g, o, rfl⟩ | rfl | rfl
    · cases this with
      | slc _ _ _ cap ad h1 h2 h3 => exact .ro [] ad 0 cap 0 0 0 (fun _ _ => undef) rfl (Nat.zero_le _) (fun h => absurd rfl h) (fun x hx => by cases hx) (fun i x j v hx => by simp at hx) (fun i x j v hx => by simp at hx)
    · cases this with
      | zs ad => exact .ro [] ad 0 0 0 0 0 (fun _ _ => undef) rfl (Nat.le_refl _) (fun h => absurd rfl h) (fun x hx => by cases hx) (fun i x j v hx => by simp at hx) (fun i x j v hx => by simp at hx)
    · exact this
def zqw : List Nat := [81, 82, 79, 80, 42, 43]
theorem zzu (a0 : AV) (H : Heap) (nx : Nat) (Q : QT) : zbh 3 32 a0 H nx Q → zb Tryz.prog 81 [a0] H nx Q :=
  zn (lv := lvOf []) (c := zw Tryz.f81) zgx zhd mixed Tryz.func81 (by kernel_rfl) (by kernel_rfl) (by kernel_rfl) (by kernel_rfl) (by kernel_rfl)
theorem zzt (a0 : AV) (H : Heap) (nx : Nat) (Q : QT) : zbh 6 64 a0 H nx Q → zb Tryz.prog 82 [a0] H nx Q :=
  zn (lv := lvOf []) (c := zw Tryz.f82) zgx zhd mixed Tryz.func82 (by kernel_rfl) (by kernel_rfl) (by kernel_rfl) (by kernel_rfl) (by kernel_rfl)
theorem zzs (a0 : AV) (H : Heap) (nx : Nat) (Q : QT) : zbh 3 24 a0 H nx Q → zb Tryz.prog 79 [a0] H nx Q :=
  zn (lv := lvOf []) (c := zw Tryz.f79) zgx zhd mixed Tryz.func79 (by kernel_rfl) (by kernel_rfl) (by kernel_rfl) (by kernel_rfl) (by kernel_rfl)
theorem zzr (a0 : AV) (H : Heap) (nx : Nat) (Q : QT) : zbh 1 16 a0 H nx Q → zb Tryz.prog 80 [a0] H nx Q :=
  zn (lv := lvOf []) (c := zw Tryz.f80) zgx zhd mixed Tryz.func80 (by kernel_rfl) (by kernel_rfl) (by kernel_rfl) (by kernel_rfl) (by kernel_rfl)
theorem zzq (a0 : AV) (H : Heap) (nx : Nat) (Q : QT) : zbh 1 8 a0 H nx Q → zb Tryz.prog 42 [a0] H nx Q :=
  zn (lv := lvOf []) (c := zw Tryz.f42) zgx zhd mixed Tryz.func42 (by kernel_rfl) (by kernel_rfl) (by kernel_rfl) (by kernel_rfl) (by kernel_rfl)
theorem zzp (a0 : AV) (H : Heap) (nx : Nat) (Q : QT) : zbh 3 24 a0 H nx Q → zb Tryz.prog 43 [a0] H nx Q :=
  zn (lv := lvOf []) (c := zw Tryz.f43) zgx zhd mixed Tryz.func43 (by kernel_rfl) (by kernel_rfl) (by kernel_rfl) (by kernel_rfl) (by kernel_rfl)
noncomputable def orcX (f : Nat) (args : List AV) : Option AV := match Nat.beq f 153 with
  | true => match args with
    | [.str s] => match Nat.ble s.length 100000 with | true => some (zmd s) | false => none
    | _ => none
  | false => match Nat.beq f 14 with
    | true => match args with
      | [.int .i64 n] => match !iLt n (-9223372036854775808) && !iLt 9223372036854775807 n with | true => some (.str (Lib.itoa n)) | false => none
      | _ => none
    | false => match zqw.any (Nat.beq f) with
      | true => match args with
        | [.slc _ _ 0] | [.zs] | [.ro []] => some .zs
        | _ => none
      | false => none
theorem zxl (s : List UInt8) : Bel (fun _ => False) (zmd s) := by
  unfold zmd
  split
  · exact .tup _ fun j v hv => by match j with
                                  | 0 => simp at hv; subst hv; exact .int _ _
                                  | 1 => simp at hv; subst hv; exact .inil
                                  | j + 2 => simp at hv
  · exact .tup _ fun j v hv => by match j with
                                  | 0 => simp at hv; subst hv; exact .int _ _
                                  | 1 => simp at hv; subst hv; exact .ifc
                                  | j + 2 => simp at hv
  · exact .tup _ fun j v hv => by match j with
                                  | 0 => simp at hv; subst hv; exact .int _ _
                                  | 1 => simp at hv; subst hv; exact .ifc
                                  | j + 2 => simp at hv
theorem zyk : zyb Tryz.prog orcX := by
  intro f args v h H
  unfold orcX at h
  split at h
  · rename_i hf
    rw [Nat.beq_eq] at hf
    subst hf
    split at h
    · split at h
      · rename_i hl
        cases h
        exact LC.of_qc (zyy _ (by have := Nat.le_of_ble_eq_true hl; omega)) (zxl _) H
      · cases h
    · cases h
  · split at h
    · rename_i hf
      rw [Nat.beq_eq] at hf
      subst hf
      split at h
      · split at h
        · rename_i hl
          cases h
          simp only [zoy, Bool.and_eq_true, Bool.not_eq_true', decide_eq_false_iff_not] at hl
          exact LC.of_qc (zyq _ (by omega) (by omega)) (.str _) H
        · cases h
      · cases h
    · split at h
      · rename_i hf
        simp only [zqw, List.any_cons, List.any_nil, Bool.or_false, Bool.or_eq_true, Nat.beq_eq] at hf
        have fin : ∀ a : AV, (∃ g o, a = .slc g o 0) ∨ a = .zs ∨ a = .ro [] → LC Tryz.prog f [a] H [] [] [] .zs := fun a ha => by
          rcases hf with rfl | rfl | rfl | rfl | rfl | rfl
          · exact zde zzu ha H
          · exact zde zzt ha H
          · exact zde zzs ha H
          · exact zde zzr ha H
          · exact zde zzq ha H
          · exact zde zzp ha H
        split at h
        · cases h; exact fin _ (.inl ⟨_, _, rfl⟩)
        · cases h; exact fin _ (.inr (.inl rfl))
        · cases h; exact fin _ (.inr (.inr rfl))
        · cases h
      · cases h
noncomputable def delX (sz : Nat) (args : List AV) (H : HB) (nx : Nat) : Option XR := match args with
  | [.slc g 0 len, .int .i64 i, .int .i64 j] => match i, j with
    | .ofNat i, .ofNat j => match H.get g with
      | some (.row s cells) => match Nat.beq s sz && Nat.ble (len * sz) cells.length && Nat.blt i j && Nat.ble j len && Nat.ble len 100000 && cells.all AV.one with
        | true => some (.slc nx 0 (i + (len - j)), [g], [nx], [(g, none), (nx, some (.row sz (cells.take (i * sz) ++ (cells.take (len * sz)).drop (j * sz))))])
        | false => none
      | _ => none
    | _, _ => none
  | _ => none
noncomputable def zsh (f : Nat) (args : List AV) (H : HB) (nx : Nat) : Option XR := match Nat.beq f 53 with
  | true => delX 9 args H nx
  | false => match Nat.beq f 54 with
    | true => delX 1 args H nx
    | false => none
theorem znm {sz : Nat} {args : List AV} {H : HB} {nx : Nat} {v : AV} {rd fr : List Nat} {D : zi} (h : delX sz args H nx = some (v, rd, fr, D)) : ∃ g len i j cells, args = [.slc g 0 len, .int .i64 (i : Nat), .int .i64 (j : Nat)] ∧ toH H g = some (.row sz cells) ∧
    len * sz ≤ cells.length ∧ i < j ∧ j ≤ len ∧ len ≤ 4611686018427387904 ∧ (∀ c ∈ cells, c.one = true) ∧ v = .slc nx 0 (i + (len - j)) ∧ rd = [g] ∧ fr = [nx] ∧ D = [(g, none), (nx, some (.row sz (cells.take (i * sz) ++ (cells.take (len * sz)).drop (j * sz))))] := by
  unfold delX at h
  split at h
  · rename_i g len i j
    split at h
    · rename_i i j
      split at h
      · rename_i s cells hg
        split at h
        · rename_i hc
          simp only [Bool.and_eq_true, Nat.beq_eq, Nat.ble_eq, Nat.blt_eq, List.all_eq_true] at hc
          obtain ⟨⟨⟨⟨⟨rfl, h1⟩, h2⟩, h3⟩, h4⟩, h5⟩ := hc
          cases h
          exact ⟨g, len, i, j, cells, rfl, hg, h1, h2, h3, by omega, h5, rfl, rfl, rfl, rfl⟩
        · cases h
      · cases h
    · cases h
  · cases h
theorem zvz : zva Tryz.prog zsh := by
  intro f args H nx v rd fr D h
  unfold zsh at h
  split at h
  · rename_i hf
    rw [Nat.beq_eq] at hf
    subst hf
    obtain ⟨g, len, i, j, cells, rfl, h1, h2, h3, h4, h5, h6, rfl, rfl, rfl, rfl⟩ := znm h
    exact ⟨.inr rfl, zta h1 h2 h3 h4 h5 h6⟩
  · split at h
    · rename_i hf
      rw [Nat.beq_eq] at hf
      subst hf
      obtain ⟨g, len, i, j, cells, rfl, h1, h2, h3, h4, h5, h6, rfl, rfl, rfl, rfl⟩ := znm h
      exact ⟨.inr rfl, zsz h1 h2 h3 h4 h5 h6⟩
    · cases h
def wfF (P : Program) (f : Nat) : Bool := match P.funcs[f]? with
  | some fn => match fn.body with
    | some c => wfC fn.ntmps c && !(fn.name == "runtime.NumGoroutine")
    | none => true
  | none => true
def okX (f : Nat) : Bool := Nat.blt f 400
theorem zaad : (List.range 400).all (wfF Tryz.prog) = true := by kernel_rfl
theorem zzh : FnOk Tryz.prog okX := by
  intro f fn c h hf hc
  have := List.all_eq_true.1 zaad f (List.mem_range.2 (by simpa [okX] using h))
  unfold wfF at this
  rw [hf] at this
  simp only [hc, Bool.and_eq_true, Bool.not_eq_true'] at this
  exact this
noncomputable def ztc (n : Nat) : XCl := xfun tab eqsT Tryz.prog okX orcX zsh n
theorem zxi (n : Nat) : zcu Tryz.prog (ztc n) := zqm zcg zcz mixed zyk zvz zzh n
def zmr (x : Option (AV × HB × Nat)) : Bool := match x with
  | some (.bool b, _, _) => b
  | _ => false
theorem QC.runs {n : Nat} {f : FuncId} (h : zmr (ztc n f [] .nil 0) = true) : QC Tryz.prog f [] (.bool true) := by
  unfold zmr at h
  split at h
  · rename_i b H' nx' e
    subst h
    exact QC.closed (zxi n) e (by simp)
  · cases h
end Go.Proofs.YtiinnjjmoifoeaaGreatDoor
set_option maxRecDepth 100000
namespace Go.Proofs.YtiinnjjmoifoeaaGreatDoor
open Go Go.RowKit
theorem zpq : zmr (ztc 60 6 [] .nil 0) = true := by kernel_rfl
theorem ztg : QC Tryz.prog 6 [] (.bool true) := QC.runs zpq
end Go.Proofs.YtiinnjjmoifoeaaGreatDoor
