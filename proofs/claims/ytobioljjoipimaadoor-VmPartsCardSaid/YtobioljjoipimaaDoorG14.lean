/- What a run comes to is so: where the order is drawn. What a run comes to is so: a function. strconv.Atoi: a word's number, and whether it is one. What is known of functions of Go's library, and of slices.Clone of what is empty, for runs. The closed question of the laws of chapter 7: run. The laws of chapter 7: step by step as at once; nothing is free. The library's laid variables, where a row lists five of them: three tables, two errors. -/
import Derived.Test.YtobioljjoipimaaDoorG13
import Derived.Test.YtobioljjoipimaaDoorG6
import Derived.Test.YtobioljjoipimaaDoorG9
import Derived.Test.YtobioljjoipimaaDoorG5
import Derived.Test.YtobioljjoipimaaDoorG12
import Derived.Test.YtobioljjoipimaaDoorG1
import Derived.Stop.LaidErr
set_option linter.unusedSimpArgs false
set_option linter.unusedVariables false
set_option maxRecDepth 8000
namespace Go.Proofs.YtobioljjoipimaaDoor
open Go Go.RowKit
def zjv (r : Rec) : Rec := { r with env := fun _ => .junk, H := fun _ => none }
section
variable {P : Program} {T : Nat → Option AT} {eqs : Nat → Bool} (hT : TOk P T) (hE : EOk P T eqs)
variable {A0 : Nat → Prop} {ρ0 : Nat → Loc} {Hi : Heap} {w0 : World} {X : HB} {n0 nE N : Nat}
theorem EffB.at {o : Oper} {e : Operand → AV} {H H1 : Heap} {rd fr : List Nat} {D : zj} {v : AV} (h : EffB P o e H rd fr D v) (hr : ∀ g ∈ rd, H1 g = H g) : EffB P o e H1 rd fr D v :=
  fun A ρ Hm w ev hB s hx hrd hf => h A ρ Hm w ev hB s hx (fun g hg => (hrd g hg).trans (hr g hg)) hf
theorem zln.at {o : Oper} {e : Operand → AV} {H H1 : Heap} {rd fr : List Nat} {D : zj} {v : AV} {pt : Option AV} (h : zln P o e H rd fr D v pt) (hr : ∀ g ∈ rd, H1 g = H g) : zln P o e H1 rd fr D v pt := by
  intro g q e
  obtain ⟨h1, h2, h3, h4, h5⟩ := h g q e
  exact ⟨h1, h2, h3, by rw [hr g (by rw [h1]; simp)]; exact h4, h5⟩
include hT hE in
theorem zahd {o : Oper} {env : Env} {H : Heap} {nx : Nat} {v : AV} {rd fr : List Nat} {D : zj} (h : xaop T eqs env.ev H nx o = some (v, rd, fr, D)) :
    (fr = [] ∨ fr = [nx]) ∧ EffB P o env.ev H rd fr D v ∧ (noW o = true → fr = [] ∧ D = []) ∧ zln P o env.ev H rd fr D v (ptOf T env.ev o) := by
  obtain ⟨v', rd', fr', D', h1, h2, h3, h4⟩ := znw hT hE (zyx T eqs _ _ _ _ h (fun v' rd' fr' D' => v' = v ∧ rd' = rd ∧ fr' = fr ∧ D' = D) ⟨rfl, rfl, rfl, rfl⟩)
  obtain ⟨rfl, rfl, rfl, rfl⟩ := h3
  refine ⟨h1, fun A ρ H w ev _ s hx hr hf => h2 A ρ H w ev s hx hr hf, h4, fun g q hp => ?_⟩
  unfold ptOf at hp
  split at hp
  · rename_i t x hop
    split at hp
    · rename_i a hta
      split at hp
      · rename_i hag
        have hp := Option.some.inj hp
        obtain ⟨i, d, z, hat⟩ := hT.at hta
        have any : ∀ {H1 : Heap} {s : Nat} {cs : List AV} {v : AV}, H1 g = some (.row s cs) → cs[q]? = some v → EffB P o env.ev H1 [g] [] [] v := by
          intro H1 s cs v hg hv
          obtain ⟨v', rd', he, rfl, rfl⟩ := zsh (H0 := H1) (e := env.ev) (k := fun v' rd' _ _ => v' = v ∧ rd' = [g]) hat hop (by
            simp only [hp, LOAD, rdp, hg, ldv, hag, cond_false, hv, and_self])
          exact fun A ρ H w ev _ s hx hr hf => he A ρ H w ev s hx hr hf
        simp only [xaop, hop, hta, zqe, hp] at h
        cases hg : H g with
        | none => simp only [rdp, hg] at h; cases h
        | some ob =>
          cases ob with
          | mp es => simp only [rdp, hg] at h; cases h
          | it a b c => simp only [rdp, hg] at h; cases h
          | row s cs =>
            simp only [rdp, hg, ldv, hag, cond_false] at h
            cases hv : cs[q]? with
            | none => simp only [hv] at h; cases h
            | some u =>
              simp only [hv] at h
              cases h
              exact ⟨rfl, rfl, rfl, ⟨s, cs, by first | rfl | exact hg, hv⟩, fun H1 ⟨s', cs', h1, h2⟩ => any h1 h2⟩
      · cases hp
    · cases hp
  · cases hp
theorem ziv {H : HB} : ∀ {rs : List Nat} {g : Nat}, isH (zbd H rs) g = true → g ∈ rs ∧ toH (zbd H rs) g = toH H g
  | [], g, h => by simp [zbd, isH, Tr.get_nil] at h
  | x :: r, g, h => by
    unfold zbd at h ⊢
    cases hx : H.get x with
    | none =>
      rw [hx] at h
      obtain ⟨h1, h2⟩ := ziv h
      exact ⟨List.mem_cons_of_mem _ h1, h2⟩
    | some o =>
      simp only [hx] at h ⊢
      obtain ⟨ob, h'⟩ := zjj.1 h
      rw [ztz] at h' ⊢
      by_cases hg : g = x
      · subst hg
        exact ⟨by simp, by rw [Heap.put_at]; exact hx.symm⟩
      · rw [Heap.put_ne _ _ hg] at h' ⊢
        obtain ⟨h1, h2⟩ := ziv (zjj.2 ⟨ob, h'⟩)
        exact ⟨List.mem_cons_of_mem _ h1, h2⟩
theorem zvn {H H' : HB} : ∀ {rs : List Nat}, (∀ p ∈ zdw H H' rs, p.2 = toH H' p.1) ∧ (∀ g ∈ domD (zdw H H' rs), isH H g = true ∨ isH H' g = true) ∧ ∀ g ∈ rs, g ∉ domD (zdw H H' rs) → toH H g = toH H' g
  | [] => ⟨fun p hp => (by cases hp), fun g hg => (by simp [zdw, domD] at hg), fun g hg => (by cases hg)⟩
  | x :: r => by
    obtain ⟨h1, h2, h3⟩ := zvn (H := H) (H' := H') (rs := r)
    unfold zdw
    simp only
    cases he : obEq (H.get x) (H'.get x) with
    | true =>
      refine ⟨h1, h2, fun g hg hn => ?_⟩
      rcases List.mem_cons.1 hg with rfl | hg
      · exact zaid he
      · exact h3 g hg hn
    | false =>
      refine ⟨fun p hp => ?_, fun g hg => ?_, fun g hg hn => ?_⟩
      · rcases List.mem_cons.1 hp with rfl | hp
        · rfl
        · exact h1 p hp
      · simp only [domD, List.map_cons, List.mem_cons] at hg
        rcases hg with rfl | hg
        · by_cases ha : isH H g = true
          · exact .inl ha
          · by_cases hb : isH H' g = true
            · exact .inr hb
            · have e1 : H.get g = none := zgj ha
              have e2 : H'.get g = none := zgj hb
              rw [e1, e2] at he
              cases he
        · exact h2 g hg
      · simp only [domD, List.map_cons, List.mem_cons, not_or] at hn
        rcases List.mem_cons.1 hg with rfl | hg
        · exact absurd rfl hn.1
        · exact h3 g hg hn.2
theorem znm : ∀ {n nx g : Nat}, g ∈ zck nx n ↔ nx ≤ g ∧ g < nx + n
  | 0, nx, g => by simp [zck]
  | n + 1, nx, g => by
    simp only [zck, List.mem_cons, znm]
    omega
theorem ztc : ∀ (n nx : Nat), (zck nx n).length = n
  | 0, _ => rfl
  | n + 1, nx => by simp [zck, ztc n]
theorem zaca {D : zj} {f : Heap} (h : ∀ p ∈ D, p.2 = f p.1) : ∀ {H : Heap} {g : Nat}, g ∈ domD D → H.apply D g = f g := by
  induction D with
  | nil => intro H g hg; cases hg
  | cons p r ih =>
    intro H g hg
    obtain ⟨x, o⟩ := p
    simp only [domD, List.map_cons, List.mem_cons] at hg
    show ((H.put x o).apply r) g = f g
    by_cases hr : g ∈ domD r
    · exact ih (fun p hp => h p (List.mem_cons_of_mem _ hp)) hr
    · rw [zbn r _ g hr]
      rcases hg with rfl | hg
      · rw [Heap.put_at]; exact h (g, o) (by simp)
      · exact absurd hg hr
theorem zacg {call : XCl} (hcall : zeu P call) {o : Oper} {e : Operand → AV} {f : Nat} {args : List AV} (hx : xcal o e = some (f, args)) {H : HB} {nx : Nat} {v : AV} {rd fr : List Nat} {D : zj} (h : zwm call f args H nx = some (v, rd, fr, D)) :
    (∀ g, g ∈ fr ↔ nx ≤ g ∧ g < nx + fr.length) ∧ EffB P o e (toH H) rd fr D v := by
  unfold zwm at h
  simp only at h
  split at h
  · rename_i v1 H1 nx1 hc
    simp only [Option.some.injEq, Prod.mk.injEq] at h
    obtain ⟨rfl, rfl, rfl, rfl⟩ := h
    generalize hrs : zmd H 1000 (args.foldl (fun l v => zpl 3 v l) []) [] = rs at hc ⊢
    have d := fun ev => Does.call hcall hx hc ev
    have hle := (d fun _ => undef).le
    have hdom := (d fun _ => undef).dom
    have e1 : ∀ g, g ∈ zck nx (nx1 - nx) ↔ nx ≤ g ∧ g < nx1 := fun g => by rw [znm]; omega
    refine ⟨fun g => by rw [ztc]; rw [znm], fun A ρ Hm w ev hB s hxx hrd hfr => ?_⟩
    have hag : ∀ g, isH (zbd H rs) g = true → Hm g = toH (zbd H rs) g := fun g hg => by
      obtain ⟨h1, h2⟩ := ziv hg
      rw [hrd g h1, h2]
    refine zm ((d ev).run A ρ Hm w hB s hxx hag fun g h1 h2 => hfr g ((e1 g).2 ⟨h1, h2⟩)) fun cv w' ⟨ρ', q1, q2, q3⟩ => ?_
    have hA : (fun g => A g ∨ nx ≤ g ∧ g < nx1) = (fun x => A x ∨ x ∈ zck nx (nx1 - nx)) := by funext g; rw [e1]
    obtain ⟨m1, m2, m3⟩ := zvn (H := zbd H rs) (H' := H1) (rs := rs)
    have hH : mix Hm (zbd H rs) nx nx1 H1 = Hm.apply (zdw (zbd H rs) H1 rs ++ (zck nx (nx1 - nx)).map fun g => (g, H1.get g)) := by
      funext g
      have told : ∀ p ∈ zdw (zbd H rs) H1 rs ++ (zck nx (nx1 - nx)).map fun g => (g, H1.get g), p.2 = toH H1 p.1 := fun p hp => by
        rcases List.mem_append.1 hp with hp | hp
        · exact m1 p hp
        · obtain ⟨x, _, rfl⟩ := List.mem_map.1 hp; rfl
      have hdm : ∀ g, g ∈ domD (zdw (zbd H rs) H1 rs ++ (zck nx (nx1 - nx)).map fun g => (g, H1.get g)) ↔ g ∈ domD (zdw (zbd H rs) H1 rs) ∨ (nx ≤ g ∧ g < nx1) := fun g => by
        rw [← e1]
        simp [domD]
      by_cases hg : g ∈ domD (zdw (zbd H rs) H1 rs ++ (zck nx (nx1 - nx)).map fun g => (g, H1.get g))
      · rw [zaca (f := toH H1) told hg, zbw]
        rcases (hdm g).1 hg with h | h
        · rcases m2 g h with h | h
          · exact .inl h
          · exact hdom g h
        · exact .inr h
      · rw [zbn _ _ _ hg]
        rw [hdm, not_or] at hg
        by_cases ht : Tk (zbd H rs) nx nx1 g
        · rw [zbw ht]
          rcases ht with ht | ht
          · rw [hag g ht]
            exact (m3 g (ziv ht).1 hg.1).symm
          · exact absurd ht hg.2
        · rw [zdv ht]
    rw [hA, hH] at q1 q2 q3
    exact ⟨ρ', q1, q2, q3⟩
  · cases h
include hT hE in
theorem zacf {call : XCl} (hcall : zeu P call) {o : Oper} {E : EB} {H : HB} {nx : Nat} {v : AV} {rd fr : List Nat} {D : zj} (h : zsn T eqs call o E H nx = some (v, rd, fr, D)) :
    FrOk nx fr ∧ (∀ g, g ∈ fr ↔ nx ≤ g ∧ g < nx + fr.length) ∧ EffB P o (toE E).ev (toH H) rd fr D v ∧ (noW o = true → fr = [] ∧ D = []) ∧ zln P o (toE E).ev (toH H) rd fr D v (ptOf T (toE E).ev o) := by
  unfold zsn at h
  split at h
  · rename_i hcl
    split at h
    · rename_i f args hx
      obtain ⟨h1, h2⟩ := zacg hcall hx h
      have hop : ∃ c, o.op = .call c := by
        unfold isCl at hcl
        split at hcl
        · exact ⟨_, by assumption⟩
        · cases hcl
      obtain ⟨c, hop⟩ := hop
      exact ⟨.inr (.inr fun g hg => (h1 g).1 hg), h1, h2, fun hn => by simp [noW, hop] at hn, fun g q e => by simp [ptOf, hop] at e⟩
    · cases h
  · obtain ⟨h1, h2, h3, h4⟩ := zahd hT hE h
    exact ⟨.of h1, zadf h1, h2, h3, h4⟩
theorem zadc {H : HB} {D : zj} (hD : ∀ g ∈ domD D, Tk X n0 nE g) : (mix Hi X n0 nE H).apply D = mix Hi X n0 nE (zfr D H) := by
  funext g
  by_cases ht : Tk X n0 nE g
  · rw [zbw ht, zmb]
    exact zfw D _ _ g (.inl (zbw ht))
  · rw [zdv ht, zbn D _ g fun h => ht (hD g h), zdv ht]
include hT hE in
theorem zrq {β : Type} {call : XCl} (hcall : zeu P call) {all : List Oper} : ∀ (rest : List Oper) (kn : zat) (E : EB) (H : HB) (nx : Nat) (log : List Rec) (c : EB → HB → Nat → List Rec → Option β) (r : β), zmp T eqs call all rest kn E H nx log c = some r → KnOk kn (toE E) →
    ∃ L E' H' nx', c E' H' nx' (log ++ L.map zjv) = some r ∧ zaw H nx H' nx' ∧ (nx' ≤ nE → n0 ≤ nx → (∀ g, isH H g = true → Tk X n0 nx g) → zfy P all rest L (toE E) (mix Hi X n0 nE H) nx (toE E') (mix Hi X n0 nE H') nx')
  | [], kn, E, H, nx, log, c, r, h, _ => ⟨[], E, H, nx, by rw [List.map_nil, List.append_nil]; exact h, zaw.refl H nx, fun _ _ _ => ⟨rfl, rfl, rfl⟩⟩
  | o :: rest, kn, E, H, nx, log, c, r, h, hkn => by
    have run : ∀ kn1, KnOk kn1 (toE E) → (o.guard = none ∨ ∃ j want t, o.guard = some (j, want) ∧ gdst all j = some t ∧ toE E t = .bool want) →
        (match zsn T eqs call o E H nx with
          | some (v, rd, fr, D) => match chkD H rd fr D with
            | true => fV v fun v => putD D H fun H' => fN (nx + fr.length) fun nx' => putE E o.dst v fun E' => zmp T eqs call all rest (zbm o.dst kn1) E' H' nx' (log ++ [⟨v, rd, fr, D, false, fun _ => .junk, fun _ => none, ptOf T (toE E).ev o, isCl o⟩]) c
            | false => none
          | none => none) = some r →
        ∃ L E' H' nx', c E' H' nx' (log ++ L.map zjv) = some r ∧ zaw H nx H' nx' ∧ (nx' ≤ nE → n0 ≤ nx → (∀ g, isH H g = true → Tk X n0 nx g) → zfy P all (o :: rest) L (toE E) (mix Hi X n0 nE H) nx (toE E') (mix Hi X n0 nE H') nx') := by
      intro kn1 hk1 hg hs
      split at hs
      · rename_i v rd fr D hx
        split at hs
        · rename_i hck
          rw [zte, zqh, zwf, zqf] at hs
          obtain ⟨h1, h2, h3, h4, h5⟩ := zacf hT hE hcall hx
          obtain ⟨c1, c2⟩ := zvq hck
          obtain ⟨L, E', H', nx', q1, q2, q3⟩ := zrq hcall rest _ _ _ _ _ c r hs (by rw [zds]; exact hk1.drop o.dst v)
          have d := (Does.eff h3 h2 hck fun _ => undef)
          refine ⟨⟨v, rd, fr, D, false, toE E, mix Hi X n0 nE H, ptOf T (toE E).ev o, isCl o⟩ :: L, E', H', nx', by simpa [zjv] using q1, zaw.trans ⟨d.le, d.dom⟩ q2, fun hn hn0 hdm => ?_⟩
          have hle2 := q2.1
          have hrd : ∀ g ∈ rd, mix Hi X n0 nE H g = toH H g := fun g hg => zbw ((hdm g (c1 g hg)).mono (by omega))
          have hDk : ∀ g ∈ domD D, Tk X n0 nE g := fun g hg => by
            rcases c2 g hg with h | h
            · exact (hdm g h).mono (by omega)
            · have := (h2 g).1 h
              exact .inr ⟨by omega, by omega⟩
          refine ⟨rfl, rfl, ⟨h1, h4, ?_⟩, ?_⟩
          · simp only [Bool.false_eq_true, if_false]
            exact ⟨h3.at hrd, h5.at hrd, hg⟩
          · have := q3 hn (by omega) fun g hg => ?_
            · rw [zds, ← zadc hDk] at this
              exact this
            · rcases d.dom g hg with h | h
              · exact (hdm g h).mono (by omega)
              · exact .inr ⟨by omega, h.2⟩
        · cases hs
      · cases hs
    have skip : ∀ kn1, KnOk kn1 (toE E) → (∃ j want t, o.guard = some (j, want) ∧ gdst all j = some t ∧ (toE E t = .und ∨ toE E t = .bool (!want))) →
        (putE E o.dst .und fun E' => zmp T eqs call all rest (zbr o.dst kn1) E' H nx (log ++ [⟨.und, [], [], [], true, fun _ => .junk, fun _ => none, none, false⟩]) c) = some r →
        ∃ L E' H' nx', c E' H' nx' (log ++ L.map zjv) = some r ∧ zaw H nx H' nx' ∧ (nx' ≤ nE → n0 ≤ nx → (∀ g, isH H g = true → Tk X n0 nx g) → zfy P all (o :: rest) L (toE E) (mix Hi X n0 nE H) nx (toE E') (mix Hi X n0 nE H') nx') := by
      intro kn1 hk1 hg hs
      rw [zqf] at hs
      obtain ⟨L, E', H', nx', q1, q2, q3⟩ := zrq hcall rest _ _ _ _ _ c r hs (by rw [zds]; exact hk1.skip o.dst)
      refine ⟨⟨.und, [], [], [], true, toE E, mix Hi X n0 nE H, none, false⟩ :: L, E', H', nx', by simpa [zjv] using q1, q2, fun hn hn0 hdm => ⟨rfl, rfl, ⟨.inl rfl, fun _ => ⟨rfl, rfl⟩, (if_pos rfl).mpr ⟨rfl, rfl, rfl, rfl, rfl, hg⟩⟩, ?_⟩⟩
      have := q3 hn hn0 hdm
      rw [zds] at this
      exact this
    simp only [zmp] at h
    split at h
    · rename_i hg
      exact run kn hkn (.inl hg) h
    · rename_i j want hg
      split at h
      · cases h
      · rename_i t ht
        split at h
        · rename_i hk
          have hu := hkn t none (zbx hk)
          exact skip kn hkn ⟨j, want, t, hg, ht, .inl hu⟩ h
        · rename_i b hk
          have hb := hkn t (some b) (zbx hk)
          simp only at hb
          split at h
          · rename_i hbw
            have : b = want := by simpa using hbw
            subst this
            exact run kn hkn (.inr ⟨j, b, t, hg, ht, hb⟩) h
          · rename_i hbw
            have : b = !want := by cases b <;> cases want <;> simp_all
            subst this
            exact skip kn hkn ⟨j, want, t, hg, ht, .inr hb⟩ h
        · split at h
          · rename_i b hb
            have hk2 : KnOk ((t, some b) :: kn) (toE E) := by
              have := hkn.know hb
              rwa [zka hb] at this
            split at h
            · rename_i hbw
              have : b = want := by simpa using hbw
              subst this
              exact run _ hk2 (.inr ⟨j, b, t, hg, ht, hb⟩) h
            · rename_i hbw
              have : b = !want := by cases b <;> cases want <;> simp_all
              subst this
              exact skip _ hk2 ⟨j, want, t, hg, ht, .inr hb⟩ h
          · cases h
/-! The conditions. -/
theorem zix {l m : List Nat} (h : zwg l m = true) : disj l m := by
  rw [zdo]
  intro g hg hm
  have := List.all_eq_true.1 h g hg
  simp only [Bool.not_eq_true', List.any_eq_false, Nat.beq_eq] at this
  exact this g hm rfl
theorem zaba {L : List Rec} {p : Nat × Nat} (h : zabb (L.map zjv) p = true) : zhb L p := by
  unfold zabb at h
  unfold zhb
  simp only [List.getElem?_map] at h
  cases ha : L[p.1]? with
  | none => simp [ha] at h
  | some a =>
    cases hb : L[p.2]? with
    | none => simp [ha, hb] at h
    | some b =>
      simp only [ha, hb, Option.map_some, Bool.and_eq_true] at h
      obtain ⟨⟨h1, h2⟩, h3⟩ := h
      have d1 := zix h1
      have d2 := zix h2
      refine ⟨?_, ?_⟩
      · rw [zdo] at d1 d2 ⊢
        intro g hg
        rw [List.mem_append, not_or]
        exact ⟨d1 g hg, d2 g hg⟩
      · unfold zahg at h3
        unfold zpb
        simp only [zjv] at h3
        cases hc : b.cl with
        | false => simp only [hc] at h3; exact zix h3
        | true =>
          simp only [hc] at h3
          split at h3
          · rename_i g q _ hpt
            rw [hpt]
            intro x hx e
            have := List.all_eq_true.1 h3 x hx
            simp only [e, Bool.or_eq_true, Bool.not_eq_true'] at this
            rcases this with h | h
            · simp at h
            · split at h
              · rename_i s cs hrow
                split at h
                · rename_i u hu
                  exact ⟨s, cs, hrow, by rw [hu, zmi 40 _ _ h]⟩
                · cases h
              · cases h
          · rename_i hne
            have := zix h3
            cases hpt : a.pt with
            | none => exact this
            | some q =>
              cases q <;> first | exact this | skip
              exact absurd hpt (hne _ _ rfl)
end
end Go.Proofs.YtobioljjoipimaaDoor
set_option maxRecDepth 8000
namespace Go.Proofs.YtobioljjoipimaaDoor
open Go Go.RowKit
def ExOk : XO → Exit → Prop
  | .nrm, e => e = .normal
  | .exi i, e => e = .exit i
  | .ret, e => e = .ret
section
variable {P : Program} {T : Nat → Option AT} {eqs : Nat → Bool} (hT : TOk P T) (hE : EOk P T eqs)
variable {A0 : Nat → Prop} {ρ0 : Nat → Loc} {Hi : Heap} {w0 : World} {X : HB} {n0 nE N : Nat}
abbrev QX (A0 : Nat → Prop) (ρ0 : Nat → Loc) (Hi : Heap) (w0 : World) (X : HB) (n0 nE N : Nat) (x : XO) (E : EB) (H : HB) (nx : Nat) : Exit → Act → World → Prop := fun e a w => ExOk x e ∧ SX A0 ρ0 Hi w0 X n0 nE N E H nx a w
def zum (P : Program) (A0 : Nat → Prop) (ρ0 : Nat → Loc) (Hi : Heap) (w0 : World) (X : HB) (n0 nE N : Nat) (c : Code) (E : EB) (H : HB) (nx : Nat) (x : XO) (E' : EB) (H' : HB) (nx' : Nat) : Prop :=
  zaw H nx H' nx' ∧ (nx' ≤ nE → ∀ a w, SX A0 ρ0 Hi w0 X n0 nE N E H nx a w → c.wp P (QX A0 ρ0 Hi w0 X n0 nE N x E' H' nx') a w)
theorem zwl {c : Code} {body : EB → HB → Nat → Option (XO × EB × HB × Nat)} (hb : ∀ E H nx x E' H' nx', body E H nx = some (x, E', H', nx') → zum P A0 ρ0 Hi w0 X n0 nE N c E H nx x E' H' nx') :
    ∀ (n : Nat) (E : EB) (H : HB) (nx : Nat) (x : XO) (E' : EB) (H' : HB) (nx' : Nat), zsm body n E H nx = some (x, E', H', nx') → zaw H nx H' nx' ∧ (nx' ≤ nE → ∀ a w, SX A0 ρ0 Hi w0 X n0 nE N E H nx a w → Code.rounds P c (QX A0 ρ0 Hi w0 X n0 nE N x E' H' nx') n a w)
  | 0, E, H, nx, x, E', H', nx', h => by simp [zsm] at h
  | n + 1, E, H, nx, x, E', H', nx', h => by
    unfold zsm at h
    split at h
    · rename_i x1 E1 H1 nx1 h1
      obtain ⟨g1, p1⟩ := hb _ _ _ _ _ _ _ h1
      cases x1 with
      | nrm =>
        simp only at h
        obtain ⟨g2, p2⟩ := zwl hb n _ _ _ _ _ _ _ h
        refine ⟨g1.trans g2, fun hn a w st => ?_⟩
        have := g2.1
        refine Code.wp_mono (fun e a w q => ?_) (p1 (by omega) a w st)
        obtain ⟨rfl, q⟩ := q
        exact p2 hn a w q
      | exi i =>
        simp only [Option.some.injEq, Prod.mk.injEq] at h
        obtain ⟨rfl, rfl, rfl, rfl⟩ := h
        refine ⟨g1, fun hn a w st => Code.wp_mono (fun e a w q => ?_) (p1 hn a w st)⟩
        obtain ⟨h1, q⟩ := q
        have h1' : e = .exit i := h1
        subst h1'
        exact ⟨rfl, q⟩
      | ret =>
        simp only [Option.some.injEq, Prod.mk.injEq] at h
        obtain ⟨rfl, rfl, rfl, rfl⟩ := h
        refine ⟨g1, fun hn a w st => Code.wp_mono (fun e a w q => ?_) (p1 hn a w st)⟩
        obtain ⟨h1, q⟩ := q
        have h1' : e = .ret := h1
        subst h1'
        exact ⟨rfl, q⟩
    · cases h
include hT hE in
theorem zdf (hM : P.follows .mixedOrders = true) {call : XCl} (hcall : zeu P call) (fx : FX A0 n0 nE) : ∀ (c : Code) (E : EB) (H : HB) (nx : Nat) (x : XO) (E' : EB) (H' : HB) (nx' : Nat), wfC N c = true → zbh T eqs call c E H nx = some (x, E', H', nx') → zum P A0 ρ0 Hi w0 X n0 nE N c E H nx x E' H' nx'
  | .skip, E, H, nx, x, E', H', nx', _, h => by
    simp only [zbh, Option.some.injEq, Prod.mk.injEq] at h
    obtain ⟨rfl, rfl, rfl, rfl⟩ := h
    exact ⟨zaw.refl _ _, fun _ a w st => wp_skip ⟨rfl, st⟩⟩
  | .label _, E, H, nx, x, E', H', nx', _, h => by
    simp only [zbh, Option.some.injEq, Prod.mk.injEq] at h
    obtain ⟨rfl, rfl, rfl, rfl⟩ := h
    exact ⟨zaw.refl _ _, fun _ a w st => wp_label ⟨rfl, st⟩⟩
  | .exit i, E, H, nx, x, E', H', nx', _, h => by
    simp only [zbh, Option.some.injEq, Prod.mk.injEq] at h
    obtain ⟨rfl, rfl, rfl, rfl⟩ := h
    exact ⟨zaw.refl _ _, fun _ a w st => wp_exit ⟨rfl, st⟩⟩
  | .ret, E, H, nx, x, E', H', nx', _, h => by
    simp only [zbh, Option.some.injEq, Prod.mk.injEq] at h
    obtain ⟨rfl, rfl, rfl, rfl⟩ := h
    exact ⟨zaw.refl _ _, fun _ a w st => wp_ret ⟨rfl, st⟩⟩
  | .scope c, E, H, nx, x, E', H', nx', hwf, h => by
    simp only [zbh] at h
    obtain ⟨g1, p1⟩ := zdf hM hcall fx c _ _ _ _ _ _ _ hwf h
    refine ⟨g1, fun hn a w st => wp_scope_straight (Code.wp_mono (fun e a w q => ?_) (p1 hn a w st))⟩
    obtain ⟨h1, q⟩ := q
    cases x <;> (have h1' := h1; unfold ExOk at h1'; subst h1'; exact ⟨rfl, q⟩)
  | .region id ops false, E, H, nx, x, E', H', nx', hwf, h => by
    simp only [zbh] at h
    simp only [wfC, Bool.not_false, Bool.true_or, Bool.and_true] at hwf
    obtain ⟨E1, H1, nx1, h1, h2, h3⟩ := ztr (ρ0 := ρ0) (Hi := Hi) (w0 := w0) (X := X) hT hE hcall fx ops.toList [] E H nx _ _ h hwf (zsj hwf) (fun t b hm => by cases hm)
    simp only [Option.some.injEq, Prod.mk.injEq] at h1
    obtain ⟨rfl, rfl, rfl, rfl⟩ := h1
    exact ⟨h2, fun hn a w st => wp_region_list (h3 hn a w st)⟩
  | .region id ops true, E, H, nx, x, E', H', nx', hwf, h => by
    simp only [zbh] at h
    simp only [wfC, Bool.not_true, Bool.false_or, Bool.and_eq_true] at hwf
    obtain ⟨L, E1, H1, nx1, h1, h2, h3⟩ := zrq (Hi := Hi) (X := X) (n0 := n0) (nE := nE) hT hE hcall ops.toList [] E H nx [] _ _ h (fun t b hm => by cases hm)
    rw [List.nil_append] at h1
    split at h1
    · rename_i hck
      simp only [Option.some.injEq, Prod.mk.injEq] at h1
      obtain ⟨rfl, rfl, rfl, rfl⟩ := h1
      refine ⟨h2, fun hn a w st => ?_⟩
      have hch := h3 hn st.le st.dom
      have hco : ziy L (zmf ops) := (zhj L _).2 fun p hp => zaba (List.all_eq_true.1 hck p hp)
      obtain ⟨ρ, s, hv, f⟩ := st.ex
      have hle := h2.1
      have hfalse : ∀ i, (Array.replicate ops.size false).getD i false = false := fun i => by
        simp only [Array.getD]
        split <;> simp
      have hls : lsOf (Array.replicate ops.size false) = fun _ => false := funext hfalse
      have hA : AD (AX A0 n0 nx) L (fun _ => false) = AX A0 n0 nx := by
        funext g; simp [AD]
      have hA2 := zahm (A0 := A0) st.le hle
      refine wp_region_any hM (zra (B := AX A0 n0 nx) (ρ0 := ρ) (w0 := w) hwf.2 hch hco (fun g h1 h2 h3 => ?_) fx.bddX (fun a' w' ρ' s' v' t' d' f' => ?_) _ _ _ _ ⟨by simp, (fun i hi => by rw [hfalse] at hi; cases hi), st.size, st.defers, ρ, ?_, ?_, ?_⟩ ?_)
      · rcases h3 with h3 | h3
        · exact fx.free g (by have := st.le; omega) (by omega) h3
        · omega
      · rw [hA2] at s' v' f'
        refine ⟨rfl, ⟨ρ', s', v', f.trans f'⟩, t', d', by have := st.le; omega, fun g hg => ?_⟩
        rcases h2.2 g hg with h | h
        · exact (st.dom g h).mono hle
        · exact .inr ⟨by have := st.le; omega, h.2⟩
      · have e : ({ w with drawn := w.drawn + 1 } : World).heap = w.heap := rfl
        rw [hls, hA, zkd.hD_none]
        exact s.heap e
      · have e : ({ w with drawn := w.drawn + 1 } : World).heap = w.heap := rfl
        rw [hls, hA, zkd.hD_none]
        exact ⟨fun g hg => ⟨rfl, hg⟩, fun b o hb => by rw [zdr e]; exact hb, rfl, rfl, rfl, Nat.le_refl _⟩
      · intro t
        have e : ({ w with drawn := w.drawn + 1 } : World).heap = w.heap := rfl
        rw [hls, hA, zkd.hD_none, zdr e]
        have : eD (fun _ => false) ops.toList L 0 (toE E) t = toE E t := by
          rw [zns.eD_off _ _ _ _ fun _ _ => rfl]
        rw [this]
        exact hv t
      · exact Nat.le_trans (List.length_filter_le _ _) (by simp)
    · cases h1
  | .seq c d, E, H, nx, x, E', H', nx', hwf, h => by
    simp only [wfC, Bool.and_eq_true] at hwf
    simp only [zbh] at h
    split at h
    · rename_i x1 E1 H1 nx1 h1
      obtain ⟨g1, p1⟩ := zdf hM hcall fx c _ _ _ _ _ _ _ hwf.1 h1
      cases x1 with
      | nrm =>
        simp only at h
        obtain ⟨g2, p2⟩ := zdf hM hcall fx d _ _ _ _ _ _ _ hwf.2 h
        refine ⟨g1.trans g2, fun hn a w st => wp_seq (Code.wp_mono (fun e a w q => ?_) (p1 (by have := g2.1; omega) a w st))⟩
        obtain ⟨rfl, q⟩ := q
        exact p2 hn a w q
      | exi i =>
        simp only [Option.some.injEq, Prod.mk.injEq] at h
        obtain ⟨rfl, rfl, rfl, rfl⟩ := h
        refine ⟨g1, fun hn a w st => wp_seq (Code.wp_mono (fun e a w q => ?_) (p1 hn a w st))⟩
        obtain ⟨h1, q⟩ := q
        have h1' : e = .exit i := h1
        subst h1'
        exact ⟨rfl, q⟩
      | ret =>
        simp only [Option.some.injEq, Prod.mk.injEq] at h
        obtain ⟨rfl, rfl, rfl, rfl⟩ := h
        refine ⟨g1, fun hn a w st => wp_seq (Code.wp_mono (fun e a w q => ?_) (p1 hn a w st))⟩
        obtain ⟨h1, q⟩ := q
        have h1' : e = .ret := h1
        subst h1'
        exact ⟨rfl, q⟩
    · cases h
  | .cond y c d, E, H, nx, x, E', H', nx', hwf, h => by
    simp only [wfC, Bool.and_eq_true] at hwf
    simp only [zbh] at h
    split at h
    · rename_i t ht
      have hev : ∀ a w, SX A0 ρ0 Hi w0 X n0 nE N E H nx a w → a.eval y = .bool t := fun a w st => by
        obtain ⟨ρ, s, hv, f⟩ := st.ex
        have := zyz hv y
        rw [ht] at this
        generalize a.eval y = cv at this
        cases this
        rfl
      cases t with
      | true =>
        simp only at h
        obtain ⟨g1, p1⟩ := zdf hM hcall fx c _ _ _ _ _ _ _ hwf.1 h
        exact ⟨g1, fun hn a w st => wp_cond (hev a w st) (p1 hn a w st)⟩
      | false =>
        simp only at h
        obtain ⟨g1, p1⟩ := zdf hM hcall fx d _ _ _ _ _ _ _ hwf.2 h
        exact ⟨g1, fun hn a w st => wp_cond (hev a w st) (p1 hn a w st)⟩
    · cases h
  | .block id c, E, H, nx, x, E', H', nx', hwf, h => by
    simp only [zbh] at h
    split at h
    · rename_i x1 E1 H1 nx1 h1
      obtain ⟨g1, p1⟩ := zdf hM hcall fx c _ _ _ _ _ _ _ hwf h1
      cases x1 with
      | nrm =>
        simp only [Option.some.injEq, Prod.mk.injEq] at h
        obtain ⟨rfl, rfl, rfl, rfl⟩ := h
        refine ⟨g1, fun hn a w st => wp_block (Code.wp_mono (fun e a w q => ?_) (p1 hn a w st))⟩
        obtain ⟨rfl, q⟩ := q
        exact ⟨rfl, q⟩
      | ret =>
        simp only [Option.some.injEq, Prod.mk.injEq] at h
        obtain ⟨rfl, rfl, rfl, rfl⟩ := h
        refine ⟨g1, fun hn a w st => wp_block (Code.wp_mono (fun e a w q => ?_) (p1 hn a w st))⟩
        obtain ⟨h1, q⟩ := q
        have h1' : e = .ret := h1
        subst h1'
        exact ⟨rfl, q⟩
      | exi i =>
        simp only at h
        split at h
        · rename_i hi
          rw [Nat.beq_eq] at hi
          subst hi
          simp only [Option.some.injEq, Prod.mk.injEq] at h
          obtain ⟨rfl, rfl, rfl, rfl⟩ := h
          refine ⟨g1, fun hn a w st => wp_block (Code.wp_mono (fun e a w q => ?_) (p1 hn a w st))⟩
          obtain ⟨h1, q⟩ := q
          have h1' : e = .exit i := h1
          subst h1'
          simp only [Exit.inBlock, if_true]
          exact ⟨rfl, q⟩
        · rename_i hi
          simp only [Option.some.injEq, Prod.mk.injEq] at h
          obtain ⟨rfl, rfl, rfl, rfl⟩ := h
          refine ⟨g1, fun hn a w st => wp_block (Code.wp_mono (fun e a w q => ?_) (p1 hn a w st))⟩
          obtain ⟨h1, q⟩ := q
          have h1' : e = .exit i := h1
          subst h1'
          simp only [Exit.inBlock]
          rw [if_neg (by intro e; subst e; simp at hi)]
          exact ⟨rfl, q⟩
    · cases h
  | .loop c, E, H, nx, x, E', H', nx', hwf, h => by
    simp only [zbh] at h
    obtain ⟨g1, p1⟩ := zwl (c := c) (fun E H nx x E' H' nx' h => zdf hM hcall fx c E H nx x E' H' nx' hwf h) 3000 E H nx x E' H' nx' h
    exact ⟨g1, fun hn a w st => wp_loop_rounds 3000 (p1 hn a w st)⟩
theorem ztq {β : Type} (hT : TOk P T) {Hm : Heap} {A : Nat → Prop} {ρ : Nat → Loc} {w : World} {a : Act} {E : EB} {H : HB} (s : Sim A ρ Hm w) (hv : ∀ t, VRel (Kof ρ Hm w) ρ A (toE E t) (a.tmps.getD t undef)) (hag : ∀ g, isH H g = true → Hm g = toH H g) :
    ∀ (rs : List ResultVar) (c : List AV → Option β) (r : β), xret T rs E H c = some r → ∃ vs, c vs = some r ∧ ∃ cs, LRel (Kof ρ Hm w) ρ A vs cs ∧ cs.length = rs.length ∧
      ∀ acc : Array Value, (List.foldlM (fun (acc : Array Value) (r : ResultVar) => acc.push <$> zbu a.tmps r) acc rs).run P w = .ok (acc ++ cs.toArray) w
  | [], c, r, h => ⟨[], h, [], LRel.nil, rfl, fun acc => by simp [Sem.run_pure]⟩
  | .tmp t :: rs, c, r, h => by
    simp only [xret, ztf] at h
    obtain ⟨vs, h1, cs, h2, h3, h4⟩ := ztq hT s hv hag rs _ r h
    refine ⟨_, h1, a.tmps.getD t undef :: cs, LRel.cons (hv t) h2, by simp [h3], fun acc => ?_⟩
    have hr : (zbu a.tmps (.tmp t)).run P w = .ok (a.tmps.getD t undef) w := rfl
    simp only [List.foldlM_cons, Sem.run_bind, znf hr, Result.andThen_ok, h4]
    congr 1
    apply Array.ext'
    simp
  | .cell b t :: rs, c, r, h => by
    simp only [xret] at h
    split at h
    · rename_i at_ ht
      obtain ⟨i, d, z, ha⟩ := hT.at ht
      split at h
      · rename_i v rd _ _ hx
        rw [zte] at h
        obtain ⟨vs, h1, cs, h2, h3, h4⟩ := ztq hT s hv hag rs _ r h
        unfold zqe at hx
        split at hx
        · rename_i cells off rd' hrd
          split at hx
          · rename_i v' hl
            simp only [Option.some.injEq, Prod.mk.injEq] at hx
            obtain ⟨rfl, rfl, _, _⟩ := hx
            have hrds : ∀ g ∈ rd', Hm g = toH H g := fun g hg => by
              unfold rdp at hrd
              split at hrd
              · rename_i g' _ _
                split at hrd
                · rename_i hgg
                  cases hrd
                  simp at hg
                  subst hg
                  exact hag _ (zjj.2 ⟨_, hgg⟩)
                · cases hrd
              · cases hrd; cases hg
              · cases hrd
            obtain ⟨bb, q, he, hc⟩ := zsd s (hv b) hrd hrds
            obtain ⟨cv, hr, hR⟩ := zgh (P := P) ha hc hl
            refine ⟨_, h1, cv :: cs, LRel.cons hR h2, by simp [h3], fun acc => ?_⟩
            have hr' : (zbu a.tmps (.cell b t)).run P w = .ok cv w := by
              simp only [zbu, Sem.run_bind, he, asAddr, Sem.run_pure, Result.andThen_ok, hr]
            simp only [List.foldlM_cons, Sem.run_bind, znf hr', Result.andThen_ok, h4]
            congr 1
            apply Array.ext'
            simp
          · cases hx
        · cases hx
      · cases h
    · cases h
theorem zxz {β : Type} : ∀ (args : List AV) (t : Nat) (E : EB) (c : EB → Option β) (r : β), zwh args t E c = some r → ∃ E', c E' = some r ∧ ∀ u, toE E' u = if t ≤ u ∧ u < t + args.length then nth args (u - t) else toE E u
  | [], t, E, c, r, h => ⟨E, h, fun u => by rw [if_neg (by simp only [List.length_nil]; omega)]⟩
  | v :: rs, t, E, c, r, h => by
    simp only [zwh, zte] at h
    rw [Tr.setK_eq] at h
    obtain ⟨E', h1, h2⟩ := zxz rs (t + 1) _ c r h
    refine ⟨E', h1, fun u => ?_⟩
    rw [h2]
    have hs : toE (Tr.setK (t + 1) E t (some v) id) u = if u = t then v else toE E u := by
      have := congrFun (zds E (some t) v) u
      rw [show zqg E (some t) v = Tr.setK (t + 1) E t (some v) id from rfl] at this
      rw [this, zcv]
      by_cases h : u = t
      · subst h; simp
      · rw [if_neg (by simpa using Ne.symm h), if_neg h]
    rw [hs]
    simp only [List.length_cons]
    by_cases h1 : t + 1 ≤ u ∧ u < t + 1 + rs.length
    · rw [if_pos h1, if_pos (by omega)]
      have : u - t = (u - (t + 1)) + 1 := by omega
      rw [this]
      simp [nth]
    · rw [if_neg h1]
      by_cases h3 : u = t
      · subst h3
        rw [if_pos rfl, if_pos (by omega)]
        simp [nth]
      · rw [if_neg h3, if_neg (by omega)]
def zahp (P : Program) (orc : Nat → List AV → Option AV) : Prop := ∀ f args v, orc f args = some v → ∀ H : Heap, LC P f args H [] [] [] v
def FnOk (P : Program) (ok : Nat → Bool) : Prop := ∀ f fn c, ok f = true → P.funcs[f]? = some fn → fn.body = some c → wfC fn.ntmps c = true ∧ (fn.name == "runtime.NumGoroutine") = false
include hT hE in
theorem zyw (hM : P.follows .mixedOrders = true) {ok : Nat → Bool} {orc : Nat → List AV → Option AV} (ho : zahp P orc) (hf : FnOk P ok) : ∀ n, zeu P (xfun T eqs P ok orc n)
  | 0, f, args, H, nx, v, H', nx', h, cargs => by simp [xfun] at h
  | n + 1, f, args, H, nx, v, H', nx', h, cargs => by
    have ih := zyw hM ho hf n
    unfold xfun at h
    split at h
    · rename_i u hu
      simp only [Option.some.injEq, Prod.mk.injEq] at h
      obtain ⟨rfl, rfl, rfl⟩ := h
      refine ⟨Nat.le_refl _, fun g hg => .inl hg, fun A ρ Hm w hB s ha hag hfree => ?_⟩
      refine zm (ho f args u hu (fun _ => none) A ρ Hm w cargs hB s ha (fun g hg => by cases hg) (fun g hg => by cases hg)) fun cv w' ⟨ρ', q1, q2, q3⟩ => ?_
      have hA : (fun x => A x ∨ x ∈ ([] : List Nat)) = (fun g => A g ∨ nx ≤ g ∧ g < nx) := by funext g; simp; omega
      have hH : Hm.apply [] = mix Hm H nx nx H := by
        funext g
        show Hm g = _
        by_cases ht : Tk H nx nx g
        · rw [zbw ht]
          rcases ht with h | h
          · exact hag g h
          · omega
        · rw [zdv ht]
      rw [hA, hH] at q1 q2 q3
      exact ⟨ρ', q1, q2, q3⟩
    · split at h
      · cases h
      · rename_i hok
        split at h
        · rename_i fn hfn
          split at h
          · rename_i c hc
            split at h
            · rename_i hlen
              obtain ⟨hwf, hname⟩ := hf f fn c hok hfn hc
              have hlen := Nat.le_of_ble_eq_true hlen
              obtain ⟨E0, h1, h2⟩ := zxz _ _ _ _ _ h
              split at h1
              · rename_i x E1 H1 nx1 hx
                have key : ∀ (A : Nat → Prop) (ρ : Nat → Loc) (Hm : Heap) (w : World), FX A nx nx1 → zum P A ρ Hm w H nx nx1 fn.ntmps c E0 H nx x E1 H1 nx1 := fun A ρ Hm w fx => zdf hT hE hM ih fx c E0 H nx x E1 H1 nx1 hwf hx
                have hg : zaw H nx H1 nx1 := (key (fun _ => False) (fun _ => default) (fun _ => none) default ⟨fun _ _ _ h => h, ⟨0, fun _ h => h.elim⟩⟩).1
                have fin : ∀ (h1 : xret T fn.results.toList E1 H1 (fun vs => some (match vs with | [v] => v | vs => .tup vs, H1, nx1)) = some (v, H', nx')) (hx2 : ∀ e, ExOk x e → e = .normal ∨ e = .ret),
                    Does P H nx v H' nx' (fun K ρ A => LRel K ρ A args cargs.toList) fun w => (callFunc f cargs).run P w := by
                  intro h1 hx2
                  have hout : H' = H1 ∧ nx' = nx1 := by
                    have : ∀ (rs : List ResultVar) (cc : List AV → AV), xret T rs E1 H1 (fun vs => some (cc vs, H1, nx1)) = some (v, H', nx') → H' = H1 ∧ nx' = nx1 := by
                      intro rs
                      induction rs with
                      | nil => intro cc h; simp only [xret, Option.some.injEq, Prod.mk.injEq] at h; exact ⟨h.2.1.symm, h.2.2.symm⟩
                      | cons r rs ih =>
                        intro cc h
                        cases r with
                        | tmp t => simp only [xret, ztf] at h; exact ih (fun vs => cc (toE E1 t :: vs)) h
                        | cell b t =>
                          simp only [xret] at h
                          split at h
                          · split at h
                            · rename_i v' _ _ _ _
                              rw [zte] at h
                              exact ih (fun vs => cc (v' :: vs)) h
                            · cases h
                          · cases h
                    exact this _ (fun vs => match vs with | [v] => v | vs => .tup vs) h1
                  obtain ⟨rfl, rfl⟩ := hout
                  refine ⟨hg.1, hg.2, fun A ρ Hm w hB s ha hag hfree => ?_⟩
                  have fx : FX A nx nx' := ⟨hfree, hB⟩
                  have hp := (key A ρ Hm w fx).2 (Nat.le_refl _)
                  have hcl : cargs.size = args.length := by simpa using ha.1
                  have hcall : (callFunc f cargs).run P w = .ok (.enter f cargs) w := by
                    have hname' : ¬ fn.name = "runtime.NumGoroutine" := by simpa using hname
                    simp [callFunc, program, Sem.run_bind, Sem.run, hfn, hname', hc, pure]
                  rw [hcall]
                  simp only [zq]
                  have hA0 : AX A nx nx = A := by funext g; simp [AX]; omega
                  have hH0 : mix Hm H nx nx' H = Hm := by
                    funext g
                    by_cases ht : Tk H nx nx' g
                    · rw [zbw ht]
                      by_cases hi : isH H g = true
                      · exact (hag g hi).symm
                      · rw [zgj hi]
                        rcases ht with h | h
                        · exact absurd h hi
                        · cases e : Hm g with
                          | none => rfl
                          | some o => exact absurd (s.live g o e) (hfree g h.1 h.2)
                    · rw [zdv ht]
                  refine calls_of_wp hfn hc (Code.wp_mono (fun e a w' q => ?_) (hp _ w ⟨⟨ρ, ?_, fun t => ?_, ?_⟩, by simp; omega, rfl, Nat.le_refl _, fun g hg => .inl hg⟩))
                  · obtain ⟨he, st⟩ := q
                    have done : a.defers = [] ∧ ∃ v', (results fn a.tmps).run P w' = .ok v' w' ∧ ∃ u, Ending.returned v' = .returned u ∧ zahs A ρ Hm w H nx v H' nx' u w' := by
                      obtain ⟨ρ', s', hv', f'⟩ := st.ex
                      obtain ⟨vs, q1, cs, q2, q3, q4⟩ := ztq (P := P) hT s' hv' (fun g hg => zbw (st.dom g hg)) fn.results.toList _ _ h1
                      refine ⟨st.defers, ?_⟩
                      have hm : (fn.results.mapM (zbu a.tmps)).run P w' = .ok cs.toArray w' := by
                        rw [Array.mapM_eq_foldlM]
                        have := q4 #[]
                        rw [Array.foldlM_toList] at this
                        simpa using this
                      have hrun : ∀ v, (if h : cs.toArray.size = 1 then cs.toArray[0] else Value.tuple cs.toArray) = v → (results fn a.tmps).run P w' = .ok v w' := by
                        intro v hv
                        have e : results fn a.tmps = (do let vs ← fn.results.mapM (zbu a.tmps); pure (if h : vs.size = 1 then vs[0] else .tuple vs)) := by
                          unfold results zbu
                          rfl
                        rw [e]
                        simp only [Sem.run_bind, hm, Result.andThen_ok, Sem.run_pure, hv]
                      simp only [Option.some.injEq, Prod.mk.injEq, and_true] at q1
                      split at q1
                      · rename_i u
                        subst q1
                        obtain ⟨cv, hcv, hR⟩ := q2.get (j := 0) (v := u) rfl
                        have hc1 : cs = [cv] := by
                          have hl := q2.1
                          match cs, hl, hcv with
                          | [x], _, h => simp at h; rw [h]
                        subst hc1
                        exact ⟨cv, hrun cv (by simp), cv, rfl, ρ', s', hR, f'⟩
                      · rename_i hne
                        have hc1 : cs.length ≠ 1 := by
                          intro hl
                          have := q2.1
                          rw [hl] at this
                          match vs, this with
                          | [x], _ => exact hne x rfl
                        subst q1
                        exact ⟨.tuple cs.toArray, hrun _ (by simp [hc1]), _, rfl, ρ', s', .tup _ _ (by simpa using q2.1) fun j v c hv hc => q2.2 j v c hv (by simpa using hc), f'⟩
                    rcases hx2 e he with rfl | rfl
                    · exact done
                    · exact done
                  · rw [hA0, hH0]; exact s
                  · rw [hA0, hH0, h2]
                    show VRel _ _ _ _ ((cargs ++ Array.replicate (fn.ntmps - cargs.size) undef).getD t undef)
                    by_cases ht : t < args.length
                    · rw [if_pos (by omega)]
                      obtain ⟨cv, h1, h2⟩ := ha.get (List.getElem?_eq_getElem ht)
                      have : (cargs ++ Array.replicate (fn.ntmps - cargs.size) undef).getD t undef = cv := by
                        rw [Array.getD_eq_getD_getElem?, Array.getElem?_append_left (by omega)]
                        simp only [Array.getElem?_toList] at h1
                        rw [h1]; rfl
                      rw [this, Nat.sub_zero, nth, List.getD_eq_getElem?_getD, List.getElem?_eq_getElem ht]
                      exact h2
                    · rw [if_neg (by omega)]
                      exact .junk _
                  · rw [hA0, hH0]; exact Fr.refl _ _ _ _
                split at h1
                · cases h1
                · exact fin h1 fun e he => .inl he
                · exact fin h1 fun e he => .inr he
              · cases h1
            · cases h
          · cases h
        · cases h
theorem QC.closed {call : XCl} (hc : zeu P call) {f : FuncId} {v : AV} {H' : HB} {nx' : Nat} (h : call f [] .nil 0 = some (v, H', nx')) (hf : flat v = true) : QC P f [] v := by
  intro H nx ρ w cargs s ha
  have s0 : Sim (fun _ => False) ρ (fun _ => none) w := by
    have := (s.drop (H' := fun _ => none) (fun g o ho => by cases ho)).1
    exact ⟨fun g o ho => (by cases ho), fun g o ho => (by cases ho), fun g g' hg _ _ => (by cases hg), this.lay⟩
  have d := hc f [] .nil 0 v H' nx' h cargs
  have ha0 : LRel (Kof ρ (fun _ => none) w) ρ (fun _ => False) [] cargs.toList := ⟨ha.1, fun j v c hv => by simp at hv⟩
  refine zm (d.run (fun _ => False) ρ (fun _ => none) w ⟨0, fun _ h => h.elim⟩ s0 ha0 (fun g hg => by simp [isH, Tr.get_nil] at hg) (fun _ _ _ h => h)) fun cv w' ⟨ρ', q3, q4, q5⟩ => ?_
  have keep : ∀ b o, w.heap[b]? = some o → w'.heap[b]? = some o := fun b o hb =>
    (zp.1 (q5.k b o (zp.2 ⟨fun g hg => by simp at hg, hb⟩))).2
  have hK : ∀ b o, Kof ρ H w b = some o → Kof ρ H w' b = some o := fun b o hb => by
    obtain ⟨h1, h2⟩ := zp.1 hb
    exact zp.2 ⟨h1, keep b o h2⟩
  refine ⟨v, H, nx, ρ, ⟨rfl, rfl, rfl⟩, ⟨s.live, fun g o ho => ?_, s.inj, s.lay.mono hK⟩, q4.flat hf, ⟨fun g hg => ⟨rfl, hg⟩, hK, q5.os, q5.tape, q5.output, q5.size⟩⟩
  have ho' := s.obj g o ho
  obtain ⟨ob, hob⟩ : ∃ ob, w.heap[(ρ g).block]? = some ob := ⟨_, Array.getElem?_eq_getElem ho'.block_lt⟩
  exact ho'.mono (by rw [keep _ _ hob, hob]) hK fun g hg => ⟨rfl, hg⟩
end
end Go.Proofs.YtobioljjoipimaaDoor
namespace Go.Proofs.YtobioljjoipimaaDoor
open Go Go.RowKit
theorem zye : (Tryd.prog.globalNamed "strconv.ErrSyntax").isSome = true := by kernel_rfl
theorem zaax : (Tryd.prog.globalNamed "strconv.ErrRange").isSome = true := by kernel_rfl
theorem LayE.var {n : String} {w : World} (h : LayE n (fun b => w.heap[b]?)) (hn : (Tryd.prog.globalNamed n).isSome = true) : ∃ t p, w.var? Tryd.prog n = some #[.iface t p] := by
  obtain ⟨g, hg⟩ := Option.isSome_iff_exists.1 hn
  obtain ⟨t, p, e, m, hc⟩ := h g hg
  have hc' : w.heap[g]? = _ := hc
  exact ⟨t, p, by unfold World.var?; rw [hg, Option.bind_some, hc']⟩
theorem zyq (w : World) (e : TypeId) (s : ByteArray) : Below w.heap.size w (Lib.bytesWorld w e s) := ⟨rfl, rfl, rfl, by rw [Lib.bytesWorld_size]; omega, fun k hk => Lib.bytesWorld_at_old w e s k hk⟩
def ztl (s : List UInt8) : AV := match Lib.atoiAll s with
  | .ok v => .tup [.int .i64 v, .inil]
  | .range => .tup [.int .i64 (Lib.atoiSat s), .ifc]
  | _ => .tup [.int .i64 0, .ifc]
theorem tup2 {n : Int} {x : AV} {c : Value} (h : ∀ K ρ A, VRel K ρ A x c) (K : zl) (ρ : Nat → Loc) (A : Nat → Prop) : VRel K ρ A (.tup [.int .i64 n, x]) (.tuple #[.int .i64 n, c]) :=
  .tup _ _ rfl fun j v c' hv hc => by
    match j with
    | 0 => cases hv; cases hc; exact .int _ _
    | 1 => cases hv; cases hc; exact h K ρ A
set_option maxRecDepth 8000 in
theorem zaip (s : List UInt8) (h : s.length ≤ 281474976710656) : QC Tryd.prog 106 [.str s] (ztl s) := by
  refine QC.of_calls (c := zn Tryd.f106) Tryd.func106 (by kernel_rfl) (by kernel_rfl) fun K ρ A w cargs hl ha => ?_
  have hc : cargs = #[.string ⟨s.toArray⟩] := by
    obtain ⟨hlen, hg⟩ := ha
    have hlen' : cargs.toList.length = 1 := hlen
    match he : cargs.toList, hlen' with
    | [v], _ =>
      have := hg 0 (.str s) v rfl (by rw [he]; rfl)
      cases this
      exact Array.ext' (by rw [he])
  subst hc
  have hs : (ByteArray.mk s.toArray).size = s.length := by show s.toArray.size = _; simp
  have hd : (ByteArray.mk s.toArray).data.toList = s := by simp
  unfold ztl
  cases hv : Lib.atoiAll s with
  | ok v =>
    refine (Tryd.strconv_Atoi_ok ⟨s.toArray⟩ (by omega) v (by rw [hd]; exact hv) w).mono fun e w' ⟨he, hw⟩ => ⟨⟨_, he, tup2 fun _ _ _ => .inil⟩, ?_⟩
    rcases hw with rfl | ⟨t, rfl⟩
    · exact .refl _ _
    · exact zyq w _ t
  | range =>
    obtain ⟨t, p, hvar⟩ := hl.2.2.1.var zaax
    have hx : Lib.atoiSat (ByteArray.mk s.toArray).data.toList = Lib.atoiSat s := by rw [hd]
    exact (Tryd.strconv_Atoi_range_var ⟨s.toArray⟩ (by omega) (by rw [hd]; exact hv) t p w hvar).mono fun e w' ⟨N, he, _, _, hw⟩ => ⟨⟨_, hx ▸ he, tup2 fun _ _ _ => .ifc _ ⟨_, _, rfl⟩⟩, hw⟩
  | _ =>
    obtain ⟨t, p, hvar⟩ := hl.2.1.var zye
    exact (Tryd.strconv_Atoi_syntax_var ⟨s.toArray⟩ (by omega) (by rw [hd]; exact hv) t p w hvar).mono fun e w' ⟨N, he, _, _, hw⟩ => ⟨⟨_, he, tup2 fun _ _ _ => .ifc _ ⟨_, _, rfl⟩⟩, hw⟩
end Go.Proofs.YtobioljjoipimaaDoor
set_option maxRecDepth 8000
namespace Go.Proofs.YtobioljjoipimaaDoor
open Go Go.RowKit
theorem QC.nz {P : Program} {f : FuncId} {args : List AV} (h : ∀ H nx, za P f args H nx fun v H' _ => (v = .nils ∨ v = .zs) ∧ Keep nx H' H) : QC P f args .zs := by
  intro H nx
  have h1 : za P f args H nx fun v H' nx' => (v = .nils ∨ v = .zs) ∧ H' = H ∧ nx' = nx := by
    refine za.tidy fun hlive => ?_
    refine (za.gc (R := fun v H' => (v = .nils ∨ v = .zs) ∧ H' = H) (h H nx) fun v H' nx' ⟨h1, h2⟩ => ⟨v, H, ⟨h1, rfl⟩, .same v (by rcases h1 with rfl | rfl; exact .nils; exact .zs), fun g o ho => ⟨hlive g o ho, by rw [h2 g (hlive g o ho)]; exact ho, .inl ho⟩⟩).mono fun v H' nx' ⟨⟨a, b⟩, c⟩ => ⟨a, b, c⟩
  intro ρ w cargs s ha
  refine zm (h1 ρ w cargs s ha) fun cv w' ⟨v, H', nx', ρ', ⟨q1, q2, q3⟩, q4, q5, q6⟩ => ⟨.zs, H', nx', ρ', ⟨rfl, q2, q3⟩, q4, ?_, q6⟩
  rcases q1 with rfl | rfl
  · cases q5; exact .zs none
  · exact q5
def zdp (sz by_ : Nat) (a0 : AV) (H : Heap) (nx : Nat) (Q : QT) : Prop :=
 BL BinOp.eql a0 AV.nils fun v1 =>
 CNDC v1
 (Q AV.nils H nx)
 (PUTH H nx (AObj.row sz []) fun H2 =>
 APP sz by_ AV.zs a0 H2 (nx + 1) fun v3 H4 nx5 =>
 Q v3 H4 nx5)
theorem zadv {f sz by_ : Nat} (h : ∀ (a0 : AV) (H : Heap) (nx : Nat) (Q : QT), zdp sz by_ a0 H nx Q → za Tryd.prog f [a0] H nx Q) : QC Tryd.prog f [.ro []] .zs := by
  refine QC.nz fun H nx => h _ H nx _ ?_
  unfold zdp BL BINL
  simp only [zaf, CNDC, qk, PURE]
  refine ⟨fun _ => ⟨⟨.inl (by trivial), by simp [Keep]⟩, ?_⟩, fun h => absurd rfl h⟩
  simp only [PUTH, APP, zac, zf, List.all_nil, if_true, List.length_nil, List.flatten_nil, true_and]
  exact ⟨fun _ => ⟨.inr (by trivial), fun g hg => Heap.put_ne _ _ (by omega)⟩, fun h => absurd rfl h⟩
theorem zlk {f sz by_ : Nat} (h : ∀ (a0 : AV) (H : Heap) (nx : Nat) (Q : QT), zdp sz by_ a0 H nx Q → za Tryd.prog f [a0] H nx Q) {a : AV} (ha : (∃ g o, a = .slc g o 0) ∨ a = .zs ∨ a = .ro []) (H : Heap) : LC Tryd.prog f [a] H [] [] [] .zs := by
  have hl := LC.of_qc (zadv h) .zs H
  intro A ρ Hm w cargs hB s hr hrd hfr
  refine hl A ρ Hm w cargs hB s ⟨hr.1, fun j v c hv hc => ?_⟩ hrd hfr
  cases j with
  | succ j => simp at hv
  | zero =>
    simp at hv
    subst hv
    have := hr.2 0 a c rfl hc
    rcases ha with ⟨g, o, rfl⟩ | rfl | rfl
    · cases this with
      | slc _ _ _ cap ad h1 h2 h3 => exact .ro [] ad 0 cap 0 0 0 (fun _ _ => undef) rfl (Nat.zero_le _) (fun h => absurd rfl h) (fun x hx => by cases hx) (fun i x j v hx => by simp at hx) (fun i x j v hx => by simp at hx)
    · cases this with
      | zs ad => exact .ro [] ad 0 0 0 0 0 (fun _ _ => undef) rfl (Nat.le_refl _) (fun h => absurd rfl h) (fun x hx => by cases hx) (fun i x j v hx => by simp at hx) (fun i x j v hx => by simp at hx)
    · exact this
def zzo : List Nat := [80, 81, 78, 79]
theorem zajh (a0 : AV) (H : Heap) (nx : Nat) (Q : QT) : zdp 3 32 a0 H nx Q → za Tryd.prog 80 [a0] H nx Q :=
  zi (lv := lvOf []) (c := zn Tryd.f80) zpa zpr mixed Tryd.func80 (by kernel_rfl) (by kernel_rfl) (by kernel_rfl) (by kernel_rfl) (by kernel_rfl)
theorem zajg (a0 : AV) (H : Heap) (nx : Nat) (Q : QT) : zdp 6 64 a0 H nx Q → za Tryd.prog 81 [a0] H nx Q :=
  zi (lv := lvOf []) (c := zn Tryd.f81) zpa zpr mixed Tryd.func81 (by kernel_rfl) (by kernel_rfl) (by kernel_rfl) (by kernel_rfl) (by kernel_rfl)
theorem zajf (a0 : AV) (H : Heap) (nx : Nat) (Q : QT) : zdp 3 24 a0 H nx Q → za Tryd.prog 78 [a0] H nx Q :=
  zi (lv := lvOf []) (c := zn Tryd.f78) zpa zpr mixed Tryd.func78 (by kernel_rfl) (by kernel_rfl) (by kernel_rfl) (by kernel_rfl) (by kernel_rfl)
theorem zaje (a0 : AV) (H : Heap) (nx : Nat) (Q : QT) : zdp 1 16 a0 H nx Q → za Tryd.prog 79 [a0] H nx Q :=
  zi (lv := lvOf []) (c := zn Tryd.f79) zpa zpr mixed Tryd.func79 (by kernel_rfl) (by kernel_rfl) (by kernel_rfl) (by kernel_rfl) (by kernel_rfl)
noncomputable def orcX (f : Nat) (args : List AV) : Option AV := match Nat.beq f 106 with
  | true => match args with
    | [.str s] => match Nat.ble s.length 100000 with | true => some (ztl s) | false => none
    | _ => none
  | false => match Nat.beq f 76 with
    | true => match args with
      | [.int .i64 n] => match !iLt n (-9223372036854775808) && !iLt 9223372036854775807 n with | true => some (.str (Lib.itoa n)) | false => none
      | _ => none
    | false => match zzo.any (Nat.beq f) with
      | true => match args with
        | [.slc _ _ 0] | [.zs] | [.ro []] => some .zs
        | _ => none
      | false => none
theorem zagz (s : List UInt8) : Bel (fun _ => False) (ztl s) := by
  unfold ztl
  split
  · exact .tup _ fun j v hv => by match j with
                                  | 0 => simp at hv; subst hv; exact .int _ _
                                  | 1 => simp at hv; subst hv; exact .inil
                                  | j + 2 => simp at hv
  · exact .tup _ fun j v hv => by match j with
                                  | 0 => simp at hv; subst hv; exact .int _ _
                                  | 1 => simp at hv; subst hv; exact .ifc
                                  | j + 2 => simp at hv
  · exact .tup _ fun j v hv => by match j with
                                  | 0 => simp at hv; subst hv; exact .int _ _
                                  | 1 => simp at hv; subst hv; exact .ifc
                                  | j + 2 => simp at hv
theorem zahz : zahp Tryd.prog orcX := by
  intro f args v h H
  unfold orcX at h
  split at h
  · rename_i hf
    rw [Nat.beq_eq] at hf
    subst hf
    split at h
    · split at h
      · rename_i hl
        cases h
        exact LC.of_qc (zaip _ (by have := Nat.le_of_ble_eq_true hl; omega)) (zagz _) H
      · cases h
    · cases h
  · split at h
    · rename_i hf
      rw [Nat.beq_eq] at hf
      subst hf
      split at h
      · split at h
        · rename_i hl
          cases h
          simp only [zxi, Bool.and_eq_true, Bool.not_eq_true', decide_eq_false_iff_not] at hl
          exact LC.of_qc (zzg _ (by omega) (by omega)) (.str _) H
        · cases h
      · cases h
    · split at h
      · rename_i hf
        simp only [zzo, List.any_cons, List.any_nil, Bool.or_false, Bool.or_eq_true, Nat.beq_eq] at hf
        have fin : ∀ a : AV, (∃ g o, a = .slc g o 0) ∨ a = .zs ∨ a = .ro [] → LC Tryd.prog f [a] H [] [] [] .zs := fun a ha => by
          rcases hf with rfl | rfl | rfl | rfl
          · exact zlk zajh ha H
          · exact zlk zajg ha H
          · exact zlk zajf ha H
          · exact zlk zaje ha H
        split at h
        · cases h; exact fin _ (.inl ⟨_, _, rfl⟩)
        · cases h; exact fin _ (.inr (.inl rfl))
        · cases h; exact fin _ (.inr (.inr rfl))
        · cases h
      · cases h
def wfF (P : Program) (f : Nat) : Bool := match P.funcs[f]? with
  | some fn => match fn.body with
    | some c => wfC fn.ntmps c && !(fn.name == "runtime.NumGoroutine")
    | none => true
  | none => true
def okX (f : Nat) : Bool := Nat.blt f 120
theorem zajt : (List.range 120).all (wfF Tryd.prog) = true := by kernel_rfl
theorem zaiw : FnOk Tryd.prog okX := by
  intro f fn c h hf hc
  have := List.all_eq_true.1 zajt f (List.mem_range.2 (by simpa [okX] using h))
  unfold wfF at this
  rw [hf] at this
  simp only [hc, Bool.and_eq_true, Bool.not_eq_true'] at this
  exact this
noncomputable def zabx (n : Nat) : XCl := xfun tab eqsT Tryd.prog okX orcX n
theorem zagy (n : Nat) : zeu Tryd.prog (zabx n) := zyw zx zy mixed zahz zaiw n
def zuc (x : Option (AV × HB × Nat)) : Bool := match x with
  | some (.bool b, _, _) => b
  | _ => false
theorem QC.runs {n : Nat} {f : FuncId} (h : zuc (zabx n f [] .nil 0) = true) : QC Tryd.prog f [] (.bool true) := by
  unfold zuc at h
  split at h
  · rename_i b H' nx' e
    subst h
    exact QC.closed (zagy n) e (by simp)
  · cases h
end Go.Proofs.YtobioljjoipimaaDoor
set_option maxRecDepth 100000
namespace Go.Proofs.YtobioljjoipimaaDoor
open Go Go.RowKit
theorem zyu : zuc (zabx 60 21 [] .nil 0) = true := by kernel_rfl
theorem zael : QC Tryd.prog 21 [] (.bool true) := QC.runs zyu
end Go.Proofs.YtobioljjoipimaaDoor
set_option maxRecDepth 8000
namespace Go.Proofs.YtobioljjoipimaaDoor
open Go Go.RowKit
namespace VM
theorem ite_ne1 {c : Prop} [Decidable c] {x y : Int} (h1 : c → x ≠ 1) (h2 : ¬ c → y ≠ 1) : (if c then x else y) ≠ 1 := by
  by_cases h : c
  · rw [if_pos h]; exact h1 h
  · rw [if_neg h]; exact h2 h
theorem opDo_kind (a : Agt) (s : Spt) (fs : List Frm) (f : Frm) (i : Ins) : (opDo a s fs f i).2.kind ≠ 1 := by
  unfold opDo push
  simp only [apply_ite Prod.snd, apply_ite Evt.kind]
  repeat' (refine ite_ne1 (fun _ => ?_) (fun _ => ?_))
  all_goals first
    | (simp [ev0, dead]; done)
    | (split <;> simp [ev0, dead]; done)
    | skip
theorem step_kind (a : Agt) (s : Spt) : (step a s).2.kind ≠ 1 := by
  unfold step
  split
  · simp [dead]
  · split
    · simp [ev0]
    · exact opDo_kind _ _ _ _ _
theorem run_add_stop (s : Spt) (m : Nat) : ∀ (n : Nat) (a : Agt), (run s n a).2.kind ≠ 1 → run s (n + m) a = run s n a
  | 0, a, h => by simp [run] at h
  | n + 1, a, h => by
    have e : n + 1 + m = (n + m) + 1 := by omega
    rw [e]
    simp only [run] at h ⊢
    split
    · rfl
    · rename_i hk
      rw [if_neg hk] at h
      exact run_add_stop s m n _ h
theorem run_add_rest (s : Spt) (m : Nat) : ∀ (n : Nat) (a : Agt), (run s n a).2.kind = 1 → run s (n + m) a = run s m (run s n a).1
  | 0, a, h => by rw [Nat.zero_add]; rfl
  | n + 1, a, h => by
    have e : n + 1 + m = (n + m) + 1 := by omega
    rw [e]
    simp only [run] at h ⊢
    by_cases hk : (step a s).2.kind ≠ 0
    · rw [if_pos hk] at h
      exact absurd h (step_kind a s)
    · rw [if_neg hk] at h
      rw [if_neg hk, if_neg hk]
      exact run_add_rest s m n _ h
theorem run_live (s : Spt) (hw : ∀ x ∈ s.facts, WrongOk x.val (0 : Int)) : ∀ (n : Nat) {a : Agt} {fs : List Frm} {f : Frm}, Live a fs f → (run s n a).2.kind = 1 → ∃ gs g, Live (run s n a).1 gs g
  | 0, a, fs, f, l, _ => ⟨fs, f, l⟩
  | n + 1, a, fs, f, l, h => by
    simp only [run] at h ⊢
    by_cases hk : (step a s).2.kind ≠ 0
    · rw [if_pos hk] at h
      exact absurd h (step_kind a s)
    · rw [if_neg hk] at h ⊢
      obtain ⟨gs, g, l'⟩ := step_live l hw (by simpa using hk)
      exact run_live s hw n l' h
end VM
set_option maxRecDepth 20000 in
set_option maxHeartbeats 2000000 in
theorem zaar (a : Agt) (s : Spt) (n m : Int) (ha : a.prog.ok) (hhl : a.heap.length ≤ 4611686018427387904) (hname : s.name.length ≤ maxLen) (hf : s.facts.length ≤ 4611686018427387903) : QC Tryd.prog 6 [.agg a.avs, .agg s.avs, .int .i64 n, .int .i64 m] (.bool true) := by
  refine QC.of' fun H nx => ?_
  suffices main : ∀ Q : AV → Heap → Nat → Prop, (∀ H' n', Keep nx H' H → Q (.bool true) H' n') → za Tryd.prog 6 [.agg a.avs, .agg s.avs, .int .i64 n, .int .i64 m] H nx Q from main _ fun H' n' h => ⟨znl, h⟩
  intro Q hQ
  refine zmn _ _ _ _ H nx _ ?_
  obtain ⟨ad, at9, al⟩ := zqb a
  have sl : s.avs.length = 4 := rfl
  have st4 : s.avs.take 4 = s.avs := rfl
  have hsu : (AV.agg a.avs).sure = true := by simp [Agt.avs]
  have hss : (AV.agg s.avs).sure = true := by simp [Spt.avs]
  unfold zhx
  refine ⟨hsu, hss, ?_⟩
  generalize hX : Heap.put _ (nx + 1) _ = X
  have x0 : X nx = some (.row 9 a.avs) := by rw [← hX, Heap.put_ne _ _ (by omega), Heap.put_at]; rfl
  have x1 : X (nx + 1) = some (.row 4 s.avs) := by rw [← hX, Heap.put_at]; rfl
  have xk : Keep nx X H := fun g hg => by rw [← hX, Heap.put_ne _ _ (by omega), Heap.put_ne _ _ (by omega)]
  clear hX
  refine QC.call zael ?_
  simp [zhy, x0, x1, al, at9, sl, st4]
  refine QC.call (zacv a s ha hhl hf) ?_
  by_cases hr : zdu a s = true
  case neg =>
    have hr' : zdu a s = false := by simpa using hr
    simp [zao, hr']
    exact hQ _ _ xk
  have hr0 := hr
  unfold zdu at hr0
  simp only [Bool.and_eq_true, List.all_eq_true, decide_eq_true_eq] at hr0
  obtain ⟨r1, r2, r3⟩ := hr0
  obtain ⟨fs, f, l⟩ := VM.agent_live r3
  have hw : ∀ x ∈ s.facts, VM.WrongOk x.val (0 : Int) := fun x hx => VM.wrong_ok (r1 x hx)
  by_cases hn0 : n < 0
  · simp [zao, hr, hn0]
    exact hQ _ _ xk
  by_cases hn1 : 500 < n
  · simp [zao, hr, hn0, hn1]
    exact hQ _ _ xk
  by_cases hm0 : m < 0
  · simp [zao, hr, hn0, hn1, hm0]
    exact hQ _ _ xk
  by_cases hm1 : 500 < m
  · simp [zao, hr, hn0, hn1, hm0, hm1]
    exact hQ _ _ xk
  simp [zao, hr, hn0, hn1, hm0, hm1, x0, x1, al, at9, sl, st4]
  refine QC.call (zsv l hname hf hw (by omega)) ?_
  have hnm : IntKind.i64.wrap (n + m) = n + m := i64w (by omega)
  have hnat : (n + m).toNat = n.toNat + m.toNat := by omega
  generalize hb : (VM.run s n.toNat a) = b
  have fb : Fits a.prog b.1 := hb ▸ zsb s hw n.toNat l
  obtain ⟨bd, bt, bl⟩ := zqb b.1
  have ob := zze b.1
  have sb : ((AV.agg b.1.avs).sure = true) := by simp [Agt.avs]
  have ne_0 : nx ≠ nx + 1 ∧ nx + 1 ≠ nx ∧ nx ≠ nx + 2 ∧ nx + 2 ≠ nx ∧ nx ≠ nx + 3 ∧ nx + 3 ≠ nx ∧ nx ≠ nx + 4 ∧ nx + 4 ≠ nx ∧ nx ≠ nx + 5 ∧ nx + 5 ≠ nx ∧ nx + 1 ≠ nx + 2 ∧ nx + 2 ≠ nx + 1 ∧ nx + 1 ≠ nx + 3 ∧ nx + 3 ≠ nx + 1 ∧ nx + 1 ≠ nx + 4 ∧ nx + 4 ≠ nx + 1 ∧ nx + 1 ≠ nx + 5 ∧ nx + 5 ≠ nx + 1 := ⟨by omega, by omega, by omega, by omega, by omega, by omega, by omega, by omega, by omega, by omega, by omega, by omega, by omega, by omega, by omega, by omega, by omega, by omega⟩
  by_cases hk : b.2.kind = 1
  · simp [zec, x0, x1, al, at9, sl, st4, bl, bt, sb, eavs, hk, ne_0]
    obtain ⟨gs, g, lb⟩ := VM.run_live s hw n.toNat l (by rw [hb]; exact hk)
    rw [hb] at lb
    refine ⟨ob, ?_⟩
    generalize hY : Heap.put _ (nx + 2 + 1) (some (AObj.row 3 [AV.int IntKind.i64 1, AV.str b.2.text, AV.int IntKind.i64 b.2.err])) = Y
    have y0 : Y nx = some (.row 9 a.avs) := by
      rw [← hY, Heap.put_ne _ _ (by omega), Heap.put_ne _ _ (by omega), Heap.put_ne _ _ (by omega), Heap.put_ne _ _ (by omega)]; exact x0
    have y1 : Y (nx + 1) = some (.row 4 s.avs) := by
      rw [← hY, Heap.put_ne _ _ (by omega), Heap.put_ne _ _ (by omega), Heap.put_ne _ _ (by omega), Heap.put_ne _ _ (by omega)]; exact x1
    have yk : Keep nx Y H := fun g hg => by
      rw [← hY, Heap.put_ne _ _ (by omega), Heap.put_ne _ _ (by omega), Heap.put_ne _ _ (by omega), Heap.put_ne _ _ (by omega)]; exact xk g hg
    clear hY
    refine QC.call (zsv lb hname hf hw (by omega)) ?_
    have hadd : VM.run s (n + m).toNat a = VM.run s m.toNat b.1 := by
      rw [hnat, VM.run_add_rest s m.toNat n.toNat a (by rw [hb]; exact hk), hb]
    have fd0 := zsb s hw (n + m).toNat l
    rw [hadd] at fd0
    generalize hd : (VM.run s m.toNat b.1) = d at hadd fd0 ⊢
    obtain ⟨dd, dt, dl⟩ := zqb d.1
    have od := zze d.1
    have sd : ((AV.agg d.1.avs).sure = true) := by simp [Agt.avs]
    have ne_1 : nx ≠ nx + 1 ∧ nx + 1 ≠ nx ∧ nx ≠ nx + 2 + 2 ∧ nx + 2 + 2 ≠ nx ∧ nx ≠ nx + 2 + 2 + 1 ∧ nx + 2 + 2 + 1 ≠ nx ∧ nx ≠ nx + 2 + 2 + 2 ∧ nx + 2 + 2 + 2 ≠ nx ∧ nx ≠ nx + 2 + 2 + 2 + 1 ∧ nx + 2 + 2 + 2 + 1 ≠ nx ∧ nx + 1 ≠ nx + 2 + 2 ∧ nx + 2 + 2 ≠ nx + 1 ∧ nx + 1 ≠ nx + 2 + 2 + 1 ∧ nx + 2 + 2 + 1 ≠ nx + 1 ∧ nx + 1 ≠ nx + 2 + 2 + 2 ∧ nx + 2 + 2 + 2 ≠ nx + 1 ∧ nx + 1 ≠ nx + 2 + 2 + 2 + 1 ∧ nx + 2 + 2 + 2 + 1 ≠ nx + 1 := ⟨by omega, by omega, by omega, by omega, by omega, by omega, by omega, by omega, by omega, by omega, by omega, by omega, by omega, by omega, by omega, by omega, by omega, by omega⟩
    simp [zhz, y0, y1, al, at9, sl, st4, dl, dt, sd, eavs, hnm, ne_1]
    refine ⟨od, ?_⟩
    refine QC.call (zsv l hname hf hw (by omega)) ?_
    rw [hadd]
    generalize hZ : Heap.put _ (nx + 2 + 2 + 1) (some (AObj.row 3 [AV.int IntKind.i64 d.2.kind, AV.str d.2.text, AV.int IntKind.i64 d.2.err])) = Z
    have z0 : Z (nx + 2 + 2) = some (.row 9 d.1.avs) := by rw [← hZ, Heap.put_ne _ _ (by omega), Heap.put_at]
    have z1 : Z (nx + 2 + 2 + 1) = some (.row 3 [AV.int IntKind.i64 d.2.kind, AV.str d.2.text, AV.int IntKind.i64 d.2.err]) := by rw [← hZ, Heap.put_at]
    have zk : Keep nx Z H := fun g hg => by
      rw [← hZ, Heap.put_ne _ _ (by omega), Heap.put_ne _ _ (by omega), Heap.put_ne _ _ (by omega), Heap.put_ne _ _ (by omega)]; exact yk g hg
    clear hZ
    have ne_2 : nx + 2 + 2 ≠ nx + 2 + 2 + 1 ∧ nx + 2 + 2 + 1 ≠ nx + 2 + 2 ∧ nx + 2 + 2 ≠ nx + 2 + 2 + 2 ∧ nx + 2 + 2 + 2 ≠ nx + 2 + 2 ∧ nx + 2 + 2 ≠ nx + 2 + 2 + 2 + 1 ∧ nx + 2 + 2 + 2 + 1 ≠ nx + 2 + 2 ∧ nx + 2 + 2 + 1 ≠ nx + 2 + 2 + 2 ∧ nx + 2 + 2 + 2 ≠ nx + 2 + 2 + 1 ∧ nx + 2 + 2 + 1 ≠ nx + 2 + 2 + 2 + 1 ∧ nx + 2 + 2 + 2 + 1 ≠ nx + 2 + 2 + 1 := ⟨by omega, by omega, by omega, by omega, by omega, by omega, by omega, by omega, by omega, by omega⟩
    simp [zia, z0, z1, dl, dt, sd, eavs, zzm, ne_2]
    refine ⟨od, ?_⟩
    refine QC.call (zvf l fd0) ?_
    simp [zib]
    refine hQ _ _ fun g hg => ?_
    rw [Heap.put_ne _ _ (by omega), Heap.put_ne _ _ (by omega), Heap.put_ne _ _ (by omega), Heap.put_ne _ _ (by omega)]
    exact zk g hg
  · have hdummy : True := trivial
    have ne_3 : nx ≠ nx + 1 ∧ nx + 1 ≠ nx ∧ nx ≠ nx + 2 ∧ nx + 2 ≠ nx ∧ nx ≠ nx + 3 ∧ nx + 3 ≠ nx ∧ nx ≠ nx + 4 ∧ nx + 4 ≠ nx ∧ nx ≠ nx + 5 ∧ nx + 5 ≠ nx ∧ nx + 1 ≠ nx + 2 ∧ nx + 2 ≠ nx + 1 ∧ nx + 1 ≠ nx + 3 ∧ nx + 3 ≠ nx + 1 ∧ nx + 1 ≠ nx + 4 ∧ nx + 4 ≠ nx + 1 ∧ nx + 1 ≠ nx + 5 ∧ nx + 5 ≠ nx + 1 := ⟨by omega, by omega, by omega, by omega, by omega, by omega, by omega, by omega, by omega, by omega, by omega, by omega, by omega, by omega, by omega, by omega, by omega, by omega⟩
    simp [zec, x0, x1, al, at9, sl, st4, bl, bt, sb, eavs, hk, hnm, ne_3]
    refine ⟨ob, ?_⟩
    have hadd : VM.run s (n + m).toNat a = b := by
      rw [hnat, VM.run_add_stop s m.toNat n.toNat a (by rw [hb]; exact hk), hb]
    refine QC.call (zsv l hname hf hw (by omega)) ?_
    rw [hadd]
    generalize hZ : Heap.put _ (nx + 2 + 1) (some (AObj.row 3 [AV.int IntKind.i64 b.2.kind, AV.str b.2.text, AV.int IntKind.i64 b.2.err])) = Z
    have z0 : Z (nx + 2) = some (.row 9 b.1.avs) := by rw [← hZ, Heap.put_ne _ _ (by omega), Heap.put_at]
    have z1 : Z (nx + 2 + 1) = some (.row 3 [AV.int IntKind.i64 b.2.kind, AV.str b.2.text, AV.int IntKind.i64 b.2.err]) := by rw [← hZ, Heap.put_at]
    have zk : Keep nx Z H := fun g hg => by
      rw [← hZ, Heap.put_ne _ _ (by omega), Heap.put_ne _ _ (by omega), Heap.put_ne _ _ (by omega), Heap.put_ne _ _ (by omega)]; exact xk g hg
    clear hZ
    have ne_4 : nx + 2 ≠ nx + 2 + 1 ∧ nx + 2 + 1 ≠ nx + 2 ∧ nx + 2 ≠ nx + 2 + 2 ∧ nx + 2 + 2 ≠ nx + 2 ∧ nx + 2 ≠ nx + 2 + 2 + 1 ∧ nx + 2 + 2 + 1 ≠ nx + 2 ∧ nx + 2 + 1 ≠ nx + 2 + 2 ∧ nx + 2 + 2 ≠ nx + 2 + 1 ∧ nx + 2 + 1 ≠ nx + 2 + 2 + 1 ∧ nx + 2 + 2 + 1 ≠ nx + 2 + 1 := ⟨by omega, by omega, by omega, by omega, by omega, by omega, by omega, by omega, by omega, by omega⟩
    simp [zic, z0, z1, bl, bt, sb, eavs, zzm, ne_4]
    refine ⟨ob, ?_⟩
    refine QC.call (zvf l fb) ?_
    simp [zid]
    refine hQ _ _ fun g hg => ?_
    rw [Heap.put_ne _ _ (by omega), Heap.put_ne _ _ (by omega), Heap.put_ne _ _ (by omega), Heap.put_ne _ _ (by omega)]
    exact zk g hg
namespace VM
end VM
end Go.Proofs.YtobioljjoipimaaDoor
namespace Go.Proofs.YtobioljjoipimaaDoor
open Go Go.RowKit
theorem LayE.of_var {n : String} {w : World} {t : TypeId} {p : Value} (h : w.var? Tryd.prog n = some #[.iface t p]) : LayE n (fun b => w.heap[b]?) := fun g hg => by
  unfold World.var? at h
  rw [hg, Option.bind_some] at h
  split at h
  · rename_i cs e m hc
    cases h
    exact ⟨_, _, e, m, hc⟩
  · cases h
theorem zxn : "*" ++ "errors.errorString" = "*errors.errorString" := by decide
theorem zzl (u : TypeId) (h : Tryd.prog.typeName? 3 u = some "*errors.errorString") : u = 216 :=
  typeName_ptr_named (nm := "errors.errorString") (by rw [zxn]; kernel_rfl) (by kernel_rfl) (by decide) u (by rw [zxn]; exact h)
theorem zabh {r : List (String × DataW Unit)} {text : List UInt8} {W : World} (h : laidMet Tryd.prog (("strconv.ErrRange", .iface "*errors.errorString" (.ptr (.agg [.lit (.string text)]))) :: r) W) : LayE "strconv.ErrRange" (fun b => W.heap[b]?) := by
  obtain ⟨a, s, h1, _⟩ := laid_sentinel (g := 2) (ti := 180) (tp := 216) (te := 218) (ts := 9) h (by kernel_rfl) (by kernel_rfl) Tryd.underlying180 zzl Tryd.underlying216 Tryd.underlying218 rfl rfl Tryd.underlying9 (by kernel_rfl) (by kernel_rfl)
  exact .of_var h1
theorem zym {r : List (String × DataW Unit)} {text : List UInt8} {W : World} (h : laidMet Tryd.prog (("strconv.ErrSyntax", .iface "*errors.errorString" (.ptr (.agg [.lit (.string text)]))) :: r) W) : LayE "strconv.ErrSyntax" (fun b => W.heap[b]?) := by
  obtain ⟨a, s, h1, _⟩ := laid_sentinel (g := 1) (ti := 180) (tp := 216) (te := 218) (ts := 9) h (by kernel_rfl) (by kernel_rfl) Tryd.underlying180 zzl Tryd.underlying216 Tryd.underlying218 rfl rfl Tryd.underlying9 (by kernel_rfl) (by kernel_rfl)
  exact .of_var h1
end Go.Proofs.YtobioljjoipimaaDoor
