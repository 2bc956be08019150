/- A region whose order is drawn, on: whatever order is drawn comes to what the walk says. -/
import Derived.Test.YtckhbfbbpdjmdaaDrawn
namespace Go.Proofs.Ytckhbfbbpdjmdaa
open Go Go.RowKit

def lsOf (listed : Array Bool) : Nat → Bool := fun i => listed.getD i false
def AD (nx0 : Nat) (L : List Rec) (ls : Nat → Bool) : Nat → Prop := fun g => g < nx0 ∨ ∃ i r, ls i = true ∧ L[i]? = some r ∧ g ∈ r.fr

section
variable {P : Program} {ops : Array Oper} {L : List Rec} {env0 : Env} {H0 : Heap} {nx0 N : Nat}

structure DInv (ops : Array Oper) (L : List Rec) (env0 : Env) (H0 : Heap) (nx0 N : Nat) (ρ0 : Nat → Loc) (w0 : World) (listed : Array Bool) (a : Act) (w : World) : Prop where
  sz : listed.size = ops.size
  closed : ∀ i, listed.getD i false = true → ∀ j ∈ predsOf ops i, listed.getD j false = true
  tsz : a.tmps.size = N
  defers : a.defers = []
  st : ∃ ρ, Sim (AD nx0 L (lsOf listed)) ρ (hD (lsOf listed) L 0 H0) w ∧ Fr (· < nx0) ρ0 H0 w0 (AD nx0 L (lsOf listed)) ρ (hD (lsOf listed) L 0 H0) w ∧
    ∀ t, VRel (Kof ρ (hD (lsOf listed) L 0 H0) w) ρ (AD nx0 L (lsOf listed)) (eD (lsOf listed) ops.toList L 0 env0 t) (a.tmps.getD t undef)

theorem lsOf_set {listed : Array Bool} {i : Nat} (hi : i < listed.size) : lsOf (listed.setIfInBounds i true) = fun x => bif Nat.beq x (0 + i) then true else lsOf listed x := by
  funext x
  simp only [lsOf, Nat.zero_add]
  rw [getD_set hi]
  by_cases h : x = i
  · subst h; simp
  · have : Nat.beq x i = false := by rw [← Bool.not_eq_true, Nat.beq_eq]; exact h
    rw [if_neg h, this]; rfl

theorem AD_set {listed : Array Bool} {i : Nat} (hi : i < listed.size) {r : Rec} (hr : L[i]? = some r) (hl : listed.getD i false = false) : AD nx0 L (lsOf (listed.setIfInBounds i true)) = fun x => AD nx0 L (lsOf listed) x ∨ x ∈ r.fr := by
  funext g
  simp only [AD, lsOf, eq_iff_iff]
  constructor
  · rintro (h | ⟨j, x, h1, h2, h3⟩)
    · exact .inl (.inl h)
    · rw [getD_set hi] at h1
      by_cases hj : j = i
      · subst hj
        rw [hr] at h2
        obtain rfl := Option.some.inj h2
        exact .inr h3
      · rw [if_neg hj] at h1
        exact .inl (.inr ⟨j, x, h1, h2, h3⟩)
  · rintro ((h | ⟨j, x, h1, h2, h3⟩) | h)
    · exact .inl h
    · refine .inr ⟨j, x, ?_, h2, h3⟩
      rw [getD_set hi]; split
      · rfl
      · exact h1
    · refine .inr ⟨i, r, ?_, hr, h⟩
      rw [getD_set hi, if_pos rfl]

theorem mem_cpairs {i j : Nat} {a b : Oper} (hij : i < j) (ha : ops[i]? = some a) (hb : ops[j]? = some b) (hn : (noW a && noW b) = false) (hbf : befB (ancL ops ops.size) i j = false) : (i, j) ∈ cpairs ops := by
  unfold cpairs cpairsL
  rw [List.mem_flatMap]
  refine ⟨j, List.mem_range.2 (Array.getElem?_eq_some_iff.1 hb).1, ?_⟩
  rw [List.mem_filterMap]
  refine ⟨i, List.mem_range.2 hij, ?_⟩
  simp [ha, hb, hn, hbf]

theorem wpAny_drawn (hok : flowOk ops N = true) {Q : Exit → Act → World → Prop} {ρ0 : Nat → Loc} {w0 : World} {env' : Env} {H' : Heap} {nx' : Nat}
    (hch : Chain P ops.toList ops.toList L env0 H0 nx0 env' H' nx') (hco : conds L (cpairs ops))
    (hend : ∀ (a : Act) (w : World) (ρ : Nat → Loc), St N env' H' nx' ρ w a → Fr (· < nx0) ρ0 H0 w0 (· < nx') ρ H' w → Q .normal a w) :
    ∀ (fuel : Nat) (listed : Array Bool) (a : Act) (w : World), DInv ops L env0 H0 nx0 N ρ0 w0 listed a w → ((List.range ops.size).filter fun i => !listed.getD i false).length ≤ fuel → wpAny P .any ops Q fuel listed a w := by
  obtain ⟨hlen, henv', hH', Nf, hN0, hNl, hNs, hat⟩ := chain_at _ _ 0 _ _ _ _ _ _ hch
  have hlen' : L.length = ops.size := by simpa using hlen
  have hops : ∀ {i : Nat} {o : Oper}, ops[i]? = some o → ops.toList[i]? = some o := fun h => by simpa using h
  have hNmono : ∀ i j, i ≤ j → j ≤ L.length → Nf i ≤ Nf j := by
    intro i j hij hj
    induction j with
    | zero => have : i = 0 := by omega
              rw [this]; exact Nat.le_refl _
    | succ j ih =>
      by_cases h : i = j + 1
      · rw [h]; exact Nat.le_refl _
      · have := ih (by omega) (by omega)
        have h2 := hNs j _ (List.getElem?_eq_getElem (by omega))
        omega
  have hfr : ∀ {i : Nat} {r : Rec}, L[i]? = some r → ∀ g ∈ r.fr, g = Nf i ∧ Nf (i + 1) = Nf i + 1 := by
    intro i r hr g hg
    have hi := (List.getElem?_eq_some_iff.1 hr).1
    have ho : ops[i]? = some ops[i] := Array.getElem?_eq_getElem (by omega)
    obtain ⟨r', q1, _, _, q4⟩ := hat i _ (hops ho)
    rw [hr] at q1
    obtain rfl := Option.some.inj q1
    have hs := hNs i r hr
    rcases q4.1 with h | h
    · rw [h] at hg; cases hg
    · rw [h] at hg hs
      simp at hg hs
      exact ⟨hg, hs⟩
  have hAN : ∀ ls g, AD nx0 L ls g → g < nx' := by
    rintro ls g (h | ⟨i, r, h1, h2, h3⟩)
    · have := hNmono 0 L.length (by omega) (by omega)
      rw [hN0] at this
      rw [← hNl, ← hlen]; omega
    · obtain ⟨e1, e2⟩ := hfr h2 g h3
      have hi := (List.getElem?_eq_some_iff.1 h2).1
      have := hNmono (i + 1) L.length (by omega) (by omega)
      rw [← hNl, ← hlen]; omega
  have pair : ∀ {i j : Nat} {r x : Rec}, i < j → L[i]? = some r → L[j]? = some x → befB (ancL ops ops.size) i j = false → (∀ g ∈ domD r.D, g ∉ x.rd ∧ g ∉ domD x.D) ∧ (∀ g ∈ domD x.D, g ∉ r.rd) := by
    intro i j r x hij hr hx hb
    have hi := (List.getElem?_eq_some_iff.1 hr).1
    have hj := (List.getElem?_eq_some_iff.1 hx).1
    have hoi : ops[i]? = some ops[i] := Array.getElem?_eq_getElem (by omega)
    have hoj : ops[j]? = some ops[j] := Array.getElem?_eq_getElem (by omega)
    cases hn : (noW ops[i] && noW ops[j]) with
    | true =>
      simp only [Bool.and_eq_true] at hn
      obtain ⟨r', q1, _, _, q4⟩ := hat i _ (hops hoi)
      rw [hr] at q1
      obtain rfl := Option.some.inj q1
      obtain ⟨x', p1, _, _, p4⟩ := hat j _ (hops hoj)
      rw [hx] at p1
      obtain rfl := Option.some.inj p1
      rw [(q4.2.1 hn.1).2, (p4.2.1 hn.2).2]
      exact ⟨(fun g hg => by cases hg), (fun g hg => by cases hg)⟩
    | false =>
      have := (conds_iff L _).1 hco _ (mem_cpairs hij hoi hoj hn hb)
      simp only [pairOk, hr, hx] at this
      obtain ⟨h1, h2⟩ := this
      rw [disj_iff] at h1 h2
      exact ⟨fun g hg => by have := h1 g hg; simpa using this, h2⟩
  have uniq : ∀ {i : Nat} {o : Oper} {t : Nat}, ops[i]? = some o → o.dst = some t → ∀ k' o', ops.toList[k']? = some o' → o'.dst = some t → k' = i := by
    intro i o t ho hd k' o' hk hd'
    have h1 := ((flowOk_at hok ho).2.1 t hd).1
    have h2 := ((flowOk_at hok (o := o') (i := k') (by simpa using hk)).2.1 t hd').1
    rw [h1] at h2
    exact (Option.some.inj h2).symm
  have fin : ∀ (listed : Array Bool) (a : Act) (w : World), DInv ops L env0 H0 nx0 N ρ0 w0 listed a w → Region.ready .any ops listed = [] → Q .normal a w := by
    intro listed a w inv hr
    have all : ∀ n i, i < n → i < ops.size → listed.getD i false = true := by
      intro n
      induction n with
      | zero => intro i hi; omega
      | succ n ih =>
        intro i hi hs
        by_cases hl : listed.getD i false = true
        · exact hl
        · exfalso
          have ho : ops[i]? = some ops[i] := Array.getElem?_eq_getElem hs
          have : i ∈ Region.ready .any ops listed := (ready_iff inv.sz).2 ⟨ops[i], ho, by simpa using hl, fun j hj => ih j (by have := (flowOk_at hok ho).1 j hj; omega) (by have := (flowOk_at hok ho).1 j hj; omega)⟩
          rw [hr] at this
          cases this
    have all' : ∀ i, i < ops.size → lsOf listed i = true := fun i hi => all (i + 1) i (by omega) hi
    obtain ⟨ρ, s, f, hv⟩ := inv.st
    have eH : hD (lsOf listed) L 0 H0 = H' := by
      rw [hH']
      funext g
      exact hD_congr L 0 _ _ rfl fun j r hj _ => by
        have := (List.getElem?_eq_some_iff.1 hj).1
        rw [Nat.zero_add]; exact all' j (by omega)
    have eE : ∀ t, eD (lsOf listed) ops.toList L 0 env0 t = env' t := by
      intro t
      rw [henv']
      by_cases hw : ∃ (i : Nat) (o : Oper), ops[i]? = some o ∧ o.dst = some t
      · obtain ⟨i, o, ho, hd⟩ := hw
        have hi := (Array.getElem?_eq_some_iff.1 ho).1
        have hx : L[i]? = some (L[i]'(by omega)) := List.getElem?_eq_getElem (by omega)
        rw [eD_one _ _ 0 i o _ env0 (hops ho) hx hd (uniq ho hd), eD_one _ _ 0 i o _ env0 (hops ho) hx hd (uniq ho hd), Nat.zero_add, all' i hi]
      · have hno : ∀ o ∈ ops.toList, o.dst ≠ some t := fun o ho e => hw (by
          obtain ⟨i, hi⟩ := List.getElem?_of_mem ho
          exact ⟨i, o, by simpa using hi, e⟩)
        rw [eD_none _ _ _ _ hno, eD_none _ _ _ _ hno]
    have hsub : ∀ g, AD nx0 L (lsOf listed) g → ρ g = ρ g ∧ g < nx' := fun g hg => ⟨rfl, hAN _ g hg⟩
    rw [eH] at s f hv
    have s' : Sim (· < nx') ρ H' w := ⟨fun g o hg => hAN _ g (s.live g o hg), fun g o hg => (s.obj g o hg).mono rfl (fun _ _ h => h) hsub, s.inj⟩
    refine hend a w ρ ⟨s', fun t => ?_, inv.tsz, inv.defers⟩ ⟨fun g hg => ⟨(f.agree g hg).1, hAN _ g (f.agree g hg).2⟩, f.k, f.os, f.tape, f.output, f.size⟩
    have := hv t
    rw [eE] at this
    exact this.mono (fun _ _ h => h) hsub
  intro fuel
  induction fuel with
  | zero =>
    intro listed a w inv hle
    have hr : Region.ready .any ops listed = [] := by
      cases hr : Region.ready .any ops listed with
      | nil => rfl
      | cons i r =>
        exfalso
        have hi : i ∈ Region.ready .any ops listed := by rw [hr]; simp
        obtain ⟨o, ho, hl, _⟩ := (ready_iff inv.sz).1 hi
        have : i ∈ (List.range ops.size).filter fun i => !listed.getD i false := by
          rw [List.mem_filter]; exact ⟨List.mem_range.2 (Array.getElem?_eq_some_iff.1 ho).1, by rw [hl]; rfl⟩
        have := List.length_pos_of_mem this
        omega
    exact ⟨hr, fin listed a w inv hr⟩
  | succ fuel ih =>
    intro listed a w inv hle
    refine ⟨fun hr => fin listed a w inv hr, fun i hi => ?_⟩
    obtain ⟨o, ho, hl, hp⟩ := (ready_iff inv.sz).1 hi
    have his : i < ops.size := (Array.getElem?_eq_some_iff.1 ho).1
    have hil : i < listed.size := by rw [inv.sz]; exact his
    obtain ⟨r, hr, henv, hH, hfact⟩ := hat i o (hops ho)
    simp only [Nat.zero_add] at henv hH
    obtain ⟨hp1, hp2, hp3, hp4⟩ := flowOk_at hok ho
    obtain ⟨ρ, s, f, hv⟩ := inv.st
    have hlast : ∀ j x, i < j → L[j]? = some x → lsOf listed (0 + j) = true → ∀ g ∈ domD r.D, g ∉ domD x.D := by
      intro j x hij hx hlx g hg
      rw [Nat.zero_add] at hlx
      cases hb : befB (ancL ops ops.size) i j with
      | true =>
        have := before_down inv.closed _ i j (befB_before hb).choose_spec hlx
        rw [hl] at this; cases this
      | false => exact ((pair hij hr hx hb).1 g hg).2
    have hHadd : hD (lsOf (listed.setIfInBounds i true)) L 0 H0 = (hD (lsOf listed) L 0 H0).apply r.D := by
      rw [lsOf_set hil]
      exact hD_add L 0 i r H0 hr (by rw [Nat.zero_add]; exact hl) hlast
    have hrdeq : ∀ g ∈ r.rd, hD (lsOf listed) L 0 H0 g = r.H g := by
      intro g hg
      rw [hH]
      refine hD_congr L 0 _ _ rfl fun j x hj hgx => ?_
      rw [Nat.zero_add]
      rcases Nat.lt_trichotomy j i with h | h | h
      · have hd : decide (j < i) = true := by simpa using h
        rw [hd]
        cases hb : befB (ancL ops ops.size) j i with
        | true => exact before_ready inv.closed hp _ j (befB_before hb).choose_spec
        | false => exact absurd hg ((pair h hj hr hb).1 g hgx).1
      · subst h
        have hd : decide (j < j) = false := by simp
        rw [hd]; exact hl
      · have hd : decide (j < i) = false := by simp; omega
        rw [hd]
        cases hb : befB (ancL ops ops.size) i j with
        | true =>
          cases hx : lsOf listed j with
          | false => rfl
          | true =>
            have := before_down inv.closed _ i j (befB_before hb).choose_spec hx
            rw [hl] at this; cases this
        | false => exact absurd hg ((pair h hr hj hb).2 g hgx)
    have hslot : ∀ t ∈ o.looksAt ops, eD (lsOf listed) ops.toList L 0 env0 t = r.env t := by
      intro t ht
      rw [henv]
      by_cases hw : ∃ (j : Nat) (o' : Oper), ops[j]? = some o' ∧ o'.dst = some t
      · obtain ⟨j, o', ho', hd⟩ := hw
        have hj := (Array.getElem?_eq_some_iff.1 ho').1
        have hx : L[j]? = some (L[j]'(by omega)) := List.getElem?_eq_getElem (by omega)
        rw [eD_one _ _ 0 j o' _ env0 (hops ho') hx hd (uniq ho' hd), eD_one _ _ 0 j o' _ env0 (hops ho') hx hd (uniq ho' hd), Nat.zero_add]
        have hwr := ((flowOk_at hok ho').2.1 t hd).1
        rcases hp4 t ht j hwr with h | h
        · have h1 := hp j h
          have h2 := hp1 j h
          have hd' : decide (j < i) = true := by simpa using h2
          rw [hd']; rw [show lsOf listed j = true from h1]
        · have h2 := (flowOk_at hok ho').1 i h
          have hd' : decide (j < i) = false := by simp; omega
          rw [hd']
          cases hxl : lsOf listed j with
          | false => rfl
          | true =>
            have := inv.closed j hxl i h
            rw [hl] at this; cases this
      · have hno : ∀ o ∈ ops.toList, o.dst ≠ some t := fun o ho e => hw (by
          obtain ⟨i, hi⟩ := List.getElem?_of_mem ho
          exact ⟨i, o, by simpa using hi, e⟩)
        rw [eD_none _ _ _ _ hno, eD_none _ _ _ _ hno]
    have hfresh : ∀ g ∈ r.fr, ¬ AD nx0 L (lsOf listed) g := by
      intro g hg hA
      obtain ⟨e1, e2⟩ := hfr hr g hg
      rcases hA with h | ⟨j, x, h1, h2, h3⟩
      · have := hNmono 0 i (by omega) (by omega)
        rw [hN0] at this; omega
      · obtain ⟨d1, d2⟩ := hfr h2 g h3
        have hji : j ≠ i := by intro e; subst e; rw [show lsOf listed j = listed.getD j false from rfl, hl] at h1; cases h1
        have hjl := (List.getElem?_eq_some_iff.1 h2).1
        rcases Nat.lt_or_ge j i with h | h
        · have := hNmono (j + 1) i (by omega) (by omega); omega
        · have := hNmono (i + 1) j (by omega) (by omega); omega
    have step : ∀ (ρ' : Nat → Loc) (cv : Value) (w' : World), Sim (fun x => AD nx0 L (lsOf listed) x ∨ x ∈ r.fr) ρ' ((hD (lsOf listed) L 0 H0).apply r.D) w' →
        VRel (Kof ρ' ((hD (lsOf listed) L 0 H0).apply r.D) w') ρ' (fun x => AD nx0 L (lsOf listed) x ∨ x ∈ r.fr) r.v cv →
        Fr (AD nx0 L (lsOf listed)) ρ (hD (lsOf listed) L 0 H0) w (fun x => AD nx0 L (lsOf listed) x ∨ x ∈ r.fr) ρ' ((hD (lsOf listed) L 0 H0).apply r.D) w' →
        wpAny P .any ops Q fuel (listed.setIfInBounds i true) (a.put o.dst cv) w' := by
      intro ρ' cv w' q1 q2 q3
      refine ih _ _ _ ⟨by simp [inv.sz], fun j hj k hk => ?_, ?_, ?_, ρ', ?_, ?_, fun t => ?_⟩ ?_
      · rw [getD_set hil] at hj ⊢
        by_cases hji : j = i
        · subst hji; have := hp k hk; split
          · rfl
          · exact this
        · rw [if_neg hji] at hj
          have := inv.closed j hj k hk
          split
          · rfl
          · exact this
      · cases o.dst <;> simp [Act.put, inv.tsz]
      · cases o.dst <;> simp [Act.put, inv.defers]
      · rw [AD_set hil hr hl, hHadd]; exact q1
      · rw [AD_set hil hr hl, hHadd]; exact f.trans q3
      · rw [AD_set hil hr hl, hHadd]
        rw [getD_put' a o.dst t cv (fun t ht => by rw [inv.tsz]; exact (hp2 t ht).2)]
        by_cases hd : o.dst = some t
        · rw [if_pos hd, eD_one _ _ 0 i o r env0 (hops ho) hr hd (uniq ho hd), Nat.zero_add]
          have : lsOf (listed.setIfInBounds i true) i = true := by simp only [lsOf]; rw [getD_set hil, if_pos rfl]
          rw [this]; exact q2
        · rw [if_neg hd]
          have e : eD (lsOf (listed.setIfInBounds i true)) ops.toList L 0 env0 t = eD (lsOf listed) ops.toList L 0 env0 t := by
            by_cases hw : ∃ (j : Nat) (o' : Oper), ops[j]? = some o' ∧ o'.dst = some t
            · obtain ⟨j, o', ho', hd'⟩ := hw
              have hj := (Array.getElem?_eq_some_iff.1 ho').1
              have hx : L[j]? = some (L[j]'(by omega)) := List.getElem?_eq_getElem (by omega)
              rw [eD_one _ _ 0 j o' _ env0 (hops ho') hx hd' (uniq ho' hd'), eD_one _ _ 0 j o' _ env0 (hops ho') hx hd' (uniq ho' hd'), Nat.zero_add]
              have hji : j ≠ i := by intro e; subst e; rw [ho] at ho'; obtain rfl := Option.some.inj ho'; exact hd hd'
              have : lsOf (listed.setIfInBounds i true) j = lsOf listed j := by simp only [lsOf]; rw [getD_set hil, if_neg hji]
              rw [this]
            · have hno : ∀ o ∈ ops.toList, o.dst ≠ some t := fun o ho e => hw (by
                obtain ⟨i, hi⟩ := List.getElem?_of_mem ho
                exact ⟨i, o, by simpa using hi, e⟩)
              rw [eD_none _ _ _ _ hno, eD_none _ _ _ _ hno]
          rw [e]
          exact (hv t).mono q3.k q3.agree
      · have hfil : ((List.range ops.size).filter fun k => !(listed.setIfInBounds i true).getD k false).length < ((List.range ops.size).filter fun k => !listed.getD k false).length := by
          have e : ((List.range ops.size).filter fun k => !(listed.setIfInBounds i true).getD k false) = (((List.range ops.size).filter fun k => !listed.getD k false).filter fun k => decide (k ≠ i)) := by
            rw [List.filter_filter]
            refine List.filter_congr fun k _ => ?_
            rw [getD_set hil]
            by_cases hk : k = i
            · subst hk; simp
            · rw [if_neg hk]; simp [hk]
          rw [e]
          refine List.length_filter_lt_length_iff_exists.2 ⟨i, ?_, by simp⟩
          rw [List.mem_filter]
          exact ⟨List.mem_range.2 his, by rw [hl]; rfl⟩
        omega
    simp only [wpOp, ho]
    obtain ⟨hf1, hf2, hf3⟩ := hfact
    have hguard : ∀ (j : Nat) (want : Bool) (t : Nat), o.guard = some (j, want) → gdst ops.toList j = some t → VRel (Kof ρ (hD (lsOf listed) L 0 H0) w) ρ (AD nx0 L (lsOf listed)) (r.env t) (a.tmps.getD t undef) ∧
        Region.wanted o (yielded ops a.tmps) = (match a.tmps.getD t undef with | .bool b => b == want | _ => false) := by
      intro j want t hg ht
      have e : (ops[j]?).bind (·.dst) = some t := by unfold gdst at ht; simpa using ht
      have hmem : t ∈ o.looksAt ops := by
        unfold Oper.looksAt
        rw [hg]
        simp [e]
      refine ⟨by rw [← hslot t hmem]; exact hv t, ?_⟩
      have hy := yielded_of ht a
      have htN : t < N := by
        obtain ⟨o', ho', hd⟩ := Option.bind_eq_some_iff.1 e
        exact ((flowOk_at hok ho').2.1 t hd).2
      have hget : a.tmps[t]? = some (a.tmps.getD t undef) := by simp [Array.getD, inv.tsz, htN]
      rw [hget] at hy
      have hwant : Region.wanted o (yielded ops a.tmps) = (yielded ops a.tmps j == some want) := by simp [Region.wanted, hg]
      rw [hwant, hy]
      cases a.tmps.getD t undef <;> rfl
    cases hsk : r.skip with
    | true =>
      rw [hsk, if_pos rfl] at hf3
      obtain ⟨h1, h2, h3, h4, j, want, t, hg, ht, hor⟩ := hf3
      obtain ⟨g1, g2⟩ := hguard j want t hg ht
      have hw : Region.wanted o (yielded ops a.tmps) = false := by
        rw [g2]
        rcases hor with h | h <;> rw [h] at g1 <;> generalize a.tmps.getD t undef = tv at g1 <;> cases g1
        · rfl
        · simp
      rw [hw]
      simp only [Bool.false_eq_true, if_false]
      refine step ρ undef w ?_ ?_ ?_
      · rw [h3, h4, or_nil]; exact s
      · rw [h1]; exact .und
      · rw [h3, h4, or_nil]; exact Fr.refl _ _ _ _
    | false =>
      rw [hsk, if_neg (by simp)] at hf3
      obtain ⟨heff, hg⟩ := hf3
      have hw : Region.wanted o (yielded ops a.tmps) = true := by
        rcases hg with hg | ⟨j, want, t, hg, ht, hb⟩
        · simp [Region.wanted, hg]
        · obtain ⟨g1, g2⟩ := hguard j want t hg ht
          rw [g2]
          rw [hb] at g1
          generalize a.tmps.getD t undef = tv at g1
          cases g1
          simp
      rw [hw]
      simp only [if_true]
      refine .inl (wp_of_flow (heff _ ρ _ w a.eval ⟨nx', fun g hg => hAN _ g hg⟩ s (fun x hx => ?_) hrdeq hfresh) fun cv w' ⟨ρ', q1, q2, q3⟩ => step ρ' cv w' q1 q2 q3)
      cases x with
      | tmp t =>
        have hmem : t ∈ o.looksAt ops := by
          unfold Oper.looksAt
          rw [List.mem_append]
          left
          rw [List.mem_filterMap]
          exact ⟨.tmp t, hx, rfl⟩
        show VRel _ _ _ (r.env t) _
        rw [← hslot t hmem]
        exact hv t
      | const v => exact vrel_const _ _ _ v
      | global g => exact .junk _
      | func f => exact .clo f [] #[] rfl fun j v c hv => by simp at hv
end
end Go.Proofs.Ytckhbfbbpdjmdaa
