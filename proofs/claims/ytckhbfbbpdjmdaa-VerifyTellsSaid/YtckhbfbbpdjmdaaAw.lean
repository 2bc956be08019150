/- The code, by abstract operations: what is to be shown of it, and that this is enough. -/
import Derived.Test.YtckhbfbbpdjmdaaDrawn2
namespace Go.Proofs.Ytckhbfbbpdjmdaa
open Go Go.RowKit

section
variable (P : Program) (T : Nat → Option AT) (eqs : Nat → Bool)
def firstR : Code → Nat
  | .region id _ _ => id
  | .seq a _ => firstR a
  | .cond _ a _ => firstR a
  | .block _ a => firstR a
  | .loop a => firstR a
  | .scope a => firstR a
  | _ => 100000
variable (lv : Nat → Nat → Option (List Nat))
/-- Where ways meet: by what is known there of such slots, or each way goes on by itself. -/
def join (L : Option (List Nat)) (J : K3) (B : K3 → K3) : K3 := match L with
  | none => B J
  | some L => fun env H nx => JN (fun xs H nx => J (envOf L xs) H nx) fun j => B (fun env H nx => j (L.map env) H nx) env H nx
def lvL (L : Option (List Nat)) : List Nat := match L with
  | none => []
  | some L => L

/-- A region whose order is drawn. -/
def adr (ops : Array Oper) (K : K3) : K3 := fun env H nx => dops P T eqs ops.toList ops.toList [] env H nx [] fun env H nx log => condK log (K env H nx) (cpairs ops)

/-- What a way knows of the condition. -/
def knowC (c : Operand) (b : Bool) (env : Env) : Env := match c with
  | .tmp t => env.put t (.bool b)
  | _ => env
theorem knowC_self {c : Operand} {b : Bool} {env : Env} (h : env.ev c = .bool b) : knowC c b env = env := by
  cases c <;> first | rfl | exact put_self h

def aw : Code → K3 → (Nat → K3) → K3 → K3
  | .skip, kn, _, _ => kn
  | .label _, kn, _, _ => kn
  | .region id ops false, kn, _, _ => join (lv 0 id) kn fun K => aops P T eqs ops.toList ops.toList [] K
  | .region id ops true, kn, _, _ => join (lv 0 id) kn fun K => adr P T eqs ops K
  | .seq a b, kn, kx, kr => join (lv 3 (firstR b)) (aw b kn kx kr) fun K => aw a K kx kr
  | .cond c a b, kn, kx, kr => fun env H nx => CND (env.ev c) (aw a kn kx kr (knowC c true env) H nx) (aw b kn kx kr (knowC c false env) H nx)
  | .block id a, kn, kx, kr => join (lv 1 id) kn fun K => aw a K (fun i => bif Nat.beq i id then K else kx i) kr
  | .loop a, _, kx, kr => fun env H nx => LP (fun K xs H nx => aw a (fun env H nx => K ((lvL (lv 2 (firstR a))).map env) H nx) kx kr (envOf (lvL (lv 2 (firstR a))) xs) H nx) ((lvL (lv 2 (firstR a))).map env) H nx
  | .exit i, _, kx, _ => kx i
  | .ret, _, _, kr => kr
  | .scope a, kn, kx, kr => aw a kn kx kr
  | _, _, _, _ => fun _ _ _ => False
end

def wfC (N : Nat) : Code → Bool
  | .region _ ops drawn => dstsOk N ops.toList && (!drawn || flowOk ops N)
  | .seq a b => wfC N a && wfC N b
  | .cond _ a b => wfC N a && wfC N b
  | .block _ a => wfC N a
  | .loop a => wfC N a
  | .scope a => wfC N a
  | _ => true

section
variable {P : Program} {T : Nat → Option AT} {eqs : Nat → Bool} (hT : TOk P T) (hE : EOk P T eqs) {lv : Nat → Nat → Option (List Nat)} {N : Nat}
variable (nx0 : Nat) (ρ0 : Nat → Loc) (H0 : Heap) (w0 : World)

/-- The state is as it is said. -/
def RS (N : Nat) (K : K3) (a : Act) (w : World) : Prop := ∃ env H nx ρ, K env H nx ∧ St N env H nx ρ w a ∧ Fr (· < nx0) ρ0 H0 w0 (· < nx) ρ H w
def QS (N : Nat) (kn : K3) (kx : Nat → K3) (kr : K3) : Exit → Act → World → Prop
  | .normal, a, w => RS nx0 ρ0 H0 w0 N kn a w
  | .exit i, a, w => RS nx0 ρ0 H0 w0 N (kx i) a w
  | .ret, a, w => RS nx0 ρ0 H0 w0 N kr a w
  | _, _, _ => False

include hT hE in
theorem aops_sound {all : Array Oper} {kn' : K3} {kx : Nat → K3} {kr : K3} : ∀ (rest : List Oper) (kn : Known) (env : Env) (H : Heap) (nx : Nat), dstsOk N rest = true → (∀ t, (∃ o ∈ all.toList, o.dst = some t) → t < N) → aops P T eqs all.toList rest kn kn' env H nx → KnOk kn env →
    ∀ (ρ : Nat → Loc) (w : World) (a : Act), St N env H nx ρ w a → Fr (· < nx0) ρ0 H0 w0 (· < nx) ρ H w → wpList P all (QS nx0 ρ0 H0 w0 N kn' kx kr) rest a w
  | [], kn, env, H, nx, _, _, h, _, ρ, w, a, st, f => wpList_nil ⟨env, H, nx, ρ, h, st, f⟩
  | o :: r, kn, env, H, nx, hd, hall, h, hkn, ρ, w, a, st, f => by
    simp only [dstsOk, Bool.and_eq_true] at hd
    have hdo : ∀ t, o.dst = some t → t < N := fun t ht => by have := hd.1; rw [ht] at this; simpa using this
    have run : ∀ (kn1 : Known) (env1 : Env), KnOk kn1 env1 → St N env1 H nx ρ w a → astep P T eqs o env1 H nx (fun v H nx => aops P T eqs all.toList r (kdrop o.dst kn1) kn' (env1.putO o.dst v) H nx) → Region.wanted o (yielded all a.tmps) = true →
        wpList P all (QS nx0 ρ0 H0 w0 N kn' kx kr) (o :: r) a w := by
      intro kn1 env1 hk1 st1 hs hw
      refine wpList_step fun K hK => ?_
      rw [if_pos hw]
      refine wp_of_flow (astep_sound hT hE hs st1) fun cv w' ⟨v, H', nx', ρ', q1, q2, q3, q4⟩ => hK _ _ ?_
      exact aops_sound r _ _ H' nx' hd.2 hall q1 (hk1.drop o.dst v) ρ' w' _ (st1.put q2 q4 hdo q3) (f.trans q4)
    have skip : ∀ (kn1 : Known) (env1 : Env), KnOk kn1 env1 → St N env1 H nx ρ w a → aops P T eqs all.toList r (kskip o.dst kn1) kn' (env1.putO o.dst .und) H nx → Region.wanted o (yielded all a.tmps) = false →
        wpList P all (QS nx0 ρ0 H0 w0 N kn' kx kr) (o :: r) a w := by
      intro kn1 env1 hk1 st1 hs hw
      refine wpList_step fun K hK => ?_
      rw [if_neg (by rw [hw]; simp)]
      exact hK _ _ (aops_sound r _ _ H nx hd.2 hall hs (hk1.skip o.dst) ρ w _ (st1.put st1.sim (Fr.refl _ _ _ _) hdo .und) f)
    simp only [aops] at h
    split at h
    · rename_i hg
      exact run kn env hkn st h (by simp [Region.wanted, hg])
    · rename_i j want hg
      split at h
      · exact h.elim
      · rename_i t ht
        have hy := yielded_of ht a
        have htN : t < N := by
          obtain ⟨o', ho', hdst⟩ := Option.bind_eq_some_iff.1 ht
          exact hall t ⟨o', List.mem_of_getElem? ho', hdst⟩
        have hget : a.tmps[t]? = some (a.tmps.getD t undef) := by simp [Array.getD, st.size, htN]
        rw [hget] at hy
        have hwant : Region.wanted o (yielded all a.tmps) = (yielded all a.tmps j == some want) := by simp [Region.wanted, hg]
        have hbool : ∀ b, env t = .bool b → Region.wanted o (yielded all a.tmps) = (b == want) := by
          intro b hb
          have := st.env t
          rw [hb] at this
          generalize a.tmps.getD t undef = tv at this hy
          cases this
          rw [hwant, hy]; simp
        split at h
        · rename_i hk
          have hu := hkn t none (klook_mem hk)
          simp only at hu
          refine skip kn env hkn st h ?_
          have := st.env t
          rw [hu] at this
          generalize a.tmps.getD t undef = tv at this hy
          cases this
          rw [hwant, hy]; rfl
        · rename_i b hk
          have hb := hkn t (some b) (klook_mem hk)
          simp only at hb
          cases hbw : (b == want) with
          | true => rw [hbw] at h; exact run kn env hkn st h (by rw [hbool b hb, hbw])
          | false => rw [hbw] at h; exact skip kn env hkn st h (by rw [hbool b hb, hbw])
        · obtain ⟨b, hb, h1, h2⟩ := cnd_cases h
          · cases b with
            | true =>
              have h := h1 rfl
              have hk2 := hkn.know hb
              have he := put_self hb
              rw [he] at hk2 h
              cases want with
              | true => exact run _ env hk2 st h (by rw [hbool _ hb]; rfl)
              | false => exact skip _ env hk2 st h (by rw [hbool _ hb]; rfl)
            | false =>
              have h := h2 rfl
              have hk2 := hkn.know hb
              have he := put_self hb
              rw [he] at hk2 h
              cases want with
              | true => exact skip _ env hk2 st h (by rw [hbool _ hb]; rfl)
              | false => exact run _ env hk2 st h (by rw [hbool _ hb]; rfl)

theorem dsts_all {all : List Oper} (h : dstsOk N all = true) : ∀ t, (∃ o ∈ all, o.dst = some t) → t < N := by
  induction all with
  | nil => rintro t ⟨o, ho, _⟩; cases ho
  | cons x r ih =>
    simp only [dstsOk, Bool.and_eq_true] at h
    rintro t ⟨o, ho, hd⟩
    rcases List.mem_cons.1 ho with rfl | ho
    · have := h.1; rw [hd] at this; simpa using this
    · exact ih h.2 t ⟨o, ho, hd⟩

theorem RS.mono {K K' : K3} {a : Act} {w : World} (h : RS nx0 ρ0 H0 w0 N K a w) (hk : ∀ env H nx, K env H nx → K' env H nx) : RS nx0 ρ0 H0 w0 N K' a w := by
  obtain ⟨env, H, nx, ρ, h1, h2, h3⟩ := h
  exact ⟨env, H, nx, ρ, hk _ _ _ h1, h2, h3⟩
/-- Where ways meet, what is known is what was chosen. -/
theorem RS.join {L : List Nat} {I : J3} {J : K3} (hI : ∀ xs H nx, I xs H nx → J (envOf L xs) H nx) {a : Act} {w : World} (h : RS nx0 ρ0 H0 w0 N (fun env H nx => I (L.map env) H nx) a w) : RS nx0 ρ0 H0 w0 N J a w := by
  obtain ⟨env, H, nx, ρ, h1, h2, h3⟩ := h
  exact ⟨envOf L (L.map env), H, nx, ρ, hI _ _ _ h1, h2.weak (envOf_map env L), h3⟩

theorem least (p : Nat → Prop) : ∀ n, p n → ∃ m, p m ∧ ∀ k, p k → m ≤ k := by
  intro n
  induction n using Nat.strongRecOn with
  | _ n ih =>
    intro h
    by_cases hk : ∃ k, k < n ∧ p k
    · obtain ⟨k, h1, h2⟩ := hk
      exact ih k h1 h2
    · exact ⟨n, h, fun k hp => by
        rcases Nat.lt_or_ge k n with hl | hl
        · exact absurd ⟨k, hl, hp⟩ hk
        · exact hl⟩
open Classical in
noncomputable def leastOf (p : Nat → Prop) : Nat := if h : ∃ m, p m ∧ ∀ k, p k → m ≤ k then Classical.choose h else 0
theorem leastOf_spec {p : Nat → Prop} {n : Nat} (h : p n) : p (leastOf p) ∧ leastOf p ≤ n := by
  have he := least p n h
  unfold leastOf
  rw [dif_pos he]
  exact ⟨(Classical.choose_spec he).1, (Classical.choose_spec he).2 n h⟩

include hT hE in
theorem adr_sound (hM : P.follows .mixedOrders = true) {id : Nat} {ops : Array Oper} (hok : flowOk ops N = true) {K : K3} {env : Env} {H : Heap} {nx : Nat} (h : adr P T eqs ops K env H nx) {ρ : Nat → Loc} {w : World} {a : Act} (st : St N env H nx ρ w a)
    (f : Fr (· < nx0) ρ0 H0 w0 (· < nx) ρ H w) {Q : Exit → Act → World → Prop} (hQ : ∀ a w, RS nx0 ρ0 H0 w0 N K a w → Q .normal a w) : (Code.region id ops true).wp P Q a w := by
  obtain ⟨L, env', H', nx', hch, hK⟩ := dops_chain hT hE _ _ _ _ _ _ (fun t b hm => by cases hm) h
  rw [List.nil_append] at hK
  obtain ⟨hco, hK⟩ := (condK_iff _).1 hK
  have hfalse : ∀ i, (Array.replicate ops.size false).getD i false = false := fun i => by
    simp only [Array.getD]
    split <;> simp
  have hls : lsOf (Array.replicate ops.size false) = fun _ => false := funext hfalse
  have hA : AD nx L (fun _ => false) = (· < nx) := by
    funext g; simp [AD]
  refine wp_region_any hM (wpAny_drawn (ρ0 := ρ) (w0 := w) hok hch hco (fun a' w' ρ' st' f' => hQ a' w' ⟨env', H', nx', ρ', hK, st', f.trans f'⟩) _ _ _ _ ⟨by simp, (fun i hi => by rw [hfalse] at hi; cases hi), st.size, st.defers, ρ, ?_, ?_, ?_⟩ ?_)
  · have e : ({ w with drawn := w.drawn + 1 } : World).heap = w.heap := rfl
    rw [hls, hA, hD_add.hD_none]
    exact st.sim.heap e
  · have e : ({ w with drawn := w.drawn + 1 } : World).heap = w.heap := rfl
    rw [hls, hA, hD_add.hD_none]
    exact ⟨fun g hg => ⟨rfl, hg⟩, fun b o hb => by rw [Kof_heap e]; exact hb, rfl, rfl, rfl, Nat.le_refl _⟩
  · intro t
    have e : ({ w with drawn := w.drawn + 1 } : World).heap = w.heap := rfl
    rw [hls, hA, hD_add.hD_none, Kof_heap e]
    have : eD (fun _ => false) ops.toList L 0 env t = env t := by
      rw [chain_at.eD_off _ _ _ _ fun _ _ => rfl]
    rw [this]
    exact st.env t
  · exact Nat.le_trans (List.length_filter_le _ _) (by simp)

include hT hE in
theorem aw_sound (hM : P.follows .mixedOrders = true) : ∀ (c : Code) (kn : K3) (kx : Nat → K3) (kr : K3), wfC N c = true → ∀ (a : Act) (w : World), RS nx0 ρ0 H0 w0 N (aw P T eqs lv c kn kx kr) a w → c.wp P (QS nx0 ρ0 H0 w0 N kn kx kr) a w
  | .skip, kn, kx, kr, _, a, w, h => wp_skip h
  | .label _, kn, kx, kr, _, a, w, h => wp_label h
  | .exit i, kn, kx, kr, _, a, w, h => wp_exit h
  | .ret, kn, kx, kr, _, a, w, h => wp_ret h
  | .scope c, kn, kx, kr, hwf, a, w, h => by
    refine wp_scope_straight (Code.wp_mono (fun e a w q => ?_) (aw_sound hM c kn kx kr hwf a w h))
    cases e <;> first | exact q | exact q.elim
  | .region id ops false, kn, kx, kr, hwf, a, w, h => by
    simp only [aw] at h
    simp only [wfC, Bool.not_false, Bool.true_or, Bool.and_true] at hwf
    cases hg : lv 0 id with
    | none =>
      rw [hg] at h
      obtain ⟨env, H, nx, ρ, h1, h2, h3⟩ := h
      exact wp_region_list (aops_sound hT hE nx0 ρ0 H0 w0 ops.toList [] env H nx hwf (dsts_all hwf) h1 (fun t b hm => by cases hm) ρ w a h2 h3)
    | some L =>
      rw [hg] at h
      obtain ⟨env, H, nx, ρ, ⟨I, hI, h1⟩, h2, h3⟩ := h
      have := wp_region_list (id := id) (aops_sound (kx := kx) (kr := kr) hT hE nx0 ρ0 H0 w0 ops.toList [] env H nx hwf (dsts_all hwf) h1 (fun t b hm => by cases hm) ρ w a h2 h3)
      refine Code.wp_mono (fun e a w q => ?_) this
      cases e <;> first | exact q.elim | exact RS.join nx0 ρ0 H0 w0 hI q | exact q
  | .seq x y, kn, kx, kr, hwf, a, w, h => by
    simp only [wfC, Bool.and_eq_true] at hwf
    refine wp_seq ?_
    simp only [aw] at h
    cases hb : lv 3 (firstR y) with
    | none =>
      rw [hb] at h
      refine Code.wp_mono (fun e a w q => ?_) (aw_sound hM x (aw P T eqs lv y kn kx kr) kx kr hwf.1 a w h)
      cases e <;> first | exact q | exact q.elim | exact aw_sound hM y kn kx kr hwf.2 _ _ q
    | some L =>
      rw [hb] at h
      obtain ⟨env, H, nx, ρ, ⟨I, hI, h1⟩, h2, h3⟩ := h
      refine Code.wp_mono (fun e a w q => ?_) (aw_sound hM x (fun env H nx => I (L.map env) H nx) kx kr hwf.1 a w ⟨env, H, nx, ρ, h1, h2, h3⟩)
      cases e <;> first | exact q | exact q.elim | exact aw_sound hM y kn kx kr hwf.2 _ _ (RS.join nx0 ρ0 H0 w0 hI q)
  | .cond c x y, kn, kx, kr, hwf, a, w, h => by
    simp only [wfC, Bool.and_eq_true] at hwf
    obtain ⟨env, H, nx, ρ, h1, h2, h3⟩ := h
    simp only [aw] at h1
    obtain ⟨b, hb, h1⟩ := cnd_cases h1
    · have hv := h2.ev c
      rw [hb] at hv
      generalize hc : a.eval c = cv at hv
      cases hv
      refine wp_cond hc ?_
      cases b with
      | true => exact aw_sound hM x kn kx kr hwf.1 a w ⟨env, H, nx, ρ, knowC_self hb ▸ h1.1 rfl, h2, h3⟩
      | false => exact aw_sound hM y kn kx kr hwf.2 a w ⟨env, H, nx, ρ, knowC_self hb ▸ h1.2 rfl, h2, h3⟩
  | .block id x, kn, kx, kr, hwf, a, w, h => by
    refine wp_block ?_
    simp only [aw] at h
    cases hb : lv 1 id with
    | none =>
      rw [hb] at h
      refine Code.wp_mono (fun e a w q => ?_) (aw_sound hM x kn (fun i => bif Nat.beq i id then kn else kx i) kr hwf a w h)
      cases e <;> first | exact q | exact q.elim | skip
      rename_i i
      simp only [Exit.inBlock]
      simp only [QS] at q
      by_cases hi : i = id
      · subst hi; rw [if_pos rfl]; simpa [QS] using q
      · have : Nat.beq i id = false := by rw [← Bool.not_eq_true, Nat.beq_eq]; exact hi
        rw [if_neg hi]; rw [this] at q; exact q
    | some L =>
      rw [hb] at h
      obtain ⟨env, H, nx, ρ, ⟨I, hI, h1⟩, h2, h3⟩ := h
      refine Code.wp_mono (fun e a w q => ?_) (aw_sound hM x (fun env H nx => I (L.map env) H nx) (fun i => bif Nat.beq i id then (fun env H nx => I (L.map env) H nx) else kx i) kr hwf a w ⟨env, H, nx, ρ, h1, h2, h3⟩)
      cases e <;> first | exact q.elim | skip
      case normal => exact RS.join nx0 ρ0 H0 w0 hI q
      case ret => exact q
      case exit i =>
        simp only [Exit.inBlock]
        simp only [QS] at q
        by_cases hi : i = id
        · subst hi; rw [if_pos rfl]
          have q' : RS nx0 ρ0 H0 w0 N (fun env H nx => I (L.map env) H nx) a w := by simpa using q
          exact RS.join nx0 ρ0 H0 w0 hI q'
        · have : Nat.beq i id = false := by rw [← Bool.not_eq_true, Nat.beq_eq]; exact hi
          rw [if_neg hi]; rw [this] at q; exact q
  | .loop x, kn, kx, kr, hwf, a, w, h => by
    obtain ⟨env, H, nx, ρ, ⟨I, n, h0, hstep⟩, h2, h3⟩ := h
    let L := lvL (lv 2 (firstR x))
    let Rn : Nat → Act → World → Prop := fun n a w => ∃ xs H nx ρ, I n xs H nx ∧ St N (envOf L xs) H nx ρ w a ∧ Fr (· < nx0) ρ0 H0 w0 (· < nx) ρ H w
    have hR0 : ∃ n, Rn n a w := ⟨n, _, H, nx, ρ, h0, h2.weak (envOf_map env L), h3⟩
    refine wp_loop (fun a w => ∃ n, Rn n a w) (fun a w => leastOf fun n => Rn n a w) hR0 fun a w hI => ?_
    obtain ⟨n1, hn1⟩ := hI
    have hn := (leastOf_spec (p := fun n => Rn n a w) hn1).1
    obtain ⟨xs, H, nx, ρ, q1, q2, q3⟩ := hn
    have hb := hstep _ xs H nx q1
    refine Code.wp_mono (fun e a' w' q => ?_) (aw_sound hM x _ kx kr hwf a w ⟨envOf L xs, H, nx, ρ, hb, q2, q3⟩)
    cases e <;> first | exact q | exact q.elim | skip
    obtain ⟨env', H', nx', ρ', ⟨m, hm, hIm⟩, r2, r3⟩ := q
    have hRm : Rn m a' w' := ⟨_, H', nx', ρ', hIm, r2.weak (envOf_map env' L), r3⟩
    refine ⟨⟨m, hRm⟩, ?_⟩
    exact Nat.lt_of_le_of_lt (leastOf_spec (p := fun n => Rn n a' w') hRm).2 hm
  | .region id ops true, kn, kx, kr, hwf, a, w, h => by
    simp only [aw] at h
    simp only [wfC, Bool.not_true, Bool.false_or, Bool.and_eq_true] at hwf
    cases hg : lv 0 id with
    | none =>
      rw [hg] at h
      obtain ⟨env, H, nx, ρ, h1, h2, h3⟩ := h
      exact adr_sound hT hE nx0 ρ0 H0 w0 hM hwf.2 h1 h2 h3 fun a w h => h
    | some L =>
      rw [hg] at h
      obtain ⟨env, H, nx, ρ, ⟨I, hI, h1⟩, h2, h3⟩ := h
      exact adr_sound hT hE nx0 ρ0 H0 w0 hM hwf.2 h1 h2 h3 fun a w h => RS.join nx0 ρ0 H0 w0 hI h
  | .rangeFunc _ _ _ _, _, _, _, _, _, _, ⟨_, _, _, _, h, _, _⟩ => h.elim
  | .goto _, _, _, _, _, _, _, ⟨_, _, _, _, h, _, _⟩ => h.elim
  | .refuse _, _, _, _, _, _, _, ⟨_, _, _, _, h, _, _⟩ => h.elim
end
end Go.Proofs.Ytckhbfbbpdjmdaa
