/- The code, by abstract operations: what is to be shown of it, and that this is enough. A function's contract, from its code. Structures that are compared by their cells. The program's types, as its own table has them. What is to be shown of each function, written out. What a call made may be forgotten, or is never written again: then it is read by value. -/
import Derived.Test.YtdmibdjokofclaaGreatDoorG4
import Derived.Test.YtdmibdjokofclaaGreatDoorG3
import Derived.Laws.StructEq
import Derived.Test.YtdmibdjokofclaaGreatDoorChecked
import Derived.KernelRfl
set_option linter.unusedSimpArgs false
set_option linter.unusedVariables false
set_option maxRecDepth 8000
namespace Go.Proofs.YtdmibdjokofclaaGreatDoor
open Go Go.RowKit
section
variable (P : Program) (T : Nat → Option AT) (eqs : Nat → Bool)
def zdy : Code → Nat
  | .region id _ _ => id
  | .seq a _ => zdy a
  | .cond _ a _ => zdy a
  | .block _ a => zdy a
  | .loop a => zdy a
  | .scope a => zdy a
  | _ => 100000
variable (lv : Nat → Nat → Option (List Nat))
def join (L : Option (List Nat)) (J : K3) (B : K3 → K3) : K3 := match L with
  | none => B J
  | some L => fun env H nx => JN (fun xs H nx => J (zlx L xs) H nx) fun j => B (fun env H nx => j (L.map env) H nx) env H nx
def lvL (L : Option (List Nat)) : List Nat := match L with
  | none => []
  | some L => L
def adr (ops : Array Oper) (K : K3) : K3 := fun env H nx => dops P T eqs ops.toList ops.toList [] env H nx [] fun env H nx log => zof log (K env H nx) (zmv ops)
def zadn (c : Operand) (b : Bool) (env : Env) : Env := match c with
  | .tmp t => env.put t (.bool b)
  | _ => env
theorem St.know {N : Nat} {env : Env} {H : Heap} {nx : Nat} {ρ : Nat → Loc} {w : World} {a : Act} (h : St N env H nx ρ w a) {c : Operand} {b : Bool} (hc : a.eval c = .bool b) : St N (zadn c b env) H nx ρ w a := by
  cases c with
  | tmp t =>
    refine ⟨h.sim, fun u => ?_, h.size, h.defers⟩
    have := zdi env (some t) (.bool b) u
    simp only [Env.putO] at this
    show VRel _ _ _ (env.put t (.bool b) u) _
    rw [this]
    split
    · rename_i e; cases e
      have e : a.tmps.getD t undef = .bool b := hc
      rw [e]; exact .bool b
    · exact h.env u
  | const v => exact h
  | global g => exact h
  | func f => exact h
def aw : Code → K3 → (Nat → K3) → K3 → K3
  | .skip, kn, _, _ => kn
  | .label _, kn, _, _ => kn
  | .region id ops false, kn, _, _ => join (lv 0 id) kn fun K => aops P T eqs ops.toList ops.toList [] K
  | .region id ops true, kn, _, _ => join (lv 0 id) kn fun K => adr P T eqs ops K
  | .seq a b, kn, kx, kr => join (lv 3 (zdy b)) (aw b kn kx kr) fun K => aw a K kx kr
  | .cond c a b, kn, kx, kr => fun env H nx => CNDC (env.ev c) (aw a kn kx kr (zadn c true env) H nx) (aw b kn kx kr (zadn c false env) H nx)
  | .block id a, kn, kx, kr => join (lv 1 id) kn fun K => aw a K (fun i => bif Nat.beq i id then K else kx i) kr
  | .loop a, _, kx, kr => fun env H nx => LP (fun K xs H nx => aw a (fun env H nx => K ((lvL (lv 2 (zdy a))).map env) H nx) kx kr (zlx (lvL (lv 2 (zdy a))) xs) H nx) ((lvL (lv 2 (zdy a))).map env) H nx
  | .exit i, _, kx, _ => kx i
  | .ret, _, _, kr => kr
  | .scope a, kn, kx, kr => aw a kn kx kr
  | _, _, _, _ => fun _ _ _ => False
end
def wfC (N : Nat) : Code → Bool
  | .region _ ops drawn => zih N ops.toList && (!drawn || zqp ops N)
  | .seq a b => wfC N a && wfC N b
  | .cond _ a b => wfC N a && wfC N b
  | .block _ a => wfC N a
  | .loop a => wfC N a
  | .scope a => wfC N a
  | _ => true
section
variable {P : Program} {T : Nat → Option AT} {eqs : Nat → Bool} (hT : TOk P T) (hE : EOk P T eqs) {lv : Nat → Nat → Option (List Nat)} {N : Nat}
variable (nx0 : Nat) (ρ0 : Nat → Loc) (H0 : Heap) (w0 : World)
def RS (N : Nat) (K : K3) (a : Act) (w : World) : Prop := ∃ env H nx ρ, K env H nx ∧ St N env H nx ρ w a ∧ Fr (· < nx0) ρ0 H0 w0 (· < nx) ρ H w
def QS (N : Nat) (kn : K3) (kx : Nat → K3) (kr : K3) : Exit → Act → World → Prop
  | .normal, a, w => RS nx0 ρ0 H0 w0 N kn a w
  | .exit i, a, w => RS nx0 ρ0 H0 w0 N (kx i) a w
  | .ret, a, w => RS nx0 ρ0 H0 w0 N kr a w
  | _, _, _ => False
include hT hE in
theorem zjv {all : Array Oper} {kn' : K3} {kx : Nat → K3} {kr : K3} : ∀ (rest : List Oper) (kn : zba) (env : Env) (H : Heap) (nx : Nat), zih N rest = true → (∀ t, (∃ o ∈ all.toList, o.dst = some t) → t < N) → aops P T eqs all.toList rest kn kn' env H nx → KnOk kn env →
    ∀ (ρ : Nat → Loc) (w : World) (a : Act), St N env H nx ρ w a → Fr (· < nx0) ρ0 H0 w0 (· < nx) ρ H w → wpList P all (QS nx0 ρ0 H0 w0 N kn' kx kr) rest a w
  | [], kn, env, H, nx, _, _, h, _, ρ, w, a, st, f => wpList_nil ⟨env, H, nx, ρ, h, st, f⟩
  | o :: r, kn, env, H, nx, hd, hall, h, hkn, ρ, w, a, st, f => by
    simp only [zih, Bool.and_eq_true] at hd
    have hdo : ∀ t, o.dst = some t → t < N := fun t ht => by have := hd.1; rw [ht] at this; simpa using this
    have run : ∀ (kn1 : zba) (env1 : Env), KnOk kn1 env1 → St N env1 H nx ρ w a → zoh P T eqs o env1 H nx (fun v H nx => aops P T eqs all.toList r (zbt o.dst kn1) kn' (env1.putO o.dst v) H nx) → Region.wanted o (yielded all a.tmps) = true →
        wpList P all (QS nx0 ρ0 H0 w0 N kn' kx kr) (o :: r) a w := by
      intro kn1 env1 hk1 st1 hs hw
      refine wpList_step fun K hK => ?_
      rw [if_pos hw]
      refine zjm (zabb hT hE hs st1) fun cv w' ⟨v, H', nx', ρ', q1, q2, q3, q4⟩ => hK _ _ ?_
      exact zjv r _ _ H' nx' hd.2 hall q1 (hk1.drop o.dst v) ρ' w' _ (st1.put q2 q4 hdo q3) (f.trans q4)
    have skip : ∀ (kn1 : zba) (env1 : Env), KnOk kn1 env1 → St N env1 H nx ρ w a → aops P T eqs all.toList r (zcj o.dst kn1) kn' (env1.putO o.dst .und) H nx → Region.wanted o (yielded all a.tmps) = false →
        wpList P all (QS nx0 ρ0 H0 w0 N kn' kx kr) (o :: r) a w := by
      intro kn1 env1 hk1 st1 hs hw
      refine wpList_step fun K hK => ?_
      rw [if_neg (by rw [hw]; simp)]
      exact hK _ _ (zjv r _ _ H nx hd.2 hall hs (hk1.skip o.dst) ρ w _ (st1.put st1.sim (Fr.refl _ _ _ _) hdo .und) f)
    simp only [aops] at h
    split at h
    · rename_i hg
      exact run kn env hkn st h (by simp [Region.wanted, hg])
    · rename_i j want hg
      split at h
      · exact h.elim
      · rename_i t ht
        have hy := znc ht a
        have htN : t < N := by
          obtain ⟨o', ho', hdst⟩ := Option.bind_eq_some_iff.1 ht
          exact hall t ⟨o', List.mem_of_getElem? ho', hdst⟩
        have hget : a.tmps[t]? = some (a.tmps.getD t undef) := by simp [Array.getD, st.size, htN]
        rw [hget] at hy
        have hwant : Region.wanted o (yielded all a.tmps) = (yielded all a.tmps j == some want) := by simp [Region.wanted, hg]
        have hbool : ∀ b, env t = .bool b → Region.wanted o (yielded all a.tmps) = (b == want) := by
          intro b hb
          have := st.env t
          rw [hb] at this
          generalize a.tmps.getD t undef = tv at this hy
          cases this
          rw [hwant, hy]; simp
        split at h
        · rename_i hk
          have hu := hkn t none (zcn hk)
          simp only at hu
          refine skip kn env hkn st h ?_
          have := st.env t
          rw [hu] at this
          generalize a.tmps.getD t undef = tv at this hy
          cases this
          rw [hwant, hy]; rfl
        · rename_i b hk
          have hb := hkn t (some b) (zcn hk)
          simp only at hb
          cases hbw : (b == want) with
          | true => rw [hbw] at h; exact run kn env hkn st h (by rw [hbool b hb, hbw])
          | false => rw [hbw] at h; exact skip kn env hkn st h (by rw [hbool b hb, hbw])
        · obtain ⟨b, hb, h1, h2⟩ := zwz h
          · cases b with
            | true =>
              have h := h1 rfl
              have hk2 := hkn.know hb
              have he := zkv hb
              rw [he] at hk2 h
              cases want with
              | true => exact run _ env hk2 st h (by rw [hbool _ hb]; rfl)
              | false => exact skip _ env hk2 st h (by rw [hbool _ hb]; rfl)
            | false =>
              have h := h2 rfl
              have hk2 := hkn.know hb
              have he := zkv hb
              rw [he] at hk2 h
              cases want with
              | true => exact skip _ env hk2 st h (by rw [hbool _ hb]; rfl)
              | false => exact run _ env hk2 st h (by rw [hbool _ hb]; rfl)
theorem ztq {all : List Oper} (h : zih N all = true) : ∀ t, (∃ o ∈ all, o.dst = some t) → t < N := by
  induction all with
  | nil => rintro t ⟨o, ho, _⟩; cases ho
  | cons x r ih =>
    simp only [zih, Bool.and_eq_true] at h
    rintro t ⟨o, ho, hd⟩
    rcases List.mem_cons.1 ho with rfl | ho
    · have := h.1; rw [hd] at this; simpa using this
    · exact ih h.2 t ⟨o, ho, hd⟩
theorem RS.mono {K K' : K3} {a : Act} {w : World} (h : RS nx0 ρ0 H0 w0 N K a w) (hk : ∀ env H nx, K env H nx → K' env H nx) : RS nx0 ρ0 H0 w0 N K' a w := by
  obtain ⟨env, H, nx, ρ, h1, h2, h3⟩ := h
  exact ⟨env, H, nx, ρ, hk _ _ _ h1, h2, h3⟩
theorem RS.join {L : List Nat} {I : J3} {J : K3} (hI : ∀ xs H nx, I xs H nx → J (zlx L xs) H nx) {a : Act} {w : World} (h : RS nx0 ρ0 H0 w0 N (fun env H nx => I (L.map env) H nx) a w) : RS nx0 ρ0 H0 w0 N J a w := by
  obtain ⟨env, H, nx, ρ, h1, h2, h3⟩ := h
  exact ⟨zlx L (L.map env), H, nx, ρ, hI _ _ _ h1, h2.weak (zqu env L), h3⟩
theorem zane (p : Nat → Prop) : ∀ n, p n → ∃ m, p m ∧ ∀ k, p k → m ≤ k := by
  intro n
  induction n using Nat.strongRecOn with
  | _ n ih =>
    intro h
    by_cases hk : ∃ k, k < n ∧ p k
    · obtain ⟨k, h1, h2⟩ := hk
      exact ih k h1 h2
    · exact ⟨n, h, fun k hp => by
        rcases Nat.lt_or_ge k n with hl | hl
        · exact absurd ⟨k, hl, hp⟩ hk
        · exact hl⟩
open Classical in
noncomputable def zrp (p : Nat → Prop) : Nat := if h : ∃ m, p m ∧ ∀ k, p k → m ≤ k then Classical.choose h else 0
theorem zqo {p : Nat → Prop} {n : Nat} (h : p n) : p (zrp p) ∧ zrp p ≤ n := by
  have he := zane p n h
  unfold zrp
  rw [dif_pos he]
  exact ⟨(Classical.choose_spec he).1, (Classical.choose_spec he).2 n h⟩
theorem zgt.le {all : List Oper} : ∀ {os : List Oper} {L : List Rec} {env : Env} {H : Heap} {nx : Nat} {env' : Env} {H' : Heap} {nx' : Nat}, zgt P all os L env H nx env' H' nx' → nx ≤ nx'
  | [], [], _, _, _, _, _, _, ⟨_, _, h⟩ => by omega
  | [], _ :: _, _, _, _, _, _, _, h => h.elim
  | _ :: _, [], _, _, _, _, _, _, h => h.elim
  | _ :: _, _ :: _, _, _, _, _, _, _, ⟨_, _, _, h⟩ => by have := h.le; omega
include hT hE in
theorem zxm (hM : P.follows .mixedOrders = true) {id : Nat} {ops : Array Oper} (hok : zqp ops N = true) {K : K3} {env : Env} {H : Heap} {nx : Nat} (h : adr P T eqs ops K env H nx) {ρ : Nat → Loc} {w : World} {a : Act} (st : St N env H nx ρ w a)
    (f : Fr (· < nx0) ρ0 H0 w0 (· < nx) ρ H w) {Q : Exit → Act → World → Prop} (hQ : ∀ a w, RS nx0 ρ0 H0 w0 N K a w → Q .normal a w) : (Code.region id ops true).wp P Q a w := by
  obtain ⟨L, env', H', nx', hch, hK⟩ := zoe hT hE _ _ _ _ _ _ (fun t b hm => by cases hm) h
  rw [List.nil_append] at hK
  obtain ⟨hco, hK⟩ := (zwy _).1 hK
  have hfalse : ∀ i, (Array.replicate ops.size false).getD i false = false := fun i => by
    simp only [Array.getD]
    split <;> simp
  have hls : lsOf (Array.replicate ops.size false) = fun _ => false := funext hfalse
  have hA : AD (· < nx) L (fun _ => false) = (· < nx) := by
    funext g; simp [AD]
  have hle : nx ≤ nx' := hch.le
  have hA2 : (fun g => g < nx ∨ nx ≤ g ∧ g < nx') = (fun g => g < nx') := by funext g; simp; omega
  refine wp_region_any hM (zsj (B := (· < nx)) (ρ0 := ρ) (w0 := w) hok hch hco (fun g h1 _ (h2 : g < nx) => by omega) ⟨nx, fun g h => h⟩ (fun a' w' ρ' s' v' t' d' f' => ?_) _ _ _ _ ⟨by simp, (fun i hi => by rw [hfalse] at hi; cases hi), st.size, st.defers, ρ, ?_, ?_, ?_⟩ ?_)
  · rw [hA2] at s' v' f'
    exact hQ a' w' ⟨env', H', nx', ρ', hK, ⟨s', v', t', d'⟩, f.trans f'⟩
  · have e : ({ w with drawn := w.drawn + 1 } : World).heap = w.heap := rfl
    rw [hls, hA, zkz.hD_none]
    exact st.sim.heap e
  · have e : ({ w with drawn := w.drawn + 1 } : World).heap = w.heap := rfl
    rw [hls, hA, zkz.hD_none]
    exact ⟨fun g hg => ⟨rfl, hg⟩, fun b o hb => by rw [zeg e]; exact hb, rfl, rfl, rfl, Nat.le_refl _⟩
  · intro t
    have e : ({ w with drawn := w.drawn + 1 } : World).heap = w.heap := rfl
    rw [hls, hA, zkz.hD_none, zeg e]
    have : eD (fun _ => false) ops.toList L 0 env t = env t := by
      rw [zog.eD_off _ _ _ _ fun _ _ => rfl]
    rw [this]
    exact st.env t
  · exact Nat.le_trans (List.length_filter_le _ _) (by simp)
include hT hE in
theorem zcf (hM : P.follows .mixedOrders = true) : ∀ (c : Code) (kn : K3) (kx : Nat → K3) (kr : K3), wfC N c = true → ∀ (a : Act) (w : World), RS nx0 ρ0 H0 w0 N (aw P T eqs lv c kn kx kr) a w → c.wp P (QS nx0 ρ0 H0 w0 N kn kx kr) a w
  | .skip, kn, kx, kr, _, a, w, h => wp_skip h
  | .label _, kn, kx, kr, _, a, w, h => wp_label h
  | .exit i, kn, kx, kr, _, a, w, h => wp_exit h
  | .ret, kn, kx, kr, _, a, w, h => wp_ret h
  | .scope c, kn, kx, kr, hwf, a, w, h => by
    refine wp_scope_straight (Code.wp_mono (fun e a w q => ?_) (zcf hM c kn kx kr hwf a w h))
    cases e <;> first | exact q | exact q.elim
  | .region id ops false, kn, kx, kr, hwf, a, w, h => by
    simp only [aw] at h
    simp only [wfC, Bool.not_false, Bool.true_or, Bool.and_true] at hwf
    cases hg : lv 0 id with
    | none =>
      rw [hg] at h
      obtain ⟨env, H, nx, ρ, h1, h2, h3⟩ := h
      exact wp_region_list (zjv hT hE nx0 ρ0 H0 w0 ops.toList [] env H nx hwf (ztq hwf) h1 (fun t b hm => by cases hm) ρ w a h2 h3)
    | some L =>
      rw [hg] at h
      obtain ⟨env, H, nx, ρ, ⟨I, hI, h1⟩, h2, h3⟩ := h
      have := wp_region_list (id := id) (zjv (kx := kx) (kr := kr) hT hE nx0 ρ0 H0 w0 ops.toList [] env H nx hwf (ztq hwf) h1 (fun t b hm => by cases hm) ρ w a h2 h3)
      refine Code.wp_mono (fun e a w q => ?_) this
      cases e <;> first | exact q.elim | exact RS.join nx0 ρ0 H0 w0 hI q | exact q
  | .seq x y, kn, kx, kr, hwf, a, w, h => by
    simp only [wfC, Bool.and_eq_true] at hwf
    refine wp_seq ?_
    simp only [aw] at h
    cases hb : lv 3 (zdy y) with
    | none =>
      rw [hb] at h
      refine Code.wp_mono (fun e a w q => ?_) (zcf hM x (aw P T eqs lv y kn kx kr) kx kr hwf.1 a w h)
      cases e <;> first | exact q | exact q.elim | exact zcf hM y kn kx kr hwf.2 _ _ q
    | some L =>
      rw [hb] at h
      obtain ⟨env, H, nx, ρ, ⟨I, hI, h1⟩, h2, h3⟩ := h
      refine Code.wp_mono (fun e a w q => ?_) (zcf hM x (fun env H nx => I (L.map env) H nx) kx kr hwf.1 a w ⟨env, H, nx, ρ, h1, h2, h3⟩)
      cases e <;> first | exact q | exact q.elim | exact zcf hM y kn kx kr hwf.2 _ _ (RS.join nx0 ρ0 H0 w0 hI q)
  | .cond c x y, kn, kx, kr, hwf, a, w, h => by
    simp only [wfC, Bool.and_eq_true] at hwf
    obtain ⟨env, H, nx, ρ, h1, h2, h3⟩ := h
    simp only [aw] at h1
    obtain ⟨b, hc, h1⟩ := zaed h1 (h2.ev c)
    · refine wp_cond hc ?_
      cases b with
      | true => exact zcf hM x kn kx kr hwf.1 a w ⟨_, H, nx, ρ, h1.1 rfl, h2.know hc, h3⟩
      | false => exact zcf hM y kn kx kr hwf.2 a w ⟨_, H, nx, ρ, h1.2 rfl, h2.know hc, h3⟩
  | .block id x, kn, kx, kr, hwf, a, w, h => by
    refine wp_block ?_
    simp only [aw] at h
    cases hb : lv 1 id with
    | none =>
      rw [hb] at h
      refine Code.wp_mono (fun e a w q => ?_) (zcf hM x kn (fun i => bif Nat.beq i id then kn else kx i) kr hwf a w h)
      cases e <;> first | exact q | exact q.elim | skip
      rename_i i
      simp only [Exit.inBlock]
      simp only [QS] at q
      by_cases hi : i = id
      · subst hi; rw [if_pos rfl]; simpa [QS] using q
      · have : Nat.beq i id = false := by rw [← Bool.not_eq_true, Nat.beq_eq]; exact hi
        rw [if_neg hi]; rw [this] at q; exact q
    | some L =>
      rw [hb] at h
      obtain ⟨env, H, nx, ρ, ⟨I, hI, h1⟩, h2, h3⟩ := h
      refine Code.wp_mono (fun e a w q => ?_) (zcf hM x (fun env H nx => I (L.map env) H nx) (fun i => bif Nat.beq i id then (fun env H nx => I (L.map env) H nx) else kx i) kr hwf a w ⟨env, H, nx, ρ, h1, h2, h3⟩)
      cases e <;> first | exact q.elim | skip
      case normal => exact RS.join nx0 ρ0 H0 w0 hI q
      case ret => exact q
      case exit i =>
        simp only [Exit.inBlock]
        simp only [QS] at q
        by_cases hi : i = id
        · subst hi; rw [if_pos rfl]
          have q' : RS nx0 ρ0 H0 w0 N (fun env H nx => I (L.map env) H nx) a w := by simpa using q
          exact RS.join nx0 ρ0 H0 w0 hI q'
        · have : Nat.beq i id = false := by rw [← Bool.not_eq_true, Nat.beq_eq]; exact hi
          rw [if_neg hi]; rw [this] at q; exact q
  | .loop x, kn, kx, kr, hwf, a, w, h => by
    obtain ⟨env, H, nx, ρ, ⟨I, n, h0, hstep⟩, h2, h3⟩ := h
    let L := lvL (lv 2 (zdy x))
    let Rn : Nat → Act → World → Prop := fun n a w => ∃ xs H nx ρ, I n xs H nx ∧ St N (zlx L xs) H nx ρ w a ∧ Fr (· < nx0) ρ0 H0 w0 (· < nx) ρ H w
    have hR0 : ∃ n, Rn n a w := ⟨n, _, H, nx, ρ, h0, h2.weak (zqu env L), h3⟩
    refine wp_loop (fun a w => ∃ n, Rn n a w) (fun a w => zrp fun n => Rn n a w) hR0 fun a w hI => ?_
    obtain ⟨n1, hn1⟩ := hI
    have hn := (zqo (p := fun n => Rn n a w) hn1).1
    obtain ⟨xs, H, nx, ρ, q1, q2, q3⟩ := hn
    have hb := hstep _ xs H nx q1
    refine Code.wp_mono (fun e a' w' q => ?_) (zcf hM x _ kx kr hwf a w ⟨zlx L xs, H, nx, ρ, hb, q2, q3⟩)
    cases e <;> first | exact q | exact q.elim | skip
    obtain ⟨env', H', nx', ρ', ⟨m, hm, hIm⟩, r2, r3⟩ := q
    have hRm : Rn m a' w' := ⟨_, H', nx', ρ', hIm, r2.weak (zqu env' L), r3⟩
    refine ⟨⟨m, hRm⟩, ?_⟩
    exact Nat.lt_of_le_of_lt (zqo (p := fun n => Rn n a' w') hRm).2 hm
  | .region id ops true, kn, kx, kr, hwf, a, w, h => by
    simp only [aw] at h
    simp only [wfC, Bool.not_true, Bool.false_or, Bool.and_eq_true] at hwf
    cases hg : lv 0 id with
    | none =>
      rw [hg] at h
      obtain ⟨env, H, nx, ρ, h1, h2, h3⟩ := h
      exact zxm hT hE nx0 ρ0 H0 w0 hM hwf.2 h1 h2 h3 fun a w h => h
    | some L =>
      rw [hg] at h
      obtain ⟨env, H, nx, ρ, ⟨I, hI, h1⟩, h2, h3⟩ := h
      exact zxm hT hE nx0 ρ0 H0 w0 hM hwf.2 h1 h2 h3 fun a w h => RS.join nx0 ρ0 H0 w0 hI h
  | .rangeFunc _ _ _ _, _, _, _, _, _, _, ⟨_, _, _, _, h, _, _⟩ => h.elim
  | .goto _, _, _, _, _, _, _, ⟨_, _, _, _, h, _, _⟩ => h.elim
  | .refuse _, _, _, _, _, _, _, ⟨_, _, _, _, h, _, _⟩ => h.elim
end
end Go.Proofs.YtdmibdjokofclaaGreatDoor
set_option maxRecDepth 8000
namespace Go.Proofs.YtdmibdjokofclaaGreatDoor
open Go Go.RowKit
section
variable (T : Nat → Option AT)
def aret : List ResultVar → Env → Heap → (List AV → Prop) → Prop
  | [], _, _, k => k []
  | .tmp t :: r, env, H, k => aret r env H fun vs => k (env t :: vs)
  | .cell a t :: r, env, H, k => match T t with
    | some at_ => LOAD at_.kind.isAgg at_.size (env a) H fun v _ _ _ => aret r env H fun vs => k (v :: vs)
    | none => False
end
def RET1 (vs : List AV) (k : AV → Prop) : Prop := match vs with
  | [v] => k v
  | vs => k (.tup vs)
def env0 (args : List AV) : Env := fun t => nth args t
def lvOf : List (Nat × Nat × List Nat) → Nat → Nat → Option (List Nat)
  | [], _, _ => none
  | (a, b, l) :: r, k, i => bif Nat.beq a k && Nat.beq b i then some l else lvOf r k i
def zp (fn : Func) : Code := match fn.body with
  | some c => c
  | none => .skip
def body (P : Program) (T : Nat → Option AT) (eqs : Nat → Bool) (lv : Nat → Nat → Option (List Nat)) (fn : Func) (c : Code) (args : List AV) (H : Heap) (nx : Nat) (Q : AV → Heap → Nat → Prop) : Prop :=
  aw P T eqs lv c (fun env H nx => aret T fn.results.toList env H fun vs => RET1 vs fun v => Q v H nx) (fun _ _ _ _ => False) (fun env H nx => aret T fn.results.toList env H fun vs => RET1 vs fun v => Q v H nx) (env0 args) H nx
section
variable {P : Program} {T : Nat → Option AT} {eqs : Nat → Bool} (hT : TOk P T) (hE : EOk P T eqs) {lv : Nat → Nat → Option (List Nat)}
def zcl (tmps : Array Value) (r : ResultVar) : Sem Value := match r with
  | .tmp t => pure (tmps.getD t undef)
  | .cell b t => do loadVar t (← asAddr (tmps.getD b undef))
theorem znu {s : Sem Value} {w : World} {v : Value} (h : s.run P w = .ok v w) (acc : Array Value) : (acc.push <$> s).run P w = .ok (acc.push v) w := by
  have hf : (acc.push <$> s) = (s >>= fun x => pure (acc.push x)) := rfl
  simp only [hf, Sem.run_bind, h, Result.andThen_ok, Sem.run_pure]
include hT in
theorem zoi {env : Env} {H : Heap} {nx N : Nat} {ρ : Nat → Loc} {w : World} {a : Act} (st : St N env H nx ρ w a) : ∀ (rs : List ResultVar) (k : List AV → Prop), aret T rs env H k →
    ∃ vs cs, k vs ∧ LRel (Kof ρ H w) ρ (· < nx) vs cs ∧ cs.length = rs.length ∧
      ∀ acc : Array Value, (List.foldlM (fun (acc : Array Value) (r : ResultVar) => acc.push <$> zcl a.tmps r) acc rs).run P w = .ok (acc ++ cs.toArray) w
  | [], k, h => ⟨[], [], h, LRel.nil, rfl, fun acc => by simp [Sem.run_pure]⟩
  | .tmp t :: r, k, h => by
    obtain ⟨vs, cs, h1, h2, h3, h4⟩ := zoi st r _ h
    refine ⟨env t :: vs, a.tmps.getD t undef :: cs, h1, LRel.cons (st.env t) h2, by simp [h3], fun acc => ?_⟩
    have hr : (zcl a.tmps (.tmp t)).run P w = .ok (a.tmps.getD t undef) w := rfl
    simp only [List.foldlM_cons, Sem.run_bind, znu hr, Result.andThen_ok, h4]
    congr 1
    apply Array.ext'
    simp
  | .cell b t :: r, k, h => by
    simp only [aret] at h
    split at h
    · rename_i at_ ht
      obtain ⟨i, d, z, ha⟩ := hT.at ht
      unfold LOAD at h
      split at h
      · rename_i cells off rd hrd
        split at h
        · rename_i v hv
          obtain ⟨bb, q, he, hc⟩ := ztj (H0 := H) st.sim (st.env b) hrd (fun _ _ => rfl)
          obtain ⟨cv, hr, hR⟩ := zhc (P := P) ha hc hv
          obtain ⟨vs, cs, h1, h2, h3, h4⟩ := zoi st r _ h
          refine ⟨v :: vs, cv :: cs, h1, LRel.cons hR h2, by simp [h3], fun acc => ?_⟩
          have hr' : (zcl a.tmps (.cell b t)).run P w = .ok cv w := by
            simp only [zcl, Sem.run_bind, he, asAddr, Sem.run_pure, Result.andThen_ok, hr]
          simp only [List.foldlM_cons, Sem.run_bind, znu hr', Result.andThen_ok, h4]
          congr 1
          apply Array.ext'
          simp
        · exact h.elim
      · exact h.elim
    · exact h.elim
theorem za.mono {f : FuncId} {args : List AV} {H : Heap} {nx : Nat} {Q Q' : AV → Heap → Nat → Prop} (h : za P f args H nx Q) (hq : ∀ v H' nx', Q v H' nx' → Q' v H' nx') : za P f args H nx Q' :=
  fun ρ w cargs s ha => zo (h ρ w cargs s ha) fun cv w' ⟨r, H', nx', ρ', q1, q2⟩ => ⟨r, H', nx', ρ', hq _ _ _ q1, q2⟩
include hT hE in
theorem zabe (hM : P.follows .mixedOrders = true) {f : FuncId} {fn : Func} {c : Code} {args : List AV} {H : Heap} {nx : Nat} {Q : AV → Heap → Nat → Prop} (hf : P.funcs[f]? = some fn) (hb : fn.body = some c) (hname : (fn.name == "runtime.NumGoroutine") = false)
    (hwf : wfC fn.ntmps c = true) (hlen' : Nat.ble args.length fn.ntmps = true)
    (h : body P T eqs lv fn c args H nx Q) :
    za P f args H nx Q := by
  have hlen := Nat.le_of_ble_eq_true hlen'
  intro ρ w cargs s ha
  have hcl : cargs.size = args.length := by simpa using ha.1
  have hcall : (callFunc f cargs).run P w = .ok (.enter f cargs) w := by
    have hname' : ¬ fn.name = "runtime.NumGoroutine" := by simpa using hname
    simp [callFunc, program, Sem.run_bind, Sem.run, hf, hname', hb, pure]
  rw [hcall]
  simp only [zaa]
  refine calls_of_wp hf hb (Code.wp_mono (fun e a w' q => ?_) (zcf hT hE (lv := lv) nx ρ H w hM c _ _ _ hwf _ w ⟨env0 args, H, nx, ρ, h, ⟨s, fun t => ?_, ?_, rfl⟩, Fr.refl _ _ _ _⟩))
  · have fin : ∀ (a : Act) (w' : World), RS nx ρ H w fn.ntmps (fun env H nx => aret T fn.results.toList env H fun vs => RET1 vs fun v => Q v H nx) a w' →
        a.defers = [] ∧ ∃ v, (results fn a.tmps).run P w' = .ok v w' ∧ ∃ u, Ending.returned v = .returned u ∧ ∃ r H' nx' ρ', Q r H' nx' ∧ Sim (· < nx') ρ' H' w' ∧ VRel (Kof ρ' H' w') ρ' (· < nx') r u ∧ Fr (· < nx) ρ H w (· < nx') ρ' H' w' := by
      intro a w' ⟨env, H', nx', ρ', h1, h2, h3⟩
      obtain ⟨vs, cs, q1, q2, q3, q4⟩ := zoi hT h2 _ _ h1
      refine ⟨h2.defers, ?_⟩
      have hm : (fn.results.mapM (zcl a.tmps)).run P w' = .ok cs.toArray w' := by
        rw [Array.mapM_eq_foldlM]
        have := q4 #[]
        rw [Array.foldlM_toList] at this
        simpa using this
      have hrun : ∀ v, (if h : cs.toArray.size = 1 then cs.toArray[0] else Value.tuple cs.toArray) = v → (results fn a.tmps).run P w' = .ok v w' := by
        intro v hv
        have e : results fn a.tmps = (do let vs ← fn.results.mapM (zcl a.tmps); pure (if h : vs.size = 1 then vs[0] else .tuple vs)) := by
          unfold results zcl
          rfl
        rw [e]
        simp only [Sem.run_bind, hm, Result.andThen_ok, Sem.run_pure, hv]
      unfold RET1 at q1
      split at q1
      · rename_i v
        obtain ⟨cv, hcv, hR⟩ := q2.get (j := 0) (v := v) rfl
        have hc1 : cs = [cv] := by
          have hl := q2.1
          match cs, hl, hcv with
          | [x], _, h => simp at h; rw [h]
        subst hc1
        exact ⟨cv, hrun cv (by simp), cv, rfl, v, H', nx', ρ', q1, h2.sim, hR, h3⟩
      · rename_i hne
        have hc1 : cs.length ≠ 1 := by
          intro hl
          have := q2.1
          rw [hl] at this
          match vs, this with
          | [x], _ => exact hne x rfl
        refine ⟨.tuple cs.toArray, hrun _ (by simp [hc1]), _, rfl, .tup vs, H', nx', ρ', q1, h2.sim, ?_, h3⟩
        exact .tup _ _ (by simpa using q2.1) fun j v c hv hc => q2.2 j v c hv (by simpa using hc)
    cases e with
    | normal => exact fin a w' q
    | ret => exact fin a w' q
    | exit i => obtain ⟨_, _, _, _, h, _⟩ := q; exact h.elim
    | goto l => exact q.elim
    | panic c => exact q.elim
    | outgrown => exact q.elim
  · show VRel _ _ _ (nth args t) ((cargs ++ Array.replicate (fn.ntmps - cargs.size) undef).getD t undef)
    unfold nth
    by_cases ht : t < args.length
    · obtain ⟨cv, h1, h2⟩ := ha.get (List.getElem?_eq_getElem ht)
      have : (cargs ++ Array.replicate (fn.ntmps - cargs.size) undef).getD t undef = cv := by
        rw [Array.getD_eq_getD_getElem?, Array.getElem?_append_left (by omega)]
        simp only [Array.getElem?_toList] at h1
        rw [h1]; rfl
      rw [this, List.getD_eq_getElem?_getD, List.getElem?_eq_getElem ht]
      exact h2
    · rw [List.getD_eq_getElem?_getD, List.getElem?_eq_none (by omega)]
      exact .junk _
  · simp; omega
include hT hE in
theorem ze (hM : P.follows .mixedOrders = true) {f : FuncId} {fn : Func} {c : Code} {args : List AV} {H : Heap} {nx : Nat} {Q : AV → Heap → Nat → Prop} {V : Prop} (hf : P.funcs[f]? = some fn) (hb : fn.body = some c) (hname : (fn.name == "runtime.NumGoroutine") = false)
    (hwf : wfC fn.ntmps c = true) (hlen' : Nat.ble args.length fn.ntmps = true)
    (he : body P T eqs lv fn c args H nx Q = V) (h : V) : za P f args H nx Q := by
  subst he
  exact zabe hT hE hM hf hb hname hwf hlen' h
end
end Go.Proofs.YtdmibdjokofclaaGreatDoor
set_option maxRecDepth 8000
namespace Go.Proofs.YtdmibdjokofclaaGreatDoor
open Go Go.RowKit
section
variable (P : Program)
def szAt (t : TypeId) : Nat := match atOf P t with | some a => a.size | none => 0
def zkt (t : TypeId) : Bool := match atOf P t with | some a => !a.kind.isAgg && Nat.beq a.size 1 | none => false
def zgl (ok : TypeId → Option (List AV)) : List Field → Nat → Option (List AV)
  | [], _ => some []
  | f :: r, off => if f.name ≠ "_" ∧ f.offset = off then match ok f.type with
      | some z => match zgl ok r (off + z.length) with
        | some zr => some (z ++ zr)
        | none => none
      | none => none
    else none
def zhd : Nat → TypeId → Option (List AV)
  | 0, _ => none
  | d + 1, t => match P.underlying t with
    | some (.int k) => if zkt P t = true then some [.int k 0] else none
    | some .string => if zkt P t = true then some [.str []] else none
    | some .bool => if zkt P t = true then some [.bool false] else none
    | some (.struct fs) => if P.stoodInHeld t = false ∧ (match atOf P t with | some a => a.kind.isAgg | none => false) = true then match zgl (zhd d) fs.toList 0 with
        | some zs => if zs.length = szAt P t then some zs else none
        | none => none
      else none
    | _ => none
def zads (t : TypeId) : Bool := match atOf P t with
  | some a => a.kind.isAgg && (match zhd P 4 t with | some zs => (zd zs a.zero).isSome | none => false) && !(P.eqGuardType P.depth t)
  | none => false
end
theorem zml : ∀ {xs ys : List AV} {r : Bool}, zd xs ys = some r → xs.length = ys.length
  | [], [], _, _ => rfl
  | [], _ :: _, _, h => by simp [zd] at h
  | x :: xs, [], _, h => by cases x <;> simp [zd] at h
  | x :: xs, y :: ys, r, h => by
    have : ∃ r', zd xs ys = some r' := by
      cases x <;> cases y <;> simp only [zd] at h <;> first
        | (cases h; done)
        | (split at h
           · obtain ⟨r', h', _⟩ := Option.map_eq_some_iff.1 h; exact ⟨r', h'⟩
           · cases h)
        | (obtain ⟨r', h', _⟩ := Option.map_eq_some_iff.1 h; exact ⟨r', h'⟩)
    obtain ⟨r', h'⟩ := this
    simp [zml h']
theorem zzm {x y : AV} {xs ys : List AV} {r : Bool} (h : zd (x :: xs) (y :: ys) = some r) : ∃ r1 r2, zd [x] [y] = some r1 ∧ zd xs ys = some r2 ∧ r = (r1 && r2) := by
  cases x <;> cases y <;> simp only [zd] at h ⊢ <;> first
    | (cases h; done)
    | (split at h
       · rename_i hk
         obtain ⟨r', h', rfl⟩ := Option.map_eq_some_iff.1 h
         exact ⟨_, r', by rw [if_pos hk]; rfl, h', by simp⟩
       · cases h)
    | (obtain ⟨r', h', rfl⟩ := Option.map_eq_some_iff.1 h
       exact ⟨_, r', rfl, h', by simp⟩)
theorem zhf : ∀ {xs ys : List AV} {r1 r2 : Bool} {us vs : List AV}, zd xs ys = some r1 → zd us vs = some r2 → zd (xs ++ us) (ys ++ vs) = some (r1 && r2)
  | [], [], r1, r2, us, vs, h, k => by simp [zd] at h; subst h; simpa using k
  | [], _ :: _, _, _, _, _, h, _ => by simp [zd] at h
  | x :: xs, [], _, _, _, _, h, _ => by cases x <;> simp [zd] at h
  | x :: xs, y :: ys, r1, r2, us, vs, h, k => by
    cases x <;> cases y <;> simp only [zd, List.cons_append] at h ⊢ <;> first
      | (cases h; done)
      | (split at h
         · rename_i hk
           obtain ⟨r', h', rfl⟩ := Option.map_eq_some_iff.1 h
           rw [if_pos hk, zhf h' k]; simp [Bool.and_assoc]
         · cases h)
      | (obtain ⟨r', h', rfl⟩ := Option.map_eq_some_iff.1 h
         rw [zhf h' k]; simp [Bool.and_assoc])
theorem zir : ∀ (n : Nat) {xs ys : List AV} {r : Bool}, zd xs ys = some r → ∃ r1 r2, zd (xs.take n) (ys.take n) = some r1 ∧ zd (xs.drop n) (ys.drop n) = some r2 ∧ r = (r1 && r2)
  | 0, xs, ys, r, h => ⟨true, r, by simp [zd], by simpa using h, by simp⟩
  | n + 1, [], [], r, h => ⟨true, r, by simp [zd], by simpa using h, by simp⟩
  | n + 1, [], _ :: _, r, h => by simp [zd] at h
  | n + 1, x :: xs, [], r, h => by cases x <;> simp [zd] at h
  | n + 1, x :: xs, y :: ys, r, h => by
    obtain ⟨r1, r2, h1, h2, rfl⟩ := zzm h
    obtain ⟨q1, q2, g1, g2, rfl⟩ := zir n h2
    refine ⟨r1 && q1, q2, ?_, by simpa using g2, by simp [Bool.and_assoc]⟩
    simpa using zhf h1 g1
theorem zfm : ∀ {a b c : List AV}, (zd a b).isSome = true → (zd b c).isSome = true → (zd a c).isSome = true
  | [], [], c, _, h => h
  | [], _ :: _, _, h, _ => by simp [zd] at h
  | x :: a, [], _, h, _ => by cases x <;> simp [zd] at h
  | x :: a, y :: b, [], _, h => by cases y <;> simp [zd] at h
  | x :: a, y :: b, z :: c, h, k => by
    cases x <;> cases y <;> simp only [zd] at h <;> try (cases h; done)
    all_goals
      cases z <;> simp only [zd] at k <;> try (cases k; done)
    · split at h
      · rename_i h1
        split at k
        · rename_i h2
          simp only [zd]
          rw [if_pos (h1.trans h2)]
          have := zfm (a := a) (b := b) (c := c) (by simpa using h) (by simpa using k)
          simpa using this
        · cases k
      · cases h
    · have := zfm (a := a) (b := b) (c := c) (by simpa using h) (by simpa using k)
      simpa [zd] using this
    · have := zfm (a := a) (b := b) (c := c) (by simpa using h) (by simpa using k)
      simpa [zd] using this
theorem zvq (n : Nat) {xs ys : List AV} (h : (zd xs ys).isSome = true) : (zd (xs.take n) (ys.take n)).isSome = true ∧ (zd (xs.drop n) (ys.drop n)).isSome = true := by
  obtain ⟨r, hr⟩ := Option.isSome_iff_exists.1 h
  obtain ⟨r1, r2, h1, h2, _⟩ := zir n hr
  exact ⟨by rw [h1]; rfl, by rw [h2]; rfl⟩
section
variable {P : Program}
def zaaf (P : Program) (t : TypeId) (z : AV) : Prop := match z with
  | .int k _ => P.underlying t = some (.int k)
  | .str _ => P.underlying t = some .string
  | .bool _ => P.underlying t = some .bool
  | _ => False
theorem zxp {t : TypeId} {k : Nat} {w : World} {K : zn} {ρ : Nat → Loc} {A : Nat → Prop} {z v u : AV} {a b : Value} {r : Bool} (hu : zaaf P t z) (hz : (zd [z] [v]).isSome = true)
    (hv : VRel K ρ A v a) (hw : VRel K ρ A u b) (he : zd [v] [u] = some r) : (Op.equalIn (k + 1) t a b).run P w = .ok r w := by
  cases z <;> simp only [zaaf] at hu <;> cases v <;> simp only [zd] at hz <;> (try (cases hz; done)) <;> cases u <;> simp only [zd] at he <;> (try (cases he; done)) <;> cases hv <;> cases hw
  · split at he
    · rename_i hk
      subst hk
      rw [run_equalIn_int w k t _ _ _ _ hu]
      simpa using he
    · cases he
  · rw [run_equalIn_bool' w k t _ _ hu]; simpa using he
  · rw [run_equalIn_string w k t _ _ hu]; simpa [ByteArray.toList_eq] using he
def zakf (P : Program) (d : Nat) (t : TypeId) (zs : List AV) : Prop := ∃ a, atOf P t = some a ∧ zs.length = a.size ∧ (a.kind.isAgg = false → a.size = 1) ∧ ∀ (k : Nat), d ≤ k → ∀ (w : World) (K : zn) (ρ : Nat → Loc) (A : Nat → Prop) (cells cells' : List AV) (off : Nat) (v u : AV) (r : Bool) (x y : Value),
    ldv a.kind.isAgg a.size cells off = some v → ldv a.kind.isAgg a.size cells' off = some u → (zd zs ((cells.drop off).take a.size)).isSome = true → zd ((cells.drop off).take a.size) ((cells'.drop off).take a.size) = some r → VRel K ρ A v x → VRel K ρ A u y →
    (Op.equalIn k t x y).run P w = .ok r w
theorem zlb {d : Nat} {t : TypeId} {z : AV} (hu : zaaf P t z) (hs : zkt P t = true) : zakf P (d + 1) t [z] := by
  unfold zkt at hs
  cases ha : atOf P t with
  | none => rw [ha] at hs; cases hs
  | some a =>
    rw [ha] at hs
    simp only [Bool.and_eq_true] at hs
    have hag : a.kind.isAgg = false := by simpa using hs.1
    have hsz : a.size = 1 := Nat.eq_of_beq_eq_true hs.2
    refine ⟨a, ha, by rw [hsz]; rfl, fun _ => hsz, fun k hk w K ρ A cells cells' off v u r x y e1 e2 e0 e3 r1 r2 => ?_⟩
    simp only [ldv, hag, cond_false] at e1 e2
    have t1 : ∀ {l : List AV} {q : AV}, l[off]? = some q → (l.drop off).take 1 = [q] := by
      intro l q hl
      obtain ⟨hlt, rfl⟩ := List.getElem?_eq_some_iff.1 hl
      rw [List.drop_eq_getElem_cons hlt]; rfl
    rw [hsz, t1 e1] at e0
    rw [hsz, t1 e1, t1 e2] at e3
    obtain ⟨k', rfl⟩ : ∃ k', k = k' + 1 := ⟨k - 1, by omega⟩
    exact zxp hu e0 r1 r2 e3
theorem zzl : ∀ (d : Nat) (t : TypeId) (zs : List AV), zhd P d t = some zs → zakf P d t zs
  | 0, t, zs, h => by cases h
  | d + 1, t, zs, h => by
    unfold zhd at h
    split at h
    · rename_i ki hu
      split at h
      · rename_i hs; cases h; exact zlb hu hs
      · cases h
    · rename_i hu
      split at h
      · rename_i hs; cases h; exact zlb hu hs
      · cases h
    · rename_i hu
      split at h
      · rename_i hs; cases h; exact zlb hu hs
      · cases h
    · rename_i fs hu
      by_cases hc : P.stoodInHeld t = false ∧ (match atOf P t with | some a => a.kind.isAgg | none => false) = true
      case neg => rw [if_neg hc] at h; cases h
      rw [if_pos hc] at h
      obtain ⟨hst, h3⟩ := hc
      split at h
      case h_2 => cases h
      rename_i zs' hf
      split at h
      case isFalse => cases h
      rename_i hlen
      obtain rfl := Option.some.inj h
      cases ha : atOf P t with
      | none => rw [ha] at h3; cases h3
      | some a =>
        rw [ha] at h3
        simp only at h3
        have hl : zs'.length = a.size := by rw [hlen]; unfold szAt; rw [ha]
        refine ⟨a, ha, hl, fun e => (by rw [h3] at e; cases e), fun k hk w K ρ A cells cells' off v u r x y e1 e2 e0 e3 r1 r2 => ?_⟩
        simp only [ldv, h3, cond_true] at e1 e2
        split at e1
        case isFalse => cases e1
        rename_i l1
        split at e2
        case isFalse => cases e2
        rename_i l2
        cases e1
        cases e2
        cases r1 with
        | agg _ cs g1 g2 =>
        cases r2 with
        | agg _ ds g3 g4 =>
        obtain ⟨k', rfl⟩ : ∃ k', k = k' + 1 := ⟨k - 1, by omega⟩
        have hfo : P.fieldsOf t = fs := by simp [Program.fieldsOf, hu]
        rw [run_equalIn_struct w k' t cs ds (by rw [hfo]; exact hu) hst, hfo]
        have loop : ∀ (fl : List Field) (o : Nat) (zs xs ys : List AV) (r : Bool), zgl (zhd P d) fl o = some zs → LRel K ρ A xs cs.toList → LRel K ρ A ys ds.toList → xs.length = o + zs.length → ys.length = o + zs.length →
            (zd zs (xs.drop o)).isSome = true → zd (xs.drop o) (ys.drop o) = some r → (Op.eqFields k' cs ds fl).run P w = .ok r w := by
          intro fl
          induction fl with
          | nil =>
            intro o zs xs ys r hf q1 q2 n1 n2 hz he
            simp only [zgl, Option.some.injEq] at hf
            subst hf
            simp only [List.length_nil] at n1 n2
            rw [List.drop_of_length_le (by omega), List.drop_of_length_le (by omega)] at he
            simp only [zd, Option.some.injEq] at he
            simp [Op.eqFields, Sem.run_pure, he]
          | cons f fl ih =>
            intro o zs xs ys r hf q1 q2 n1 n2 hz he
            unfold zgl at hf
            split at hf
            case isFalse => cases hf
            rename_i hc
            obtain ⟨c1, c2⟩ := hc
            split at hf
            case h_2 => cases hf
            rename_i z hzk
            split at hf
            case h_2 => cases hf
            rename_i zr hzr
            obtain rfl := Option.some.inj hf
            obtain ⟨b, hb, hzl, hb1, hrun⟩ := zzl d f.type z hzk
            rw [List.length_append] at n1 n2
            obtain ⟨s1, s2, t1, t2, rfl⟩ := zir z.length he
            obtain ⟨z1, z2⟩ := zvq z.length hz
            rw [List.take_left] at z1
            rw [List.drop_left, List.drop_drop] at z2
            rw [List.drop_drop, List.drop_drop] at t2
            obtain ⟨i, dd, zv, hb'⟩ := (show TOk P (atOf P) from fun _ _ h => h).at hb
            have ld : ∀ l : List AV, l.length = o + (z.length + zr.length) → ∃ q, ldv b.kind.isAgg b.size l o = some q := by
              intro l hl
              unfold ldv
              cases hag : b.kind.isAgg with
              | true => rw [cond_true, if_pos (by omega)]; exact ⟨_, rfl⟩
              | false =>
                rw [cond_false]
                have := hb1 hag
                exact ⟨_, List.getElem?_eq_getElem (by omega)⟩
            obtain ⟨p, hp⟩ := ld xs n1
            obtain ⟨q, hq⟩ := ld ys n2
            obtain ⟨pv, hpv, hpr⟩ := zhi (P := P) (w := w) hb' q1 hp
            obtain ⟨qv, hqv, hqr⟩ := zhi (P := P) (w := w) hb' q2 hq
            have hone := hrun k' (by omega) w K ρ A xs ys o p q s1 pv qv hp hq (by rw [← hzl]; exact z1) (by rw [← hzl]; exact t1) hpr hqr
            have hrest := ih (o + z.length) zr xs ys s2 hzr q1 q2 (by omega) (by omega) z2 t2
            simp only [Op.eqFields, c1, ne_eq, not_false_eq_true, if_true, Sem.run_bind, c2, hpv, hqv, hone, Result.andThen_ok]
            cases s1
            · simp [Sem.run_pure]
            · simpa using hrest
        refine loop fs.toList 0 zs' _ _ r hf ⟨by simpa using g1, fun j v c h1 h2 => g2 j v c h1 (by simpa using h2)⟩ ⟨by simpa using g3, fun j v c h1 h2 => g4 j v c h1 (by simpa using h2)⟩ (by simp; omega) (by simp; omega) ?_ ?_
        · simpa using e0
        · simpa using e3
    · cases h
theorem zald {d : Nat} {t : TypeId} {a : AT} {zs : List AV} (hd : d ≤ 10000) (h : zhd P d t = some zs) (hz : (zd zs a.zero).isSome = true) (hg : P.eqGuardType P.depth t = false) (ha : atOf P t = some a) (hag : a.kind.isAgg = true) : EqTy P t a.zero := by
  intro w K ρ A xs ys cs ds r x y op q1 q2 hl he
  obtain ⟨a', ha', hzl, _, hrun⟩ := zzl d t zs h
  obtain rfl : a = a' := Option.some.inj (ha.symm.trans ha')
  have hlen := zml he
  have hzx := zfm hz hl
  have hxl : zs.length = xs.length := by obtain ⟨r0, h0⟩ := Option.isSome_iff_exists.1 hzx; exact zml h0
  refine ⟨?_, run_eqGuard_agg w op t x y cs ds hg⟩
  unfold Op.equal Op.maxDepth
  have full : ∀ l : List AV, l.length = a.size → (l.drop 0).take a.size = l := fun l hl => by rw [List.drop_zero, List.take_of_length_le (by omega)]
  refine hrun 10000 hd w K ρ A xs ys 0 (.agg xs) (.agg ys) r _ _ ?_ ?_ ?_ ?_ (LRel.agg q1) (LRel.agg q2)
  · simp only [ldv, hag, cond_true]; rw [if_pos (by omega), full xs (by omega)]
  · simp only [ldv, hag, cond_true]; rw [if_pos (by omega), full ys (by omega)]
  · rw [full xs (by omega)]; exact hzx
  · rw [full xs (by omega), full ys (by omega)]; exact he
theorem zaip {T : Nat → Option AT} (hT : TOk P T) : EOk P T (zads P) := by
  intro t a h ht
  have ha := hT t a ht
  unfold zads at h
  rw [ha] at h
  simp only [Bool.and_eq_true] at h
  obtain ⟨⟨h1, h2⟩, h3⟩ := h
  cases hk : zhd P 4 t with
  | none => rw [hk] at h2; cases h2
  | some zs =>
    rw [hk] at h2
    exact zald (by omega) hk h2 (by simpa using h3) ha h1
end
end Go.Proofs.YtdmibdjokofclaaGreatDoor
set_option maxRecDepth 8000
namespace Go.Proofs.YtdmibdjokofclaaGreatDoor
open Go Go.RowKit
theorem mixed : Tryz.prog.follows .mixedOrders = true := by kernel_rfl
noncomputable def tab : Nat → Option AT := atOf Tryz.prog
theorem zy : TOk Tryz.prog tab := fun _ _ h => h
def zgg (t : Nat) : Bool := Nat.blt t 1000000
noncomputable def eqsT (t : Nat) : Bool := bif zgg t then zads Tryz.prog t else false
theorem zz : EOk Tryz.prog tab eqsT := by
  intro t a h ht
  unfold eqsT at h
  generalize zgg t = b at h
  cases b with
  | true => rw [cond_true] at h; exact zaip zy t a h ht
  | false => rw [cond_false] at h; cases h
noncomputable def tabZ (t : Nat) : Option AT := bif zgg t then tab t else none
theorem zqe : TOk Tryz.prog tabZ := by
  intro t a h
  unfold tabZ at h
  generalize zgg t = b at h
  cases b with
  | true => rw [cond_true] at h; exact h
  | false => rw [cond_false] at h; cases h
def eqsZ (t : Nat) : Bool := !zgg t
theorem zqt : EOk Tryz.prog tabZ eqsZ := by
  intro t a h ht
  unfold tabZ at ht
  unfold eqsZ at h
  generalize zgg t = b at h ht
  cases b with
  | true => cases h
  | false => rw [cond_false] at ht; cases ht
end Go.Proofs.YtdmibdjokofclaaGreatDoor
set_option maxRecDepth 8000
namespace Go.Proofs.YtdmibdjokofclaaGreatDoor
open Go Go.RowKit
@[simp] theorem zaqz : zb tab 2 = 1 := by kernel_rfl
@[simp] theorem zaqy : zb tab 3 = 1 := by kernel_rfl
@[simp] theorem zaqx : zb tab 4 = 1 := by kernel_rfl
@[simp] theorem zaqw : zb tab 5 = 1 := by kernel_rfl
@[simp] theorem zaqv : zb tab 6 = 1 := by kernel_rfl
@[simp] theorem zaqu : zb tab 9 = 1 := by kernel_rfl
@[simp] theorem zapt : zb tab 12 = 1 := by kernel_rfl
@[simp] theorem zaps : zb tab 17 = 1 := by kernel_rfl
@[simp] theorem zapr : zb tab 23 = 1 := by kernel_rfl
@[simp] theorem zapq : zb tab 24 = 1 := by kernel_rfl
@[simp] theorem zapp : zb tab 26 = 2 := by kernel_rfl
@[simp] theorem zapo : zb tab 28 = 3 := by kernel_rfl
@[simp] theorem zapn : zb tab 30 = 1 := by kernel_rfl
@[simp] theorem zapm : zb tab 32 = 1 := by kernel_rfl
@[simp] theorem zapl : zb tab 41 = 1 := by kernel_rfl
@[simp] theorem zapk : zb tab 48 = 1 := by kernel_rfl
@[simp] theorem zapj : zb tab 49 = 1 := by kernel_rfl
@[simp] theorem zapi : zb tab 51 = 9 := by kernel_rfl
@[simp] theorem zaph : zb tab 65 = 3 := by kernel_rfl
@[simp] theorem zapg : zb tab 68 = 1 := by kernel_rfl
@[simp] theorem zapf : zb tab 74 = 1 := by kernel_rfl
@[simp] theorem zape : zb tab 78 = 3 := by kernel_rfl
@[simp] theorem zapd : zb tab 89 = 1 := by kernel_rfl
@[simp] theorem zaoh : zb tab 100 = 1 := by kernel_rfl
@[simp] theorem zaog : zb tab 131 = 1 := by kernel_rfl
@[simp] theorem zaof : zb tab 152 = 1 := by kernel_rfl
@[simp] theorem zaoe : zb tab 173 = 1 := by kernel_rfl
@[simp] theorem zaod : zb tab 185 = 1 := by kernel_rfl
@[simp] theorem zaoc : zb tab 193 = 0 := by kernel_rfl
@[simp] theorem zaob : zb tab 197 = 1 := by kernel_rfl
@[simp] theorem zaoa : zb tab 198 = 1 := by kernel_rfl
@[simp] theorem zanz : zb tab 199 = 1 := by kernel_rfl
@[simp] theorem zany : zb tab 200 = 1 := by kernel_rfl
@[simp] theorem zanx : zb tab 201 = 1 := by kernel_rfl
def zsx (a0 : AV) (H : Heap) (nx : Nat) (Q : QT) : Prop :=
 BI .rem a0 (.int .i64 1073741825) fun v1 =>
 BD (zab tab [(3, 0), (3, 1), (9, 2)]) [.int .i64 0, .int .i64 0, .str []] [(1, v1)] fun v2 =>
 ST 3 (.ptr nx 0) v2 (H.put nx (some (.row 3 [.int .i64 0, .int .i64 0, .str []]))) fun H3 =>
 LD true 3 (.ptr nx 0) H3 fun v4 =>
 Q v4 H3 (nx + 1)
theorem zvt (a0 : AV) (H : Heap) (nx : Nat) (Q : QT) : zsx a0 H nx Q → za Tryz.prog 75 [a0] H nx Q :=
  ze (lv := lvOf []) (c := zp Tryz.f75) zy zz mixed Tryz.func75 (by kernel_rfl) (by kernel_rfl) (by kernel_rfl) (by kernel_rfl) (by kernel_rfl)
def zqv (a0 : AV) (H : Heap) (nx : Nat) (Q : QT) : Prop :=
 LNS a0 fun v1 =>
 MM true v1 (.int .i64 60) fun v2 =>
 SLS a0 none (some v2) fun v3 =>
 BD (zab tab [(3, 0), (3, 1), (9, 2)]) [.int .i64 0, .int .i64 0, .str []] [(0, .int .i64 1), (2, v3)] fun v4 =>
 ST 3 (.ptr nx 0) v4 (H.put nx (some (.row 3 [.int .i64 0, .int .i64 0, .str []]))) fun H5 =>
 LD true 3 (.ptr nx 0) H5 fun v6 =>
 Q v6 H5 (nx + 1)
theorem zus (a0 : AV) (H : Heap) (nx : Nat) (Q : QT) : zqv a0 H nx Q → za Tryz.prog 49 [a0] H nx Q :=
  ze (lv := lvOf []) (c := zp Tryz.f49) zy zz mixed Tryz.func49 (by kernel_rfl) (by kernel_rfl) (by kernel_rfl) (by kernel_rfl) (by kernel_rfl)
def zou (Q : QT) (xs13 : List AV) (H14 : Heap) (nx15 : Nat) : Prop :=
 CNDC (nth xs13 1)
 (Q (.int .i64 6) H14 nx15)
 (FA 0 (nth xs13 0) fun v17 =>
 LD false 1 v17 H14 fun v18 =>
 BI .eql v18 (.int .i64 1) fun v19 =>
 CND v19
 (FA 1 (nth xs13 0) fun v20 =>
 LD false 1 v20 H14 fun v21 =>
 BI .neq v21 (.int .i64 0) fun v22 =>
 CND v22
 (Q (.int .i64 2) H14 nx15)
 (FA 0 (nth xs13 0) fun v23 =>
 LD false 1 v23 H14 fun v24 =>
 BI .neq v24 (.int .i64 1) fun v25 =>
 CND v25
 (FA 2 (nth xs13 0) fun v26 =>
 LD false 1 v26 H14 fun v27 =>
 BS .neq v27 (.str []) fun v28 =>
 CNDC v28
 (Q (.int .i64 2) H14 nx15)
 (Q (.int .i64 0) H14 nx15))
 (Q (.int .i64 0) H14 nx15)))
 (FA 0 (nth xs13 0) fun v29 =>
 LD false 1 v29 H14 fun v30 =>
 BI .neq v30 (.int .i64 1) fun v31 =>
 CND v31
 (FA 2 (nth xs13 0) fun v32 =>
 LD false 1 v32 H14 fun v33 =>
 BS .neq v33 (.str []) fun v34 =>
 CNDC v34
 (Q (.int .i64 2) H14 nx15)
 (Q (.int .i64 0) H14 nx15))
 (Q (.int .i64 0) H14 nx15)))
def zox (xs9 : List AV) (H10 : Heap) (nx11 : Nat) (j16 : J3) : Prop :=
 FA 0 (nth xs9 1) fun v35 =>
 LD false 1 v35 H10 fun v36 =>
 BI .eql v36 (.int .i64 2) fun v37 =>
 CND v37
 (FA 1 (nth xs9 1) fun v38 =>
 LD false 1 v38 H10 fun v39 =>
 BI .lss v39 (.int .i64 0) fun v40 =>
 CND v40
 (j16 [nth xs9 1, .bool true] H10 nx11)
 (FA 1 (nth xs9 1) fun v41 =>
 LD false 1 v41 H10 fun v42 =>
 BI .geq v42 (nth xs9 0) fun v43 =>
 j16 [nth xs9 1, v43] H10 nx11))
 (j16 [nth xs9 1, .bool false] H10 nx11)
def zot (Q : QT) (xs9 : List AV) (H10 : Heap) (nx11 : Nat) : Prop :=
 CNDC (nth xs9 2)
 (Q (AV.int IntKind.i64 4) H10 nx11)
 (JN (zou Q) (zox xs9 H10 nx11))
def zow (xs5 : List AV) (H6 : Heap) (nx7 : Nat) (j12 : J3) : Prop :=
 FA 0 (nth xs5 1) fun v44 =>
 LD false 1 v44 H6 fun v45 =>
 BI .eql v45 (.int .i64 1) fun v46 =>
 CND v46
 (FA 2 (nth xs5 1) fun v47 =>
 LD false 1 v47 H6 fun v48 =>
 LNS v48 fun v49 =>
 BI .gtr v49 (.int .i64 60) fun v50 =>
 j12 [nth xs5 0, nth xs5 1, v50] H6 nx7)
 (j12 [nth xs5 0, nth xs5 1, .bool false] H6 nx7)
def zos (Q : QT) (xs5 : List AV) (H6 : Heap) (nx7 : Nat) : Prop :=
 CNDC (nth xs5 2)
 (Q (AV.int IntKind.i64 3) H6 nx7)
 (JN (zot Q) (zow xs5 H6 nx7))
def zov (nx : Nat) (H : Heap) (a0 : AV) (a1 : AV) (j8 : J3) : Prop :=
 LD false 1 (.ptr nx 0) (H.put nx (some (.row a0.cells.length a0.cells))) fun v51 =>
 BI .eql v51 (.int .i64 0) fun v52 =>
 CND v52
 (LD false 1 (.ptr nx 1) (H.put nx (some (.row a0.cells.length a0.cells))) fun v53 =>
 BI .lss v53 (.int .i64 (-1073741824)) fun v54 =>
 CND v54
 (j8 [a1, .ptr nx 0, .bool true] (H.put nx (some (.row a0.cells.length a0.cells))) (nx + 1))
 (LD false 1 (.ptr nx 1) (H.put nx (some (.row a0.cells.length a0.cells))) fun v55 =>
 BI .gtr v55 (.int .i64 1073741824) fun v56 =>
 j8 [a1, .ptr nx 0, v56] (H.put nx (some (.row a0.cells.length a0.cells))) (nx + 1)))
 (j8 [a1, .ptr nx 0, .bool false] (H.put nx (some (.row a0.cells.length a0.cells))) (nx + 1))
def zor (a0 a1 : AV) (H : Heap) (nx : Nat) (Q : QT) : Prop :=
 a0.sure = true ∧
 LD false 1 (.ptr nx 0) (H.put nx (some (.row a0.cells.length a0.cells))) fun v1 =>
 BI .lss v1 (.int .i64 0) fun v2 =>
 CND v2
 (Q (.int .i64 1) (H.put nx (some (.row a0.cells.length a0.cells))) (nx + 1))
 (LD false 1 (.ptr nx 0) (H.put nx (some (.row a0.cells.length a0.cells))) fun v3 =>
 BI .gtr v3 (.int .i64 2) fun v4 =>
 CNDC v4
 (Q (.int .i64 1) (H.put nx (some (.row a0.cells.length a0.cells))) (nx + 1))
 (JN (zos Q) (zov nx H a0 a1)))
theorem ztr (a0 a1 : AV) (H : Heap) (nx : Nat) (Q : QT) : zor a0 a1 H nx Q → za Tryz.prog 27 [a0, a1] H nx Q :=
  ze (lv := lvOf [(0, 3, [1, 2, 14]), (0, 5, [1, 2, 28]), (0, 7, [2, 38])]) (c := zp Tryz.f27) zy zz mixed Tryz.func27 (by kernel_rfl) (by kernel_rfl) (by kernel_rfl) (by kernel_rfl) (by kernel_rfl)
def zoy (a0 : AV) (H : Heap) (nx : Nat) (Q : QT) : Prop :=
 CNDC a0
 (ST 3 (.ptr nx 0) (.agg [.int .i64 0, .int .i64 1, .str []]) (H.put nx (some (.row 3 [.int .i64 0, .int .i64 0, .str []]))) fun H1 =>
 LD true 3 (.ptr nx 0) H1 fun v2 =>
 Q (.tup [v2, .int .i64 0]) H1 (nx + 1))
 (ST 3 (.ptr nx 0) (.agg [.int .i64 0, .int .i64 0, .str []]) (H.put nx (some (.row 3 [.int .i64 0, .int .i64 0, .str []]))) fun H3 =>
 LD true 3 (.ptr nx 0) H3 fun v4 =>
 Q (.tup [v4, .int .i64 0]) H3 (nx + 1))
theorem zts (a0 : AV) (H : Heap) (nx : Nat) (Q : QT) : zoy a0 H nx Q → za Tryz.prog 74 [a0] H nx Q :=
  ze (lv := lvOf []) (c := zp Tryz.f74) zy zz mixed Tryz.func74 (by kernel_rfl) (by kernel_rfl) (by kernel_rfl) (by kernel_rfl) (by kernel_rfl)
def zsw (xs1 : List AV) (Q : QT) (v11 : AV) (H12 : Heap) (nx13 : Nat) : Prop :=
 EX v11 0 fun v14 =>
 EX v11 1 fun v15 =>
 ST 3 (nth xs1 3) v14 H12 fun H16 =>
 LD true 3 (nth xs1 3) H16 fun v17 =>
 Q (.tup [v17, v15]) H16 nx13
def zsv (xs18 : List AV) (Q : QT) (v27 : AV) (H28 : Heap) (nx29 : Nat) : Prop :=
 ST 3 (nth xs18 3) v27 H28 fun H30 =>
 LD true 3 (nth xs18 3) H30 fun v31 =>
 Q (.tup [v31, .int .i64 0]) H30 nx29
def zst (xs32 : List AV) (Q : QT) (v41 : AV) (H42 : Heap) (nx43 : Nat) : Prop :=
 EX v41 0 fun v44 =>
 EX v41 1 fun v45 =>
 ST 3 (nth xs32 3) v44 H42 fun H46 =>
 LD true 3 (nth xs32 3) H46 fun v47 =>
 Q (.tup [v47, v45]) H46 nx43
def zss (xs32 : List AV) (Q : QT) (v64 : AV) (H65 : Heap) (nx66 : Nat) : Prop :=
 ST 3 (nth xs32 3) v64 H65 fun H67 =>
 LD true 3 (nth xs32 3) H67 fun v68 =>
 Q (.tup [v68, .int .i64 0]) H67 nx66
def zsr (xs32 : List AV) (Q : QT) (v75 : AV) (H76 : Heap) (nx77 : Nat) : Prop :=
 ST 3 (nth xs32 3) v75 H76 fun H78 =>
 LD true 3 (nth xs32 3) H78 fun v79 =>
 Q (.tup [v79, .int .i64 0]) H78 nx77
def zsq (xs32 : List AV) (Q : QT) (v86 : AV) (H87 : Heap) (nx88 : Nat) : Prop :=
 ST 3 (nth xs32 3) v86 H87 fun H89 =>
 LD true 3 (nth xs32 3) H89 fun v90 =>
 Q (.tup [v90, .int .i64 0]) H89 nx88
def zsp (xs32 : List AV) (Q : QT) (v96 : AV) (H97 : Heap) (nx98 : Nat) : Prop :=
 EX v96 0 fun v99 =>
 EX v96 1 fun v100 =>
 ST 3 (nth xs32 3) v99 H97 fun H101 =>
 LD true 3 (nth xs32 3) H101 fun v102 =>
 Q (.tup [v102, v100]) H101 nx98
def zdk (Q : QT) (xs32 : List AV) (H33 : Heap) (nx34 : Nat) : Prop :=
 CNDC (nth xs32 5)
 (FA 2 (nth xs32 1) fun v36 =>
 LD false 1 v36 H33 fun v37 =>
 FA 2 (nth xs32 2) fun v38 =>
 LD false 1 v38 H33 fun v39 =>
 BS .lss v37 v39 fun v40 =>
 CALL Tryz.prog (nth xs32 4) [v40] H33 nx34 (zst xs32 Q))
 (FA 0 (nth xs32 1) fun v48 =>
 LD false 1 v48 H33 fun v49 =>
 BI .neq v49 (.int .i64 0) fun v50 =>
 CND v50
 (ST 3 (nth xs32 3) (.agg [.int .i64 0, .int .i64 0, .str []]) H33 fun H51 =>
 LD true 3 (nth xs32 3) H51 fun v52 =>
 Q (.tup [v52, .int .i64 11]) H51 nx34)
 (FA 0 (nth xs32 2) fun v53 =>
 LD false 1 v53 H33 fun v54 =>
 BI .neq v54 (.int .i64 0) fun v55 =>
 CNDC v55
 (ST 3 (nth xs32 3) (.agg [.int .i64 0, .int .i64 0, .str []]) H33 fun H56 =>
 LD true 3 (nth xs32 3) H56 fun v57 =>
 Q (.tup [v57, .int .i64 11]) H56 nx34)
 (BI .eql (nth xs32 0) (.int .i64 1) fun v58 =>
 CNDC v58
 (FA 1 (nth xs32 1) fun v59 =>
 LD false 1 v59 H33 fun v60 =>
 FA 1 (nth xs32 2) fun v61 =>
 LD false 1 v61 H33 fun v62 =>
 BI .add v60 v62 fun v63 =>
 za Tryz.prog 75 [v63] H33 nx34 (zss xs32 Q))
 (BI .eql (nth xs32 0) (.int .i64 2) fun v69 =>
 CNDC v69
 (FA 1 (nth xs32 1) fun v70 =>
 LD false 1 v70 H33 fun v71 =>
 FA 1 (nth xs32 2) fun v72 =>
 LD false 1 v72 H33 fun v73 =>
 BI .sub v71 v73 fun v74 =>
 za Tryz.prog 75 [v74] H33 nx34 (zsr xs32 Q))
 (BI .eql (nth xs32 0) (.int .i64 3) fun v80 =>
 CNDC v80
 (FA 1 (nth xs32 1) fun v81 =>
 LD false 1 v81 H33 fun v82 =>
 FA 1 (nth xs32 2) fun v83 =>
 LD false 1 v83 H33 fun v84 =>
 BI .mul v82 v84 fun v85 =>
 za Tryz.prog 75 [v85] H33 nx34 (zsq xs32 Q))
 (FA 1 (nth xs32 1) fun v91 =>
 LD false 1 v91 H33 fun v92 =>
 FA 1 (nth xs32 2) fun v93 =>
 LD false 1 v93 H33 fun v94 =>
 BI .lss v92 v94 fun v95 =>
 CALL Tryz.prog (nth xs32 4) [v95] H33 nx34 (zsp xs32 Q)))))))
def zho (xs18 : List AV) (H19 : Heap) (nx20 : Nat) (j35 : J3) : Prop :=
 FA 0 (nth xs18 1) fun v103 =>
 LD false 1 v103 H19 fun v104 =>
 BI .eql v104 (.int .i64 1) fun v105 =>
 CND v105
 (FA 0 (nth xs18 2) fun v106 =>
 LD false 1 v106 H19 fun v107 =>
 BI .eql v107 (.int .i64 1) fun v108 =>
 CND v108
 (BI .eql (nth xs18 0) (.int .i64 4) fun v109 =>
 j35 [nth xs18 0, nth xs18 1, nth xs18 2, nth xs18 3, nth xs18 4, v109] H19 nx20)
 (j35 [nth xs18 0, nth xs18 1, nth xs18 2, nth xs18 3, nth xs18 4, .bool false] H19 nx20))
 (j35 [nth xs18 0, nth xs18 1, nth xs18 2, nth xs18 3, nth xs18 4, .bool false] H19 nx20)
def zhl (Q : QT) (xs18 : List AV) (H19 : Heap) (nx20 : Nat) : Prop :=
 CNDC (nth xs18 5)
 (FA 2 (nth xs18 1) fun v22 =>
 LD false 1 v22 H19 fun v23 =>
 FA 2 (nth xs18 2) fun v24 =>
 LD false 1 v24 H19 fun v25 =>
 BS .add v23 v25 fun v26 =>
 za Tryz.prog 49 [v26] H19 nx20 (zsv xs18 Q))
 (JN (zdk Q) (zho xs18 H19 nx20))
def zhn (xs1 : List AV) (H2 : Heap) (nx3 : Nat) (j21 : J3) : Prop :=
 FA 0 (nth xs1 1) fun v110 =>
 LD false 1 v110 H2 fun v111 =>
 BI .eql v111 (.int .i64 1) fun v112 =>
 CND v112
 (FA 0 (nth xs1 2) fun v113 =>
 LD false 1 v113 H2 fun v114 =>
 BI .eql v114 (.int .i64 1) fun v115 =>
 CND v115
 (BI .eql (nth xs1 0) (.int .i64 1) fun v116 =>
 j21 [nth xs1 0, nth xs1 1, nth xs1 2, nth xs1 3, .clo 74 [], v116] H2 nx3)
 (j21 [nth xs1 0, nth xs1 1, nth xs1 2, nth xs1 3, .clo 74 [], .bool false] H2 nx3))
 (j21 [nth xs1 0, nth xs1 1, nth xs1 2, nth xs1 3, .clo 74 [], .bool false] H2 nx3)
def zhk (Q : QT) (xs1 : List AV) (H2 : Heap) (nx3 : Nat) : Prop :=
 CNDC (nth xs1 4)
 (ST 3 (nth xs1 3) (.agg [.int .i64 0, .int .i64 0, .str []]) H2 fun H5 =>
 LD true 3 (nth xs1 3) H5 fun v6 =>
 Q (.tup [v6, .int .i64 1]) H5 nx3)
 (BI .eql (nth xs1 0) (.int .i64 5) fun v7 =>
 CNDC v7
 (LD true 3 (nth xs1 1) H2 fun v8 =>
 LD true 3 (nth xs1 2) H2 fun v9 =>
 gd (eqsT 78) (
 BA [.int .i64 0, .int .i64 0, .str []] .eql v8 v9 fun v10 =>
 za Tryz.prog 74 [v10] H2 nx3 (zsw xs1 Q)))
 (JN (zhl Q) (zhn xs1 H2 nx3)))
def zhm (a0 : AV) (nx : Nat) (H : Heap) (a1 : AV) (a2 : AV) (j4 : J3) : Prop :=
 BI .lss a0 (.int .i64 1) fun v117 =>
 CND v117
 (j4 [a0, .ptr nx 0, .ptr (nx + 1) 0, .ptr (nx + 2) 0, .bool true] (((H.put nx (some (.row a1.cells.length a1.cells))).put ((nx + 1)) (some (.row a2.cells.length a2.cells))).put ((nx + 2)) (some (.row 3 [.int .i64 0, .int .i64 0, .str []]))) (nx + 3))
 (BI .gtr a0 (.int .i64 5) fun v118 =>
 j4 [a0, .ptr nx 0, .ptr (nx + 1) 0, .ptr (nx + 2) 0, v118] (((H.put nx (some (.row a1.cells.length a1.cells))).put ((nx + 1)) (some (.row a2.cells.length a2.cells))).put ((nx + 2)) (some (.row 3 [.int .i64 0, .int .i64 0, .str []]))) (nx + 3))
def zhj (a0 a1 a2 : AV) (H : Heap) (nx : Nat) (Q : QT) : Prop :=
 a1.sure = true ∧
 a2.sure = true ∧
 JN (zhk Q) (zhm a0 nx H a1 a2)
theorem zvs (a0 a1 a2 : AV) (H : Heap) (nx : Nat) (Q : QT) : zhj a0 a1 a2 H nx Q → za Tryz.prog 70 [a0, a1, a2] H nx Q :=
  ze (lv := lvOf [(0, 1, [0, 4, 5, 6, 14]), (0, 6, [0, 4, 5, 6, 8, 26]), (0, 8, [0, 4, 5, 6, 8, 45])]) (c := zp Tryz.f70) zy zz mixed Tryz.func70 (by kernel_rfl) (by kernel_rfl) (by kernel_rfl) (by kernel_rfl) (by kernel_rfl)
def zqy (Q : QT) (v4 : AV) (H5 : Heap) (nx6 : Nat) : Prop :=
 Q v4 H5 nx6
def zqx (v28 : AV) (D26 : zj) (rd30 : List Nat) (rd34 : List Nat) (Q : QT) (H : Heap) (nx : Nat) (a1 : AV) (fr25 : List Nat) (v36 : AV) (_ : List Nat) (fr38 : List Nat) (D39 : zj) : Prop :=
 BS .add v28 v36 fun v40 =>
 BS .add v40 (.str [41]) fun v41 =>
 zh (domD D26) [] (
 zh (domD D26) [] (
 zh (domD D26) [] (
 zh (domD D26) [] (
 zh (domD D26) [] (
 zh (domD D26) [] (
 zh (domD D26) rd30 (
 zh (domD D26) [] (
 zh (domD D26) [] (
 zh (domD D26) [] (
 zh (domD D26) [] (
 zh (domD D26) [] (
 zh (domD D26) rd34 (
 zh (domD D26) [] (
 zh (domD D26) [] (
 zh (domD D26) [] (
 zh (domD D26) [] (
 zh (domD D26) [] (
 zh (domD D39) [] (
 zh (domD D39) [] (
 Q v41 (((H.put nx (some (.row a1.cells.length a1.cells))).apply D26).apply D39) (((nx + 1) + fr25.length) + fr38.length)))))))))))))))))))))
def zqw (nx : Nat) (H : Heap) (a1 : AV) (a0 : AV) (a2 : AV) (Q : QT) (v23 : AV) (_ : List Nat) (fr25 : List Nat) (D26 : zj) : Prop :=
 BS .add (.str [40]) v23 fun v27 =>
 BS .add v27 (.str [32]) fun v28 =>
 LDR false 1 (.ptr nx 1) ((H.put nx (some (.row a1.cells.length a1.cells))).apply D26) fun v29 rd30 =>
 IA 6 a0 v29 fun v31 =>
 FA 3 v31 fun v32 =>
 LDR true 3 v32 ((H.put nx (some (.row a1.cells.length a1.cells))).apply D26) fun v33 rd34 =>
 BI .sub a2 (.int .i64 1) fun v35 =>
 zw Tryz.prog (.clo 57 []) [a0, v33, v35] ((H.put nx (some (.row a1.cells.length a1.cells))).apply D26) ((nx + 1) + fr25.length) (zqx v28 D26 rd30 rd34 Q H nx a1 fr25)
def zeb (a0 a1 a2 : AV) (H : Heap) (nx : Nat) (Q : QT) : Prop :=
 a1.sure = true ∧
 LD false 1 (.ptr nx 0) (H.put nx (some (.row a1.cells.length a1.cells))) fun v1 =>
 BI .eql v1 (.int .i64 0) fun v2 =>
 CNDC v2
 (LD false 1 (.ptr nx 1) (H.put nx (some (.row a1.cells.length a1.cells))) fun v3 =>
 za Tryz.prog 71 [v3] (H.put nx (some (.row a1.cells.length a1.cells))) (nx + 1) (zqy Q))
 (LD false 1 (.ptr nx 0) (H.put nx (some (.row a1.cells.length a1.cells))) fun v7 =>
 BI .eql v7 (.int .i64 1) fun v8 =>
 CNDC v8
 (LD false 1 (.ptr nx 2) (H.put nx (some (.row a1.cells.length a1.cells))) fun v9 =>
 Q v9 (H.put nx (some (.row a1.cells.length a1.cells))) (nx + 1))
 (BI .leq a2 (.int .i64 0) fun v10 =>
 CND v10
 (Q (.str [46, 46]) (H.put nx (some (.row a1.cells.length a1.cells))) (nx + 1))
 (LD false 1 (.ptr nx 1) (H.put nx (some (.row a1.cells.length a1.cells))) fun v11 =>
 BI .lss v11 (.int .i64 0) fun v12 =>
 CND v12
 (Q (.str [46, 46]) (H.put nx (some (.row a1.cells.length a1.cells))) (nx + 1))
 (LD false 1 (.ptr nx 1) (H.put nx (some (.row a1.cells.length a1.cells))) fun v13 =>
 LNL a0 fun v14 =>
 BI .geq v13 v14 fun v15 =>
 CNDC v15
 (Q (.str [46, 46]) (H.put nx (some (.row a1.cells.length a1.cells))) (nx + 1))
 (LDR false 1 (.ptr nx 1) (H.put nx (some (.row a1.cells.length a1.cells))) fun v16 _ =>
 IA 6 a0 v16 fun v18 =>
 FA 0 v18 fun v19 =>
 LDR true 3 v19 (H.put nx (some (.row a1.cells.length a1.cells))) fun v20 _ =>
 BI .sub a2 (.int .i64 1) fun v22 =>
 zw Tryz.prog (.clo 57 []) [a0, v20, v22] (H.put nx (some (.row a1.cells.length a1.cells))) (nx + 1) (zqw nx H a1 a0 a2 Q))))))
theorem zut (a0 a1 a2 : AV) (H : Heap) (nx : Nat) (Q : QT) : zeb a0 a1 a2 H nx Q → za Tryz.prog 57 [a0, a1, a2] H nx Q :=
  ze (lv := lvOf []) (c := zp Tryz.f57) zy zz mixed Tryz.func57 (by kernel_rfl) (by kernel_rfl) (by kernel_rfl) (by kernel_rfl) (by kernel_rfl)
def zcu (a0 : AV) (H : Heap) (nx : Nat) (Q : QT) : Prop :=
 BL .eql a0 .nils fun v1 =>
 CNDC v1
 (Q .nils H nx)
 (APP 3 32 (.slc nx 0 0) a0 (H.put nx (some (.row 3 []))) (nx + 1) fun v2 H3 nx4 =>
 Q v2 H3 nx4)
theorem zkr (a0 : AV) (H : Heap) (nx : Nat) (Q : QT) : zcu a0 H nx Q → za Tryz.prog 45 [a0] H nx Q :=
  ze (lv := lvOf []) (c := zp Tryz.f45) zy zz mixed Tryz.func45 (by kernel_rfl) (by kernel_rfl) (by kernel_rfl) (by kernel_rfl) (by kernel_rfl)
def zfo (v38 : AV) (xs19 : List AV) (nx36 : Nat) (H37 : Heap) (rd39 : List Nat) (K18 : J3) (v42 : AV) (_ : List Nat) (fr44 : List Nat) (D45 : zj) : Prop :=
 BD (zab tab [(78, 0), (78, 3)]) [.int .i64 0, .int .i64 0, .str [], .int .i64 0, .int .i64 0, .str []] [(0, v38), (1, v42)] fun v46 =>
 BSL 1 6 [.int .i64 0, .int .i64 0, .str [], .int .i64 0, .int .i64 0, .str []] [(0, v46)] fun cells47 =>
 zah 6 64 (nth xs19 2) (.slc ((nx36 + 1) + fr44.length) 0 1) ((H37.apply D45).put (((nx36 + 1) + fr44.length)) (some (.row 6 cells47))) (((nx36 + 1) + fr44.length) + 1) fun v48 _ fr50 D51 =>
 zh (domD D45) [] (
 zh (domD D45) rd39 (
 ((nx36 + 1) + fr44.length) ∉ [] ∧
 K18 [nth xs19 0, nth xs19 1, v48, nth xs19 3, nth xs19 4, nth xs19 5, nth xs19 6] (((H37.apply D45).put (((nx36 + 1) + fr44.length)) (some (.row 6 cells47))).apply D51) ((((nx36 + 1) + fr44.length) + 1) + fr50.length)))
def zpb (nx21 : Nat) (xs19 : List AV) (K18 : J3) (v34 : AV) (H35 : Heap) (nx36 : Nat) : Prop :=
 ST 3 (.ptr nx36 0) v34 (H35.put nx36 (some (.row 3 [.int .i64 0, .int .i64 0, .str []]))) fun H37 =>
 LDR true 3 (.ptr nx36 0) H37 fun v38 rd39 =>
 LDR true 3 (.ptr nx21 3) H37 fun v40 _ =>
 zw Tryz.prog (nth xs19 3) [v40] H37 (nx36 + 1) (zfo v38 xs19 nx36 H37 rd39 K18)
def zdh (K6 : J3) (K18 : J3) (xs19 : List AV) (H20 : Heap) (nx21 : Nat) : Prop :=
 LNL (nth xs19 2) fun v22 =>
 LD false 1 (nth xs19 1) H20 fun v23 =>
 LNL v23 fun v24 =>
 BI .lss v22 v24 fun v25 =>
 CNDC v25
 (LD false 1 (nth xs19 1) H20 fun v26 =>
 LNL (nth xs19 2) fun v27 =>
 IA 1 v26 v27 fun v28 =>
 LD false 1 v28 H20 fun v29 =>
 IA 6 (nth xs19 0) v29 fun v30 =>
 LD true 6 v30 H20 fun v31 =>
 ST 6 (.ptr nx21 0) v31 (H20.put nx21 (some (.row 6 [.int .i64 0, .int .i64 0, .str [], .int .i64 0, .int .i64 0, .str []]))) fun H32 =>
 LD true 3 (.ptr nx21 0) H32 fun v33 =>
 CALL Tryz.prog (nth xs19 3) [v33] H32 (nx21 + 1) (zpb nx21 xs19 K18))
 (BI .add (nth xs19 6) (.int .i64 1) fun v52 =>
 K6 [nth xs19 0, nth xs19 1, nth xs19 2, nth xs19 3, nth xs19 4, nth xs19 5, v52] H20 nx21)
def zpa (xs7 : List AV) (K6 : J3) (v13 : AV) (H14 : Heap) (nx15 : Nat) : Prop :=
 IA 3 (nth xs7 4) (nth xs7 6) fun v16 =>
 ST 3 v16 v13 H14 fun H17 =>
 LP (zdh K6) [nth xs7 0, nth xs7 1, nth xs7 2, nth xs7 3, nth xs7 4, nth xs7 5, nth xs7 6] H17 nx15
def zfn (Q : QT) (K6 : J3) (xs7 : List AV) (H8 : Heap) (nx9 : Nat) : Prop :=
 BI .lss (nth xs7 6) (nth xs7 5) fun v10 =>
 CNDC v10
 (IA 3 (nth xs7 4) (nth xs7 6) fun v11 =>
 LD true 3 v11 H8 fun v12 =>
 CALL Tryz.prog (nth xs7 3) [v12] H8 nx9 (zpa xs7 K6))
 (Q (.tup [nth xs7 4, nth xs7 2]) H8 nx9)
def zis (Q : QT) (a0 : AV) (nx : Nat) (v2 : AV) (H3 : Heap) (nx4 : Nat) : Prop :=
 LNL v2 fun v5 =>
 LP (zfn Q) [a0, .ptr (nx + 2) 0, .nils, .clo 69 [.ptr (nx + 1) 0, .ptr (nx + 2) 0], v2, v5, .int .i64 0] H3 nx4
def zoz (a0 a1 : AV) (H : Heap) (nx : Nat) (Q : QT) : Prop :=
 ST 1 (.ptr (nx + 1) 0) (.amap nx) ((H.put nx (some (.mp []))).put ((nx + 1)) (some (.row 1 [.nilm]))) fun H1 =>
 za Tryz.prog 45 [a1] (H1.put ((nx + 2)) (some (.row 1 [.nils]))) (nx + 3) (zis Q a0 nx)
theorem ztt (a0 a1 : AV) (H : Heap) (nx : Nat) (Q : QT) : zoz a0 a1 H nx Q → za Tryz.prog 42 [a0, a1] H nx Q :=
  ze (lv := lvOf [(2, 7, [0, 7, 8, 9, 10, 19, 20]), (2, 10, [0, 7, 8, 9, 10, 19, 20])]) (c := zp Tryz.f42) zy zz mixed Tryz.func42 (by kernel_rfl) (by kernel_rfl) (by kernel_rfl) (by kernel_rfl) (by kernel_rfl)
def zco (a0 a1 a2 : AV) (H : Heap) (nx : Nat) (Q : QT) : Prop :=
 a0.sure = true ∧
 LD false 1 (.ptr nx 0) ((H.put nx (some (.row a0.cells.length a0.cells))).put ((nx + 1)) (some (.row 3 [.int .i64 0, .int .i64 0, .str []]))) fun v1 =>
 BI .neq v1 (.int .i64 2) fun v2 =>
 CNDC v2
 (LD true 3 (.ptr nx 0) ((H.put nx (some (.row a0.cells.length a0.cells))).put ((nx + 1)) (some (.row 3 [.int .i64 0, .int .i64 0, .str []]))) fun v3 =>
 ST 3 (.ptr (nx + 1) 0) v3 ((H.put nx (some (.row a0.cells.length a0.cells))).put ((nx + 1)) (some (.row 3 [.int .i64 0, .int .i64 0, .str []]))) fun H4 =>
 LD true 3 (.ptr (nx + 1) 0) H4 fun v5 =>
 Q v5 H4 (nx + 2))
 (LD false 1 a1 ((H.put nx (some (.row a0.cells.length a0.cells))).put ((nx + 1)) (some (.row 3 [.int .i64 0, .int .i64 0, .str []]))) fun v6 =>
 LD false 1 (.ptr nx 1) ((H.put nx (some (.row a0.cells.length a0.cells))).put ((nx + 1)) (some (.row 3 [.int .i64 0, .int .i64 0, .str []]))) fun v7 =>
 zac (AK.int .i64) v7 = true ∧
 LK [.int .i64 0] false v6 v7 true ((H.put nx (some (.row a0.cells.length a0.cells))).put ((nx + 1)) (some (.row 3 [.int .i64 0, .int .i64 0, .str []]))) fun v8 =>
 EX v8 0 fun v9 =>
 EX v8 1 fun v10 =>
 UO .not v10 fun v11 =>
 CNDC v11
 (LD false 1 a2 ((H.put nx (some (.row a0.cells.length a0.cells))).put ((nx + 1)) (some (.row 3 [.int .i64 0, .int .i64 0, .str []]))) fun v12 =>
 LNL v12 fun v13 =>
 LD false 1 a1 ((H.put nx (some (.row a0.cells.length a0.cells))).put ((nx + 1)) (some (.row 3 [.int .i64 0, .int .i64 0, .str []]))) fun v14 =>
 LD false 1 (.ptr nx 1) ((H.put nx (some (.row a0.cells.length a0.cells))).put ((nx + 1)) (some (.row 3 [.int .i64 0, .int .i64 0, .str []]))) fun v15 =>
 zac (AK.int .i64) v15 = true ∧
 MU v14 v15 v13 ((H.put nx (some (.row a0.cells.length a0.cells))).put ((nx + 1)) (some (.row 3 [.int .i64 0, .int .i64 0, .str []]))) fun H16 =>
 LD false 1 a2 H16 fun v17 =>
 LD false 1 (.ptr nx 1) H16 fun v18 =>
 BSL 1 1 [.int .i64 0] [(0, v18)] fun cells19 =>
 APP 1 8 v17 (.slc (nx + 2) 0 1) (H16.put ((nx + 2)) (some (.row 1 cells19))) (nx + 3) fun v20 H21 nx22 =>
 ST 1 a2 v20 H21 fun H23 =>
 ST 1 (.ptr nx 1) v13 H23 fun H24 =>
 LD true 3 (.ptr nx 0) H24 fun v25 =>
 ST 3 (.ptr (nx + 1) 0) v25 H24 fun H26 =>
 LD true 3 (.ptr (nx + 1) 0) H26 fun v27 =>
 Q v27 H26 nx22)
 (ST 1 (.ptr nx 1) v9 ((H.put nx (some (.row a0.cells.length a0.cells))).put ((nx + 1)) (some (.row 3 [.int .i64 0, .int .i64 0, .str []]))) fun H28 =>
 LD true 3 (.ptr nx 0) H28 fun v29 =>
 ST 3 (.ptr (nx + 1) 0) v29 H28 fun H30 =>
 LD true 3 (.ptr (nx + 1) 0) H30 fun v31 =>
 Q v31 H30 (nx + 2)))
theorem zqz (a0 a1 a2 : AV) (H : Heap) (nx : Nat) (Q : QT) : zco a0 a1 a2 H nx Q → za Tryz.prog 69 [a0, a1, a2] H nx Q :=
  ze (lv := lvOf []) (c := zp Tryz.f69) zy zz mixed Tryz.func69 (by kernel_rfl) (by kernel_rfl) (by kernel_rfl) (by kernel_rfl) (by kernel_rfl)
def zfb (a0 : AV) (H : Heap) (nx : Nat) (Q : QT) : Prop :=
 BL .eql a0 .nils fun v1 =>
 CNDC v1
 (Q .nils H nx)
 (APP 3 32 .zs a0 (H.put nx (some (.row 3 []))) (nx + 1) fun v2 H3 nx4 =>
 Q v2 H3 nx4)
theorem zjo (a0 : AV) (H : Heap) (nx : Nat) (Q : QT) : zfb a0 H nx Q → za Tryz.prog 45 [a0] H nx Q :=
  ze (lv := lvOf []) (c := zp Tryz.f45) zqe zqt mixed Tryz.func45 (by kernel_rfl) (by kernel_rfl) (by kernel_rfl) (by kernel_rfl) (by kernel_rfl)
end Go.Proofs.YtdmibdjokofclaaGreatDoor
set_option maxRecDepth 8000
namespace Go.Proofs.YtdmibdjokofclaaGreatDoor
open Go Go.RowKit
inductive Bel (A : Nat → Prop) : AV → Prop
  | junk : Bel A .junk
  | und : Bel A .und
  | int (k : IntKind) (n : Int) : Bel A (.int k n)
  | bool (b : Bool) : Bel A (.bool b)
  | bany : Bel A .bany
  | str (s : List UInt8) : Bel A (.str s)
  | nilp : Bel A .nilp
  | nils : Bel A .nils
  | nilf : Bel A .nilf
  | nilm : Bel A .nilm
  | inil : Bel A .inil
  | ifc : Bel A .ifc
  | zs : Bel A .zs
  | ptr (g off : Nat) : A g → Bel A (.ptr g off)
  | slc (g off len : Nat) : A g → Bel A (.slc g off len)
  | amap (g : Nat) : A g → Bel A (.amap g)
  | ro (xs : List (List AV)) : (∀ (i : Nat) (x : List AV) (j : Nat) (v : AV), xs[i]? = some x → x[j]? = some v → Bel A v) → Bel A (.ro xs)
  | rop (cs : List AV) (o : Nat) : (∀ (j : Nat) (v : AV), cs[j]? = some v → Bel A v) → Bel A (.rop cs o)
  | agg (xs : List AV) : (∀ (j : Nat) (v : AV), xs[j]? = some v → Bel A v) → Bel A (.agg xs)
  | tup (xs : List AV) : (∀ (j : Nat) (v : AV), xs[j]? = some v → Bel A v) → Bel A (.tup xs)
  | clo (f : FuncId) (xs : List AV) : (∀ (j : Nat) (v : AV), xs[j]? = some v → Bel A v) → Bel A (.clo f xs)
def BelO (A : Nat → Prop) : AObj → Prop
  | .row _ cells => ∀ (j : Nat) x, cells[j]? = some x → Bel A x
  | .mp es => ∀ (j : Nat) kv, es[j]? = some kv → Bel A kv.1 ∧ Bel A kv.2
  | .it g _ _ => A g
theorem VRel.bel {K : zn} {ρ : Nat → Loc} {A : Nat → Prop} {v : AV} {c : Value} (h : VRel K ρ A v c) : Bel A v := by
  induction h with
  | junk v => exact .junk
  | und => exact .und
  | int k n => exact .int k n
  | bool b => exact .bool b
  | bany b => exact .bany
  | str s => exact .str s
  | nilp => exact .nilp
  | nils => exact .nils
  | nilf => exact .nilf
  | nilm => exact .nilm
  | inil => exact .inil
  | ifc _ _ => exact .ifc
  | zs a => exact .zs
  | ptr g off a hg ha => exact .ptr g off hg
  | slc g off len cap a hg h1 h2 => exact .slc g off len hg
  | amap g r hg hr => exact .amap g hg
  | ro xs a len cap sz b off C h1 h2 h3 h4 h5 _ ih => exact .ro xs ih
  | rop cs o b p a C h1 h2 _ ih => exact .rop cs o ih
  | agg xs cs h1 _ ih =>
    exact .agg xs fun j v hv => by
      have hlt := (List.getElem?_eq_some_iff.1 hv).1
      exact ih j v _ hv (Array.getElem?_eq_getElem (by omega))
  | tup xs cs h1 _ ih =>
    exact .tup xs fun j v hv => by
      have hlt := (List.getElem?_eq_some_iff.1 hv).1
      exact ih j v _ hv (Array.getElem?_eq_getElem (by omega))
  | clo f xs cs h1 _ ih =>
    exact .clo f xs fun j v hv => by
      have hlt := (List.getElem?_eq_some_iff.1 hv).1
      exact ih j v _ hv (Array.getElem?_eq_getElem (by omega))
theorem VRel.restrict {K : zn} {ρ : Nat → Loc} {A A' : Nat → Prop} {v : AV} {c : Value} (h : VRel K ρ A v c) : Bel A' v → VRel K ρ A' v c := by
  induction h with
  | junk v => exact fun _ => .junk v
  | und => exact fun _ => .und
  | int k n => exact fun _ => .int k n
  | bool b => exact fun _ => .bool b
  | bany b => exact fun _ => .bany b
  | str s => exact fun _ => .str s
  | nilp => exact fun _ => .nilp
  | nils => exact fun _ => .nils
  | nilf => exact fun _ => .nilf
  | nilm => exact fun _ => .nilm
  | inil => exact fun _ => .inil
  | ifc _ h => exact fun _ => .ifc _ h
  | zs a => exact fun _ => .zs a
  | ptr g off a hg ha => intro hb; cases hb with | ptr _ _ h => exact .ptr g off a h ha
  | slc g off len cap a hg h1 h2 => intro hb; cases hb with | slc _ _ _ h => exact .slc g off len cap a h h1 h2
  | amap g r hg hr => intro hb; cases hb with | amap _ h => exact .amap g r h hr
  | ro xs a len cap sz b off C h1 h2 h3 h4 h5 _ ih => intro hb; cases hb with | ro _ h => exact .ro xs a len cap sz b off C h1 h2 h3 h4 h5 fun i x j v hx hv => ih i x j v hx hv (h i x j v hx hv)
  | rop cs o b p a C h1 h2 _ ih => intro hb; cases hb with | rop _ _ h => exact .rop cs o b p a C h1 h2 fun j v hv => ih j v hv (h j v hv)
  | agg xs cs h1 _ ih => intro hb; cases hb with | agg _ h => exact .agg xs cs h1 fun j v c hv hc => ih j v c hv hc (h j v hv)
  | tup xs cs h1 _ ih => intro hb; cases hb with | tup _ h => exact .tup xs cs h1 fun j v c hv hc => ih j v c hv hc (h j v hv)
  | clo f xs cs h1 _ ih => intro hb; cases hb with | clo _ _ h => exact .clo f xs cs h1 fun j v c hv hc => ih j v c hv hc (h j v hv)
inductive Frz (H : Heap) (nx : Nat) : AV → AV → Prop
  | same (v : AV) : Bel (· < nx) v → Frz H nx v v
  | nils : Frz H nx .nils (.ro [])
  | zs : Frz H nx .zs (.ro [])
  | slc (g off len sz : Nat) (cells : List AV) (xs : List (List AV)) : nx ≤ g → H g = some (.row sz cells) → off + len * sz ≤ cells.length → xs.length = len → (∀ x ∈ xs, x.length = sz) →
      (U : Nat → Nat → AV) → (∀ (i : Nat) (x : List AV) (j : Nat) (v : AV), xs[i]? = some x → x[j]? = some v → cells[off + i * sz + j]? = some (U i j)) →
      (∀ (i : Nat) (x : List AV) (j : Nat) (v : AV), xs[i]? = some x → x[j]? = some v → Frz H nx (U i j) v) → Frz H nx (.slc g off len) (.ro xs)
  | agg (xs ys : List AV) : ys.length = xs.length → (∀ (j : Nat) (v u : AV), xs[j]? = some v → ys[j]? = some u → Frz H nx v u) → Frz H nx (.agg xs) (.agg ys)
  | tup (xs ys : List AV) : ys.length = xs.length → (∀ (j : Nat) (v u : AV), xs[j]? = some v → ys[j]? = some u → Frz H nx v u) → Frz H nx (.tup xs) (.tup ys)
theorem Frz.rel {A : Nat → Prop} {ρ : Nat → Loc} {H H0 : Heap} {w : World} {nx : Nat} (s : Sim A ρ H w) (h0 : ∀ g o, H0 g = some o → g < nx ∧ H g = some o) {v u : AV} (h : Frz H nx v u) :
    ∀ (c : Value), VRel (Kof ρ H w) ρ A v c → VRel (Kof ρ H0 w) ρ (· < nx) u c := by
  have hK : ∀ b o, Kof ρ H w b = some o → Kof ρ H0 w b = some o := fun b o hb => by
    obtain ⟨h1, h2⟩ := zu.1 hb
    refine zu.2 ⟨fun g hg => ?_, h2⟩
    obtain ⟨o', ho'⟩ := Option.isSome_iff_exists.1 hg
    exact h1 g (by rw [(h0 g o' ho').2]; rfl)
  induction h with
  | same v hb => exact fun c hc => (hc.restrict hb).mono hK (fun _ h => ⟨rfl, h⟩)
  | nils =>
    intro c hc
    cases hc
    exact .ro [] none 0 0 0 0 0 (fun _ _ => undef) rfl (Nat.le_refl _) (fun h => absurd rfl h) (fun x hx => by cases hx) (fun i x j v hx => by simp at hx) (fun i x j v hx => by simp at hx)
  | zs =>
    intro c hc
    cases hc with
    | zs a => exact .ro [] a 0 0 0 0 0 (fun _ _ => undef) rfl (Nat.le_refl _) (fun h => absurd rfl h) (fun x hx => by cases hx) (fun i x j v hx => by simp at hx) (fun i x j v hx => by simp at hx)
  | slc g off len sz cells xs hg hH hle hl hsz U hU _ ih =>
    intro c hc
    cases hc with
    | slc _ _ _ cap a hA hcl hcap =>
      obtain ⟨cc, el, lo, hi, q1, q2, q3, q4, q5, q6⟩ := s.obj g _ hH
      have hKb : Kof ρ H0 w (ρ g).block = some (.cells cc el (lo, hi)) := by
        refine zu.2 ⟨fun x hx e => ?_, q1⟩
        obtain ⟨o', ho'⟩ := Option.isSome_iff_exists.1 hx
        obtain ⟨h1, h2⟩ := h0 x o' ho'
        have := s.inj x g (by rw [h2]; rfl) (by rw [hH]; rfl) e
        omega
      have hex : ∀ (i : Nat) (x : List AV) (j : Nat) (v : AV), xs[i]? = some x → x[j]? = some v → ∃ cv, cc[(ρ g).base + (off + i * sz + j)]? = some cv ∧ VRel (Kof ρ H w) ρ A (U i j) cv := fun i x j v hx hv => q6 _ _ (hU i x j v hx hv)
      refine .ro xs a len cap sz (ρ g).block ((ρ g).base + off) (fun i j => (cc[(ρ g).base + (off + i * sz + j)]?).getD undef) hl.symm hcl (fun hne => ?_) hsz (fun i x j v hx hv => ?_) (fun i x j v hx hv => ?_)
      · have hpos : 0 < xs.length := List.length_pos_iff.2 hne
        exact (hcap (by omega)).2
      · obtain ⟨cv, h1, h2⟩ := hex i x j v hx hv
        unfold zfk
        rw [hKb]
        simp only [h1, Option.getD_some]
        rw [← h1]; congr 1; omega
      · obtain ⟨cv, h1, h2⟩ := hex i x j v hx hv
        rw [h1]
        exact ih i x j v hx hv cv h2
  | agg xs ys hl _ ih =>
    intro c hc
    cases hc with
    | agg _ cs h1 h2 =>
    exact .agg ys cs (by omega) fun j v c hv hc => by
        have hlt := (List.getElem?_eq_some_iff.1 hv).1
        have hx : xs[j]? = some (xs[j]'(by omega)) := List.getElem?_eq_getElem (by omega)
        exact ih j _ v hx hv c (h2 j _ c hx hc)
  | tup xs ys hl _ ih =>
    intro c hc
    cases hc with
    | tup _ cs h1 h2 =>
    exact .tup ys cs (by omega) fun j v c hv hc => by
        have hlt := (List.getElem?_eq_some_iff.1 hv).1
        have hx : xs[j]? = some (xs[j]'(by omega)) := List.getElem?_eq_getElem (by omega)
        exact ih j _ v hx hv c (h2 j _ c hx hc)
theorem za.gc {P : Program} {f : FuncId} {args : List AV} {H : Heap} {nx : Nat} {Q : AV → Heap → Nat → Prop} {R : AV → Heap → Prop} (h : za P f args H nx Q)
    (hq : ∀ v H' nx', Q v H' nx' → ∃ r H0, R r H0 ∧ Frz H' nx v r ∧ (∀ g o, H0 g = some o → g < nx ∧ H' g = some o ∧ (H g = some o ∨ BelO (· < nx) o))) :
    za P f args H nx fun v H' nx' => R v H' ∧ nx' = nx := by
  intro ρ w cargs s ha
  refine zo (h ρ w cargs s ha) fun cv w' ⟨v, H', nx', ρ', q1, q2, q3, q4⟩ => ?_
  obtain ⟨r, H0, hR, hF, h0⟩ := hq v H' nx' q1
  have h0' : ∀ g o, H0 g = some o → g < nx ∧ H' g = some o := fun g o ho => ⟨(h0 g o ho).1, (h0 g o ho).2.1⟩
  have hK : ∀ b o, Kof ρ' H' w' b = some o → Kof ρ' H0 w' b = some o := fun b o hb => by
    obtain ⟨h1, h2⟩ := zu.1 hb
    refine zu.2 ⟨fun g hg => ?_, h2⟩
    obtain ⟨o', ho'⟩ := Option.isSome_iff_exists.1 hg
    exact h1 g (by rw [(h0' g o' ho').2]; rfl)
  refine ⟨r, H0, nx, ρ', ⟨hR, rfl⟩, ⟨fun g o ho => (h0 g o ho).1, fun g o ho => ?_, fun x y hx hy hb => ?_, q2.lay.mono hK⟩, hF.rel q2 h0' cv q3, ⟨fun g hg => ⟨(q4.agree g hg).1, hg⟩, fun b o hb => hK b o (q4.k b o hb), q4.os, q4.tape, q4.output, q4.size⟩⟩
  · obtain ⟨hg, hH', hbel⟩ := h0 g o ho
    have hobj := q2.obj g o hH'
    have hcells : BelO (· < nx) o := by
      rcases hbel with hs | hb
      · have := s.obj g o hs
        cases o with
        | row sz cells =>
          obtain ⟨_, _, _, _, _, _, _, _, _, p6⟩ := this
          intro j x hx
          obtain ⟨cv, _, hv⟩ := p6 j x hx
          exact hv.bel
        | mp es =>
          obtain ⟨en, cl, p1, p2, p3, _⟩ := this
          intro j kv hkv
          have hlt := (List.getElem?_eq_some_iff.1 hkv).1
          obtain ⟨a1, a2⟩ := p3 j kv _ hkv (Array.getElem?_eq_getElem (by omega))
          exact ⟨a1.bel, a2.bel⟩
        | it g c seen => exact this.2.2
      · exact hb
    cases o with
    | row sz cells =>
      obtain ⟨c, el, lo, hi, p1, p2, p3, p4, p5, p6⟩ := hobj
      exact ⟨c, el, lo, hi, p1, p2, p3, p4, p5, fun j x hx => let ⟨cv, a1, a2⟩ := p6 j x hx; ⟨cv, a1, (a2.restrict (hcells j x hx)).mono hK (fun _ h => ⟨rfl, h⟩)⟩⟩
    | mp es =>
      obtain ⟨en, cl, p1, p2, p3, p4⟩ := hobj
      exact ⟨en, cl, p1, p2, fun j kv x hkv hx => let ⟨a1, a2⟩ := p3 j kv x hkv hx; ⟨(a1.restrict (hcells j kv hkv).1).mono hK (fun _ h => ⟨rfl, h⟩), (a2.restrict (hcells j kv hkv).2).mono hK (fun _ h => ⟨rfl, h⟩)⟩, p4⟩
    | it g c seen => exact ⟨hobj.1, hobj.2.1, hcells⟩
  · obtain ⟨o1, ho1⟩ := Option.isSome_iff_exists.1 hx
    obtain ⟨o2, ho2⟩ := Option.isSome_iff_exists.1 hy
    exact q2.inj x y (by rw [(h0' x o1 ho1).2]; rfl) (by rw [(h0' y o2 ho2).2]; rfl) hb
def QC (P : Program) (f : FuncId) (args : List AV) (r : AV) : Prop := ∀ H nx, za P f args H nx fun v H' nx' => v = r ∧ H' = H ∧ nx' = nx
theorem za.tidy {P : Program} {f : FuncId} {args : List AV} {H : Heap} {nx : Nat} {Q : AV → Heap → Nat → Prop} (h : (∀ g o, H g = some o → g < nx) → za P f args H nx Q) : za P f args H nx Q :=
  fun ρ w cargs s ha => h (fun g o ho => s.live g o ho) ρ w cargs s ha
theorem QC.of {P : Program} {f : FuncId} {args : List AV} {r : AV} (h : ∀ H nx, za P f args H nx fun v H' _ => Frz H' nx v r ∧ ∀ g, g < nx → H' g = H g) : QC P f args r := by
  intro H nx
  refine za.tidy fun hlive => ?_
  refine (za.gc (R := fun v H' => v = r ∧ H' = H) (h H nx) fun v H' nx' ⟨h1, h2⟩ => ⟨r, H, ⟨rfl, rfl⟩, h1, fun g o ho => ⟨hlive g o ho, by rw [h2 g (hlive g o ho)]; exact ho, .inl ho⟩⟩).mono fun v H' nx' ⟨⟨a, b⟩, c⟩ => ⟨a, b, c⟩
theorem Bel.mono {A B : Nat → Prop} {v : AV} (h : Bel A v) (hAB : ∀ g, A g → B g) : Bel B v := by
  induction h with
  | junk => exact .junk
  | und => exact .und
  | int k n => exact .int k n
  | bool b => exact .bool b
  | bany => exact .bany
  | str s => exact .str s
  | nilp => exact .nilp
  | nils => exact .nils
  | nilf => exact .nilf
  | nilm => exact .nilm
  | inil => exact .inil
  | ifc => exact .ifc
  | zs => exact .zs
  | ptr g off h => exact .ptr g off (hAB g h)
  | slc g off len h => exact .slc g off len (hAB g h)
  | amap g h => exact .amap g (hAB g h)
  | ro xs _ ih => exact .ro xs ih
  | rop cs o _ ih => exact .rop cs o ih
  | agg xs _ ih => exact .agg xs ih
  | tup xs _ ih => exact .tup xs ih
  | clo f xs _ ih => exact .clo f xs ih
theorem zan.restrict {K : zn} {ρ : Nat → Loc} {A A' : Nat → Prop} {w : World} {l : Loc} {o : AObj} (h : zan K ρ A w l o) (hb : BelO A' o) : zan K ρ A' w l o := by
  cases o with
  | row sz cells =>
    obtain ⟨c, el, lo, hi, p1, p2, p3, p4, p5, p6⟩ := h
    exact ⟨c, el, lo, hi, p1, p2, p3, p4, p5, fun j x hx => let ⟨cv, a1, a2⟩ := p6 j x hx; ⟨cv, a1, a2.restrict (hb j x hx)⟩⟩
  | mp es =>
    obtain ⟨en, cl, p1, p2, p3, p4⟩ := h
    exact ⟨en, cl, p1, p2, fun j kv x hkv hx => let ⟨a1, a2⟩ := p3 j kv x hkv hx; ⟨a1.restrict (hb j kv hkv).1, a2.restrict (hb j kv hkv).2⟩, p4⟩
  | it g c seen => exact ⟨h.1, h.2.1, hb⟩
theorem zan.bel {K : zn} {ρ : Nat → Loc} {A : Nat → Prop} {w : World} {l : Loc} {o : AObj} (h : zan K ρ A w l o) : BelO A o := by
  cases o with
  | row sz cells =>
    obtain ⟨_, _, _, _, _, _, _, _, _, p6⟩ := h
    intro j x hx
    obtain ⟨cv, _, hv⟩ := p6 j x hx
    exact hv.bel
  | mp es =>
    obtain ⟨en, cl, p1, p2, p3, _⟩ := h
    intro j kv hkv
    have hlt := (List.getElem?_eq_some_iff.1 hkv).1
    obtain ⟨a1, a2⟩ := p3 j kv _ hkv (Array.getElem?_eq_getElem (by omega))
    exact ⟨a1.bel, a2.bel⟩
  | it g c seen => exact h.2.2
theorem LC.of_qc {P : Program} {f : FuncId} {args : List AV} {r : AV} (h : QC P f args r) (hr : Bel (fun _ => False) r) (H0 : Heap) : LC P f args H0 [] [] [] r := by
  intro A ρ H w cargs ⟨N, hN⟩ s ha _ _
  have sN : Sim (· < N) ρ H w := ⟨fun g o ho => hN g (s.live g o ho), fun g o ho => (s.obj g o ho).mono rfl (fun _ _ h => h) (fun g hg => ⟨rfl, hN g hg⟩), s.inj, s.lay⟩
  have aN : LRel (Kof ρ H w) ρ (· < N) args cargs.toList := ⟨ha.1, fun j v c hv hc => (ha.2 j v c hv hc).mono (fun _ _ h => h) (fun g hg => ⟨rfl, hN g hg⟩)⟩
  refine zo (h H N ρ w cargs sN aN) fun cv w' ⟨r', H', nx', ρ', ⟨q0, q1, q2⟩, q3, q4, q5⟩ => ?_
  subst q0; subst q1; subst q2
  have hA : (fun x => A x ∨ x ∈ ([] : List Nat)) = A := by funext x; simp
  refine ⟨ρ', ?_, ?_, ?_⟩
  · rw [hA]
    exact ⟨s.live, fun g o ho => (q3.obj g o ho).restrict (s.obj g o ho).bel, q3.inj, q3.lay⟩
  · rw [hA]
    exact q4.restrict (hr.mono fun _ h => h.elim)
  · rw [hA]
    exact ⟨fun g hg => ⟨(q5.agree g (hN g hg)).1, hg⟩, q5.k, q5.os, q5.tape, q5.output, q5.size⟩
theorem zw.of_qc {P : Program} {f : FuncId} {args cap : List AV} {r : AV} {H : Heap} {nx : Nat} {k : Kt} (h : QC P f (args ++ cap) r) (hr : Bel (fun _ => False) r) (hk : k r [] [] []) : zw P (.clo f cap) args H nx k :=
  ⟨r, [], [], [], .inl rfl, LC.of_qc h hr H, hk⟩
end Go.Proofs.YtdmibdjokofclaaGreatDoor
