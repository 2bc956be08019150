/- The code, by abstract operations: what is to be shown of it, and that this is enough. A function's contract, from its code. Structures that are compared by their cells. The program's types, as its own table has them. What is to be shown of each function, written out. What a call made may be forgotten, or is never written again: then it is read by value. How what is to be shown is taken apart. -/
import Derived.Test.YtpbnaaoilgohkaaGreatDoorG4
import Derived.Test.YtpbnaaoilgohkaaGreatDoorG3
import Derived.Laws.StructEq
import Derived.Test.YtpbnaaoilgohkaaGreatDoorChecked
import Derived.KernelRfl
import Derived.IntWalk
set_option linter.unusedSimpArgs false
set_option linter.unusedVariables false
set_option maxRecDepth 8000
namespace Go.Proofs.YtpbnaaoilgohkaaGreatDoor
open Go Go.RowKit
section
variable (P : Program) (T : Nat → Option AT) (eqs : Nat → Bool)
def zfb : Code → Nat
  | .region id _ _ => id
  | .seq a _ => zfb a
  | .cond _ a _ => zfb a
  | .block _ a => zfb a
  | .loop a => zfb a
  | .scope a => zfb a
  | _ => 100000
variable (lv : Nat → Nat → Option (List Nat))
def join (L : Option (List Nat)) (J : K3) (B : K3 → K3) : K3 := match L with
  | none => B J
  | some L => fun env H nx => JN (fun xs H nx => J (zot L xs) H nx) fun j => B (fun env H nx => j (L.map env) H nx) env H nx
def lvL (L : Option (List Nat)) : List Nat := match L with
  | none => []
  | some L => L
def adr (ops : Array Oper) (K : K3) : K3 := fun env H nx => dops P T eqs ops.toList ops.toList [] env H nx [] fun env H nx log => zru log (K env H nx) (zqm ops)
def zagn (c : Operand) (b : Bool) (env : Env) : Env := match c with
  | .tmp t => env.put t (.bool b)
  | _ => env
theorem St.know {N : Nat} {env : Env} {H : Heap} {nx : Nat} {ρ : Nat → Loc} {w : World} {a : Act} (h : St N env H nx ρ w a) {c : Operand} {b : Bool} (hc : a.eval c = .bool b) : St N (zagn c b env) H nx ρ w a := by
  cases c with
  | tmp t =>
    refine ⟨h.sim, fun u => ?_, h.size, h.defers⟩
    have := zef env (some t) (.bool b) u
    simp only [Env.putO] at this
    show VRel _ _ _ (env.put t (.bool b) u) _
    rw [this]
    split
    · rename_i e; cases e
      have e : a.tmps.getD t undef = .bool b := hc
      rw [e]; exact .bool b
    · exact h.env u
  | const v => exact h
  | global g => exact h
  | func f => exact h
def aw : Code → K3 → (Nat → K3) → K3 → K3
  | .skip, kn, _, _ => kn
  | .label _, kn, _, _ => kn
  | .region id ops false, kn, _, _ => join (lv 0 id) kn fun K => aops P T eqs ops.toList ops.toList [] K
  | .region id ops true, kn, _, _ => join (lv 0 id) kn fun K => adr P T eqs ops K
  | .seq a b, kn, kx, kr => join (lv 3 (zfb b)) (aw b kn kx kr) fun K => aw a K kx kr
  | .cond c a b, kn, kx, kr => fun env H nx => CNDC (env.ev c) (aw a kn kx kr (zagn c true env) H nx) (aw b kn kx kr (zagn c false env) H nx)
  | .block id a, kn, kx, kr => join (lv 1 id) kn fun K => aw a K (fun i => bif Nat.beq i id then K else kx i) kr
  | .loop a, _, kx, kr => fun env H nx => LP (fun K xs H nx => aw a (fun env H nx => K ((lvL (lv 2 (zfb a))).map env) H nx) kx kr (zot (lvL (lv 2 (zfb a))) xs) H nx) ((lvL (lv 2 (zfb a))).map env) H nx
  | .exit i, _, kx, _ => kx i
  | .ret, _, _, kr => kr
  | .scope a, kn, kx, kr => aw a kn kx kr
  | _, _, _, _ => fun _ _ _ => False
end
def wfC (N : Nat) : Code → Bool
  | .region _ ops drawn => zkm N ops.toList && (!drawn || zty ops N)
  | .seq a b => wfC N a && wfC N b
  | .cond _ a b => wfC N a && wfC N b
  | .block _ a => wfC N a
  | .loop a => wfC N a
  | .scope a => wfC N a
  | _ => true
section
variable {P : Program} {T : Nat → Option AT} {eqs : Nat → Bool} (hT : TOk P T) (hE : EOk P T eqs) {lv : Nat → Nat → Option (List Nat)} {N : Nat}
variable (nx0 : Nat) (ρ0 : Nat → Loc) (H0 : Heap) (w0 : World)
def RS (N : Nat) (K : K3) (a : Act) (w : World) : Prop := ∃ env H nx ρ, K env H nx ∧ St N env H nx ρ w a ∧ Fr (· < nx0) ρ0 H0 w0 (· < nx) ρ H w
def QS (N : Nat) (kn : K3) (kx : Nat → K3) (kr : K3) : Exit → Act → World → Prop
  | .normal, a, w => RS nx0 ρ0 H0 w0 N kn a w
  | .exit i, a, w => RS nx0 ρ0 H0 w0 N (kx i) a w
  | .ret, a, w => RS nx0 ρ0 H0 w0 N kr a w
  | _, _, _ => False
include hT hE in
theorem zmc {all : Array Oper} {kn' : K3} {kx : Nat → K3} {kr : K3} : ∀ (rest : List Oper) (kn : zbe) (env : Env) (H : Heap) (nx : Nat), zkm N rest = true → (∀ t, (∃ o ∈ all.toList, o.dst = some t) → t < N) → aops P T eqs all.toList rest kn kn' env H nx → KnOk kn env →
    ∀ (ρ : Nat → Loc) (w : World) (a : Act), St N env H nx ρ w a → Fr (· < nx0) ρ0 H0 w0 (· < nx) ρ H w → wpList P all (QS nx0 ρ0 H0 w0 N kn' kx kr) rest a w
  | [], kn, env, H, nx, _, _, h, _, ρ, w, a, st, f => wpList_nil ⟨env, H, nx, ρ, h, st, f⟩
  | o :: r, kn, env, H, nx, hd, hall, h, hkn, ρ, w, a, st, f => by
    simp only [zkm, Bool.and_eq_true] at hd
    have hdo : ∀ t, o.dst = some t → t < N := fun t ht => by have := hd.1; rw [ht] at this; simpa using this
    have run : ∀ (kn1 : zbe) (env1 : Env), KnOk kn1 env1 → St N env1 H nx ρ w a → zrx P T eqs o env1 H nx (fun v H nx => aops P T eqs all.toList r (zcr o.dst kn1) kn' (env1.putO o.dst v) H nx) → Region.wanted o (yielded all a.tmps) = true →
        wpList P all (QS nx0 ρ0 H0 w0 N kn' kx kr) (o :: r) a w := by
      intro kn1 env1 hk1 st1 hs hw
      refine wpList_step fun K hK => ?_
      rw [if_pos hw]
      refine zlr (zadv hT hE hs st1) fun cv w' ⟨v, H', nx', ρ', q1, q2, q3, q4⟩ => hK _ _ ?_
      exact zmc r _ _ H' nx' hd.2 hall q1 (hk1.drop o.dst v) ρ' w' _ (st1.put q2 q4 hdo q3) (f.trans q4)
    have skip : ∀ (kn1 : zbe) (env1 : Env), KnOk kn1 env1 → St N env1 H nx ρ w a → aops P T eqs all.toList r (zcz o.dst kn1) kn' (env1.putO o.dst .und) H nx → Region.wanted o (yielded all a.tmps) = false →
        wpList P all (QS nx0 ρ0 H0 w0 N kn' kx kr) (o :: r) a w := by
      intro kn1 env1 hk1 st1 hs hw
      refine wpList_step fun K hK => ?_
      rw [if_neg (by rw [hw]; simp)]
      exact hK _ _ (zmc r _ _ H nx hd.2 hall hs (hk1.skip o.dst) ρ w _ (st1.put st1.sim (Fr.refl _ _ _ _) hdo .und) f)
    simp only [aops] at h
    split at h
    · rename_i hg
      exact run kn env hkn st h (by simp [Region.wanted, hg])
    · rename_i j want hg
      split at h
      · exact h.elim
      · rename_i t ht
        have hy := zqv ht a
        have htN : t < N := by
          obtain ⟨o', ho', hdst⟩ := Option.bind_eq_some_iff.1 ht
          exact hall t ⟨o', List.mem_of_getElem? ho', hdst⟩
        have hget : a.tmps[t]? = some (a.tmps.getD t undef) := by simp [Array.getD, st.size, htN]
        rw [hget] at hy
        have hwant : Region.wanted o (yielded all a.tmps) = (yielded all a.tmps j == some want) := by simp [Region.wanted, hg]
        have hbool : ∀ b, env t = .bool b → Region.wanted o (yielded all a.tmps) = (b == want) := by
          intro b hb
          have := st.env t
          rw [hb] at this
          generalize a.tmps.getD t undef = tv at this hy
          cases this
          rw [hwant, hy]; simp
        split at h
        · rename_i hk
          have hu := hkn t none (zdf hk)
          simp only at hu
          refine skip kn env hkn st h ?_
          have := st.env t
          rw [hu] at this
          generalize a.tmps.getD t undef = tv at this hy
          cases this
          rw [hwant, hy]; rfl
        · rename_i b hk
          have hb := hkn t (some b) (zdf hk)
          simp only at hb
          cases hbw : (b == want) with
          | true => rw [hbw] at h; exact run kn env hkn st h (by rw [hbool b hb, hbw])
          | false => rw [hbw] at h; exact skip kn env hkn st h (by rw [hbool b hb, hbw])
        · obtain ⟨b, hb, h1, h2⟩ := zzl h
          · cases b with
            | true =>
              have h := h1 rfl
              have hk2 := hkn.know hb
              have he := zmq hb
              rw [he] at hk2 h
              cases want with
              | true => exact run _ env hk2 st h (by rw [hbool _ hb]; rfl)
              | false => exact skip _ env hk2 st h (by rw [hbool _ hb]; rfl)
            | false =>
              have h := h2 rfl
              have hk2 := hkn.know hb
              have he := zmq hb
              rw [he] at hk2 h
              cases want with
              | true => exact skip _ env hk2 st h (by rw [hbool _ hb]; rfl)
              | false => exact run _ env hk2 st h (by rw [hbool _ hb]; rfl)
theorem zwb {all : List Oper} (h : zkm N all = true) : ∀ t, (∃ o ∈ all, o.dst = some t) → t < N := by
  induction all with
  | nil => rintro t ⟨o, ho, _⟩; cases ho
  | cons x r ih =>
    simp only [zkm, Bool.and_eq_true] at h
    rintro t ⟨o, ho, hd⟩
    rcases List.mem_cons.1 ho with rfl | ho
    · have := h.1; rw [hd] at this; simpa using this
    · exact ih h.2 t ⟨o, ho, hd⟩
theorem RS.mono {K K' : K3} {a : Act} {w : World} (h : RS nx0 ρ0 H0 w0 N K a w) (hk : ∀ env H nx, K env H nx → K' env H nx) : RS nx0 ρ0 H0 w0 N K' a w := by
  obtain ⟨env, H, nx, ρ, h1, h2, h3⟩ := h
  exact ⟨env, H, nx, ρ, hk _ _ _ h1, h2, h3⟩
theorem RS.join {L : List Nat} {I : J3} {J : K3} (hI : ∀ xs H nx, I xs H nx → J (zot L xs) H nx) {a : Act} {w : World} (h : RS nx0 ρ0 H0 w0 N (fun env H nx => I (L.map env) H nx) a w) : RS nx0 ρ0 H0 w0 N J a w := by
  obtain ⟨env, H, nx, ρ, h1, h2, h3⟩ := h
  exact ⟨zot L (L.map env), H, nx, ρ, hI _ _ _ h1, h2.weak (zud env L), h3⟩
theorem zaqo (p : Nat → Prop) : ∀ n, p n → ∃ m, p m ∧ ∀ k, p k → m ≤ k := by
  intro n
  induction n using Nat.strongRecOn with
  | _ n ih =>
    intro h
    by_cases hk : ∃ k, k < n ∧ p k
    · obtain ⟨k, h1, h2⟩ := hk
      exact ih k h1 h2
    · exact ⟨n, h, fun k hp => by
        rcases Nat.lt_or_ge k n with hl | hl
        · exact absurd ⟨k, hl, hp⟩ hk
        · exact hl⟩
open Classical in
noncomputable def zup (p : Nat → Prop) : Nat := if h : ∃ m, p m ∧ ∀ k, p k → m ≤ k then Classical.choose h else 0
theorem ztw {p : Nat → Prop} {n : Nat} (h : p n) : p (zup p) ∧ zup p ≤ n := by
  have he := zaqo p n h
  unfold zup
  rw [dif_pos he]
  exact ⟨(Classical.choose_spec he).1, (Classical.choose_spec he).2 n h⟩
theorem zjh.le {all : List Oper} : ∀ {os : List Oper} {L : List Rec} {env : Env} {H : Heap} {nx : Nat} {env' : Env} {H' : Heap} {nx' : Nat}, zjh P all os L env H nx env' H' nx' → nx ≤ nx'
  | [], [], _, _, _, _, _, _, ⟨_, _, h⟩ => by omega
  | [], _ :: _, _, _, _, _, _, _, h => h.elim
  | _ :: _, [], _, _, _, _, _, _, h => h.elim
  | _ :: _, _ :: _, _, _, _, _, _, _, ⟨_, _, _, h⟩ => by have := h.le; omega
include hT hE in
theorem zzw (hM : P.follows .mixedOrders = true) {id : Nat} {ops : Array Oper} (hok : zty ops N = true) {K : K3} {env : Env} {H : Heap} {nx : Nat} (h : adr P T eqs ops K env H nx) {ρ : Nat → Loc} {w : World} {a : Act} (st : St N env H nx ρ w a)
    (f : Fr (· < nx0) ρ0 H0 w0 (· < nx) ρ H w) {Q : Exit → Act → World → Prop} (hQ : ∀ a w, RS nx0 ρ0 H0 w0 N K a w → Q .normal a w) : (Code.region id ops true).wp P Q a w := by
  obtain ⟨L, env', H', nx', hch, hK⟩ := zrt hT hE _ _ _ _ _ _ (fun t b hm => by cases hm) h
  rw [List.nil_append] at hK
  obtain ⟨hco, hK⟩ := (zzj _).1 hK
  have hfalse : ∀ i, (Array.replicate ops.size false).getD i false = false := fun i => by
    simp only [Array.getD]
    split <;> simp
  have hls : lsOf (Array.replicate ops.size false) = fun _ => false := funext hfalse
  have hA : AD (· < nx) L (fun _ => false) = (· < nx) := by
    funext g; simp [AD]
  have hle : nx ≤ nx' := hch.le
  have hA2 : (fun g => g < nx ∨ nx ≤ g ∧ g < nx') = (fun g => g < nx') := by funext g; simp; omega
  refine wp_region_any hM (zva (B := (· < nx)) (ρ0 := ρ) (w0 := w) hok hch hco (fun g h1 _ (h2 : g < nx) => by omega) ⟨nx, fun g h => h⟩ (fun a' w' ρ' s' v' t' d' f' => ?_) _ _ _ _ ⟨by simp, (fun i hi => by rw [hfalse] at hi; cases hi), st.size, st.defers, ρ, ?_, ?_, ?_⟩ ?_)
  · rw [hA2] at s' v' f'
    exact hQ a' w' ⟨env', H', nx', ρ', hK, ⟨s', v', t', d'⟩, f.trans f'⟩
  · have e : ({ w with drawn := w.drawn + 1 } : World).heap = w.heap := rfl
    rw [hls, hA, zmw.hD_none]
    exact st.sim.heap e
  · have e : ({ w with drawn := w.drawn + 1 } : World).heap = w.heap := rfl
    rw [hls, hA, zmw.hD_none]
    exact ⟨fun g hg => ⟨rfl, hg⟩, fun b o hb => by rw [zff e]; exact hb, rfl, rfl, rfl, Nat.le_refl _⟩
  · intro t
    have e : ({ w with drawn := w.drawn + 1 } : World).heap = w.heap := rfl
    rw [hls, hA, zmw.hD_none, zff e]
    have : eD (fun _ => false) ops.toList L 0 env t = env t := by
      rw [zrv.eD_off _ _ _ _ fun _ _ => rfl]
    rw [this]
    exact st.env t
  · exact Nat.le_trans (List.length_filter_le _ _) (by simp)
include hT hE in
theorem zcy (hM : P.follows .mixedOrders = true) : ∀ (c : Code) (kn : K3) (kx : Nat → K3) (kr : K3), wfC N c = true → ∀ (a : Act) (w : World), RS nx0 ρ0 H0 w0 N (aw P T eqs lv c kn kx kr) a w → c.wp P (QS nx0 ρ0 H0 w0 N kn kx kr) a w
  | .skip, kn, kx, kr, _, a, w, h => wp_skip h
  | .label _, kn, kx, kr, _, a, w, h => wp_label h
  | .exit i, kn, kx, kr, _, a, w, h => wp_exit h
  | .ret, kn, kx, kr, _, a, w, h => wp_ret h
  | .scope c, kn, kx, kr, hwf, a, w, h => by
    refine wp_scope_straight (Code.wp_mono (fun e a w q => ?_) (zcy hM c kn kx kr hwf a w h))
    cases e <;> first | exact q | exact q.elim
  | .region id ops false, kn, kx, kr, hwf, a, w, h => by
    simp only [aw] at h
    simp only [wfC, Bool.not_false, Bool.true_or, Bool.and_true] at hwf
    cases hg : lv 0 id with
    | none =>
      rw [hg] at h
      obtain ⟨env, H, nx, ρ, h1, h2, h3⟩ := h
      exact wp_region_list (zmc hT hE nx0 ρ0 H0 w0 ops.toList [] env H nx hwf (zwb hwf) h1 (fun t b hm => by cases hm) ρ w a h2 h3)
    | some L =>
      rw [hg] at h
      obtain ⟨env, H, nx, ρ, ⟨I, hI, h1⟩, h2, h3⟩ := h
      have := wp_region_list (id := id) (zmc (kx := kx) (kr := kr) hT hE nx0 ρ0 H0 w0 ops.toList [] env H nx hwf (zwb hwf) h1 (fun t b hm => by cases hm) ρ w a h2 h3)
      refine Code.wp_mono (fun e a w q => ?_) this
      cases e <;> first | exact q.elim | exact RS.join nx0 ρ0 H0 w0 hI q | exact q
  | .seq x y, kn, kx, kr, hwf, a, w, h => by
    simp only [wfC, Bool.and_eq_true] at hwf
    refine wp_seq ?_
    simp only [aw] at h
    cases hb : lv 3 (zfb y) with
    | none =>
      rw [hb] at h
      refine Code.wp_mono (fun e a w q => ?_) (zcy hM x (aw P T eqs lv y kn kx kr) kx kr hwf.1 a w h)
      cases e <;> first | exact q | exact q.elim | exact zcy hM y kn kx kr hwf.2 _ _ q
    | some L =>
      rw [hb] at h
      obtain ⟨env, H, nx, ρ, ⟨I, hI, h1⟩, h2, h3⟩ := h
      refine Code.wp_mono (fun e a w q => ?_) (zcy hM x (fun env H nx => I (L.map env) H nx) kx kr hwf.1 a w ⟨env, H, nx, ρ, h1, h2, h3⟩)
      cases e <;> first | exact q | exact q.elim | exact zcy hM y kn kx kr hwf.2 _ _ (RS.join nx0 ρ0 H0 w0 hI q)
  | .cond c x y, kn, kx, kr, hwf, a, w, h => by
    simp only [wfC, Bool.and_eq_true] at hwf
    obtain ⟨env, H, nx, ρ, h1, h2, h3⟩ := h
    simp only [aw] at h1
    obtain ⟨b, hc, h1⟩ := zahf h1 (h2.ev c)
    · refine wp_cond hc ?_
      cases b with
      | true => exact zcy hM x kn kx kr hwf.1 a w ⟨_, H, nx, ρ, h1.1 rfl, h2.know hc, h3⟩
      | false => exact zcy hM y kn kx kr hwf.2 a w ⟨_, H, nx, ρ, h1.2 rfl, h2.know hc, h3⟩
  | .block id x, kn, kx, kr, hwf, a, w, h => by
    refine wp_block ?_
    simp only [aw] at h
    cases hb : lv 1 id with
    | none =>
      rw [hb] at h
      refine Code.wp_mono (fun e a w q => ?_) (zcy hM x kn (fun i => bif Nat.beq i id then kn else kx i) kr hwf a w h)
      cases e <;> first | exact q | exact q.elim | skip
      rename_i i
      simp only [Exit.inBlock]
      simp only [QS] at q
      by_cases hi : i = id
      · subst hi; rw [if_pos rfl]; simpa [QS] using q
      · have : Nat.beq i id = false := by rw [← Bool.not_eq_true, Nat.beq_eq]; exact hi
        rw [if_neg hi]; rw [this] at q; exact q
    | some L =>
      rw [hb] at h
      obtain ⟨env, H, nx, ρ, ⟨I, hI, h1⟩, h2, h3⟩ := h
      refine Code.wp_mono (fun e a w q => ?_) (zcy hM x (fun env H nx => I (L.map env) H nx) (fun i => bif Nat.beq i id then (fun env H nx => I (L.map env) H nx) else kx i) kr hwf a w ⟨env, H, nx, ρ, h1, h2, h3⟩)
      cases e <;> first | exact q.elim | skip
      case normal => exact RS.join nx0 ρ0 H0 w0 hI q
      case ret => exact q
      case exit i =>
        simp only [Exit.inBlock]
        simp only [QS] at q
        by_cases hi : i = id
        · subst hi; rw [if_pos rfl]
          have q' : RS nx0 ρ0 H0 w0 N (fun env H nx => I (L.map env) H nx) a w := by simpa using q
          exact RS.join nx0 ρ0 H0 w0 hI q'
        · have : Nat.beq i id = false := by rw [← Bool.not_eq_true, Nat.beq_eq]; exact hi
          rw [if_neg hi]; rw [this] at q; exact q
  | .loop x, kn, kx, kr, hwf, a, w, h => by
    obtain ⟨env, H, nx, ρ, ⟨I, n, h0, hstep⟩, h2, h3⟩ := h
    let L := lvL (lv 2 (zfb x))
    let Rn : Nat → Act → World → Prop := fun n a w => ∃ xs H nx ρ, I n xs H nx ∧ St N (zot L xs) H nx ρ w a ∧ Fr (· < nx0) ρ0 H0 w0 (· < nx) ρ H w
    have hR0 : ∃ n, Rn n a w := ⟨n, _, H, nx, ρ, h0, h2.weak (zud env L), h3⟩
    refine wp_loop (fun a w => ∃ n, Rn n a w) (fun a w => zup fun n => Rn n a w) hR0 fun a w hI => ?_
    obtain ⟨n1, hn1⟩ := hI
    have hn := (ztw (p := fun n => Rn n a w) hn1).1
    obtain ⟨xs, H, nx, ρ, q1, q2, q3⟩ := hn
    have hb := hstep _ xs H nx q1
    refine Code.wp_mono (fun e a' w' q => ?_) (zcy hM x _ kx kr hwf a w ⟨zot L xs, H, nx, ρ, hb, q2, q3⟩)
    cases e <;> first | exact q | exact q.elim | skip
    obtain ⟨env', H', nx', ρ', ⟨m, hm, hIm⟩, r2, r3⟩ := q
    have hRm : Rn m a' w' := ⟨_, H', nx', ρ', hIm, r2.weak (zud env' L), r3⟩
    refine ⟨⟨m, hRm⟩, ?_⟩
    exact Nat.lt_of_le_of_lt (ztw (p := fun n => Rn n a' w') hRm).2 hm
  | .region id ops true, kn, kx, kr, hwf, a, w, h => by
    simp only [aw] at h
    simp only [wfC, Bool.not_true, Bool.false_or, Bool.and_eq_true] at hwf
    cases hg : lv 0 id with
    | none =>
      rw [hg] at h
      obtain ⟨env, H, nx, ρ, h1, h2, h3⟩ := h
      exact zzw hT hE nx0 ρ0 H0 w0 hM hwf.2 h1 h2 h3 fun a w h => h
    | some L =>
      rw [hg] at h
      obtain ⟨env, H, nx, ρ, ⟨I, hI, h1⟩, h2, h3⟩ := h
      exact zzw hT hE nx0 ρ0 H0 w0 hM hwf.2 h1 h2 h3 fun a w h => RS.join nx0 ρ0 H0 w0 hI h
  | .rangeFunc _ _ _ _, _, _, _, _, _, _, ⟨_, _, _, _, h, _, _⟩ => h.elim
  | .goto _, _, _, _, _, _, _, ⟨_, _, _, _, h, _, _⟩ => h.elim
  | .refuse _, _, _, _, _, _, _, ⟨_, _, _, _, h, _, _⟩ => h.elim
end
end Go.Proofs.YtpbnaaoilgohkaaGreatDoor
set_option maxRecDepth 8000
namespace Go.Proofs.YtpbnaaoilgohkaaGreatDoor
open Go Go.RowKit
section
variable (T : Nat → Option AT)
def aret : List ResultVar → Env → Heap → (List AV → Prop) → Prop
  | [], _, _, k => k []
  | .tmp t :: r, env, H, k => aret r env H fun vs => k (env t :: vs)
  | .cell a t :: r, env, H, k => match T t with
    | some at_ => LOAD at_.kind.isAgg at_.size (env a) H fun v _ _ _ => aret r env H fun vs => k (v :: vs)
    | none => False
end
def RET1 (vs : List AV) (k : AV → Prop) : Prop := match vs with
  | [v] => k v
  | vs => k (.tup vs)
def env0 (args : List AV) : Env := fun t => nth args t
def lvOf : List (Nat × Nat × List Nat) → Nat → Nat → Option (List Nat)
  | [], _, _ => none
  | (a, b, l) :: r, k, i => bif Nat.beq a k && Nat.beq b i then some l else lvOf r k i
def zl (fn : Func) : Code := match fn.body with
  | some c => c
  | none => .skip
def body (P : Program) (T : Nat → Option AT) (eqs : Nat → Bool) (lv : Nat → Nat → Option (List Nat)) (fn : Func) (c : Code) (args : List AV) (H : Heap) (nx : Nat) (Q : AV → Heap → Nat → Prop) : Prop :=
  aw P T eqs lv c (fun env H nx => aret T fn.results.toList env H fun vs => RET1 vs fun v => Q v H nx) (fun _ _ _ _ => False) (fun env H nx => aret T fn.results.toList env H fun vs => RET1 vs fun v => Q v H nx) (env0 args) H nx
section
variable {P : Program} {T : Nat → Option AT} {eqs : Nat → Bool} (hT : TOk P T) (hE : EOk P T eqs) {lv : Nat → Nat → Option (List Nat)}
def zdd (tmps : Array Value) (r : ResultVar) : Sem Value := match r with
  | .tmp t => pure (tmps.getD t undef)
  | .cell b t => do loadVar t (← asAddr (tmps.getD b undef))
theorem zrk {s : Sem Value} {w : World} {v : Value} (h : s.run P w = .ok v w) (acc : Array Value) : (acc.push <$> s).run P w = .ok (acc.push v) w := by
  have hf : (acc.push <$> s) = (s >>= fun x => pure (acc.push x)) := rfl
  simp only [hf, Sem.run_bind, h, Result.andThen_ok, Sem.run_pure]
include hT in
theorem zry {env : Env} {H : Heap} {nx N : Nat} {ρ : Nat → Loc} {w : World} {a : Act} (st : St N env H nx ρ w a) : ∀ (rs : List ResultVar) (k : List AV → Prop), aret T rs env H k →
    ∃ vs cs, k vs ∧ LRel (Kof ρ H w) ρ (· < nx) vs cs ∧ cs.length = rs.length ∧
      ∀ acc : Array Value, (List.foldlM (fun (acc : Array Value) (r : ResultVar) => acc.push <$> zdd a.tmps r) acc rs).run P w = .ok (acc ++ cs.toArray) w
  | [], k, h => ⟨[], [], h, LRel.nil, rfl, fun acc => by simp [Sem.run_pure]⟩
  | .tmp t :: r, k, h => by
    obtain ⟨vs, cs, h1, h2, h3, h4⟩ := zry st r _ h
    refine ⟨env t :: vs, a.tmps.getD t undef :: cs, h1, LRel.cons (st.env t) h2, by simp [h3], fun acc => ?_⟩
    have hr : (zdd a.tmps (.tmp t)).run P w = .ok (a.tmps.getD t undef) w := rfl
    simp only [List.foldlM_cons, Sem.run_bind, zrk hr, Result.andThen_ok, h4]
    congr 1
    apply Array.ext'
    simp
  | .cell b t :: r, k, h => by
    simp only [aret] at h
    split at h
    · rename_i at_ ht
      obtain ⟨i, d, z, ha⟩ := hT.at ht
      unfold LOAD at h
      split at h
      · rename_i cells off rd hrd
        split at h
        · rename_i v hv
          obtain ⟨bb, q, he, hc⟩ := zvv (H0 := H) st.sim (st.env b) hrd (fun _ _ => rfl)
          obtain ⟨cv, hr, hR⟩ := zjn (P := P) ha hc hv
          obtain ⟨vs, cs, h1, h2, h3, h4⟩ := zry st r _ h
          refine ⟨v :: vs, cv :: cs, h1, LRel.cons hR h2, by simp [h3], fun acc => ?_⟩
          have hr' : (zdd a.tmps (.cell b t)).run P w = .ok cv w := by
            simp only [zdd, Sem.run_bind, he, asAddr, Sem.run_pure, Result.andThen_ok, hr]
          simp only [List.foldlM_cons, Sem.run_bind, zrk hr', Result.andThen_ok, h4]
          congr 1
          apply Array.ext'
          simp
        · exact h.elim
      · exact h.elim
    · exact h.elim
theorem za.mono {f : FuncId} {args : List AV} {H : Heap} {nx : Nat} {Q Q' : AV → Heap → Nat → Prop} (h : za P f args H nx Q) (hq : ∀ v H' nx', Q v H' nx' → Q' v H' nx') : za P f args H nx Q' :=
  fun ρ w cargs s ha => zj (h ρ w cargs s ha) fun cv w' ⟨r, H', nx', ρ', q1, q2⟩ => ⟨r, H', nx', ρ', hq _ _ _ q1, q2⟩
include hT hE in
theorem zady (hM : P.follows .mixedOrders = true) {f : FuncId} {fn : Func} {c : Code} {args : List AV} {H : Heap} {nx : Nat} {Q : AV → Heap → Nat → Prop} (hf : P.funcs[f]? = some fn) (hb : fn.body = some c) (hname : (fn.name == "runtime.NumGoroutine") = false)
    (hwf : wfC fn.ntmps c = true) (hlen' : Nat.ble args.length fn.ntmps = true)
    (h : body P T eqs lv fn c args H nx Q) :
    za P f args H nx Q := by
  have hlen := Nat.le_of_ble_eq_true hlen'
  intro ρ w cargs s ha
  have hcl : cargs.size = args.length := by simpa using ha.1
  have hcall : (callFunc f cargs).run P w = .ok (.enter f cargs) w := by
    have hname' : ¬ fn.name = "runtime.NumGoroutine" := by simpa using hname
    simp [callFunc, program, Sem.run_bind, Sem.run, hf, hname', hb, pure]
  rw [hcall]
  simp only [zu]
  refine calls_of_wp hf hb (Code.wp_mono (fun e a w' q => ?_) (zcy hT hE (lv := lv) nx ρ H w hM c _ _ _ hwf _ w ⟨env0 args, H, nx, ρ, h, ⟨s, fun t => ?_, ?_, rfl⟩, Fr.refl _ _ _ _⟩))
  · have fin : ∀ (a : Act) (w' : World), RS nx ρ H w fn.ntmps (fun env H nx => aret T fn.results.toList env H fun vs => RET1 vs fun v => Q v H nx) a w' →
        a.defers = [] ∧ ∃ v, (results fn a.tmps).run P w' = .ok v w' ∧ ∃ u, Ending.returned v = .returned u ∧ ∃ r H' nx' ρ', Q r H' nx' ∧ Sim (· < nx') ρ' H' w' ∧ VRel (Kof ρ' H' w') ρ' (· < nx') r u ∧ Fr (· < nx) ρ H w (· < nx') ρ' H' w' := by
      intro a w' ⟨env, H', nx', ρ', h1, h2, h3⟩
      obtain ⟨vs, cs, q1, q2, q3, q4⟩ := zry hT h2 _ _ h1
      refine ⟨h2.defers, ?_⟩
      have hm : (fn.results.mapM (zdd a.tmps)).run P w' = .ok cs.toArray w' := by
        rw [Array.mapM_eq_foldlM]
        have := q4 #[]
        rw [Array.foldlM_toList] at this
        simpa using this
      have hrun : ∀ v, (if h : cs.toArray.size = 1 then cs.toArray[0] else Value.tuple cs.toArray) = v → (results fn a.tmps).run P w' = .ok v w' := by
        intro v hv
        have e : results fn a.tmps = (do let vs ← fn.results.mapM (zdd a.tmps); pure (if h : vs.size = 1 then vs[0] else .tuple vs)) := by
          unfold results zdd
          rfl
        rw [e]
        simp only [Sem.run_bind, hm, Result.andThen_ok, Sem.run_pure, hv]
      unfold RET1 at q1
      split at q1
      · rename_i v
        obtain ⟨cv, hcv, hR⟩ := q2.get (j := 0) (v := v) rfl
        have hc1 : cs = [cv] := by
          have hl := q2.1
          match cs, hl, hcv with
          | [x], _, h => simp at h; rw [h]
        subst hc1
        exact ⟨cv, hrun cv (by simp), cv, rfl, v, H', nx', ρ', q1, h2.sim, hR, h3⟩
      · rename_i hne
        have hc1 : cs.length ≠ 1 := by
          intro hl
          have := q2.1
          rw [hl] at this
          match vs, this with
          | [x], _ => exact hne x rfl
        refine ⟨.tuple cs.toArray, hrun _ (by simp [hc1]), _, rfl, .tup vs, H', nx', ρ', q1, h2.sim, ?_, h3⟩
        exact .tup _ _ (by simpa using q2.1) fun j v c hv hc => q2.2 j v c hv (by simpa using hc)
    cases e with
    | normal => exact fin a w' q
    | ret => exact fin a w' q
    | exit i => obtain ⟨_, _, _, _, h, _⟩ := q; exact h.elim
    | goto l => exact q.elim
    | panic c => exact q.elim
    | outgrown => exact q.elim
  · show VRel _ _ _ (nth args t) ((cargs ++ Array.replicate (fn.ntmps - cargs.size) undef).getD t undef)
    unfold nth
    by_cases ht : t < args.length
    · obtain ⟨cv, h1, h2⟩ := ha.get (List.getElem?_eq_getElem ht)
      have : (cargs ++ Array.replicate (fn.ntmps - cargs.size) undef).getD t undef = cv := by
        rw [Array.getD_eq_getD_getElem?, Array.getElem?_append_left (by omega)]
        simp only [Array.getElem?_toList] at h1
        rw [h1]; rfl
      rw [this, List.getD_eq_getElem?_getD, List.getElem?_eq_getElem ht]
      exact h2
    · rw [List.getD_eq_getElem?_getD, List.getElem?_eq_none (by omega)]
      exact .junk _
  · simp; omega
include hT hE in
theorem zd (hM : P.follows .mixedOrders = true) {f : FuncId} {fn : Func} {c : Code} {args : List AV} {H : Heap} {nx : Nat} {Q : AV → Heap → Nat → Prop} {V : Prop} (hf : P.funcs[f]? = some fn) (hb : fn.body = some c) (hname : (fn.name == "runtime.NumGoroutine") = false)
    (hwf : wfC fn.ntmps c = true) (hlen' : Nat.ble args.length fn.ntmps = true)
    (he : body P T eqs lv fn c args H nx Q = V) (h : V) : za P f args H nx Q := by
  subst he
  exact zady hT hE hM hf hb hname hwf hlen' h
end
end Go.Proofs.YtpbnaaoilgohkaaGreatDoor
set_option maxRecDepth 8000
namespace Go.Proofs.YtpbnaaoilgohkaaGreatDoor
open Go Go.RowKit
section
variable (P : Program)
def szAt (t : TypeId) : Nat := match atOf P t with | some a => a.size | none => 0
def zmp (t : TypeId) : Bool := match atOf P t with | some a => !a.kind.isAgg && Nat.beq a.size 1 | none => false
def zje (ok : TypeId → Option (List AV)) : List Field → Nat → Option (List AV)
  | [], _ => some []
  | f :: r, off => if f.name ≠ "_" ∧ f.offset = off then match ok f.type with
      | some z => match zje ok r (off + z.length) with
        | some zr => some (z ++ zr)
        | none => none
      | none => none
    else none
def zjq : Nat → TypeId → Option (List AV)
  | 0, _ => none
  | d + 1, t => match P.underlying t with
    | some (.int k) => if zmp P t = true then some [.int k 0] else none
    | some .string => if zmp P t = true then some [.str []] else none
    | some .bool => if zmp P t = true then some [.bool false] else none
    | some (.struct fs) => if P.stoodInHeld t = false ∧ (match atOf P t with | some a => a.kind.isAgg | none => false) = true then match zje (zjq d) fs.toList 0 with
        | some zs => if zs.length = szAt P t then some zs else none
        | none => none
      else none
    | _ => none
def zagu (t : TypeId) : Bool := match atOf P t with
  | some a => a.kind.isAgg && (match zjq P 4 t with | some zs => (zc zs a.zero).isSome | none => false) && !(P.eqGuardType P.depth t)
  | none => false
end
theorem zph : ∀ {xs ys : List AV} {r : Bool}, zc xs ys = some r → xs.length = ys.length
  | [], [], _, _ => rfl
  | [], _ :: _, _, h => by simp [zc] at h
  | x :: xs, [], _, h => by cases x <;> simp [zc] at h
  | x :: xs, y :: ys, r, h => by
    have : ∃ r', zc xs ys = some r' := by
      cases x <;> cases y <;> simp only [zc] at h <;> first
        | (cases h; done)
        | (split at h
           · obtain ⟨r', h', _⟩ := Option.map_eq_some_iff.1 h; exact ⟨r', h'⟩
           · cases h)
        | (obtain ⟨r', h', _⟩ := Option.map_eq_some_iff.1 h; exact ⟨r', h'⟩)
    obtain ⟨r', h'⟩ := this
    simp [zph h']
theorem zaby {x y : AV} {xs ys : List AV} {r : Bool} (h : zc (x :: xs) (y :: ys) = some r) : ∃ r1 r2, zc [x] [y] = some r1 ∧ zc xs ys = some r2 ∧ r = (r1 && r2) := by
  cases x <;> cases y <;> simp only [zc] at h ⊢ <;> first
    | (cases h; done)
    | (split at h
       · rename_i hk
         obtain ⟨r', h', rfl⟩ := Option.map_eq_some_iff.1 h
         exact ⟨_, r', by rw [if_pos hk]; rfl, h', by simp⟩
       · cases h)
    | (obtain ⟨r', h', rfl⟩ := Option.map_eq_some_iff.1 h
       exact ⟨_, r', rfl, h', by simp⟩)
theorem zjy : ∀ {xs ys : List AV} {r1 r2 : Bool} {us vs : List AV}, zc xs ys = some r1 → zc us vs = some r2 → zc (xs ++ us) (ys ++ vs) = some (r1 && r2)
  | [], [], r1, r2, us, vs, h, k => by simp [zc] at h; subst h; simpa using k
  | [], _ :: _, _, _, _, _, h, _ => by simp [zc] at h
  | x :: xs, [], _, _, _, _, h, _ => by cases x <;> simp [zc] at h
  | x :: xs, y :: ys, r1, r2, us, vs, h, k => by
    cases x <;> cases y <;> simp only [zc, List.cons_append] at h ⊢ <;> first
      | (cases h; done)
      | (split at h
         · rename_i hk
           obtain ⟨r', h', rfl⟩ := Option.map_eq_some_iff.1 h
           rw [if_pos hk, zjy h' k]; simp [Bool.and_assoc]
         · cases h)
      | (obtain ⟨r', h', rfl⟩ := Option.map_eq_some_iff.1 h
         rw [zjy h' k]; simp [Bool.and_assoc])
theorem zlb : ∀ (n : Nat) {xs ys : List AV} {r : Bool}, zc xs ys = some r → ∃ r1 r2, zc (xs.take n) (ys.take n) = some r1 ∧ zc (xs.drop n) (ys.drop n) = some r2 ∧ r = (r1 && r2)
  | 0, xs, ys, r, h => ⟨true, r, by simp [zc], by simpa using h, by simp⟩
  | n + 1, [], [], r, h => ⟨true, r, by simp [zc], by simpa using h, by simp⟩
  | n + 1, [], _ :: _, r, h => by simp [zc] at h
  | n + 1, x :: xs, [], r, h => by cases x <;> simp [zc] at h
  | n + 1, x :: xs, y :: ys, r, h => by
    obtain ⟨r1, r2, h1, h2, rfl⟩ := zaby h
    obtain ⟨q1, q2, g1, g2, rfl⟩ := zlb n h2
    refine ⟨r1 && q1, q2, ?_, by simpa using g2, by simp [Bool.and_assoc]⟩
    simpa using zjy h1 g1
theorem zhk : ∀ {a b c : List AV}, (zc a b).isSome = true → (zc b c).isSome = true → (zc a c).isSome = true
  | [], [], c, _, h => h
  | [], _ :: _, _, h, _ => by simp [zc] at h
  | x :: a, [], _, h, _ => by cases x <;> simp [zc] at h
  | x :: a, y :: b, [], _, h => by cases y <;> simp [zc] at h
  | x :: a, y :: b, z :: c, h, k => by
    cases x <;> cases y <;> simp only [zc] at h <;> try (cases h; done)
    all_goals
      cases z <;> simp only [zc] at k <;> try (cases k; done)
    · split at h
      · rename_i h1
        split at k
        · rename_i h2
          simp only [zc]
          rw [if_pos (h1.trans h2)]
          have := zhk (a := a) (b := b) (c := c) (by simpa using h) (by simpa using k)
          simpa using this
        · cases k
      · cases h
    · have := zhk (a := a) (b := b) (c := c) (by simpa using h) (by simpa using k)
      simpa [zc] using this
    · have := zhk (a := a) (b := b) (c := c) (by simpa using h) (by simpa using k)
      simpa [zc] using this
theorem zyc (n : Nat) {xs ys : List AV} (h : (zc xs ys).isSome = true) : (zc (xs.take n) (ys.take n)).isSome = true ∧ (zc (xs.drop n) (ys.drop n)).isSome = true := by
  obtain ⟨r, hr⟩ := Option.isSome_iff_exists.1 h
  obtain ⟨r1, r2, h1, h2, _⟩ := zlb n hr
  exact ⟨by rw [h1]; rfl, by rw [h2]; rfl⟩
section
variable {P : Program}
def zacr (P : Program) (t : TypeId) (z : AV) : Prop := match z with
  | .int k _ => P.underlying t = some (.int k)
  | .str _ => P.underlying t = some .string
  | .bool _ => P.underlying t = some .bool
  | _ => False
theorem zzz {t : TypeId} {k : Nat} {w : World} {K : zh} {ρ : Nat → Loc} {A : Nat → Prop} {z v u : AV} {a b : Value} {r : Bool} (hu : zacr P t z) (hz : (zc [z] [v]).isSome = true)
    (hv : VRel K ρ A v a) (hw : VRel K ρ A u b) (he : zc [v] [u] = some r) : (Op.equalIn (k + 1) t a b).run P w = .ok r w := by
  cases z <;> simp only [zacr] at hu <;> cases v <;> simp only [zc] at hz <;> (try (cases hz; done)) <;> cases u <;> simp only [zc] at he <;> (try (cases he; done)) <;> cases hv <;> cases hw
  · split at he
    · rename_i hk
      subst hk
      rw [run_equalIn_int w k t _ _ _ _ hu]
      simpa using he
    · cases he
  · rw [run_equalIn_bool' w k t _ _ hu]; simpa using he
  · rw [run_equalIn_string w k t _ _ hu]; simpa [ByteArray.toList_eq] using he
def zans (P : Program) (d : Nat) (t : TypeId) (zs : List AV) : Prop := ∃ a, atOf P t = some a ∧ zs.length = a.size ∧ (a.kind.isAgg = false → a.size = 1) ∧ ∀ (k : Nat), d ≤ k → ∀ (w : World) (K : zh) (ρ : Nat → Loc) (A : Nat → Prop) (cells cells' : List AV) (off : Nat) (v u : AV) (r : Bool) (x y : Value),
    ldv a.kind.isAgg a.size cells off = some v → ldv a.kind.isAgg a.size cells' off = some u → (zc zs ((cells.drop off).take a.size)).isSome = true → zc ((cells.drop off).take a.size) ((cells'.drop off).take a.size) = some r → VRel K ρ A v x → VRel K ρ A u y →
    (Op.equalIn k t x y).run P w = .ok r w
theorem zmz {d : Nat} {t : TypeId} {z : AV} (hu : zacr P t z) (hs : zmp P t = true) : zans P (d + 1) t [z] := by
  unfold zmp at hs
  cases ha : atOf P t with
  | none => rw [ha] at hs; cases hs
  | some a =>
    rw [ha] at hs
    simp only [Bool.and_eq_true] at hs
    have hag : a.kind.isAgg = false := by simpa using hs.1
    have hsz : a.size = 1 := Nat.eq_of_beq_eq_true hs.2
    refine ⟨a, ha, by rw [hsz]; rfl, fun _ => hsz, fun k hk w K ρ A cells cells' off v u r x y e1 e2 e0 e3 r1 r2 => ?_⟩
    simp only [ldv, hag, cond_false] at e1 e2
    have t1 : ∀ {l : List AV} {q : AV}, l[off]? = some q → (l.drop off).take 1 = [q] := by
      intro l q hl
      obtain ⟨hlt, rfl⟩ := List.getElem?_eq_some_iff.1 hl
      rw [List.drop_eq_getElem_cons hlt]; rfl
    rw [hsz, t1 e1] at e0
    rw [hsz, t1 e1, t1 e2] at e3
    obtain ⟨k', rfl⟩ : ∃ k', k = k' + 1 := ⟨k - 1, by omega⟩
    exact zzz hu e0 r1 r2 e3
theorem zabx : ∀ (d : Nat) (t : TypeId) (zs : List AV), zjq P d t = some zs → zans P d t zs
  | 0, t, zs, h => by cases h
  | d + 1, t, zs, h => by
    unfold zjq at h
    split at h
    · rename_i ki hu
      split at h
      · rename_i hs; cases h; exact zmz hu hs
      · cases h
    · rename_i hu
      split at h
      · rename_i hs; cases h; exact zmz hu hs
      · cases h
    · rename_i hu
      split at h
      · rename_i hs; cases h; exact zmz hu hs
      · cases h
    · rename_i fs hu
      by_cases hc : P.stoodInHeld t = false ∧ (match atOf P t with | some a => a.kind.isAgg | none => false) = true
      case neg => rw [if_neg hc] at h; cases h
      rw [if_pos hc] at h
      obtain ⟨hst, h3⟩ := hc
      split at h
      case h_2 => cases h
      rename_i zs' hf
      split at h
      case isFalse => cases h
      rename_i hlen
      obtain rfl := Option.some.inj h
      cases ha : atOf P t with
      | none => rw [ha] at h3; cases h3
      | some a =>
        rw [ha] at h3
        simp only at h3
        have hl : zs'.length = a.size := by rw [hlen]; unfold szAt; rw [ha]
        refine ⟨a, ha, hl, fun e => (by rw [h3] at e; cases e), fun k hk w K ρ A cells cells' off v u r x y e1 e2 e0 e3 r1 r2 => ?_⟩
        simp only [ldv, h3, cond_true] at e1 e2
        split at e1
        case isFalse => cases e1
        rename_i l1
        split at e2
        case isFalse => cases e2
        rename_i l2
        cases e1
        cases e2
        cases r1 with
        | agg _ cs g1 g2 =>
        cases r2 with
        | agg _ ds g3 g4 =>
        obtain ⟨k', rfl⟩ : ∃ k', k = k' + 1 := ⟨k - 1, by omega⟩
        have hfo : P.fieldsOf t = fs := by simp [Program.fieldsOf, hu]
        rw [run_equalIn_struct w k' t cs ds (by rw [hfo]; exact hu) hst, hfo]
        have loop : ∀ (fl : List Field) (o : Nat) (zs xs ys : List AV) (r : Bool), zje (zjq P d) fl o = some zs → LRel K ρ A xs cs.toList → LRel K ρ A ys ds.toList → xs.length = o + zs.length → ys.length = o + zs.length →
            (zc zs (xs.drop o)).isSome = true → zc (xs.drop o) (ys.drop o) = some r → (Op.eqFields k' cs ds fl).run P w = .ok r w := by
          intro fl
          induction fl with
          | nil =>
            intro o zs xs ys r hf q1 q2 n1 n2 hz he
            simp only [zje, Option.some.injEq] at hf
            subst hf
            simp only [List.length_nil] at n1 n2
            rw [List.drop_of_length_le (by omega), List.drop_of_length_le (by omega)] at he
            simp only [zc, Option.some.injEq] at he
            simp [Op.eqFields, Sem.run_pure, he]
          | cons f fl ih =>
            intro o zs xs ys r hf q1 q2 n1 n2 hz he
            unfold zje at hf
            split at hf
            case isFalse => cases hf
            rename_i hc
            obtain ⟨c1, c2⟩ := hc
            split at hf
            case h_2 => cases hf
            rename_i z hzk
            split at hf
            case h_2 => cases hf
            rename_i zr hzr
            obtain rfl := Option.some.inj hf
            obtain ⟨b, hb, hzl, hb1, hrun⟩ := zabx d f.type z hzk
            rw [List.length_append] at n1 n2
            obtain ⟨s1, s2, t1, t2, rfl⟩ := zlb z.length he
            obtain ⟨z1, z2⟩ := zyc z.length hz
            rw [List.take_left] at z1
            rw [List.drop_left, List.drop_drop] at z2
            rw [List.drop_drop, List.drop_drop] at t2
            obtain ⟨i, dd, zv, hb'⟩ := (show TOk P (atOf P) from fun _ _ h => h).at hb
            have ld : ∀ l : List AV, l.length = o + (z.length + zr.length) → ∃ q, ldv b.kind.isAgg b.size l o = some q := by
              intro l hl
              unfold ldv
              cases hag : b.kind.isAgg with
              | true => rw [cond_true, if_pos (by omega)]; exact ⟨_, rfl⟩
              | false =>
                rw [cond_false]
                have := hb1 hag
                exact ⟨_, List.getElem?_eq_getElem (by omega)⟩
            obtain ⟨p, hp⟩ := ld xs n1
            obtain ⟨q, hq⟩ := ld ys n2
            obtain ⟨pv, hpv, hpr⟩ := zka (P := P) (w := w) hb' q1 hp
            obtain ⟨qv, hqv, hqr⟩ := zka (P := P) (w := w) hb' q2 hq
            have hone := hrun k' (by omega) w K ρ A xs ys o p q s1 pv qv hp hq (by rw [← hzl]; exact z1) (by rw [← hzl]; exact t1) hpr hqr
            have hrest := ih (o + z.length) zr xs ys s2 hzr q1 q2 (by omega) (by omega) z2 t2
            simp only [Op.eqFields, c1, ne_eq, not_false_eq_true, if_true, Sem.run_bind, c2, hpv, hqv, hone, Result.andThen_ok]
            cases s1
            · simp [Sem.run_pure]
            · simpa using hrest
        refine loop fs.toList 0 zs' _ _ r hf ⟨by simpa using g1, fun j v c h1 h2 => g2 j v c h1 (by simpa using h2)⟩ ⟨by simpa using g3, fun j v c h1 h2 => g4 j v c h1 (by simpa using h2)⟩ (by simp; omega) (by simp; omega) ?_ ?_
        · simpa using e0
        · simpa using e3
    · cases h
theorem zaor {d : Nat} {t : TypeId} {a : AT} {zs : List AV} (hd : d ≤ 10000) (h : zjq P d t = some zs) (hz : (zc zs a.zero).isSome = true) (hg : P.eqGuardType P.depth t = false) (ha : atOf P t = some a) (hag : a.kind.isAgg = true) : EqTy P t a.zero := by
  intro w K ρ A xs ys cs ds r x y op q1 q2 hl he
  obtain ⟨a', ha', hzl, _, hrun⟩ := zabx d t zs h
  obtain rfl : a = a' := Option.some.inj (ha.symm.trans ha')
  have hlen := zph he
  have hzx := zhk hz hl
  have hxl : zs.length = xs.length := by obtain ⟨r0, h0⟩ := Option.isSome_iff_exists.1 hzx; exact zph h0
  refine ⟨?_, run_eqGuard_agg w op t x y cs ds hg⟩
  unfold Op.equal Op.maxDepth
  have full : ∀ l : List AV, l.length = a.size → (l.drop 0).take a.size = l := fun l hl => by rw [List.drop_zero, List.take_of_length_le (by omega)]
  refine hrun 10000 hd w K ρ A xs ys 0 (.agg xs) (.agg ys) r _ _ ?_ ?_ ?_ ?_ (LRel.agg q1) (LRel.agg q2)
  · simp only [ldv, hag, cond_true]; rw [if_pos (by omega), full xs (by omega)]
  · simp only [ldv, hag, cond_true]; rw [if_pos (by omega), full ys (by omega)]
  · rw [full xs (by omega)]; exact hzx
  · rw [full xs (by omega), full ys (by omega)]; exact he
theorem zamb {T : Nat → Option AT} (hT : TOk P T) : EOk P T (zagu P) := by
  intro t a h ht
  have ha := hT t a ht
  unfold zagu at h
  rw [ha] at h
  simp only [Bool.and_eq_true] at h
  obtain ⟨⟨h1, h2⟩, h3⟩ := h
  cases hk : zjq P 4 t with
  | none => rw [hk] at h2; cases h2
  | some zs =>
    rw [hk] at h2
    exact zaor (by omega) hk h2 (by simpa using h3) ha h1
end
end Go.Proofs.YtpbnaaoilgohkaaGreatDoor
set_option maxRecDepth 8000
namespace Go.Proofs.YtpbnaaoilgohkaaGreatDoor
open Go Go.RowKit
theorem mixed : Tryz.prog.follows .mixedOrders = true := by kernel_rfl
noncomputable def tab : Nat → Option AT := atOf Tryz.prog
theorem zp : TOk Tryz.prog tab := fun _ _ h => h
def zrj (t : Nat) : Bool := Nat.blt t 1000000
noncomputable def eqsT (t : Nat) : Bool := bif zrj t then zagu Tryz.prog t else false
theorem zq : EOk Tryz.prog tab eqsT := by
  intro t a h ht
  unfold eqsT at h
  generalize zrj t = b at h
  cases b with
  | true => rw [cond_true] at h; exact zamb zp t a h ht
  | false => rw [cond_false] at h; cases h
noncomputable def tabZ (t : Nat) : Option AT := bif zrj t then tab t else none
theorem zti : TOk Tryz.prog tabZ := by
  intro t a h
  unfold tabZ at h
  generalize zrj t = b at h
  cases b with
  | true => rw [cond_true] at h; exact h
  | false => rw [cond_false] at h; cases h
def eqsZ (t : Nat) : Bool := !zrj t
theorem zuc : EOk Tryz.prog tabZ eqsZ := by
  intro t a h ht
  unfold tabZ at ht
  unfold eqsZ at h
  generalize zrj t = b at h ht
  cases b with
  | true => cases h
  | false => rw [cond_false] at ht; cases ht
end Go.Proofs.YtpbnaaoilgohkaaGreatDoor
set_option maxRecDepth 8000
namespace Go.Proofs.YtpbnaaoilgohkaaGreatDoor
open Go Go.RowKit
@[simp] theorem zauk : zb tab 2 = 1 := by kernel_rfl
@[simp] theorem zauj : zb tab 3 = 1 := by kernel_rfl
@[simp] theorem zaui : zb tab 4 = 1 := by kernel_rfl
@[simp] theorem zauh : zb tab 5 = 1 := by kernel_rfl
@[simp] theorem zaug : zb tab 6 = 1 := by kernel_rfl
@[simp] theorem zauf : zb tab 9 = 1 := by kernel_rfl
@[simp] theorem zatf : zb tab 12 = 1 := by kernel_rfl
@[simp] theorem zate : zb tab 17 = 1 := by kernel_rfl
@[simp] theorem zatd : zb tab 22 = 1 := by kernel_rfl
@[simp] theorem zatc : zb tab 23 = 1 := by kernel_rfl
@[simp] theorem zatb : zb tab 25 = 2 := by kernel_rfl
@[simp] theorem zata : zb tab 26 = 1 := by kernel_rfl
@[simp] theorem zasz : zb tab 27 = 1 := by kernel_rfl
@[simp] theorem zasy : zb tab 29 = 3 := by kernel_rfl
@[simp] theorem zasx : zb tab 32 = 1 := by kernel_rfl
@[simp] theorem zasw : zb tab 34 = 1 := by kernel_rfl
@[simp] theorem zasv : zb tab 43 = 3 := by kernel_rfl
@[simp] theorem zasu : zb tab 48 = 1 := by kernel_rfl
@[simp] theorem zast : zb tab 58 = 1 := by kernel_rfl
@[simp] theorem zass : zb tab 64 = 1 := by kernel_rfl
@[simp] theorem zasr : zb tab 67 = 1 := by kernel_rfl
@[simp] theorem zarv : zb tab 106 = 1 := by kernel_rfl
@[simp] theorem zaru : zb tab 129 = 1 := by kernel_rfl
@[simp] theorem zart : zb tab 132 = 1 := by kernel_rfl
@[simp] theorem zars : zb tab 172 = 1 := by kernel_rfl
@[simp] theorem zarr : zb tab 199 = 1 := by kernel_rfl
@[simp] theorem zarq : zb tab 208 = 0 := by kernel_rfl
@[simp] theorem zarp : zb tab 211 = 1 := by kernel_rfl
@[simp] theorem zaro : zb tab 212 = 1 := by kernel_rfl
@[simp] theorem zarn : zb tab 213 = 1 := by kernel_rfl
@[simp] theorem zarm : zb tab 214 = 1 := by kernel_rfl
@[simp] theorem zarl : zb tab 215 = 1 := by kernel_rfl
def zsh (Q : QT) (xs13 : List AV) (H14 : Heap) (nx15 : Nat) : Prop :=
 CNDC (nth xs13 1)
 (Q (.int .i64 6) H14 nx15)
 (FA 0 (nth xs13 0) fun v17 =>
 LD false 1 v17 H14 fun v18 =>
 BI .eql v18 (.int .i64 1) fun v19 =>
 CND v19
 (FA 1 (nth xs13 0) fun v20 =>
 LD false 1 v20 H14 fun v21 =>
 BI .neq v21 (.int .i64 0) fun v22 =>
 CND v22
 (Q (.int .i64 2) H14 nx15)
 (FA 0 (nth xs13 0) fun v23 =>
 LD false 1 v23 H14 fun v24 =>
 BI .neq v24 (.int .i64 1) fun v25 =>
 CND v25
 (FA 2 (nth xs13 0) fun v26 =>
 LD false 1 v26 H14 fun v27 =>
 BS .neq v27 (.str []) fun v28 =>
 CNDC v28
 (Q (.int .i64 2) H14 nx15)
 (Q (.int .i64 0) H14 nx15))
 (Q (.int .i64 0) H14 nx15)))
 (FA 0 (nth xs13 0) fun v29 =>
 LD false 1 v29 H14 fun v30 =>
 BI .neq v30 (.int .i64 1) fun v31 =>
 CND v31
 (FA 2 (nth xs13 0) fun v32 =>
 LD false 1 v32 H14 fun v33 =>
 BS .neq v33 (.str []) fun v34 =>
 CNDC v34
 (Q (.int .i64 2) H14 nx15)
 (Q (.int .i64 0) H14 nx15))
 (Q (.int .i64 0) H14 nx15)))
def zsk (xs9 : List AV) (H10 : Heap) (nx11 : Nat) (j16 : J3) : Prop :=
 FA 0 (nth xs9 1) fun v35 =>
 LD false 1 v35 H10 fun v36 =>
 BI .eql v36 (.int .i64 2) fun v37 =>
 CND v37
 (FA 1 (nth xs9 1) fun v38 =>
 LD false 1 v38 H10 fun v39 =>
 BI .lss v39 (.int .i64 0) fun v40 =>
 CND v40
 (j16 [nth xs9 1, .bool true] H10 nx11)
 (FA 1 (nth xs9 1) fun v41 =>
 LD false 1 v41 H10 fun v42 =>
 BI .geq v42 (nth xs9 0) fun v43 =>
 j16 [nth xs9 1, v43] H10 nx11))
 (j16 [nth xs9 1, .bool false] H10 nx11)
def zsg (Q : QT) (xs9 : List AV) (H10 : Heap) (nx11 : Nat) : Prop :=
 CNDC (nth xs9 2)
 (Q (AV.int IntKind.i64 4) H10 nx11)
 (JN (zsh Q) (zsk xs9 H10 nx11))
def zsj (xs5 : List AV) (H6 : Heap) (nx7 : Nat) (j12 : J3) : Prop :=
 FA 0 (nth xs5 1) fun v44 =>
 LD false 1 v44 H6 fun v45 =>
 BI .eql v45 (.int .i64 1) fun v46 =>
 CND v46
 (FA 2 (nth xs5 1) fun v47 =>
 LD false 1 v47 H6 fun v48 =>
 LNS v48 fun v49 =>
 BI .gtr v49 (.int .i64 60) fun v50 =>
 j12 [nth xs5 0, nth xs5 1, v50] H6 nx7)
 (j12 [nth xs5 0, nth xs5 1, .bool false] H6 nx7)
def zsf (Q : QT) (xs5 : List AV) (H6 : Heap) (nx7 : Nat) : Prop :=
 CNDC (nth xs5 2)
 (Q (AV.int IntKind.i64 3) H6 nx7)
 (JN (zsg Q) (zsj xs5 H6 nx7))
def zsi (nx : Nat) (H : Heap) (a0 : AV) (a1 : AV) (j8 : J3) : Prop :=
 LD false 1 (.ptr nx 0) (H.put nx (some (.row a0.cells.length a0.cells))) fun v51 =>
 BI .eql v51 (.int .i64 0) fun v52 =>
 CND v52
 (LD false 1 (.ptr nx 1) (H.put nx (some (.row a0.cells.length a0.cells))) fun v53 =>
 BI .lss v53 (.int .i64 (-1073741824)) fun v54 =>
 CND v54
 (j8 [a1, .ptr nx 0, .bool true] (H.put nx (some (.row a0.cells.length a0.cells))) (nx + 1))
 (LD false 1 (.ptr nx 1) (H.put nx (some (.row a0.cells.length a0.cells))) fun v55 =>
 BI .gtr v55 (.int .i64 1073741824) fun v56 =>
 j8 [a1, .ptr nx 0, v56] (H.put nx (some (.row a0.cells.length a0.cells))) (nx + 1)))
 (j8 [a1, .ptr nx 0, .bool false] (H.put nx (some (.row a0.cells.length a0.cells))) (nx + 1))
def zse (a0 a1 : AV) (H : Heap) (nx : Nat) (Q : QT) : Prop :=
 a0.sure = true ∧
 LD false 1 (.ptr nx 0) (H.put nx (some (.row a0.cells.length a0.cells))) fun v1 =>
 BI .lss v1 (.int .i64 0) fun v2 =>
 CND v2
 (Q (.int .i64 1) (H.put nx (some (.row a0.cells.length a0.cells))) (nx + 1))
 (LD false 1 (.ptr nx 0) (H.put nx (some (.row a0.cells.length a0.cells))) fun v3 =>
 BI .gtr v3 (.int .i64 2) fun v4 =>
 CNDC v4
 (Q (.int .i64 1) (H.put nx (some (.row a0.cells.length a0.cells))) (nx + 1))
 (JN (zsf Q) (zsi nx H a0 a1)))
theorem zwd (a0 a1 : AV) (H : Heap) (nx : Nat) (Q : QT) : zse a0 a1 H nx Q → za Tryz.prog 52 [a0, a1] H nx Q :=
  zd (lv := lvOf [(0, 3, [1, 2, 14]), (0, 5, [1, 2, 28]), (0, 7, [2, 38])]) (c := zl Tryz.f52) zp zq mixed Tryz.func52 (by kernel_rfl) (by kernel_rfl) (by kernel_rfl) (by kernel_rfl) (by kernel_rfl)
def zdp (a0 : AV) (H : Heap) (nx : Nat) (Q : QT) : Prop :=
 BL .eql a0 .nils fun v1 =>
 CNDC v1
 (Q .nils H nx)
 (APP 3 32 (.slc nx 0 0) a0 (H.put nx (some (.row 3 []))) (nx + 1) fun v2 H3 nx4 =>
 Q v2 H3 nx4)
theorem zmn (a0 : AV) (H : Heap) (nx : Nat) (Q : QT) : zdp a0 H nx Q → za Tryz.prog 81 [a0] H nx Q :=
  zd (lv := lvOf []) (c := zl Tryz.f81) zp zq mixed Tryz.func81 (by kernel_rfl) (by kernel_rfl) (by kernel_rfl) (by kernel_rfl) (by kernel_rfl)
def zhm (v38 : AV) (xs19 : List AV) (nx36 : Nat) (H37 : Heap) (rd39 : List Nat) (K18 : J3) (v42 : AV) (_ : List Nat) (fr44 : List Nat) (D45 : zg) : Prop :=
 BD (zz tab [(43, 0), (43, 3)]) [.int .i64 0, .int .i64 0, .str [], .int .i64 0, .int .i64 0, .str []] [(0, v38), (1, v42)] fun v46 =>
 BSL 1 6 [.int .i64 0, .int .i64 0, .str [], .int .i64 0, .int .i64 0, .str []] [(0, v46)] fun cells47 =>
 zx 6 64 (nth xs19 2) (.slc ((nx36 + 1) + fr44.length) 0 1) ((H37.apply D45).put (((nx36 + 1) + fr44.length)) (some (.row 6 cells47))) (((nx36 + 1) + fr44.length) + 1) fun v48 _ fr50 D51 =>
 zm (domD D45) [] (
 zm (domD D45) rd39 (
 ((nx36 + 1) + fr44.length) ∉ [] ∧
 K18 [nth xs19 0, nth xs19 1, v48, nth xs19 3, nth xs19 4, nth xs19 5, nth xs19 6] (((H37.apply D45).put (((nx36 + 1) + fr44.length)) (some (.row 6 cells47))).apply D51) ((((nx36 + 1) + fr44.length) + 1) + fr50.length)))
def zsn (nx21 : Nat) (xs19 : List AV) (K18 : J3) (v34 : AV) (H35 : Heap) (nx36 : Nat) : Prop :=
 ST 3 (.ptr nx36 0) v34 (H35.put nx36 (some (.row 3 [.int .i64 0, .int .i64 0, .str []]))) fun H37 =>
 LDR true 3 (.ptr nx36 0) H37 fun v38 rd39 =>
 LDR true 3 (.ptr nx21 3) H37 fun v40 _ =>
 zt Tryz.prog (nth xs19 3) [v40] H37 (nx36 + 1) (zhm v38 xs19 nx36 H37 rd39 K18)
def zed (K6 : J3) (K18 : J3) (xs19 : List AV) (H20 : Heap) (nx21 : Nat) : Prop :=
 LNL (nth xs19 2) fun v22 =>
 LD false 1 (nth xs19 1) H20 fun v23 =>
 LNL v23 fun v24 =>
 BI .lss v22 v24 fun v25 =>
 CNDC v25
 (LD false 1 (nth xs19 1) H20 fun v26 =>
 LNL (nth xs19 2) fun v27 =>
 IA 1 v26 v27 fun v28 =>
 LD false 1 v28 H20 fun v29 =>
 IA 6 (nth xs19 0) v29 fun v30 =>
 LD true 6 v30 H20 fun v31 =>
 ST 6 (.ptr nx21 0) v31 (H20.put nx21 (some (.row 6 [.int .i64 0, .int .i64 0, .str [], .int .i64 0, .int .i64 0, .str []]))) fun H32 =>
 LD true 3 (.ptr nx21 0) H32 fun v33 =>
 CALL Tryz.prog (nth xs19 3) [v33] H32 (nx21 + 1) (zsn nx21 xs19 K18))
 (BI .add (nth xs19 6) (.int .i64 1) fun v52 =>
 K6 [nth xs19 0, nth xs19 1, nth xs19 2, nth xs19 3, nth xs19 4, nth xs19 5, v52] H20 nx21)
def zsm (xs7 : List AV) (K6 : J3) (v13 : AV) (H14 : Heap) (nx15 : Nat) : Prop :=
 IA 3 (nth xs7 4) (nth xs7 6) fun v16 =>
 ST 3 v16 v13 H14 fun H17 =>
 LP (zed K6) [nth xs7 0, nth xs7 1, nth xs7 2, nth xs7 3, nth xs7 4, nth xs7 5, nth xs7 6] H17 nx15
def zhl (Q : QT) (K6 : J3) (xs7 : List AV) (H8 : Heap) (nx9 : Nat) : Prop :=
 BI .lss (nth xs7 6) (nth xs7 5) fun v10 =>
 CNDC v10
 (IA 3 (nth xs7 4) (nth xs7 6) fun v11 =>
 LD true 3 v11 H8 fun v12 =>
 CALL Tryz.prog (nth xs7 3) [v12] H8 nx9 (zsm xs7 K6))
 (Q (.tup [nth xs7 4, nth xs7 2]) H8 nx9)
def zlc (Q : QT) (a0 : AV) (nx : Nat) (v2 : AV) (H3 : Heap) (nx4 : Nat) : Prop :=
 LNL v2 fun v5 =>
 LP (zhl Q) [a0, .ptr (nx + 2) 0, .nils, .clo 83 [.ptr (nx + 1) 0, .ptr (nx + 2) 0], v2, v5, .int .i64 0] H3 nx4
def zsl (a0 a1 : AV) (H : Heap) (nx : Nat) (Q : QT) : Prop :=
 ST 1 (.ptr (nx + 1) 0) (.amap nx) ((H.put nx (some (.mp []))).put ((nx + 1)) (some (.row 1 [.nilm]))) fun H1 =>
 za Tryz.prog 81 [a1] (H1.put ((nx + 2)) (some (.row 1 [.nils]))) (nx + 3) (zlc Q a0 nx)
theorem zwe (a0 a1 : AV) (H : Heap) (nx : Nat) (Q : QT) : zsl a0 a1 H nx Q → za Tryz.prog 54 [a0, a1] H nx Q :=
  zd (lv := lvOf [(2, 7, [0, 7, 8, 9, 10, 19, 20]), (2, 10, [0, 7, 8, 9, 10, 19, 20])]) (c := zl Tryz.f54) zp zq mixed Tryz.func54 (by kernel_rfl) (by kernel_rfl) (by kernel_rfl) (by kernel_rfl) (by kernel_rfl)
def zim (a0 a1 : AV) (H : Heap) (nx : Nat) (Q : QT) : Prop :=
 a0.sure = true ∧
 LD false 1 (.ptr nx 0) (H.put nx (some (.row a0.cells.length a0.cells))) fun v1 =>
 BI .eql v1 (.int .i64 0) fun v2 =>
 CNDC v2
 (LD false 1 (.ptr nx 1) (H.put nx (some (.row a0.cells.length a0.cells))) fun v3 =>
 BI .lss v3 (.int .i64 (-1073741824)) fun v4 =>
 CND v4
 (Q (.int .i64 3) (H.put nx (some (.row a0.cells.length a0.cells))) (nx + 1))
 (LD false 1 (.ptr nx 1) (H.put nx (some (.row a0.cells.length a0.cells))) fun v5 =>
 BI .gtr v5 (.int .i64 1073741824) fun v6 =>
 CNDC v6
 (Q (.int .i64 3) (H.put nx (some (.row a0.cells.length a0.cells))) (nx + 1))
 (LD false 1 (.ptr nx 2) (H.put nx (some (.row a0.cells.length a0.cells))) fun v7 =>
 BS .neq v7 (.str []) fun v8 =>
 CNDC v8
 (Q (.int .i64 2) (H.put nx (some (.row a0.cells.length a0.cells))) (nx + 1))
 (Q (.int .i64 0) (H.put nx (some (.row a0.cells.length a0.cells))) (nx + 1)))))
 (BI .eql v1 (.int .i64 1) fun v9 =>
 CNDC v9
 (LD false 1 (.ptr nx 2) (H.put nx (some (.row a0.cells.length a0.cells))) fun v10 =>
 LNS v10 fun v11 =>
 BI .gtr v11 (.int .i64 60) fun v12 =>
 CNDC v12
 (Q (.int .i64 4) (H.put nx (some (.row a0.cells.length a0.cells))) (nx + 1))
 (LD false 1 (.ptr nx 1) (H.put nx (some (.row a0.cells.length a0.cells))) fun v13 =>
 BI .neq v13 (.int .i64 0) fun v14 =>
 CNDC v14
 (Q (.int .i64 2) (H.put nx (some (.row a0.cells.length a0.cells))) (nx + 1))
 (Q (.int .i64 0) (H.put nx (some (.row a0.cells.length a0.cells))) (nx + 1))))
 (BI .eql v1 (.int .i64 2) fun v15 =>
 CNDC v15
 (LD false 1 (.ptr nx 1) (H.put nx (some (.row a0.cells.length a0.cells))) fun v16 =>
 BI .lss v16 (.int .i64 0) fun v17 =>
 CND v17
 (Q (.int .i64 6) (H.put nx (some (.row a0.cells.length a0.cells))) (nx + 1))
 (LD false 1 (.ptr nx 1) (H.put nx (some (.row a0.cells.length a0.cells))) fun v18 =>
 BI .geq v18 a1 fun v19 =>
 CNDC v19
 (Q (.int .i64 6) (H.put nx (some (.row a0.cells.length a0.cells))) (nx + 1))
 (LD false 1 (.ptr nx 2) (H.put nx (some (.row a0.cells.length a0.cells))) fun v20 =>
 BS .neq v20 (.str []) fun v21 =>
 CNDC v21
 (Q (.int .i64 2) (H.put nx (some (.row a0.cells.length a0.cells))) (nx + 1))
 (Q (.int .i64 0) (H.put nx (some (.row a0.cells.length a0.cells))) (nx + 1)))))
 (Q (.int .i64 1) (H.put nx (some (.row a0.cells.length a0.cells))) (nx + 1))))
theorem znd (a0 a1 : AV) (H : Heap) (nx : Nat) (Q : QT) : zim a0 a1 H nx Q → za Tryz.prog 18 [a0, a1] H nx Q :=
  zd (lv := lvOf []) (c := zl Tryz.f18) zp zq mixed Tryz.func18 (by kernel_rfl) (by kernel_rfl) (by kernel_rfl) (by kernel_rfl) (by kernel_rfl)
def zdh (a0 a1 a2 : AV) (H : Heap) (nx : Nat) (Q : QT) : Prop :=
 a0.sure = true ∧
 LD false 1 (.ptr nx 0) ((H.put nx (some (.row a0.cells.length a0.cells))).put ((nx + 1)) (some (.row 3 [.int .i64 0, .int .i64 0, .str []]))) fun v1 =>
 BI .neq v1 (.int .i64 2) fun v2 =>
 CNDC v2
 (LD true 3 (.ptr nx 0) ((H.put nx (some (.row a0.cells.length a0.cells))).put ((nx + 1)) (some (.row 3 [.int .i64 0, .int .i64 0, .str []]))) fun v3 =>
 ST 3 (.ptr (nx + 1) 0) v3 ((H.put nx (some (.row a0.cells.length a0.cells))).put ((nx + 1)) (some (.row 3 [.int .i64 0, .int .i64 0, .str []]))) fun H4 =>
 LD true 3 (.ptr (nx + 1) 0) H4 fun v5 =>
 Q v5 H4 (nx + 2))
 (LD false 1 a1 ((H.put nx (some (.row a0.cells.length a0.cells))).put ((nx + 1)) (some (.row 3 [.int .i64 0, .int .i64 0, .str []]))) fun v6 =>
 LD false 1 (.ptr nx 1) ((H.put nx (some (.row a0.cells.length a0.cells))).put ((nx + 1)) (some (.row 3 [.int .i64 0, .int .i64 0, .str []]))) fun v7 =>
 zw (AK.int .i64) v7 = true ∧
 LK [.int .i64 0] false v6 v7 true ((H.put nx (some (.row a0.cells.length a0.cells))).put ((nx + 1)) (some (.row 3 [.int .i64 0, .int .i64 0, .str []]))) fun v8 =>
 EX v8 0 fun v9 =>
 EX v8 1 fun v10 =>
 UO .not v10 fun v11 =>
 CNDC v11
 (LD false 1 a2 ((H.put nx (some (.row a0.cells.length a0.cells))).put ((nx + 1)) (some (.row 3 [.int .i64 0, .int .i64 0, .str []]))) fun v12 =>
 LNL v12 fun v13 =>
 LD false 1 a1 ((H.put nx (some (.row a0.cells.length a0.cells))).put ((nx + 1)) (some (.row 3 [.int .i64 0, .int .i64 0, .str []]))) fun v14 =>
 LD false 1 (.ptr nx 1) ((H.put nx (some (.row a0.cells.length a0.cells))).put ((nx + 1)) (some (.row 3 [.int .i64 0, .int .i64 0, .str []]))) fun v15 =>
 zw (AK.int .i64) v15 = true ∧
 MU v14 v15 v13 ((H.put nx (some (.row a0.cells.length a0.cells))).put ((nx + 1)) (some (.row 3 [.int .i64 0, .int .i64 0, .str []]))) fun H16 =>
 LD false 1 a2 H16 fun v17 =>
 LD false 1 (.ptr nx 1) H16 fun v18 =>
 BSL 1 1 [.int .i64 0] [(0, v18)] fun cells19 =>
 APP 1 8 v17 (.slc (nx + 2) 0 1) (H16.put ((nx + 2)) (some (.row 1 cells19))) (nx + 3) fun v20 H21 nx22 =>
 ST 1 a2 v20 H21 fun H23 =>
 ST 1 (.ptr nx 1) v13 H23 fun H24 =>
 LD true 3 (.ptr nx 0) H24 fun v25 =>
 ST 3 (.ptr (nx + 1) 0) v25 H24 fun H26 =>
 LD true 3 (.ptr (nx + 1) 0) H26 fun v27 =>
 Q v27 H26 nx22)
 (ST 1 (.ptr nx 1) v9 ((H.put nx (some (.row a0.cells.length a0.cells))).put ((nx + 1)) (some (.row 3 [.int .i64 0, .int .i64 0, .str []]))) fun H28 =>
 LD true 3 (.ptr nx 0) H28 fun v29 =>
 ST 3 (.ptr (nx + 1) 0) v29 H28 fun H30 =>
 LD true 3 (.ptr (nx + 1) 0) H30 fun v31 =>
 Q v31 H30 (nx + 2)))
theorem zue (a0 a1 a2 : AV) (H : Heap) (nx : Nat) (Q : QT) : zdh a0 a1 a2 H nx Q → za Tryz.prog 83 [a0, a1, a2] H nx Q :=
  zd (lv := lvOf []) (c := zl Tryz.f83) zp zq mixed Tryz.func83 (by kernel_rfl) (by kernel_rfl) (by kernel_rfl) (by kernel_rfl) (by kernel_rfl)
def zco (a0 a1 a2 : AV) (H : Heap) (nx : Nat) (Q : QT) : Prop :=
 a0.sure = true ∧
 LD false 1 (.ptr nx 0) (H.put nx (some (.row a0.cells.length a0.cells))) fun v1 =>
 BI .eql v1 (.int .i64 2) fun v2 =>
 CND v2
 (LD false 1 a1 (H.put nx (some (.row a0.cells.length a0.cells))) fun v3 =>
 LD false 1 (.ptr nx 1) (H.put nx (some (.row a0.cells.length a0.cells))) fun v4 =>
 IA 1 v3 v4 fun v5 =>
 LD false 1 v5 (H.put nx (some (.row a0.cells.length a0.cells))) fun v6 =>
 BI .lss v6 (.int .i64 0) fun v7 =>
 CNDC v7
 (LD false 1 a1 (H.put nx (some (.row a0.cells.length a0.cells))) fun v8 =>
 LD false 1 (.ptr nx 1) (H.put nx (some (.row a0.cells.length a0.cells))) fun v9 =>
 LD false 1 a2 (H.put nx (some (.row a0.cells.length a0.cells))) fun v10 =>
 LNL v10 fun v11 =>
 IA 1 v8 v9 fun v12 =>
 ST 1 v12 v11 (H.put nx (some (.row a0.cells.length a0.cells))) fun H13 =>
 LD false 1 a2 H13 fun v14 =>
 LD false 1 (.ptr nx 1) H13 fun v15 =>
 BSL 1 1 [.int .i64 0] [(0, v15)] fun cells16 =>
 APP 1 8 v14 (.slc (nx + 1) 0 1) (H13.put ((nx + 1)) (some (.row 1 cells16))) (nx + 2) fun v17 H18 nx19 =>
 ST 1 a2 v17 H18 fun H20 =>
 Q (.tup []) H20 nx19)
 (Q (.tup []) (H.put nx (some (.row a0.cells.length a0.cells))) (nx + 1)))
 (Q (.tup []) (H.put nx (some (.row a0.cells.length a0.cells))) (nx + 1))
theorem zqu (a0 a1 a2 : AV) (H : Heap) (nx : Nat) (Q : QT) : zco a0 a1 a2 H nx Q → za Tryz.prog 58 [a0, a1, a2] H nx Q :=
  zd (lv := lvOf []) (c := zl Tryz.f58) zp zq mixed Tryz.func58 (by kernel_rfl) (by kernel_rfl) (by kernel_rfl) (by kernel_rfl) (by kernel_rfl)
def zgo (a0 a1 : AV) (H : Heap) (nx : Nat) (Q : QT) : Prop :=
 a0.sure = true ∧
 LD false 1 (.ptr nx 0) ((H.put nx (some (.row a0.cells.length a0.cells))).put ((nx + 1)) (some (.row 3 [.int .i64 0, .int .i64 0, .str []]))) fun v1 =>
 BI .eql v1 (.int .i64 2) fun v2 =>
 CNDC v2
 (LD false 1 a1 ((H.put nx (some (.row a0.cells.length a0.cells))).put ((nx + 1)) (some (.row 3 [.int .i64 0, .int .i64 0, .str []]))) fun v3 =>
 LD false 1 (.ptr nx 1) ((H.put nx (some (.row a0.cells.length a0.cells))).put ((nx + 1)) (some (.row 3 [.int .i64 0, .int .i64 0, .str []]))) fun v4 =>
 IA 1 v3 v4 fun v5 =>
 LD false 1 v5 ((H.put nx (some (.row a0.cells.length a0.cells))).put ((nx + 1)) (some (.row 3 [.int .i64 0, .int .i64 0, .str []]))) fun v6 =>
 ST 1 (.ptr nx 1) v6 ((H.put nx (some (.row a0.cells.length a0.cells))).put ((nx + 1)) (some (.row 3 [.int .i64 0, .int .i64 0, .str []]))) fun H7 =>
 LD true 3 (.ptr nx 0) H7 fun v8 =>
 ST 3 (.ptr (nx + 1) 0) v8 H7 fun H9 =>
 LD true 3 (.ptr (nx + 1) 0) H9 fun v10 =>
 Q v10 H9 (nx + 2))
 (LD true 3 (.ptr nx 0) ((H.put nx (some (.row a0.cells.length a0.cells))).put ((nx + 1)) (some (.row 3 [.int .i64 0, .int .i64 0, .str []]))) fun v11 =>
 ST 3 (.ptr (nx + 1) 0) v11 ((H.put nx (some (.row a0.cells.length a0.cells))).put ((nx + 1)) (some (.row 3 [.int .i64 0, .int .i64 0, .str []]))) fun H12 =>
 LD true 3 (.ptr (nx + 1) 0) H12 fun v13 =>
 Q v13 H12 (nx + 2))
theorem zqt (a0 a1 : AV) (H : Heap) (nx : Nat) (Q : QT) : zgo a0 a1 H nx Q → za Tryz.prog 59 [a0, a1] H nx Q :=
  zd (lv := lvOf []) (c := zl Tryz.f59) zp zq mixed Tryz.func59 (by kernel_rfl) (by kernel_rfl) (by kernel_rfl) (by kernel_rfl) (by kernel_rfl)
def zgv (a0 : AV) (H : Heap) (nx : Nat) (Q : QT) : Prop :=
 BL .eql a0 .nils fun v1 =>
 CNDC v1
 (Q .nils H nx)
 (APP 3 32 .zs a0 (H.put nx (some (.row 3 []))) (nx + 1) fun v2 H3 nx4 =>
 Q v2 H3 nx4)
theorem zls (a0 : AV) (H : Heap) (nx : Nat) (Q : QT) : zgv a0 H nx Q → za Tryz.prog 81 [a0] H nx Q :=
  zd (lv := lvOf []) (c := zl Tryz.f81) zti zuc mixed Tryz.func81 (by kernel_rfl) (by kernel_rfl) (by kernel_rfl) (by kernel_rfl) (by kernel_rfl)
end Go.Proofs.YtpbnaaoilgohkaaGreatDoor
set_option maxRecDepth 8000
namespace Go.Proofs.YtpbnaaoilgohkaaGreatDoor
open Go Go.RowKit
inductive Bel (A : Nat → Prop) : AV → Prop
  | junk : Bel A .junk
  | und : Bel A .und
  | int (k : IntKind) (n : Int) : Bel A (.int k n)
  | bool (b : Bool) : Bel A (.bool b)
  | bany : Bel A .bany
  | str (s : List UInt8) : Bel A (.str s)
  | nilp : Bel A .nilp
  | nils : Bel A .nils
  | nilf : Bel A .nilf
  | nilm : Bel A .nilm
  | inil : Bel A .inil
  | ifc : Bel A .ifc
  | zs : Bel A .zs
  | ptr (g off : Nat) : A g → Bel A (.ptr g off)
  | slc (g off len : Nat) : A g → Bel A (.slc g off len)
  | amap (g : Nat) : A g → Bel A (.amap g)
  | ro (xs : List (List AV)) : (∀ (i : Nat) (x : List AV) (j : Nat) (v : AV), xs[i]? = some x → x[j]? = some v → Bel A v) → Bel A (.ro xs)
  | rop (cs : List AV) (o : Nat) : (∀ (j : Nat) (v : AV), cs[j]? = some v → Bel A v) → Bel A (.rop cs o)
  | agg (xs : List AV) : (∀ (j : Nat) (v : AV), xs[j]? = some v → Bel A v) → Bel A (.agg xs)
  | tup (xs : List AV) : (∀ (j : Nat) (v : AV), xs[j]? = some v → Bel A v) → Bel A (.tup xs)
  | clo (f : FuncId) (xs : List AV) : (∀ (j : Nat) (v : AV), xs[j]? = some v → Bel A v) → Bel A (.clo f xs)
def BelO (A : Nat → Prop) : AObj → Prop
  | .row _ cells => ∀ (j : Nat) x, cells[j]? = some x → Bel A x
  | .mp es => ∀ (j : Nat) kv, es[j]? = some kv → Bel A kv.1 ∧ Bel A kv.2
  | .it g _ _ => A g
theorem VRel.bel {K : zh} {ρ : Nat → Loc} {A : Nat → Prop} {v : AV} {c : Value} (h : VRel K ρ A v c) : Bel A v := by
  induction h with
  | junk v => exact .junk
  | und => exact .und
  | int k n => exact .int k n
  | bool b => exact .bool b
  | bany b => exact .bany
  | str s => exact .str s
  | nilp => exact .nilp
  | nils => exact .nils
  | nilf => exact .nilf
  | nilm => exact .nilm
  | inil => exact .inil
  | ifc _ _ => exact .ifc
  | zs a => exact .zs
  | ptr g off a hg ha => exact .ptr g off hg
  | slc g off len cap a hg h1 h2 => exact .slc g off len hg
  | amap g r hg hr => exact .amap g hg
  | ro xs a len cap sz b off C h1 h2 h3 h4 h5 _ ih => exact .ro xs ih
  | rop cs o b p a C h1 h2 _ ih => exact .rop cs o ih
  | agg xs cs h1 _ ih =>
    exact .agg xs fun j v hv => by
      have hlt := (List.getElem?_eq_some_iff.1 hv).1
      exact ih j v _ hv (Array.getElem?_eq_getElem (by omega))
  | tup xs cs h1 _ ih =>
    exact .tup xs fun j v hv => by
      have hlt := (List.getElem?_eq_some_iff.1 hv).1
      exact ih j v _ hv (Array.getElem?_eq_getElem (by omega))
  | clo f xs cs h1 _ ih =>
    exact .clo f xs fun j v hv => by
      have hlt := (List.getElem?_eq_some_iff.1 hv).1
      exact ih j v _ hv (Array.getElem?_eq_getElem (by omega))
theorem VRel.restrict {K : zh} {ρ : Nat → Loc} {A A' : Nat → Prop} {v : AV} {c : Value} (h : VRel K ρ A v c) : Bel A' v → VRel K ρ A' v c := by
  induction h with
  | junk v => exact fun _ => .junk v
  | und => exact fun _ => .und
  | int k n => exact fun _ => .int k n
  | bool b => exact fun _ => .bool b
  | bany b => exact fun _ => .bany b
  | str s => exact fun _ => .str s
  | nilp => exact fun _ => .nilp
  | nils => exact fun _ => .nils
  | nilf => exact fun _ => .nilf
  | nilm => exact fun _ => .nilm
  | inil => exact fun _ => .inil
  | ifc _ h => exact fun _ => .ifc _ h
  | zs a => exact fun _ => .zs a
  | ptr g off a hg ha => intro hb; cases hb with | ptr _ _ h => exact .ptr g off a h ha
  | slc g off len cap a hg h1 h2 => intro hb; cases hb with | slc _ _ _ h => exact .slc g off len cap a h h1 h2
  | amap g r hg hr => intro hb; cases hb with | amap _ h => exact .amap g r h hr
  | ro xs a len cap sz b off C h1 h2 h3 h4 h5 _ ih => intro hb; cases hb with | ro _ h => exact .ro xs a len cap sz b off C h1 h2 h3 h4 h5 fun i x j v hx hv => ih i x j v hx hv (h i x j v hx hv)
  | rop cs o b p a C h1 h2 _ ih => intro hb; cases hb with | rop _ _ h => exact .rop cs o b p a C h1 h2 fun j v hv => ih j v hv (h j v hv)
  | agg xs cs h1 _ ih => intro hb; cases hb with | agg _ h => exact .agg xs cs h1 fun j v c hv hc => ih j v c hv hc (h j v hv)
  | tup xs cs h1 _ ih => intro hb; cases hb with | tup _ h => exact .tup xs cs h1 fun j v c hv hc => ih j v c hv hc (h j v hv)
  | clo f xs cs h1 _ ih => intro hb; cases hb with | clo _ _ h => exact .clo f xs cs h1 fun j v c hv hc => ih j v c hv hc (h j v hv)
inductive Frz (H : Heap) (nx : Nat) : AV → AV → Prop
  | same (v : AV) : Bel (· < nx) v → Frz H nx v v
  | nils : Frz H nx .nils (.ro [])
  | zs : Frz H nx .zs (.ro [])
  | slc (g off len sz : Nat) (cells : List AV) (xs : List (List AV)) : nx ≤ g → H g = some (.row sz cells) → off + len * sz ≤ cells.length → xs.length = len → (∀ x ∈ xs, x.length = sz) →
      (U : Nat → Nat → AV) → (∀ (i : Nat) (x : List AV) (j : Nat) (v : AV), xs[i]? = some x → x[j]? = some v → cells[off + i * sz + j]? = some (U i j)) →
      (∀ (i : Nat) (x : List AV) (j : Nat) (v : AV), xs[i]? = some x → x[j]? = some v → Frz H nx (U i j) v) → Frz H nx (.slc g off len) (.ro xs)
  | agg (xs ys : List AV) : ys.length = xs.length → (∀ (j : Nat) (v u : AV), xs[j]? = some v → ys[j]? = some u → Frz H nx v u) → Frz H nx (.agg xs) (.agg ys)
  | tup (xs ys : List AV) : ys.length = xs.length → (∀ (j : Nat) (v u : AV), xs[j]? = some v → ys[j]? = some u → Frz H nx v u) → Frz H nx (.tup xs) (.tup ys)
theorem Frz.rel {A : Nat → Prop} {ρ : Nat → Loc} {H H0 : Heap} {w : World} {nx : Nat} (s : Sim A ρ H w) (h0 : ∀ g o, H0 g = some o → g < nx ∧ H g = some o) {v u : AV} (h : Frz H nx v u) :
    ∀ (c : Value), VRel (Kof ρ H w) ρ A v c → VRel (Kof ρ H0 w) ρ (· < nx) u c := by
  have hK : ∀ b o, Kof ρ H w b = some o → Kof ρ H0 w b = some o := fun b o hb => by
    obtain ⟨h1, h2⟩ := zo.1 hb
    refine zo.2 ⟨fun g hg => ?_, h2⟩
    obtain ⟨o', ho'⟩ := Option.isSome_iff_exists.1 hg
    exact h1 g (by rw [(h0 g o' ho').2]; rfl)
  induction h with
  | same v hb => exact fun c hc => (hc.restrict hb).mono hK (fun _ h => ⟨rfl, h⟩)
  | nils =>
    intro c hc
    cases hc
    exact .ro [] none 0 0 0 0 0 (fun _ _ => undef) rfl (Nat.le_refl _) (fun h => absurd rfl h) (fun x hx => by cases hx) (fun i x j v hx => by simp at hx) (fun i x j v hx => by simp at hx)
  | zs =>
    intro c hc
    cases hc with
    | zs a => exact .ro [] a 0 0 0 0 0 (fun _ _ => undef) rfl (Nat.le_refl _) (fun h => absurd rfl h) (fun x hx => by cases hx) (fun i x j v hx => by simp at hx) (fun i x j v hx => by simp at hx)
  | slc g off len sz cells xs hg hH hle hl hsz U hU _ ih =>
    intro c hc
    cases hc with
    | slc _ _ _ cap a hA hcl hcap =>
      obtain ⟨cc, el, lo, hi, q1, q2, q3, q4, q5, q6⟩ := s.obj g _ hH
      have hKb : Kof ρ H0 w (ρ g).block = some (.cells cc el (lo, hi)) := by
        refine zo.2 ⟨fun x hx e => ?_, q1⟩
        obtain ⟨o', ho'⟩ := Option.isSome_iff_exists.1 hx
        obtain ⟨h1, h2⟩ := h0 x o' ho'
        have := s.inj x g (by rw [h2]; rfl) (by rw [hH]; rfl) e
        omega
      have hex : ∀ (i : Nat) (x : List AV) (j : Nat) (v : AV), xs[i]? = some x → x[j]? = some v → ∃ cv, cc[(ρ g).base + (off + i * sz + j)]? = some cv ∧ VRel (Kof ρ H w) ρ A (U i j) cv := fun i x j v hx hv => q6 _ _ (hU i x j v hx hv)
      refine .ro xs a len cap sz (ρ g).block ((ρ g).base + off) (fun i j => (cc[(ρ g).base + (off + i * sz + j)]?).getD undef) hl.symm hcl (fun hne => ?_) hsz (fun i x j v hx hv => ?_) (fun i x j v hx hv => ?_)
      · have hpos : 0 < xs.length := List.length_pos_iff.2 hne
        exact (hcap (by omega)).2
      · obtain ⟨cv, h1, h2⟩ := hex i x j v hx hv
        unfold zhj
        rw [hKb]
        simp only [h1, Option.getD_some]
        rw [← h1]; congr 1; omega
      · obtain ⟨cv, h1, h2⟩ := hex i x j v hx hv
        rw [h1]
        exact ih i x j v hx hv cv h2
  | agg xs ys hl _ ih =>
    intro c hc
    cases hc with
    | agg _ cs h1 h2 =>
    exact .agg ys cs (by omega) fun j v c hv hc => by
        have hlt := (List.getElem?_eq_some_iff.1 hv).1
        have hx : xs[j]? = some (xs[j]'(by omega)) := List.getElem?_eq_getElem (by omega)
        exact ih j _ v hx hv c (h2 j _ c hx hc)
  | tup xs ys hl _ ih =>
    intro c hc
    cases hc with
    | tup _ cs h1 h2 =>
    exact .tup ys cs (by omega) fun j v c hv hc => by
        have hlt := (List.getElem?_eq_some_iff.1 hv).1
        have hx : xs[j]? = some (xs[j]'(by omega)) := List.getElem?_eq_getElem (by omega)
        exact ih j _ v hx hv c (h2 j _ c hx hc)
theorem za.gc {P : Program} {f : FuncId} {args : List AV} {H : Heap} {nx : Nat} {Q : AV → Heap → Nat → Prop} {R : AV → Heap → Prop} (h : za P f args H nx Q)
    (hq : ∀ v H' nx', Q v H' nx' → ∃ r H0, R r H0 ∧ Frz H' nx v r ∧ (∀ g o, H0 g = some o → g < nx ∧ H' g = some o ∧ (H g = some o ∨ BelO (· < nx) o))) :
    za P f args H nx fun v H' nx' => R v H' ∧ nx' = nx := by
  intro ρ w cargs s ha
  refine zj (h ρ w cargs s ha) fun cv w' ⟨v, H', nx', ρ', q1, q2, q3, q4⟩ => ?_
  obtain ⟨r, H0, hR, hF, h0⟩ := hq v H' nx' q1
  have h0' : ∀ g o, H0 g = some o → g < nx ∧ H' g = some o := fun g o ho => ⟨(h0 g o ho).1, (h0 g o ho).2.1⟩
  have hK : ∀ b o, Kof ρ' H' w' b = some o → Kof ρ' H0 w' b = some o := fun b o hb => by
    obtain ⟨h1, h2⟩ := zo.1 hb
    refine zo.2 ⟨fun g hg => ?_, h2⟩
    obtain ⟨o', ho'⟩ := Option.isSome_iff_exists.1 hg
    exact h1 g (by rw [(h0' g o' ho').2]; rfl)
  refine ⟨r, H0, nx, ρ', ⟨hR, rfl⟩, ⟨fun g o ho => (h0 g o ho).1, fun g o ho => ?_, fun x y hx hy hb => ?_, q2.lay.mono hK⟩, hF.rel q2 h0' cv q3, ⟨fun g hg => ⟨(q4.agree g hg).1, hg⟩, fun b o hb => hK b o (q4.k b o hb), q4.os, q4.tape, q4.output, q4.size⟩⟩
  · obtain ⟨hg, hH', hbel⟩ := h0 g o ho
    have hobj := q2.obj g o hH'
    have hcells : BelO (· < nx) o := by
      rcases hbel with hs | hb
      · have := s.obj g o hs
        cases o with
        | row sz cells =>
          obtain ⟨_, _, _, _, _, _, _, _, _, p6⟩ := this
          intro j x hx
          obtain ⟨cv, _, hv⟩ := p6 j x hx
          exact hv.bel
        | mp es =>
          obtain ⟨en, cl, p1, p2, p3, _⟩ := this
          intro j kv hkv
          have hlt := (List.getElem?_eq_some_iff.1 hkv).1
          obtain ⟨a1, a2⟩ := p3 j kv _ hkv (Array.getElem?_eq_getElem (by omega))
          exact ⟨a1.bel, a2.bel⟩
        | it g c seen => exact this.2.2
      · exact hb
    cases o with
    | row sz cells =>
      obtain ⟨c, el, lo, hi, p1, p2, p3, p4, p5, p6⟩ := hobj
      exact ⟨c, el, lo, hi, p1, p2, p3, p4, p5, fun j x hx => let ⟨cv, a1, a2⟩ := p6 j x hx; ⟨cv, a1, (a2.restrict (hcells j x hx)).mono hK (fun _ h => ⟨rfl, h⟩)⟩⟩
    | mp es =>
      obtain ⟨en, cl, p1, p2, p3, p4⟩ := hobj
      exact ⟨en, cl, p1, p2, fun j kv x hkv hx => let ⟨a1, a2⟩ := p3 j kv x hkv hx; ⟨(a1.restrict (hcells j kv hkv).1).mono hK (fun _ h => ⟨rfl, h⟩), (a2.restrict (hcells j kv hkv).2).mono hK (fun _ h => ⟨rfl, h⟩)⟩, p4⟩
    | it g c seen => exact ⟨hobj.1, hobj.2.1, hcells⟩
  · obtain ⟨o1, ho1⟩ := Option.isSome_iff_exists.1 hx
    obtain ⟨o2, ho2⟩ := Option.isSome_iff_exists.1 hy
    exact q2.inj x y (by rw [(h0' x o1 ho1).2]; rfl) (by rw [(h0' y o2 ho2).2]; rfl) hb
def QC (P : Program) (f : FuncId) (args : List AV) (r : AV) : Prop := ∀ H nx, za P f args H nx fun v H' nx' => v = r ∧ H' = H ∧ nx' = nx
theorem za.tidy {P : Program} {f : FuncId} {args : List AV} {H : Heap} {nx : Nat} {Q : AV → Heap → Nat → Prop} (h : (∀ g o, H g = some o → g < nx) → za P f args H nx Q) : za P f args H nx Q :=
  fun ρ w cargs s ha => h (fun g o ho => s.live g o ho) ρ w cargs s ha
theorem QC.of {P : Program} {f : FuncId} {args : List AV} {r : AV} (h : ∀ H nx, za P f args H nx fun v H' _ => Frz H' nx v r ∧ ∀ g, g < nx → H' g = H g) : QC P f args r := by
  intro H nx
  refine za.tidy fun hlive => ?_
  refine (za.gc (R := fun v H' => v = r ∧ H' = H) (h H nx) fun v H' nx' ⟨h1, h2⟩ => ⟨r, H, ⟨rfl, rfl⟩, h1, fun g o ho => ⟨hlive g o ho, by rw [h2 g (hlive g o ho)]; exact ho, .inl ho⟩⟩).mono fun v H' nx' ⟨⟨a, b⟩, c⟩ => ⟨a, b, c⟩
theorem Bel.mono {A B : Nat → Prop} {v : AV} (h : Bel A v) (hAB : ∀ g, A g → B g) : Bel B v := by
  induction h with
  | junk => exact .junk
  | und => exact .und
  | int k n => exact .int k n
  | bool b => exact .bool b
  | bany => exact .bany
  | str s => exact .str s
  | nilp => exact .nilp
  | nils => exact .nils
  | nilf => exact .nilf
  | nilm => exact .nilm
  | inil => exact .inil
  | ifc => exact .ifc
  | zs => exact .zs
  | ptr g off h => exact .ptr g off (hAB g h)
  | slc g off len h => exact .slc g off len (hAB g h)
  | amap g h => exact .amap g (hAB g h)
  | ro xs _ ih => exact .ro xs ih
  | rop cs o _ ih => exact .rop cs o ih
  | agg xs _ ih => exact .agg xs ih
  | tup xs _ ih => exact .tup xs ih
  | clo f xs _ ih => exact .clo f xs ih
theorem zah.restrict {K : zh} {ρ : Nat → Loc} {A A' : Nat → Prop} {w : World} {l : Loc} {o : AObj} (h : zah K ρ A w l o) (hb : BelO A' o) : zah K ρ A' w l o := by
  cases o with
  | row sz cells =>
    obtain ⟨c, el, lo, hi, p1, p2, p3, p4, p5, p6⟩ := h
    exact ⟨c, el, lo, hi, p1, p2, p3, p4, p5, fun j x hx => let ⟨cv, a1, a2⟩ := p6 j x hx; ⟨cv, a1, a2.restrict (hb j x hx)⟩⟩
  | mp es =>
    obtain ⟨en, cl, p1, p2, p3, p4⟩ := h
    exact ⟨en, cl, p1, p2, fun j kv x hkv hx => let ⟨a1, a2⟩ := p3 j kv x hkv hx; ⟨a1.restrict (hb j kv hkv).1, a2.restrict (hb j kv hkv).2⟩, p4⟩
  | it g c seen => exact ⟨h.1, h.2.1, hb⟩
theorem zah.bel {K : zh} {ρ : Nat → Loc} {A : Nat → Prop} {w : World} {l : Loc} {o : AObj} (h : zah K ρ A w l o) : BelO A o := by
  cases o with
  | row sz cells =>
    obtain ⟨_, _, _, _, _, _, _, _, _, p6⟩ := h
    intro j x hx
    obtain ⟨cv, _, hv⟩ := p6 j x hx
    exact hv.bel
  | mp es =>
    obtain ⟨en, cl, p1, p2, p3, _⟩ := h
    intro j kv hkv
    have hlt := (List.getElem?_eq_some_iff.1 hkv).1
    obtain ⟨a1, a2⟩ := p3 j kv _ hkv (Array.getElem?_eq_getElem (by omega))
    exact ⟨a1.bel, a2.bel⟩
  | it g c seen => exact h.2.2
theorem LC.of_qc {P : Program} {f : FuncId} {args : List AV} {r : AV} (h : QC P f args r) (hr : Bel (fun _ => False) r) (H0 : Heap) : LC P f args H0 [] [] [] r := by
  intro A ρ H w cargs ⟨N, hN⟩ s ha _ _
  have sN : Sim (· < N) ρ H w := ⟨fun g o ho => hN g (s.live g o ho), fun g o ho => (s.obj g o ho).mono rfl (fun _ _ h => h) (fun g hg => ⟨rfl, hN g hg⟩), s.inj, s.lay⟩
  have aN : LRel (Kof ρ H w) ρ (· < N) args cargs.toList := ⟨ha.1, fun j v c hv hc => (ha.2 j v c hv hc).mono (fun _ _ h => h) (fun g hg => ⟨rfl, hN g hg⟩)⟩
  refine zj (h H N ρ w cargs sN aN) fun cv w' ⟨r', H', nx', ρ', ⟨q0, q1, q2⟩, q3, q4, q5⟩ => ?_
  subst q0; subst q1; subst q2
  have hA : (fun x => A x ∨ x ∈ ([] : List Nat)) = A := by funext x; simp
  refine ⟨ρ', ?_, ?_, ?_⟩
  · rw [hA]
    exact ⟨s.live, fun g o ho => (q3.obj g o ho).restrict (s.obj g o ho).bel, q3.inj, q3.lay⟩
  · rw [hA]
    exact q4.restrict (hr.mono fun _ h => h.elim)
  · rw [hA]
    exact ⟨fun g hg => ⟨(q5.agree g (hN g hg)).1, hg⟩, q5.k, q5.os, q5.tape, q5.output, q5.size⟩
theorem zt.of_qc {P : Program} {f : FuncId} {args cap : List AV} {r : AV} {H : Heap} {nx : Nat} {k : Kt} (h : QC P f (args ++ cap) r) (hr : Bel (fun _ => False) r) (hk : k r [] [] []) : zt P (.clo f cap) args H nx k :=
  ⟨r, [], [], [], .inl rfl, LC.of_qc h hr H, hk⟩
end Go.Proofs.YtpbnaaoilgohkaaGreatDoor
set_option maxRecDepth 8000
namespace Go.Proofs.YtpbnaaoilgohkaaGreatDoor
open Go Go.RowKit
theorem JN.same {J : J3} {B : J3 → Prop} (h : B J) : JN J B := ⟨J, fun _ _ _ h => h, h⟩
theorem JN.cut {J : J3} {B : J3 → Prop} (I : J3) (h1 : ∀ xs H nx, I xs H nx → J xs H nx) (h2 : B I) : JN J B := ⟨I, h1, h2⟩
theorem LP.mk {F : J3 → J3} {xs : List AV} {H : Heap} {nx : Nat} (I : Nat → J3) (n : Nat) (h0 : I n xs H nx) (hs : ∀ n xs H nx, I n xs H nx → F (fun xs H nx => ∃ m, m < n ∧ I m xs H nx) xs H nx) : LP F xs H nx := ⟨I, n, h0, hs⟩
@[simp] theorem zayq (x : AV) (xs : List AV) : nth (x :: xs) 0 = x := rfl
@[simp] theorem zayp (x y : AV) (xs : List AV) : nth (x :: y :: xs) 1 = y := rfl
@[simp] theorem zayo (x y z : AV) (xs : List AV) : nth (x :: y :: z :: xs) 2 = z := rfl
@[simp] theorem zayn (x y z a : AV) (xs : List AV) : nth (x :: y :: z :: a :: xs) 3 = a := rfl
@[simp] theorem zaym (x y z a b : AV) (xs : List AV) : nth (x :: y :: z :: a :: b :: xs) 4 = b := rfl
@[simp] theorem zayl (x y z a b c : AV) (xs : List AV) : nth (x :: y :: z :: a :: b :: c :: xs) 5 = c := rfl
@[simp] theorem zayk (x y z a b c d : AV) (xs : List AV) : nth (x :: y :: z :: a :: b :: c :: d :: xs) 6 = d := rfl
@[simp] theorem zayj (x y z a b c d e : AV) (xs : List AV) : nth (x :: y :: z :: a :: b :: c :: d :: e :: xs) 7 = e := rfl
@[simp] theorem zayi (x y z a b c d e f : AV) (xs : List AV) : nth (x :: y :: z :: a :: b :: c :: d :: e :: f :: xs) 8 = f := rfl
@[simp] theorem zayh (x y z a b c d e f g : AV) (xs : List AV) : nth (x :: y :: z :: a :: b :: c :: d :: e :: f :: g :: xs) 9 = g := rfl
def OPTK {α : Type} (o : Option α) (k : α → Prop) : Prop := ∃ v, o = some v ∧ k v
@[simp ↓] theorem optk {α : Type} {v : α} {k : α → Prop} : OPTK (some v) k = k v := by simp [OPTK]
@[simp ↓] theorem zaij {α : Type} {k : α → Prop} : OPTK none k = False := by simp [OPTK]
@[congr] theorem zavm {α : Type} {o o' : Option α} {k : α → Prop} (h : o = o') : OPTK o k = OPTK o' k := by rw [h]
def ROWK (o : Option AObj) (k : Nat → List AV → Prop) : Prop := ∃ s cs, o = some (.row s cs) ∧ k s cs
@[simp ↓] theorem rowk {s : Nat} {cs : List AV} {k : Nat → List AV → Prop} : ROWK (some (.row s cs)) k = k s cs := by
  apply propext; constructor
  · rintro ⟨s', cs', h, hk⟩; cases h; exact hk
  · exact fun h => ⟨s, cs, rfl, h⟩
@[congr] theorem zavl {o o' : Option AObj} {k : Nat → List AV → Prop} (h : o = o') : ROWK o k = ROWK o' k := by rw [h]
def MAPK (o : Option AObj) (k : List (AV × AV) → Prop) : Prop := ∃ es, o = some (.mp es) ∧ k es
@[simp ↓] theorem mapk {es : List (AV × AV)} {k : List (AV × AV) → Prop} : MAPK (some (.mp es)) k = k es := by
  apply propext; constructor
  · rintro ⟨es', h, hk⟩; cases h; exact hk
  · exact fun h => ⟨es, rfl, h⟩
@[congr] theorem zawl {o o' : Option AObj} {k : List (AV × AV) → Prop} (h : o = o') : MAPK o k = MAPK o' k := by rw [h]
def PUTH (H : Heap) (g : Nat) (o : AObj) (k : Heap → Prop) : Prop := k (H.put g (some o))
@[simp ↓] theorem puth {H : Heap} {g : Nat} {o : AObj} {k : Heap → Prop} : PUTH H g o k = k (H.put g (some o)) := rfl
section
variable {x x' y y' z z' : AV} {k : AV → Prop} {H H' : Heap} {nx nx' : Nat}
@[congr] theorem pk_c (h : x = x') (h2 : y = y') (h3 : z = z') : PK x y z k = PK x' y' z' k := by rw [h, h2, h3]
@[congr] theorem bi_c {op : BinOp} (h : x = x') (h2 : y = y') : BI op x y k = BI op x' y' k := by rw [h, h2]
@[congr] theorem bs_c {op : BinOp} (h : x = x') (h2 : y = y') : BS op x y k = BS op x' y' k := by rw [h, h2]
@[congr] theorem bb_c {op : BinOp} (h : x = x') (h2 : y = y') : BB op x y k = BB op x' y' k := by rw [h, h2]
@[congr] theorem ba_c {s : List AV} {op : BinOp} (h : x = x') (h2 : y = y') : BA s op x y k = BA s op x' y' k := by rw [h, h2]
@[congr] theorem bf_c {op : BinOp} (h : x = x') (h2 : y = y') : BF op x y k = BF op x' y' k := by rw [h, h2]
@[congr] theorem bp_c {op : BinOp} (h : x = x') (h2 : y = y') : BP op x y k = BP op x' y' k := by rw [h, h2]
@[congr] theorem uo_c {op : UnOp} (h : x = x') : UO op x k = UO op x' k := by rw [h]
@[congr] theorem cv_c {ki : IntKind} (h : x = x') : CV ki x k = CV ki x' k := by rw [h]
@[congr] theorem ld_c {g : Bool} {s : Nat} (h : x = x') (h2 : H = H') : LD g s x H k = LD g s x' H' k := by rw [h, h2]
@[congr] theorem zayw {g : Bool} {s : Nat} {kr : AV → List Nat → Prop} (h : x = x') (h2 : H = H') : LDR g s x H kr = LDR g s x' H' kr := by rw [h, h2]
@[congr] theorem st_c {s : Nat} {kh : Heap → Prop} (h : x = x') (h3 : y = y') (h2 : H = H') : ST s x y H kh = ST s x' y' H' kh := by rw [h, h2, h3]
@[congr] theorem zaua {s : Nat} {kt : Kt} (h : x = x') (h3 : y = y') (h2 : H = H') : zbd s x y H kt = zbd s x' y' H' kt := by rw [h, h2, h3]
@[congr] theorem nc_c (h : x = x') : NC x k = NC x' k := by rw [h]
@[congr] theorem fa_c {o : Nat} (h : x = x') : FA o x k = FA o x' k := by rw [h]
@[congr] theorem fi_c {g : Bool} {s o : Nat} (h : x = x') : FI g s o x k = FI g s o x' k := by rw [h]
@[congr] theorem ia_c {s : Nat} (h : x = x') (h2 : y = y') : IA s x y k = IA s x' y' k := by rw [h, h2]
@[congr] theorem aa_c {s l : Nat} (h : x = x') (h2 : y = y') : AA s l x y k = AA s l x' y' k := by rw [h, h2]
@[congr] theorem ix_c (h : x = x') (h2 : y = y') : IX x y k = IX x' y' k := by rw [h, h2]
@[congr] theorem ai_c {g : Bool} {s l : Nat} (h : x = x') (h2 : y = y') : AI g s l x y k = AI g s l x' y' k := by rw [h, h2]
@[congr] theorem zays (h : x = x') : LNS x k = LNS x' k := by rw [h]
@[congr] theorem zayu (h : x = x') : LNL x k = LNL x' k := by rw [h]
@[congr] theorem zayt (h : x = x') (h2 : H = H') : LNM x H k = LNM x' H' k := by rw [h, h2]
@[congr] theorem ex_c {i : Nat} (h : x = x') : EX x i k = EX x' i k := by rw [h]
@[congr] theorem bd_c {pl : Nat → Option (Nat × Nat)} {zs : List AV} {ps ps' : List (Nat × AV)} (h : ps = ps') : BD pl zs ps k = BD pl zs ps' k := by rw [h]
@[congr] theorem zazf {l s : Nat} {zs : List AV} {ps ps' : List (Nat × AV)} {kc : List AV → Prop} (h : ps = ps') : BSL l s zs ps kc = BSL l s zs ps' kc := by rw [h]
@[congr] theorem mk_c {b : Nat} {kn : Nat → Prop} (h : x = x') (h2 : y = y') : MK b x y kn = MK b x' y' kn := by rw [h, h2]
@[congr] theorem mm_c {b : Bool} (h : x = x') (h2 : y = y') : MM b x y k = MM b x' y' k := by rw [h, h2]
@[congr] theorem zayr {z z' : AV} (h : x = x') (h2 : y = y') (h3 : z = z') : MX3 x y z k = MX3 x' y' z' k := by rw [h, h2, h3]
@[congr] theorem zayd {s n : Nat} {lo lo' hi hi' : Option AV} (h : x = x') (h2 : lo = lo') (h3 : hi = hi') (h4 : H = H') : SLP s n x lo hi H k = SLP s n x' lo' hi' H' k := by rw [h, h2, h3, h4]
@[congr] theorem zaze (h : x = x') (h2 : H = H') : CBS x H k = CBS x' H' k := by rw [h, h2]
@[congr] theorem zaza {ks : List UInt8 → Prop} (h : x = x') : CSB x ks = CSB x' ks := by rw [h]
@[congr] theorem zayc {lo lo' hi hi' : Option AV} (h : x = x') (h2 : lo = lo') (h3 : hi = hi') : SLS x lo hi k = SLS x' lo' hi' k := by rw [h, h2, h3]
@[congr] theorem sl_c {s : Nat} {lo lo' hi hi' : Option AV} (h : x = x') (h2 : lo = lo') (h3 : hi = hi') (h4 : H = H') : SL s x lo hi H k = SL s x' lo' hi' H' k := by rw [h, h2, h3, h4]
@[congr] theorem zaud {s : Nat} {lo lo' hi hi' : Option AV} {kt : Kt} (h : x = x') (h2 : lo = lo') (h3 : hi = hi') (h4 : H = H') : zby s x lo hi H kt = zby s x' lo' hi' H' kt := by rw [h, h2, h3, h4]
@[congr] theorem zayg {w w' : AV} (h : x = x') (h2 : y = y') (h3 : z = z') (h4 : w = w') : SL0 x y z w k = SL0 x' y' z' w' k := by rw [h, h2, h3, h4]
@[congr] theorem lk_c {zs : List AV} {g o : Bool} (h : x = x') (h2 : y = y') (h3 : H = H') : LK zs g x y o H k = LK zs g x' y' o H' k := by rw [h, h2, h3]
@[congr] theorem zawn {zs : List AV} {g o : Bool} {kt : Kt} (h : x = x') (h2 : y = y') (h3 : H = H') : LOOK zs g x y o H kt = LOOK zs g x' y' o H' kt := by rw [h, h2, h3]
@[congr] theorem mu_c {kh : Heap → Prop} (h : x = x') (h2 : y = y') (h3 : z = z') (h4 : H = H') : MU x y z H kh = MU x' y' z' H' kh := by rw [h, h2, h3, h4]
@[congr] theorem zawh {kt : Kt} (h : x = x') (h2 : y = y') (h3 : z = z') (h4 : H = H') : MUPD x y z H kt = MUPD x' y' z' H' kt := by rw [h, h2, h3, h4]
@[congr] theorem zazi {e b : Nat} {kk : AV → Heap → Nat → Prop} (h : x = x') (h2 : y = y') (h3 : H = H') (h4 : nx = nx') : APP e b x y H nx kk = APP e b x' y' H' nx' kk := by rw [h, h2, h3, h4]
@[congr] theorem zatv {e b : Nat} {kt : Kt} (h : x = x') (h2 : y = y') (h3 : H = H') (h4 : nx = nx') : zx e b x y H nx kt = zx e b x' y' H' nx' kt := by rw [h, h2, h3, h4]
@[congr] theorem cp_c {e : Nat} {kh : AV → Heap → Prop} (h : x = x') (h2 : y = y') (h3 : H = H') : CP e x y H kh = CP e x' y' H' kh := by rw [h, h2, h3]
@[congr] theorem zawy {e : Nat} {kt : Kt} (h : x = x') (h2 : y = y') (h3 : H = H') : COPY e x y H kt = COPY e x' y' H' kt := by rw [h, h2, h3]
@[congr] theorem zazd {A B : Prop} (h : x = x') : CND x A B = CND x' A B := by rw [h]
@[congr] theorem zawz {A B : Prop} (h : x = x') : CNDC x A B = CNDC x' A B := by rw [h]
@[congr] theorem bl_c {op : BinOp} (h : x = x') (h2 : y = y') : BL op x y k = BL op x' y' k := by rw [h, h2]
@[congr] theorem zaxa {P : Program} {bs bs' : List AV} {kk : AV → Heap → Nat → Prop} (h : x = x') (h2 : bs = bs') (h3 : H = H') (h4 : nx = nx') : CALL P x bs H nx kk = CALL P x' bs' H' nx' kk := by rw [h, h2, h3, h4]
@[congr] theorem zauy {P : Program} {bs bs' : List AV} {kt : Kt} (h : x = x') (h2 : bs = bs') (h3 : H = H') (h4 : nx = nx') : zt P x bs H nx kt = zt P x' bs' H' nx' kt := by rw [h, h2, h3, h4]
@[congr] theorem zatw {P : Program} {f : FuncId} {bs bs' : List AV} {kk : AV → Heap → Nat → Prop} (h2 : bs = bs') (h3 : H = H') (h4 : nx = nx') : za P f bs H nx kk = za P f bs' H' nx' kk := by rw [h2, h3, h4]
@[congr] theorem jn_c {J : J3} {B : J3 → Prop} : JN J B = JN J B := rfl
@[congr] theorem lp_c {F : J3 → J3} {xs xs' : List AV} (h : xs = xs') (h3 : H = H') (h4 : nx = nx') : LP F xs H nx = LP F xs' H' nx' := by rw [h, h3, h4]
@[congr] theorem zauv {l l' m m' : List Nat} {A : Prop} (h : l = l') (h2 : m = m') : zm l m A = zm l' m' A := by rw [h, h2]
@[congr] theorem zavg {p p' v v' : AV} {D D' : zg} {rd rd' : List Nat} {A : Prop} (h : p = p') (h2 : v = v') (h3 : D = D') (h4 : rd = rd') : SOFT p v D rd A = SOFT p' v' D' rd' A := by rw [h, h2, h3, h4]
@[congr] theorem zaux {g g' q q' : Nat} {v v' : AV} {D D' : zg} {A : Prop} (h : g = g') (h2 : q = q') (h3 : v = v') (h4 : D = D') : zjf g q v D A = zjf g' q' v' D' A := by rw [h, h2, h3, h4]
@[congr] theorem gd_c {b b' : Bool} {A : Prop} (h : b = b') : gd b A = gd b' A := by rw [h]
end
@[simp ↓] theorem zazb (A B : Prop) : CND (.bool true) A B = A := rfl
@[simp ↓] theorem zazc (A B : Prop) : CND (.bool false) A B = B := rfl
@[simp ↓ low] theorem cnd (b : Bool) (A B : Prop) : CND (.bool b) A B = ((b = true → A) ∧ (b = false → B)) := propext zamu
@[simp ↓] theorem zapl (A B : Prop) : CNDC (.bool true) A B = A := rfl
@[simp ↓] theorem zajg (A B : Prop) : CNDC (.bool false) A B = B := rfl
@[simp ↓] theorem zacd (A B : Prop) : CNDC .bany A B = (A ∧ B) := rfl
@[simp ↓ low] theorem cndc (b : Bool) (A B : Prop) : CNDC (.bool b) A B = ((b = true → A) ∧ (b = false → B)) := by cases b <;> simp
@[simp ↓] theorem pk (b : Bool) (x y : AV) (k : AV → Prop) : PK (.bool b) x y k = k (bif b then x else y) := rfl
variable {ki : IntKind} {a b : Int} {k : AV → Prop}
@[simp ↓] theorem zaxs : BI .add (.int ki a) (.int ki b) k = k (.int ki (ki.wrap (a + b))) := by simp [BI, BINI, IBIN, zao, PURE, qk]
@[simp ↓] theorem zaxg : BI .sub (.int ki a) (.int ki b) k = k (.int ki (ki.wrap (a - b))) := by simp [BI, BINI, IBIN, zao, PURE, qk]
@[simp ↓] theorem zaxn : BI .mul (.int ki a) (.int ki b) k = k (.int ki (ki.wrap (a * b))) := by simp [BI, BINI, IBIN, zao, PURE, qk]
@[simp ↓] theorem zaxk : BI .quo (.int ki a) (.int ki b) k = (b ≠ 0 ∧ k (.int ki (ki.wrap (a.tdiv b)))) := by simp [BI, BINI, IBIN, zao, PURE, qk]
@[simp ↓] theorem zaxj : BI .rem (.int ki a) (.int ki b) k = (b ≠ 0 ∧ k (.int ki (a.tmod b))) := by simp [BI, BINI, IBIN, zao, PURE, qk]
@[simp ↓] theorem zaxi {kj : IntKind} : BI .shl (.int ki a) (.int kj b) k = (0 ≤ b ∧ k (.int ki (ki.wrap (a * 2 ^ (min b.toNat ki.bits))))) := by simp [BI, BINI, IBIN, zao, PURE, qk]
@[simp ↓] theorem zaxh {kj : IntKind} : BI .shr (.int ki a) (.int kj b) k = (0 ≤ b ∧ k (.int ki (a.fdiv (2 ^ (min b.toNat ki.bits))))) := by simp [BI, BINI, IBIN, zao, PURE, qk]
@[simp ↓] theorem zapu : BI .eql (.int ki a) (.int ki b) k = k (.bool (decide (a = b))) := by simp [BI, BINI, IBIN, icmp, zao, PURE, qk]; rfl
@[simp ↓] theorem zaxm : BI .neq (.int ki a) (.int ki b) k = k (.bool (!decide (a = b))) := by simp [BI, BINI, IBIN, icmp, zao, PURE, qk]; rfl
@[simp ↓] theorem zaxo : BI .lss (.int ki a) (.int ki b) k = k (.bool (decide (a < b))) := by simp [BI, BINI, IBIN, icmp, zao, PURE, qk]
@[simp ↓] theorem zaxp : BI .leq (.int ki a) (.int ki b) k = k (.bool (decide (a ≤ b))) := by simp [BI, BINI, IBIN, icmp, zao, PURE, qk]
@[simp ↓] theorem zaxq : BI .gtr (.int ki a) (.int ki b) k = k (.bool (decide (b < a))) := by simp [BI, BINI, IBIN, icmp, zao, PURE, qk]
@[simp ↓] theorem zaxr : BI .geq (.int ki a) (.int ki b) k = k (.bool (decide (b ≤ a))) := by simp [BI, BINI, IBIN, icmp, zao, PURE, qk]
@[simp ↓] theorem zapv : BI .and (.int ki a) (.int ki b) k = k (.int ki (ki.wrap (BitVec.ofInt ki.bits a &&& BitVec.ofInt ki.bits b).toNat)) := by simp [BI, BINI, IBIN, zfo, zao, PURE, qk]
@[simp ↓] theorem zarf : BI .or (.int ki a) (.int ki b) k = k (.int ki (ki.wrap (BitVec.ofInt ki.bits a ||| BitVec.ofInt ki.bits b).toNat)) := by simp [BI, BINI, IBIN, zfo, zao, PURE, qk]
@[simp ↓] theorem zapt : BI .xor (.int ki a) (.int ki b) k = k (.int ki (ki.wrap (BitVec.ofInt ki.bits a ^^^ BitVec.ofInt ki.bits b).toNat)) := by simp [BI, BINI, IBIN, zfo, zao, PURE, qk]
@[simp ↓] theorem cv (kj : IntKind) : CV kj (.int ki a) k = k (.int kj (kj.wrap a)) := rfl
@[simp ↓] theorem zave (c : Bool) : UO .not (.bool c) k = k (.bool (!c)) := rfl
@[simp ↓] theorem zavf : UO .neg (.int ki a) k = k (.int ki (ki.wrap (0 - a))) := rfl
@[simp ↓] theorem zaxe (s t : List UInt8) : BS .eql (.str s) (.str t) k = k (.bool (decide (s = t))) := by
  have : (s == t) = decide (s = t) := by rw [Bool.eq_iff_iff]; simp
  rw [← this]; rfl
@[simp ↓] theorem zaxc (s t : List UInt8) : BS .neq (.str s) (.str t) k = k (.bool (!decide (s = t))) := by
  have : (s == t) = decide (s = t) := by rw [Bool.eq_iff_iff]; simp
  rw [← this]; rfl
@[simp ↓] theorem zaxd (s t : List UInt8) : BS .lss (.str s) (.str t) k = k (.bool (Op.bytesLess s t)) := rfl
@[simp ↓] theorem zaxf (s t : List UInt8) : BS .add (.str s) (.str t) k = (s.length + t.length ≤ 9223372036854775807 ∧ k (.str (s ++ t))) := rfl
@[simp ↓] theorem zaxw (c d : Bool) : BB .eql (.bool c) (.bool d) k = k (.bool (c == d)) := by simp [BB, BINB, zal, PURE, qk]
@[simp ↓] theorem zaxv (c d : Bool) : BB .neq (.bool c) (.bool d) k = k (.bool (c != d)) := by simp [BB, BINB, zal, PURE, qk]; rfl
@[simp ↓] theorem zawi : MM true (.int ki a) (.int ki b) k = k (.int ki (min a b)) := by
  have : (if b < a then b else a) = min a b := by split <;> omega
  simp [MM, zcq, PURE, qk, this]
@[simp ↓] theorem zawj : MM false (.int ki a) (.int ki b) k = k (.int ki (max a b)) := by
  have : (if b > a then b else a) = max a b := by split <;> omega
  simp only [MM, zcq, PURE, qk, cond_false, this, true_and]
@[simp ↓] theorem zauq {c : Int} : MX3 (.int ki a) (.int ki b) (.int ki c) k = k (.int ki (max (max a b) c)) := by
  have e : ∀ a b : Int, (if b > a then b else a) = max a b := by intro a b; split <;> omega
  simp only [MX3, MAX3, zcq, PURE, qk, cond_false, e, true_and]
@[simp ↓] theorem zauw (s : List UInt8) (ks : List UInt8 → Prop) : CSB (.str s) ks = ks s := rfl
@[simp ↓] theorem zaxy (zs xs ys : List AV) : BA zs .eql (.agg xs) (.agg ys) k = ((zc zs xs).isSome = true ∧ OPTK (zc xs ys) fun t => k (.bool t)) := by
  simp only [BA, BINA, zal, PURE, qk, OPTK]
  cases zc xs ys <;> simp
@[simp ↓] theorem zaxx (zs xs ys : List AV) : BA zs .neq (.agg xs) (.agg ys) k = ((zc zs xs).isSome = true ∧ OPTK (zc xs ys) fun t => k (.bool (!t))) := by
  simp only [BA, BINA, zal, PURE, qk, OPTK]
  cases zc xs ys <;> simp
@[simp] theorem zapz : zc [] [] = some true := rfl
@[simp] theorem zaqa {ki : IntKind} {a b : Int} {r s : List AV} : zc (.int ki a :: r) (.int ki b :: s) = (zc r s).map (fun t => a == b && t) := by simp [zc]
@[simp] theorem zapy {a b : List UInt8} {r s : List AV} : zc (.str a :: r) (.str b :: s) = (zc r s).map (fun t => a == b && t) := rfl
@[simp] theorem zapi {a b : Bool} {r s : List AV} : zc (.bool a :: r) (.bool b :: s) = (zc r s).map (fun t => a == b && t) := rfl
@[simp ↓] theorem zare (xs : List (List AV)) : BL .eql (.ro xs) .nils k = ((xs = [] → k .bany) ∧ (xs ≠ [] → k (.bool false))) := by simp [BL, BINL, zal, PURE, qk]
@[simp ↓] theorem zapr (g o n : Nat) : BL .eql (.slc g o n) .nils k = ((n = 0 → k .bany) ∧ (n ≠ 0 → k (.bool false))) := by simp [BL, BINL, zal, PURE, qk]
@[simp ↓] theorem zazg : BL .eql .zs .nils k = k .bany := by simp [BL, BINL, zal, PURE, qk]
@[simp ↓] theorem zaps : BL .eql .nils .nils k = k (.bool true) := by simp [BL, BINL, zal, PURE, qk]
@[simp ↓] theorem zaxt : BF .eql .inil .inil k = k (.bool true) := by simp [BF, BINF, zal, PURE, qk]
@[simp ↓] theorem zavb : BF .neq .inil .inil k = k (.bool false) := by simp [BF, BINF, zal, PURE, qk]
@[simp ↓] theorem zaxu : BF .eql .ifc .inil k = k (.bool false) := by simp [BF, BINF, zal, PURE, qk]
@[simp ↓] theorem zavc : BF .neq .ifc .inil k = k (.bool true) := by simp [BF, BINF, zal, PURE, qk]
@[simp ↓] theorem lns (s : List UInt8) : LNS (.str s) k = k (.int .i64 (s.length : Int)) := rfl
@[simp ↓] theorem zawp (xs : List (List AV)) : LNL (.ro xs) k = k (.int .i64 (xs.length : Int)) := rfl
@[simp ↓] theorem zaur (g off len : Nat) : LNL (.slc g off len) k = k (.int .i64 (len : Int)) := rfl
@[simp ↓] theorem zatl : LNL .nils k = k (.int .i64 0) := rfl
@[simp ↓] theorem zawo : LNL .zs k = k (.int .i64 0) := rfl
@[simp ↓] theorem zawr (s : List UInt8) (n : Int) : IX (.str s) (.int ki n) k = (0 ≤ n ∧ n < s.length ∧ k (.int .u8 ((s.getD n.toNat 0).toNat : Int))) := rfl
@[simp ↓] theorem zanm (esz : Nat) (xs : List (List AV)) (n : Int) : IA esz (.ro xs) (.int ki n) k = (0 ≤ n ∧ n < xs.length ∧ (xs.getD n.toNat []).length = esz ∧ k (.rop (xs.getD n.toNat []) 0)) := rfl
@[simp ↓] theorem zaph (esz g off len : Nat) (n : Int) : IA esz (.slc g off len) (.int ki n) k = (0 ≤ n ∧ n < len ∧ k (.ptr g (off + n.toNat * esz))) := rfl
@[simp ↓] theorem zawv (o : Nat) (cs : List AV) (q : Nat) : FA o (.rop cs q) k = k (.rop cs (q + o)) := rfl
@[simp ↓] theorem zaww (o g q : Nat) : FA o (.ptr g q) k = k (.ptr g (q + o)) := rfl
@[simp ↓] theorem zawd (cs : List AV) (q : Nat) : NC (.rop cs q) k = k (.rop cs q) := rfl
@[simp ↓] theorem zawe (g q : Nat) : NC (.ptr g q) k = k (.ptr g q) := rfl
@[simp] theorem zash : (AV.int ki a).cells = [AV.int ki a] := rfl
@[simp] theorem zase (s : List UInt8) : (AV.str s).cells = [AV.str s] := rfl
@[simp] theorem zaqy (c : Bool) : (AV.bool c).cells = [AV.bool c] := rfl
@[simp] theorem zajm (xs : List AV) : (AV.agg xs).cells = xs := rfl
@[simp] theorem zasf (g o n : Nat) : (AV.slc g o n).cells = [AV.slc g o n] := rfl
@[simp] theorem zatu (xs : List (List AV)) : (AV.ro xs).cells = [AV.ro xs] := rfl
@[simp] theorem zasm : (AV.int ki a).sure = true := rfl
@[simp] theorem zasj (s : List UInt8) : (AV.str s).sure = true := rfl
@[simp] theorem zaqz : AV.bany.cells = [AV.bany] := rfl
@[simp] theorem zari (c : Bool) : (AV.bool c).sure = true := rfl
@[simp] theorem zakv (xs : List AV) : (AV.agg xs).sure = true := rfl
@[simp] theorem zask (g o n : Nat) : (AV.slc g o n).sure = true := rfl
@[simp] theorem zaty (xs : List (List AV)) : (AV.ro xs).sure = true := rfl
@[simp] theorem zauo : (AV.int ki a).one = true := rfl
@[simp] theorem zaul (s : List UInt8) : (AV.str s).one = true := rfl
@[simp] theorem zati (c : Bool) : (AV.bool c).one = true := rfl
@[simp] theorem zaum (g o n : Nat) : (AV.slc g o n).one = true := rfl
@[simp] theorem zavo (xs : List (List AV)) : (AV.ro xs).one = true := rfl
@[simp ↓] theorem zawx (vs : List AV) (i : Nat) : EX (.tup vs) i k = OPTK vs[i]? k := by
  simp only [EX, EXTR, PURE, qk, OPTK]
  cases vs[i]? <;> simp
theorem i64w {n : Int} (h : -9223372036854775808 ≤ n ∧ n ≤ 9223372036854775807) : IntKind.i64.wrap n = n := IntWalk.i64_in n h
theorem zalv {H : Heap} {nx : Nat} {c : Bool} : Frz H nx (.bool c) (.bool c) := .same _ (.bool _)
end Go.Proofs.YtpbnaaoilgohkaaGreatDoor
