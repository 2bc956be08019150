/- The code, by abstract operations: what is to be shown of it, and that this is enough. A function's contract, from its code. Structures that are compared by their cells. The program's types, as its own table has them. What is to be shown of each function, written out. What a call made may be forgotten, or is never written again: then it is read by value. How what is to be shown is taken apart. -/
import Derived.Test.YtiinnjjmoifoeaaGreatDoorG4
import Derived.Test.YtiinnjjmoifoeaaGreatDoorG3
import Derived.Laws.StructEq
import Derived.Test.YtiinnjjmoifoeaaGreatDoorChecked
import Derived.KernelRfl
import Derived.IntWalk
set_option linter.unusedSimpArgs false
set_option linter.unusedVariables false
set_option maxRecDepth 8000
namespace Go.Proofs.YtiinnjjmoifoeaaGreatDoor
open Go Go.RowKit
section
variable (P : Program) (T : Nat → Option AT) (eqs : Nat → Bool)
def zcc : Code → Nat
  | .region id _ _ => id
  | .seq a _ => zcc a
  | .cond _ a _ => zcc a
  | .block _ a => zcc a
  | .loop a => zcc a
  | .scope a => zcc a
  | _ => 100000
variable (lv : Nat → Nat → Option (List Nat))
def join (L : Option (List Nat)) (J : K3) (B : K3 → K3) : K3 := match L with
  | none => B J
  | some L => fun env H nx => JN (fun xs H nx => J (zgf L xs) H nx) fun j => B (fun env H nx => j (L.map env) H nx) env H nx
def lvL (L : Option (List Nat)) : List Nat := match L with
  | none => []
  | some L => L
def adr (ops : Array Oper) (K : K3) : K3 := fun env H nx => dops P T eqs ops.toList ops.toList [] env H nx [] fun env H nx log => zie log (K env H nx) (zhe ops)
def zsn (c : Operand) (b : Bool) (env : Env) : Env := match c with
  | .tmp t => env.put t (.bool b)
  | _ => env
theorem St.know {N : Nat} {env : Env} {H : Heap} {nx : Nat} {ρ : Nat → Loc} {w : World} {a : Act} (h : St N env H nx ρ w a) {c : Operand} {b : Bool} (hc : a.eval c = .bool b) : St N (zsn c b env) H nx ρ w a := by
  cases c with
  | tmp t =>
    refine ⟨h.sim, fun u => ?_, h.size, h.defers⟩
    have := zbu env (some t) (.bool b) u
    simp only [Env.putO] at this
    show VRel _ _ _ (env.put t (.bool b) u) _
    rw [this]
    split
    · rename_i e; cases e
      have e : a.tmps.getD t undef = .bool b := hc
      rw [e]; exact .bool b
    · exact h.env u
  | const v => exact h
  | global g => exact h
  | func f => exact h
def aw : Code → K3 → (Nat → K3) → K3 → K3
  | .skip, kn, _, _ => kn
  | .label _, kn, _, _ => kn
  | .region id ops false, kn, _, _ => join (lv 0 id) kn fun K => aops P T eqs ops.toList ops.toList [] K
  | .region id ops true, kn, _, _ => join (lv 0 id) kn fun K => adr P T eqs ops K
  | .seq a b, kn, kx, kr => join (lv 3 (zcc b)) (aw b kn kx kr) fun K => aw a K kx kr
  | .cond c a b, kn, kx, kr => fun env H nx => CNDC (env.ev c) (aw a kn kx kr (zsn c true env) H nx) (aw b kn kx kr (zsn c false env) H nx)
  | .block id a, kn, kx, kr => join (lv 1 id) kn fun K => aw a K (fun i => bif Nat.beq i id then K else kx i) kr
  | .loop a, _, kx, kr => fun env H nx => LP (fun K xs H nx => aw a (fun env H nx => K ((lvL (lv 2 (zcc a))).map env) H nx) kx kr (zgf (lvL (lv 2 (zcc a))) xs) H nx) ((lvL (lv 2 (zcc a))).map env) H nx
  | .exit i, _, kx, _ => kx i
  | .ret, _, _, kr => kr
  | .scope a, kn, kx, kr => aw a kn kx kr
  | _, _, _, _ => fun _ _ _ => False
end
def wfC (N : Nat) : Code → Bool
  | .region _ ops drawn => zei N ops.toList && (!drawn || zjn ops N)
  | .seq a b => wfC N a && wfC N b
  | .cond _ a b => wfC N a && wfC N b
  | .block _ a => wfC N a
  | .loop a => wfC N a
  | .scope a => wfC N a
  | _ => true
section
variable {P : Program} {T : Nat → Option AT} {eqs : Nat → Bool} (hT : TOk P T) (hE : EOk P T eqs) {lv : Nat → Nat → Option (List Nat)} {N : Nat}
variable (nx0 : Nat) (ρ0 : Nat → Loc) (H0 : Heap) (w0 : World)
def RS (N : Nat) (K : K3) (a : Act) (w : World) : Prop := ∃ env H nx ρ, K env H nx ∧ St N env H nx ρ w a ∧ Fr (· < nx0) ρ0 H0 w0 (· < nx) ρ H w
def QS (N : Nat) (kn : K3) (kx : Nat → K3) (kr : K3) : Exit → Act → World → Prop
  | .normal, a, w => RS nx0 ρ0 H0 w0 N kn a w
  | .exit i, a, w => RS nx0 ρ0 H0 w0 N (kx i) a w
  | .ret, a, w => RS nx0 ρ0 H0 w0 N kr a w
  | _, _, _ => False
include hT hE in
theorem zfd {all : Array Oper} {kn' : K3} {kx : Nat → K3} {kr : K3} : ∀ (rest : List Oper) (kn : zae) (env : Env) (H : Heap) (nx : Nat), zei N rest = true → (∀ t, (∃ o ∈ all.toList, o.dst = some t) → t < N) → aops P T eqs all.toList rest kn kn' env H nx → KnOk kn env →
    ∀ (ρ : Nat → Loc) (w : World) (a : Act), St N env H nx ρ w a → Fr (· < nx0) ρ0 H0 w0 (· < nx) ρ H w → wpList P all (QS nx0 ρ0 H0 w0 N kn' kx kr) rest a w
  | [], kn, env, H, nx, _, _, h, _, ρ, w, a, st, f => wpList_nil ⟨env, H, nx, ρ, h, st, f⟩
  | o :: r, kn, env, H, nx, hd, hall, h, hkn, ρ, w, a, st, f => by
    simp only [zei, Bool.and_eq_true] at hd
    have hdo : ∀ t, o.dst = some t → t < N := fun t ht => by have := hd.1; rw [ht] at this; simpa using this
    have run : ∀ (kn1 : zae) (env1 : Env), KnOk kn1 env1 → St N env1 H nx ρ w a → zih P T eqs o env1 H nx (fun v H nx => aops P T eqs all.toList r (zax o.dst kn1) kn' (env1.putO o.dst v) H nx) → Region.wanted o (yielded all a.tmps) = true →
        wpList P all (QS nx0 ρ0 H0 w0 N kn' kx kr) (o :: r) a w := by
      intro kn1 env1 hk1 st1 hs hw
      refine wpList_step fun K hK => ?_
      rw [if_pos hw]
      refine zex (zqj hT hE hs st1) fun cv w' ⟨v, H', nx', ρ', q1, q2, q3, q4⟩ => hK _ _ ?_
      exact zfd r _ _ H' nx' hd.2 hall q1 (hk1.drop o.dst v) ρ' w' _ (st1.put q2 q4 hdo q3) (f.trans q4)
    have skip : ∀ (kn1 : zae) (env1 : Env), KnOk kn1 env1 → St N env1 H nx ρ w a → aops P T eqs all.toList r (zbc o.dst kn1) kn' (env1.putO o.dst .und) H nx → Region.wanted o (yielded all a.tmps) = false →
        wpList P all (QS nx0 ρ0 H0 w0 N kn' kx kr) (o :: r) a w := by
      intro kn1 env1 hk1 st1 hs hw
      refine wpList_step fun K hK => ?_
      rw [if_neg (by rw [hw]; simp)]
      exact hK _ _ (zfd r _ _ H nx hd.2 hall hs (hk1.skip o.dst) ρ w _ (st1.put st1.sim (Fr.refl _ _ _ _) hdo .und) f)
    simp only [aops] at h
    split at h
    · rename_i hg
      exact run kn env hkn st h (by simp [Region.wanted, hg])
    · rename_i j want hg
      split at h
      · exact h.elim
      · rename_i t ht
        have hy := zhi ht a
        have htN : t < N := by
          obtain ⟨o', ho', hdst⟩ := Option.bind_eq_some_iff.1 ht
          exact hall t ⟨o', List.mem_of_getElem? ho', hdst⟩
        have hget : a.tmps[t]? = some (a.tmps.getD t undef) := by simp [Array.getD, st.size, htN]
        rw [hget] at hy
        have hwant : Region.wanted o (yielded all a.tmps) = (yielded all a.tmps j == some want) := by simp [Region.wanted, hg]
        have hbool : ∀ b, env t = .bool b → Region.wanted o (yielded all a.tmps) = (b == want) := by
          intro b hb
          have := st.env t
          rw [hb] at this
          generalize a.tmps.getD t undef = tv at this hy
          cases this
          rw [hwant, hy]; simp
        split at h
        · rename_i hk
          have hu := hkn t none (zbf hk)
          simp only at hu
          refine skip kn env hkn st h ?_
          have := st.env t
          rw [hu] at this
          generalize a.tmps.getD t undef = tv at this hy
          cases this
          rw [hwant, hy]; rfl
        · rename_i b hk
          have hb := hkn t (some b) (zbf hk)
          simp only at hb
          cases hbw : (b == want) with
          | true => rw [hbw] at h; exact run kn env hkn st h (by rw [hbool b hb, hbw])
          | false => rw [hbw] at h; exact skip kn env hkn st h (by rw [hbool b hb, hbw])
        · obtain ⟨b, hb, h1, h2⟩ := zno h
          · cases b with
            | true =>
              have h := h1 rfl
              have hk2 := hkn.know hb
              have he := zfq hb
              rw [he] at hk2 h
              cases want with
              | true => exact run _ env hk2 st h (by rw [hbool _ hb]; rfl)
              | false => exact skip _ env hk2 st h (by rw [hbool _ hb]; rfl)
            | false =>
              have h := h2 rfl
              have hk2 := hkn.know hb
              have he := zfq hb
              rw [he] at hk2 h
              cases want with
              | true => exact skip _ env hk2 st h (by rw [hbool _ hb]; rfl)
              | false => exact run _ env hk2 st h (by rw [hbool _ hb]; rfl)
theorem zlh {all : List Oper} (h : zei N all = true) : ∀ t, (∃ o ∈ all, o.dst = some t) → t < N := by
  induction all with
  | nil => rintro t ⟨o, ho, _⟩; cases ho
  | cons x r ih =>
    simp only [zei, Bool.and_eq_true] at h
    rintro t ⟨o, ho, hd⟩
    rcases List.mem_cons.1 ho with rfl | ho
    · have := h.1; rw [hd] at this; simpa using this
    · exact ih h.2 t ⟨o, ho, hd⟩
theorem RS.mono {K K' : K3} {a : Act} {w : World} (h : RS nx0 ρ0 H0 w0 N K a w) (hk : ∀ env H nx, K env H nx → K' env H nx) : RS nx0 ρ0 H0 w0 N K' a w := by
  obtain ⟨env, H, nx, ρ, h1, h2, h3⟩ := h
  exact ⟨env, H, nx, ρ, hk _ _ _ h1, h2, h3⟩
theorem RS.join {L : List Nat} {I : J3} {J : K3} (hI : ∀ xs H nx, I xs H nx → J (zgf L xs) H nx) {a : Act} {w : World} (h : RS nx0 ρ0 H0 w0 N (fun env H nx => I (L.map env) H nx) a w) : RS nx0 ρ0 H0 w0 N J a w := by
  obtain ⟨env, H, nx, ρ, h1, h2, h3⟩ := h
  exact ⟨zgf L (L.map env), H, nx, ρ, hI _ _ _ h1, h2.weak (zjq env L), h3⟩
theorem zaal (p : Nat → Prop) : ∀ n, p n → ∃ m, p m ∧ ∀ k, p k → m ≤ k := by
  intro n
  induction n using Nat.strongRecOn with
  | _ n ih =>
    intro h
    by_cases hk : ∃ k, k < n ∧ p k
    · obtain ⟨k, h1, h2⟩ := hk
      exact ih k h1 h2
    · exact ⟨n, h, fun k hp => by
        rcases Nat.lt_or_ge k n with hl | hl
        · exact absurd ⟨k, hl, hp⟩ hk
        · exact hl⟩
open Classical in
noncomputable def zkc (p : Nat → Prop) : Nat := if h : ∃ m, p m ∧ ∀ k, p k → m ≤ k then Classical.choose h else 0
theorem zjm {p : Nat → Prop} {n : Nat} (h : p n) : p (zkc p) ∧ zkc p ≤ n := by
  have he := zaal p n h
  unfold zkc
  rw [dif_pos he]
  exact ⟨(Classical.choose_spec he).1, (Classical.choose_spec he).2 n h⟩
theorem zdt.le {all : List Oper} : ∀ {os : List Oper} {L : List Rec} {env : Env} {H : Heap} {nx : Nat} {env' : Env} {H' : Heap} {nx' : Nat}, zdt P all os L env H nx env' H' nx' → nx ≤ nx'
  | [], [], _, _, _, _, _, _, ⟨_, _, h⟩ => by omega
  | [], _ :: _, _, _, _, _, _, _, h => h.elim
  | _ :: _, [], _, _, _, _, _, _, h => h.elim
  | _ :: _, _ :: _, _, _, _, _, _, _, ⟨_, _, _, h⟩ => by have := h.le; omega
include hT hE in
theorem znu (hM : P.follows .mixedOrders = true) {id : Nat} {ops : Array Oper} (hok : zjn ops N = true) {K : K3} {env : Env} {H : Heap} {nx : Nat} (h : adr P T eqs ops K env H nx) {ρ : Nat → Loc} {w : World} {a : Act} (st : St N env H nx ρ w a)
    (f : Fr (· < nx0) ρ0 H0 w0 (· < nx) ρ H w) {Q : Exit → Act → World → Prop} (hQ : ∀ a w, RS nx0 ρ0 H0 w0 N K a w → Q .normal a w) : (Code.region id ops true).wp P Q a w := by
  obtain ⟨L, env', H', nx', hch, hK⟩ := zid hT hE _ _ _ _ _ _ (fun t b hm => by cases hm) h
  rw [List.nil_append] at hK
  obtain ⟨hco, hK⟩ := (znn _).1 hK
  have hfalse : ∀ i, (Array.replicate ops.size false).getD i false = false := fun i => by
    simp only [Array.getD]
    split <;> simp
  have hls : lsOf (Array.replicate ops.size false) = fun _ => false := funext hfalse
  have hA : AD (· < nx) L (fun _ => false) = (· < nx) := by
    funext g; simp [AD]
  have hle : nx ≤ nx' := hch.le
  have hA2 : (fun g => g < nx ∨ nx ≤ g ∧ g < nx') = (fun g => g < nx') := by funext g; simp; omega
  refine wp_region_any hM (zkj (B := (· < nx)) (ρ0 := ρ) (w0 := w) hok hch hco (fun g h1 _ (h2 : g < nx) => by omega) ⟨nx, fun g h => h⟩ (fun a' w' ρ' s' v' t' d' f' => ?_) _ _ _ _ ⟨by simp, (fun i hi => by rw [hfalse] at hi; cases hi), st.size, st.defers, ρ, ?_, ?_, ?_⟩ ?_)
  · rw [hA2] at s' v' f'
    exact hQ a' w' ⟨env', H', nx', ρ', hK, ⟨s', v', t', d'⟩, f.trans f'⟩
  · have e : ({ w with drawn := w.drawn + 1 } : World).heap = w.heap := rfl
    rw [hls, hA, zfs.hD_none]
    exact st.sim.heap e
  · have e : ({ w with drawn := w.drawn + 1 } : World).heap = w.heap := rfl
    rw [hls, hA, zfs.hD_none]
    exact ⟨fun g hg => ⟨rfl, hg⟩, fun b o hb => by rw [zce e]; exact hb, rfl, rfl, rfl, Nat.le_refl _⟩
  · intro t
    have e : ({ w with drawn := w.drawn + 1 } : World).heap = w.heap := rfl
    rw [hls, hA, zfs.hD_none, zce e]
    have : eD (fun _ => false) ops.toList L 0 env t = env t := by
      rw [zif.eD_off _ _ _ _ fun _ _ => rfl]
    rw [this]
    exact st.env t
  · exact Nat.le_trans (List.length_filter_le _ _) (by simp)
include hT hE in
theorem zbb (hM : P.follows .mixedOrders = true) : ∀ (c : Code) (kn : K3) (kx : Nat → K3) (kr : K3), wfC N c = true → ∀ (a : Act) (w : World), RS nx0 ρ0 H0 w0 N (aw P T eqs lv c kn kx kr) a w → c.wp P (QS nx0 ρ0 H0 w0 N kn kx kr) a w
  | .skip, kn, kx, kr, _, a, w, h => wp_skip h
  | .label _, kn, kx, kr, _, a, w, h => wp_label h
  | .exit i, kn, kx, kr, _, a, w, h => wp_exit h
  | .ret, kn, kx, kr, _, a, w, h => wp_ret h
  | .scope c, kn, kx, kr, hwf, a, w, h => by
    refine wp_scope_straight (Code.wp_mono (fun e a w q => ?_) (zbb hM c kn kx kr hwf a w h))
    cases e <;> first | exact q | exact q.elim
  | .region id ops false, kn, kx, kr, hwf, a, w, h => by
    simp only [aw] at h
    simp only [wfC, Bool.not_false, Bool.true_or, Bool.and_true] at hwf
    cases hg : lv 0 id with
    | none =>
      rw [hg] at h
      obtain ⟨env, H, nx, ρ, h1, h2, h3⟩ := h
      exact wp_region_list (zfd hT hE nx0 ρ0 H0 w0 ops.toList [] env H nx hwf (zlh hwf) h1 (fun t b hm => by cases hm) ρ w a h2 h3)
    | some L =>
      rw [hg] at h
      obtain ⟨env, H, nx, ρ, ⟨I, hI, h1⟩, h2, h3⟩ := h
      have := wp_region_list (id := id) (zfd (kx := kx) (kr := kr) hT hE nx0 ρ0 H0 w0 ops.toList [] env H nx hwf (zlh hwf) h1 (fun t b hm => by cases hm) ρ w a h2 h3)
      refine Code.wp_mono (fun e a w q => ?_) this
      cases e <;> first | exact q.elim | exact RS.join nx0 ρ0 H0 w0 hI q | exact q
  | .seq x y, kn, kx, kr, hwf, a, w, h => by
    simp only [wfC, Bool.and_eq_true] at hwf
    refine wp_seq ?_
    simp only [aw] at h
    cases hb : lv 3 (zcc y) with
    | none =>
      rw [hb] at h
      refine Code.wp_mono (fun e a w q => ?_) (zbb hM x (aw P T eqs lv y kn kx kr) kx kr hwf.1 a w h)
      cases e <;> first | exact q | exact q.elim | exact zbb hM y kn kx kr hwf.2 _ _ q
    | some L =>
      rw [hb] at h
      obtain ⟨env, H, nx, ρ, ⟨I, hI, h1⟩, h2, h3⟩ := h
      refine Code.wp_mono (fun e a w q => ?_) (zbb hM x (fun env H nx => I (L.map env) H nx) kx kr hwf.1 a w ⟨env, H, nx, ρ, h1, h2, h3⟩)
      cases e <;> first | exact q | exact q.elim | exact zbb hM y kn kx kr hwf.2 _ _ (RS.join nx0 ρ0 H0 w0 hI q)
  | .cond c x y, kn, kx, kr, hwf, a, w, h => by
    simp only [wfC, Bool.and_eq_true] at hwf
    obtain ⟨env, H, nx, ρ, h1, h2, h3⟩ := h
    simp only [aw] at h1
    obtain ⟨b, hc, h1⟩ := ztb h1 (h2.ev c)
    · refine wp_cond hc ?_
      cases b with
      | true => exact zbb hM x kn kx kr hwf.1 a w ⟨_, H, nx, ρ, h1.1 rfl, h2.know hc, h3⟩
      | false => exact zbb hM y kn kx kr hwf.2 a w ⟨_, H, nx, ρ, h1.2 rfl, h2.know hc, h3⟩
  | .block id x, kn, kx, kr, hwf, a, w, h => by
    refine wp_block ?_
    simp only [aw] at h
    cases hb : lv 1 id with
    | none =>
      rw [hb] at h
      refine Code.wp_mono (fun e a w q => ?_) (zbb hM x kn (fun i => bif Nat.beq i id then kn else kx i) kr hwf a w h)
      cases e <;> first | exact q | exact q.elim | skip
      rename_i i
      simp only [Exit.inBlock]
      simp only [QS] at q
      by_cases hi : i = id
      · subst hi; rw [if_pos rfl]; simpa [QS] using q
      · have : Nat.beq i id = false := by rw [← Bool.not_eq_true, Nat.beq_eq]; exact hi
        rw [if_neg hi]; rw [this] at q; exact q
    | some L =>
      rw [hb] at h
      obtain ⟨env, H, nx, ρ, ⟨I, hI, h1⟩, h2, h3⟩ := h
      refine Code.wp_mono (fun e a w q => ?_) (zbb hM x (fun env H nx => I (L.map env) H nx) (fun i => bif Nat.beq i id then (fun env H nx => I (L.map env) H nx) else kx i) kr hwf a w ⟨env, H, nx, ρ, h1, h2, h3⟩)
      cases e <;> first | exact q.elim | skip
      case normal => exact RS.join nx0 ρ0 H0 w0 hI q
      case ret => exact q
      case exit i =>
        simp only [Exit.inBlock]
        simp only [QS] at q
        by_cases hi : i = id
        · subst hi; rw [if_pos rfl]
          have q' : RS nx0 ρ0 H0 w0 N (fun env H nx => I (L.map env) H nx) a w := by simpa using q
          exact RS.join nx0 ρ0 H0 w0 hI q'
        · have : Nat.beq i id = false := by rw [← Bool.not_eq_true, Nat.beq_eq]; exact hi
          rw [if_neg hi]; rw [this] at q; exact q
  | .loop x, kn, kx, kr, hwf, a, w, h => by
    obtain ⟨env, H, nx, ρ, ⟨I, n, h0, hstep⟩, h2, h3⟩ := h
    let L := lvL (lv 2 (zcc x))
    let Rn : Nat → Act → World → Prop := fun n a w => ∃ xs H nx ρ, I n xs H nx ∧ St N (zgf L xs) H nx ρ w a ∧ Fr (· < nx0) ρ0 H0 w0 (· < nx) ρ H w
    have hR0 : ∃ n, Rn n a w := ⟨n, _, H, nx, ρ, h0, h2.weak (zjq env L), h3⟩
    refine wp_loop (fun a w => ∃ n, Rn n a w) (fun a w => zkc fun n => Rn n a w) hR0 fun a w hI => ?_
    obtain ⟨n1, hn1⟩ := hI
    have hn := (zjm (p := fun n => Rn n a w) hn1).1
    obtain ⟨xs, H, nx, ρ, q1, q2, q3⟩ := hn
    have hb := hstep _ xs H nx q1
    refine Code.wp_mono (fun e a' w' q => ?_) (zbb hM x _ kx kr hwf a w ⟨zgf L xs, H, nx, ρ, hb, q2, q3⟩)
    cases e <;> first | exact q | exact q.elim | skip
    obtain ⟨env', H', nx', ρ', ⟨m, hm, hIm⟩, r2, r3⟩ := q
    have hRm : Rn m a' w' := ⟨_, H', nx', ρ', hIm, r2.weak (zjq env' L), r3⟩
    refine ⟨⟨m, hRm⟩, ?_⟩
    exact Nat.lt_of_le_of_lt (zjm (p := fun n => Rn n a' w') hRm).2 hm
  | .region id ops true, kn, kx, kr, hwf, a, w, h => by
    simp only [aw] at h
    simp only [wfC, Bool.not_true, Bool.false_or, Bool.and_eq_true] at hwf
    cases hg : lv 0 id with
    | none =>
      rw [hg] at h
      obtain ⟨env, H, nx, ρ, h1, h2, h3⟩ := h
      exact znu hT hE nx0 ρ0 H0 w0 hM hwf.2 h1 h2 h3 fun a w h => h
    | some L =>
      rw [hg] at h
      obtain ⟨env, H, nx, ρ, ⟨I, hI, h1⟩, h2, h3⟩ := h
      exact znu hT hE nx0 ρ0 H0 w0 hM hwf.2 h1 h2 h3 fun a w h => RS.join nx0 ρ0 H0 w0 hI h
  | .rangeFunc _ _ _ _, _, _, _, _, _, _, ⟨_, _, _, _, h, _, _⟩ => h.elim
  | .goto _, _, _, _, _, _, _, ⟨_, _, _, _, h, _, _⟩ => h.elim
  | .refuse _, _, _, _, _, _, _, ⟨_, _, _, _, h, _, _⟩ => h.elim
end
end Go.Proofs.YtiinnjjmoifoeaaGreatDoor
set_option maxRecDepth 8000
namespace Go.Proofs.YtiinnjjmoifoeaaGreatDoor
open Go Go.RowKit
section
variable (T : Nat → Option AT)
def aret : List ResultVar → Env → Heap → (List AV → Prop) → Prop
  | [], _, _, k => k []
  | .tmp t :: r, env, H, k => aret r env H fun vs => k (env t :: vs)
  | .cell a t :: r, env, H, k => match T t with
    | some at_ => LOAD at_.kind.isAgg at_.size (env a) H fun v _ _ _ => aret r env H fun vs => k (v :: vs)
    | none => False
end
def RET1 (vs : List AV) (k : AV → Prop) : Prop := match vs with
  | [v] => k v
  | vs => k (.tup vs)
def env0 (args : List AV) : Env := fun t => nth args t
def lvOf : List (Nat × Nat × List Nat) → Nat → Nat → Option (List Nat)
  | [], _, _ => none
  | (a, b, l) :: r, k, i => bif Nat.beq a k && Nat.beq b i then some l else lvOf r k i
def zw (fn : Func) : Code := match fn.body with
  | some c => c
  | none => .skip
def body (P : Program) (T : Nat → Option AT) (eqs : Nat → Bool) (lv : Nat → Nat → Option (List Nat)) (fn : Func) (c : Code) (args : List AV) (H : Heap) (nx : Nat) (Q : AV → Heap → Nat → Prop) : Prop :=
  aw P T eqs lv c (fun env H nx => aret T fn.results.toList env H fun vs => RET1 vs fun v => Q v H nx) (fun _ _ _ _ => False) (fun env H nx => aret T fn.results.toList env H fun vs => RET1 vs fun v => Q v H nx) (env0 args) H nx
section
variable {P : Program} {T : Nat → Option AT} {eqs : Nat → Bool} (hT : TOk P T) (hE : EOk P T eqs) {lv : Nat → Nat → Option (List Nat)}
def zbd (tmps : Array Value) (r : ResultVar) : Sem Value := match r with
  | .tmp t => pure (tmps.getD t undef)
  | .cell b t => do loadVar t (← asAddr (tmps.getD b undef))
theorem zhv {s : Sem Value} {w : World} {v : Value} (h : s.run P w = .ok v w) (acc : Array Value) : (acc.push <$> s).run P w = .ok (acc.push v) w := by
  have hf : (acc.push <$> s) = (s >>= fun x => pure (acc.push x)) := rfl
  simp only [hf, Sem.run_bind, h, Result.andThen_ok, Sem.run_pure]
include hT in
theorem zii {env : Env} {H : Heap} {nx N : Nat} {ρ : Nat → Loc} {w : World} {a : Act} (st : St N env H nx ρ w a) : ∀ (rs : List ResultVar) (k : List AV → Prop), aret T rs env H k →
    ∃ vs cs, k vs ∧ LRel (Kof ρ H w) ρ (· < nx) vs cs ∧ cs.length = rs.length ∧
      ∀ acc : Array Value, (List.foldlM (fun (acc : Array Value) (r : ResultVar) => acc.push <$> zbd a.tmps r) acc rs).run P w = .ok (acc ++ cs.toArray) w
  | [], k, h => ⟨[], [], h, LRel.nil, rfl, fun acc => by simp [Sem.run_pure]⟩
  | .tmp t :: r, k, h => by
    obtain ⟨vs, cs, h1, h2, h3, h4⟩ := zii st r _ h
    refine ⟨env t :: vs, a.tmps.getD t undef :: cs, h1, LRel.cons (st.env t) h2, by simp [h3], fun acc => ?_⟩
    have hr : (zbd a.tmps (.tmp t)).run P w = .ok (a.tmps.getD t undef) w := rfl
    simp only [List.foldlM_cons, Sem.run_bind, zhv hr, Result.andThen_ok, h4]
    congr 1
    apply Array.ext'
    simp
  | .cell b t :: r, k, h => by
    simp only [aret] at h
    split at h
    · rename_i at_ ht
      obtain ⟨i, d, z, ha⟩ := hT.at ht
      unfold LOAD at h
      split at h
      · rename_i cells off rd hrd
        split at h
        · rename_i v hv
          obtain ⟨bb, q, he, hc⟩ := zla (H0 := H) st.sim (st.env b) hrd (fun _ _ => rfl)
          obtain ⟨cv, hr, hR⟩ := zdv (P := P) ha hc hv
          obtain ⟨vs, cs, h1, h2, h3, h4⟩ := zii st r _ h
          refine ⟨v :: vs, cv :: cs, h1, LRel.cons hR h2, by simp [h3], fun acc => ?_⟩
          have hr' : (zbd a.tmps (.cell b t)).run P w = .ok cv w := by
            simp only [zbd, Sem.run_bind, he, asAddr, Sem.run_pure, Result.andThen_ok, hr]
          simp only [List.foldlM_cons, Sem.run_bind, zhv hr', Result.andThen_ok, h4]
          congr 1
          apply Array.ext'
          simp
        · exact h.elim
      · exact h.elim
    · exact h.elim
theorem zb.mono {f : FuncId} {args : List AV} {H : Heap} {nx : Nat} {Q Q' : AV → Heap → Nat → Prop} (h : zb P f args H nx Q) (hq : ∀ v H' nx', Q v H' nx' → Q' v H' nx') : zb P f args H nx Q' :=
  fun ρ w cargs s ha => zm (h ρ w cargs s ha) fun cv w' ⟨r, H', nx', ρ', q1, q2⟩ => ⟨r, H', nx', ρ', hq _ _ _ q1, q2⟩
include hT hE in
theorem zql (hM : P.follows .mixedOrders = true) {f : FuncId} {fn : Func} {c : Code} {args : List AV} {H : Heap} {nx : Nat} {Q : AV → Heap → Nat → Prop} (hf : P.funcs[f]? = some fn) (hb : fn.body = some c) (hname : (fn.name == "runtime.NumGoroutine") = false)
    (hwf : wfC fn.ntmps c = true) (hlen' : Nat.ble args.length fn.ntmps = true)
    (h : body P T eqs lv fn c args H nx Q) :
    zb P f args H nx Q := by
  have hlen := Nat.le_of_ble_eq_true hlen'
  intro ρ w cargs s ha
  have hcl : cargs.size = args.length := by simpa using ha.1
  have hcall : (callFunc f cargs).run P w = .ok (.enter f cargs) w := by
    have hname' : ¬ fn.name = "runtime.NumGoroutine" := by simpa using hname
    simp [callFunc, program, Sem.run_bind, Sem.run, hf, hname', hb, pure]
  rw [hcall]
  simp only [zh]
  refine calls_of_wp hf hb (Code.wp_mono (fun e a w' q => ?_) (zbb hT hE (lv := lv) nx ρ H w hM c _ _ _ hwf _ w ⟨env0 args, H, nx, ρ, h, ⟨s, fun t => ?_, ?_, rfl⟩, Fr.refl _ _ _ _⟩))
  · have fin : ∀ (a : Act) (w' : World), RS nx ρ H w fn.ntmps (fun env H nx => aret T fn.results.toList env H fun vs => RET1 vs fun v => Q v H nx) a w' →
        a.defers = [] ∧ ∃ v, (results fn a.tmps).run P w' = .ok v w' ∧ ∃ u, Ending.returned v = .returned u ∧ ∃ r H' nx' ρ', Q r H' nx' ∧ Sim (· < nx') ρ' H' w' ∧ VRel (Kof ρ' H' w') ρ' (· < nx') r u ∧ Fr (· < nx) ρ H w (· < nx') ρ' H' w' := by
      intro a w' ⟨env, H', nx', ρ', h1, h2, h3⟩
      obtain ⟨vs, cs, q1, q2, q3, q4⟩ := zii hT h2 _ _ h1
      refine ⟨h2.defers, ?_⟩
      have hm : (fn.results.mapM (zbd a.tmps)).run P w' = .ok cs.toArray w' := by
        rw [Array.mapM_eq_foldlM]
        have := q4 #[]
        rw [Array.foldlM_toList] at this
        simpa using this
      have hrun : ∀ v, (if h : cs.toArray.size = 1 then cs.toArray[0] else Value.tuple cs.toArray) = v → (results fn a.tmps).run P w' = .ok v w' := by
        intro v hv
        have e : results fn a.tmps = (do let vs ← fn.results.mapM (zbd a.tmps); pure (if h : vs.size = 1 then vs[0] else .tuple vs)) := by
          unfold results zbd
          rfl
        rw [e]
        simp only [Sem.run_bind, hm, Result.andThen_ok, Sem.run_pure, hv]
      unfold RET1 at q1
      split at q1
      · rename_i v
        obtain ⟨cv, hcv, hR⟩ := q2.get (j := 0) (v := v) rfl
        have hc1 : cs = [cv] := by
          have hl := q2.1
          match cs, hl, hcv with
          | [x], _, h => simp at h; rw [h]
        subst hc1
        exact ⟨cv, hrun cv (by simp), cv, rfl, v, H', nx', ρ', q1, h2.sim, hR, h3⟩
      · rename_i hne
        have hc1 : cs.length ≠ 1 := by
          intro hl
          have := q2.1
          rw [hl] at this
          match vs, this with
          | [x], _ => exact hne x rfl
        refine ⟨.tuple cs.toArray, hrun _ (by simp [hc1]), _, rfl, .tup vs, H', nx', ρ', q1, h2.sim, ?_, h3⟩
        exact .tup _ _ (by simpa using q2.1) fun j v c hv hc => q2.2 j v c hv (by simpa using hc)
    cases e with
    | normal => exact fin a w' q
    | ret => exact fin a w' q
    | exit i => obtain ⟨_, _, _, _, h, _⟩ := q; exact h.elim
    | goto l => exact q.elim
    | panic c => exact q.elim
    | outgrown => exact q.elim
  · show VRel _ _ _ (nth args t) ((cargs ++ Array.replicate (fn.ntmps - cargs.size) undef).getD t undef)
    unfold nth
    by_cases ht : t < args.length
    · obtain ⟨cv, h1, h2⟩ := ha.get (List.getElem?_eq_getElem ht)
      have : (cargs ++ Array.replicate (fn.ntmps - cargs.size) undef).getD t undef = cv := by
        rw [Array.getD_eq_getD_getElem?, Array.getElem?_append_left (by omega)]
        simp only [Array.getElem?_toList] at h1
        rw [h1]; rfl
      rw [this, List.getD_eq_getElem?_getD, List.getElem?_eq_getElem ht]
      exact h2
    · rw [List.getD_eq_getElem?_getD, List.getElem?_eq_none (by omega)]
      exact .junk _
  · simp; omega
include hT hE in
theorem zn (hM : P.follows .mixedOrders = true) {f : FuncId} {fn : Func} {c : Code} {args : List AV} {H : Heap} {nx : Nat} {Q : AV → Heap → Nat → Prop} {V : Prop} (hf : P.funcs[f]? = some fn) (hb : fn.body = some c) (hname : (fn.name == "runtime.NumGoroutine") = false)
    (hwf : wfC fn.ntmps c = true) (hlen' : Nat.ble args.length fn.ntmps = true)
    (he : body P T eqs lv fn c args H nx Q = V) (h : V) : zb P f args H nx Q := by
  subst he
  exact zql hT hE hM hf hb hname hwf hlen' h
end
end Go.Proofs.YtiinnjjmoifoeaaGreatDoor
set_option maxRecDepth 8000
namespace Go.Proofs.YtiinnjjmoifoeaaGreatDoor
open Go Go.RowKit
section
variable (P : Program)
def szAt (t : TypeId) : Nat := match atOf P t with | some a => a.size | none => 0
def zfp (t : TypeId) : Bool := match atOf P t with | some a => !a.kind.isAgg && Nat.beq a.size 1 | none => false
def zdp (ok : TypeId → Option (List AV)) : List Field → Nat → Option (List AV)
  | [], _ => some []
  | f :: r, off => if f.name ≠ "_" ∧ f.offset = off then match ok f.type with
      | some z => match zdp ok r (off + z.length) with
        | some zr => some (z ++ zr)
        | none => none
      | none => none
    else none
def zdx : Nat → TypeId → Option (List AV)
  | 0, _ => none
  | d + 1, t => match P.underlying t with
    | some (.int k) => if zfp P t = true then some [.int k 0] else none
    | some .string => if zfp P t = true then some [.str []] else none
    | some .bool => if zfp P t = true then some [.bool false] else none
    | some (.struct fs) => if P.stoodInHeld t = false ∧ (match atOf P t with | some a => a.kind.isAgg | none => false) = true then match zdp (zdx d) fs.toList 0 with
        | some zs => if zs.length = szAt P t then some zs else none
        | none => none
      else none
    | _ => none
def zsp (t : TypeId) : Bool := match atOf P t with
  | some a => a.kind.isAgg && (match zdx P 4 t with | some zs => (zc zs a.zero).isSome | none => false) && !(P.eqGuardType P.depth t)
  | none => false
end
theorem zgr : ∀ {xs ys : List AV} {r : Bool}, zc xs ys = some r → xs.length = ys.length
  | [], [], _, _ => rfl
  | [], _ :: _, _, h => by simp [zc] at h
  | x :: xs, [], _, h => by cases x <;> simp [zc] at h
  | x :: xs, y :: ys, r, h => by
    have : ∃ r', zc xs ys = some r' := by
      cases x <;> cases y <;> simp only [zc] at h <;> first
        | (cases h; done)
        | (split at h
           · obtain ⟨r', h', _⟩ := Option.map_eq_some_iff.1 h; exact ⟨r', h'⟩
           · cases h)
        | (obtain ⟨r', h', _⟩ := Option.map_eq_some_iff.1 h; exact ⟨r', h'⟩)
    obtain ⟨r', h'⟩ := this
    simp [zgr h']
theorem zpg {x y : AV} {xs ys : List AV} {r : Bool} (h : zc (x :: xs) (y :: ys) = some r) : ∃ r1 r2, zc [x] [y] = some r1 ∧ zc xs ys = some r2 ∧ r = (r1 && r2) := by
  cases x <;> cases y <;> simp only [zc] at h ⊢ <;> first
    | (cases h; done)
    | (split at h
       · rename_i hk
         obtain ⟨r', h', rfl⟩ := Option.map_eq_some_iff.1 h
         exact ⟨_, r', by rw [if_pos hk]; rfl, h', by simp⟩
       · cases h)
    | (obtain ⟨r', h', rfl⟩ := Option.map_eq_some_iff.1 h
       exact ⟨_, r', rfl, h', by simp⟩)
theorem zea : ∀ {xs ys : List AV} {r1 r2 : Bool} {us vs : List AV}, zc xs ys = some r1 → zc us vs = some r2 → zc (xs ++ us) (ys ++ vs) = some (r1 && r2)
  | [], [], r1, r2, us, vs, h, k => by simp [zc] at h; subst h; simpa using k
  | [], _ :: _, _, _, _, _, h, _ => by simp [zc] at h
  | x :: xs, [], _, _, _, _, h, _ => by cases x <;> simp [zc] at h
  | x :: xs, y :: ys, r1, r2, us, vs, h, k => by
    cases x <;> cases y <;> simp only [zc, List.cons_append] at h ⊢ <;> first
      | (cases h; done)
      | (split at h
         · rename_i hk
           obtain ⟨r', h', rfl⟩ := Option.map_eq_some_iff.1 h
           rw [if_pos hk, zea h' k]; simp [Bool.and_assoc]
         · cases h)
      | (obtain ⟨r', h', rfl⟩ := Option.map_eq_some_iff.1 h
         rw [zea h' k]; simp [Bool.and_assoc])
theorem zev : ∀ (n : Nat) {xs ys : List AV} {r : Bool}, zc xs ys = some r → ∃ r1 r2, zc (xs.take n) (ys.take n) = some r1 ∧ zc (xs.drop n) (ys.drop n) = some r2 ∧ r = (r1 && r2)
  | 0, xs, ys, r, h => ⟨true, r, by simp [zc], by simpa using h, by simp⟩
  | n + 1, [], [], r, h => ⟨true, r, by simp [zc], by simpa using h, by simp⟩
  | n + 1, [], _ :: _, r, h => by simp [zc] at h
  | n + 1, x :: xs, [], r, h => by cases x <;> simp [zc] at h
  | n + 1, x :: xs, y :: ys, r, h => by
    obtain ⟨r1, r2, h1, h2, rfl⟩ := zpg h
    obtain ⟨q1, q2, g1, g2, rfl⟩ := zev n h2
    refine ⟨r1 && q1, q2, ?_, by simpa using g2, by simp [Bool.and_assoc]⟩
    simpa using zea h1 g1
theorem zda : ∀ {a b c : List AV}, (zc a b).isSome = true → (zc b c).isSome = true → (zc a c).isSome = true
  | [], [], c, _, h => h
  | [], _ :: _, _, h, _ => by simp [zc] at h
  | x :: a, [], _, h, _ => by cases x <;> simp [zc] at h
  | x :: a, y :: b, [], _, h => by cases y <;> simp [zc] at h
  | x :: a, y :: b, z :: c, h, k => by
    cases x <;> cases y <;> simp only [zc] at h <;> try (cases h; done)
    all_goals
      cases z <;> simp only [zc] at k <;> try (cases k; done)
    · split at h
      · rename_i h1
        split at k
        · rename_i h2
          simp only [zc]
          rw [if_pos (h1.trans h2)]
          have := zda (a := a) (b := b) (c := c) (by simpa using h) (by simpa using k)
          simpa using this
        · cases k
      · cases h
    · have := zda (a := a) (b := b) (c := c) (by simpa using h) (by simpa using k)
      simpa [zc] using this
    · have := zda (a := a) (b := b) (c := c) (by simpa using h) (by simpa using k)
      simpa [zc] using this
theorem zmu (n : Nat) {xs ys : List AV} (h : (zc xs ys).isSome = true) : (zc (xs.take n) (ys.take n)).isSome = true ∧ (zc (xs.drop n) (ys.drop n)).isSome = true := by
  obtain ⟨r, hr⟩ := Option.isSome_iff_exists.1 h
  obtain ⟨r1, r2, h1, h2, _⟩ := zev n hr
  exact ⟨by rw [h1]; rfl, by rw [h2]; rfl⟩
section
variable {P : Program}
def zpr (P : Program) (t : TypeId) (z : AV) : Prop := match z with
  | .int k _ => P.underlying t = some (.int k)
  | .str _ => P.underlying t = some .string
  | .bool _ => P.underlying t = some .bool
  | _ => False
theorem znv {t : TypeId} {k : Nat} {w : World} {K : zf} {ρ : Nat → Loc} {A : Nat → Prop} {z v u : AV} {a b : Value} {r : Bool} (hu : zpr P t z) (hz : (zc [z] [v]).isSome = true)
    (hv : VRel K ρ A v a) (hw : VRel K ρ A u b) (he : zc [v] [u] = some r) : (Op.equalIn (k + 1) t a b).run P w = .ok r w := by
  cases z <;> simp only [zpr] at hu <;> cases v <;> simp only [zc] at hz <;> (try (cases hz; done)) <;> cases u <;> simp only [zc] at he <;> (try (cases he; done)) <;> cases hv <;> cases hw
  · split at he
    · rename_i hk
      subst hk
      rw [run_equalIn_int w k t _ _ _ _ hu]
      simpa using he
    · cases he
  · rw [run_equalIn_bool' w k t _ _ hu]; simpa using he
  · rw [run_equalIn_string w k t _ _ hu]; simpa [ByteArray.toList_eq] using he
def zyc (P : Program) (d : Nat) (t : TypeId) (zs : List AV) : Prop := ∃ a, atOf P t = some a ∧ zs.length = a.size ∧ (a.kind.isAgg = false → a.size = 1) ∧ ∀ (k : Nat), d ≤ k → ∀ (w : World) (K : zf) (ρ : Nat → Loc) (A : Nat → Prop) (cells cells' : List AV) (off : Nat) (v u : AV) (r : Bool) (x y : Value),
    ldv a.kind.isAgg a.size cells off = some v → ldv a.kind.isAgg a.size cells' off = some u → (zc zs ((cells.drop off).take a.size)).isSome = true → zc ((cells.drop off).take a.size) ((cells'.drop off).take a.size) = some r → VRel K ρ A v x → VRel K ρ A u y →
    (Op.equalIn k t x y).run P w = .ok r w
theorem zfu {d : Nat} {t : TypeId} {z : AV} (hu : zpr P t z) (hs : zfp P t = true) : zyc P (d + 1) t [z] := by
  unfold zfp at hs
  cases ha : atOf P t with
  | none => rw [ha] at hs; cases hs
  | some a =>
    rw [ha] at hs
    simp only [Bool.and_eq_true] at hs
    have hag : a.kind.isAgg = false := by simpa using hs.1
    have hsz : a.size = 1 := Nat.eq_of_beq_eq_true hs.2
    refine ⟨a, ha, by rw [hsz]; rfl, fun _ => hsz, fun k hk w K ρ A cells cells' off v u r x y e1 e2 e0 e3 r1 r2 => ?_⟩
    simp only [ldv, hag, cond_false] at e1 e2
    have t1 : ∀ {l : List AV} {q : AV}, l[off]? = some q → (l.drop off).take 1 = [q] := by
      intro l q hl
      obtain ⟨hlt, rfl⟩ := List.getElem?_eq_some_iff.1 hl
      rw [List.drop_eq_getElem_cons hlt]; rfl
    rw [hsz, t1 e1] at e0
    rw [hsz, t1 e1, t1 e2] at e3
    obtain ⟨k', rfl⟩ : ∃ k', k = k' + 1 := ⟨k - 1, by omega⟩
    exact znv hu e0 r1 r2 e3
theorem zpf : ∀ (d : Nat) (t : TypeId) (zs : List AV), zdx P d t = some zs → zyc P d t zs
  | 0, t, zs, h => by cases h
  | d + 1, t, zs, h => by
    unfold zdx at h
    split at h
    · rename_i ki hu
      split at h
      · rename_i hs; cases h; exact zfu hu hs
      · cases h
    · rename_i hu
      split at h
      · rename_i hs; cases h; exact zfu hu hs
      · cases h
    · rename_i hu
      split at h
      · rename_i hs; cases h; exact zfu hu hs
      · cases h
    · rename_i fs hu
      by_cases hc : P.stoodInHeld t = false ∧ (match atOf P t with | some a => a.kind.isAgg | none => false) = true
      case neg => rw [if_neg hc] at h; cases h
      rw [if_pos hc] at h
      obtain ⟨hst, h3⟩ := hc
      split at h
      case h_2 => cases h
      rename_i zs' hf
      split at h
      case isFalse => cases h
      rename_i hlen
      obtain rfl := Option.some.inj h
      cases ha : atOf P t with
      | none => rw [ha] at h3; cases h3
      | some a =>
        rw [ha] at h3
        simp only at h3
        have hl : zs'.length = a.size := by rw [hlen]; unfold szAt; rw [ha]
        refine ⟨a, ha, hl, fun e => (by rw [h3] at e; cases e), fun k hk w K ρ A cells cells' off v u r x y e1 e2 e0 e3 r1 r2 => ?_⟩
        simp only [ldv, h3, cond_true] at e1 e2
        split at e1
        case isFalse => cases e1
        rename_i l1
        split at e2
        case isFalse => cases e2
        rename_i l2
        cases e1
        cases e2
        cases r1 with
        | agg _ cs g1 g2 =>
        cases r2 with
        | agg _ ds g3 g4 =>
        obtain ⟨k', rfl⟩ : ∃ k', k = k' + 1 := ⟨k - 1, by omega⟩
        have hfo : P.fieldsOf t = fs := by simp [Program.fieldsOf, hu]
        rw [run_equalIn_struct w k' t cs ds (by rw [hfo]; exact hu) hst, hfo]
        have loop : ∀ (fl : List Field) (o : Nat) (zs xs ys : List AV) (r : Bool), zdp (zdx P d) fl o = some zs → LRel K ρ A xs cs.toList → LRel K ρ A ys ds.toList → xs.length = o + zs.length → ys.length = o + zs.length →
            (zc zs (xs.drop o)).isSome = true → zc (xs.drop o) (ys.drop o) = some r → (Op.eqFields k' cs ds fl).run P w = .ok r w := by
          intro fl
          induction fl with
          | nil =>
            intro o zs xs ys r hf q1 q2 n1 n2 hz he
            simp only [zdp, Option.some.injEq] at hf
            subst hf
            simp only [List.length_nil] at n1 n2
            rw [List.drop_of_length_le (by omega), List.drop_of_length_le (by omega)] at he
            simp only [zc, Option.some.injEq] at he
            simp [Op.eqFields, Sem.run_pure, he]
          | cons f fl ih =>
            intro o zs xs ys r hf q1 q2 n1 n2 hz he
            unfold zdp at hf
            split at hf
            case isFalse => cases hf
            rename_i hc
            obtain ⟨c1, c2⟩ := hc
            split at hf
            case h_2 => cases hf
            rename_i z hzk
            split at hf
            case h_2 => cases hf
            rename_i zr hzr
            obtain rfl := Option.some.inj hf
            obtain ⟨b, hb, hzl, hb1, hrun⟩ := zpf d f.type z hzk
            rw [List.length_append] at n1 n2
            obtain ⟨s1, s2, t1, t2, rfl⟩ := zev z.length he
            obtain ⟨z1, z2⟩ := zmu z.length hz
            rw [List.take_left] at z1
            rw [List.drop_left, List.drop_drop] at z2
            rw [List.drop_drop, List.drop_drop] at t2
            obtain ⟨i, dd, zv, hb'⟩ := (show TOk P (atOf P) from fun _ _ h => h).at hb
            have ld : ∀ l : List AV, l.length = o + (z.length + zr.length) → ∃ q, ldv b.kind.isAgg b.size l o = some q := by
              intro l hl
              unfold ldv
              cases hag : b.kind.isAgg with
              | true => rw [cond_true, if_pos (by omega)]; exact ⟨_, rfl⟩
              | false =>
                rw [cond_false]
                have := hb1 hag
                exact ⟨_, List.getElem?_eq_getElem (by omega)⟩
            obtain ⟨p, hp⟩ := ld xs n1
            obtain ⟨q, hq⟩ := ld ys n2
            obtain ⟨pv, hpv, hpr⟩ := zeb (P := P) (w := w) hb' q1 hp
            obtain ⟨qv, hqv, hqr⟩ := zeb (P := P) (w := w) hb' q2 hq
            have hone := hrun k' (by omega) w K ρ A xs ys o p q s1 pv qv hp hq (by rw [← hzl]; exact z1) (by rw [← hzl]; exact t1) hpr hqr
            have hrest := ih (o + z.length) zr xs ys s2 hzr q1 q2 (by omega) (by omega) z2 t2
            simp only [Op.eqFields, c1, ne_eq, not_false_eq_true, if_true, Sem.run_bind, c2, hpv, hqv, hone, Result.andThen_ok]
            cases s1
            · simp [Sem.run_pure]
            · simpa using hrest
        refine loop fs.toList 0 zs' _ _ r hf ⟨by simpa using g1, fun j v c h1 h2 => g2 j v c h1 (by simpa using h2)⟩ ⟨by simpa using g3, fun j v c h1 h2 => g4 j v c h1 (by simpa using h2)⟩ (by simp; omega) (by simp; omega) ?_ ?_
        · simpa using e0
        · simpa using e3
    · cases h
theorem zys {d : Nat} {t : TypeId} {a : AT} {zs : List AV} (hd : d ≤ 10000) (h : zdx P d t = some zs) (hz : (zc zs a.zero).isSome = true) (hg : P.eqGuardType P.depth t = false) (ha : atOf P t = some a) (hag : a.kind.isAgg = true) : EqTy P t a.zero := by
  intro w K ρ A xs ys cs ds r x y op q1 q2 hl he
  obtain ⟨a', ha', hzl, _, hrun⟩ := zpf d t zs h
  obtain rfl : a = a' := Option.some.inj (ha.symm.trans ha')
  have hlen := zgr he
  have hzx := zda hz hl
  have hxl : zs.length = xs.length := by obtain ⟨r0, h0⟩ := Option.isSome_iff_exists.1 hzx; exact zgr h0
  refine ⟨?_, run_eqGuard_agg w op t x y cs ds hg⟩
  unfold Op.equal Op.maxDepth
  have full : ∀ l : List AV, l.length = a.size → (l.drop 0).take a.size = l := fun l hl => by rw [List.drop_zero, List.take_of_length_le (by omega)]
  refine hrun 10000 hd w K ρ A xs ys 0 (.agg xs) (.agg ys) r _ _ ?_ ?_ ?_ ?_ (LRel.agg q1) (LRel.agg q2)
  · simp only [ldv, hag, cond_true]; rw [if_pos (by omega), full xs (by omega)]
  · simp only [ldv, hag, cond_true]; rw [if_pos (by omega), full ys (by omega)]
  · rw [full xs (by omega)]; exact hzx
  · rw [full xs (by omega), full ys (by omega)]; exact he
theorem zwo {T : Nat → Option AT} (hT : TOk P T) : EOk P T (zsp P) := by
  intro t a h ht
  have ha := hT t a ht
  unfold zsp at h
  rw [ha] at h
  simp only [Bool.and_eq_true] at h
  obtain ⟨⟨h1, h2⟩, h3⟩ := h
  cases hk : zdx P 4 t with
  | none => rw [hk] at h2; cases h2
  | some zs =>
    rw [hk] at h2
    exact zys (by omega) hk h2 (by simpa using h3) ha h1
end
end Go.Proofs.YtiinnjjmoifoeaaGreatDoor
set_option maxRecDepth 8000
namespace Go.Proofs.YtiinnjjmoifoeaaGreatDoor
open Go Go.RowKit
theorem mixed : Tryz.prog.follows .mixedOrders = true := by kernel_rfl
noncomputable def tab : Nat → Option AT := atOf Tryz.prog
theorem zcg : TOk Tryz.prog tab := fun _ _ h => h
def zhu (t : Nat) : Bool := Nat.blt t 1000000
noncomputable def eqsT (t : Nat) : Bool := bif zhu t then zsp Tryz.prog t else false
theorem zcz : EOk Tryz.prog tab eqsT := by
  intro t a h ht
  unfold eqsT at h
  generalize zhu t = b at h
  cases b with
  | true => rw [cond_true] at h; exact zwo zcg t a h ht
  | false => rw [cond_false] at h; cases h
noncomputable def tabZ (t : Nat) : Option AT := bif zhu t then tab t else none
theorem zgx : TOk Tryz.prog tabZ := by
  intro t a h
  unfold tabZ at h
  generalize zhu t = b at h
  cases b with
  | true => rw [cond_true] at h; exact h
  | false => rw [cond_false] at h; cases h
def eqsZ (t : Nat) : Bool := !zhu t
theorem zhd : EOk Tryz.prog tabZ eqsZ := by
  intro t a h ht
  unfold tabZ at ht
  unfold eqsZ at h
  generalize zhu t = b at h ht
  cases b with
  | true => cases h
  | false => rw [cond_false] at ht; cases ht
end Go.Proofs.YtiinnjjmoifoeaaGreatDoor
set_option maxRecDepth 8000
namespace Go.Proofs.YtiinnjjmoifoeaaGreatDoor
open Go Go.RowKit
@[simp] theorem zaet : za tab 2 = 1 := by kernel_rfl
@[simp] theorem zaes : za tab 3 = 1 := by kernel_rfl
@[simp] theorem zaer : za tab 4 = 1 := by kernel_rfl
@[simp] theorem zaeq : za tab 5 = 1 := by kernel_rfl
@[simp] theorem zaep : za tab 6 = 1 := by kernel_rfl
@[simp] theorem zaeo : za tab 9 = 1 := by kernel_rfl
@[simp] theorem zadn : za tab 12 = 1 := by kernel_rfl
@[simp] theorem zadm : za tab 17 = 1 := by kernel_rfl
@[simp] theorem zadl : za tab 22 = 1 := by kernel_rfl
@[simp] theorem zadk : za tab 26 = 1 := by kernel_rfl
@[simp] theorem zadj : za tab 32 = 1 := by kernel_rfl
@[simp] theorem zadi : za tab 34 = 1 := by kernel_rfl
@[simp] theorem zadh : za tab 35 = 1 := by kernel_rfl
@[simp] theorem zadg : za tab 36 = 1 := by kernel_rfl
@[simp] theorem zadf : za tab 37 = 1 := by kernel_rfl
@[simp] theorem zade : za tab 43 = 1 := by kernel_rfl
@[simp] theorem zadd : za tab 44 = 1 := by kernel_rfl
@[simp] theorem zadc : za tab 45 = 1 := by kernel_rfl
@[simp] theorem zadb : za tab 51 = 1 := by kernel_rfl
@[simp] theorem zada : za tab 59 = 3 := by kernel_rfl
@[simp] theorem zacz : za tab 60 = 1 := by kernel_rfl
@[simp] theorem zacy : za tab 61 = 1 := by kernel_rfl
@[simp] theorem zacx : za tab 63 = 2 := by kernel_rfl
@[simp] theorem zacw : za tab 64 = 1 := by kernel_rfl
@[simp] theorem zacv : za tab 65 = 1 := by kernel_rfl
@[simp] theorem zacu : za tab 94 = 1 := by kernel_rfl
@[simp] theorem zabt : za tab 111 = 1 := by kernel_rfl
@[simp] theorem zabs : za tab 134 = 1 := by kernel_rfl
@[simp] theorem zabr : za tab 145 = 1 := by kernel_rfl
@[simp] theorem zabq : za tab 154 = 1 := by kernel_rfl
@[simp] theorem zabp : za tab 170 = 3 := by kernel_rfl
@[simp] theorem zabo : za tab 208 = 1 := by kernel_rfl
@[simp] theorem zabn : za tab 255 = 1 := by kernel_rfl
@[simp] theorem zabm : za tab 274 = 1 := by kernel_rfl
@[simp] theorem zabl : za tab 280 = 0 := by kernel_rfl
@[simp] theorem zabk : za tab 283 = 1 := by kernel_rfl
@[simp] theorem zabj : za tab 284 = 1 := by kernel_rfl
@[simp] theorem zabi : za tab 285 = 1 := by kernel_rfl
@[simp] theorem zabh : za tab 286 = 1 := by kernel_rfl
@[simp] theorem zabg : za tab 287 = 1 := by kernel_rfl
end Go.Proofs.YtiinnjjmoifoeaaGreatDoor
set_option maxRecDepth 8000
namespace Go.Proofs.YtiinnjjmoifoeaaGreatDoor
open Go Go.RowKit
inductive Bel (A : Nat → Prop) : AV → Prop
  | junk : Bel A .junk
  | und : Bel A .und
  | int (k : IntKind) (n : Int) : Bel A (.int k n)
  | bool (b : Bool) : Bel A (.bool b)
  | bany : Bel A .bany
  | str (s : List UInt8) : Bel A (.str s)
  | nilp : Bel A .nilp
  | nils : Bel A .nils
  | nilf : Bel A .nilf
  | nilm : Bel A .nilm
  | inil : Bel A .inil
  | ifc : Bel A .ifc
  | zs : Bel A .zs
  | ptr (g off : Nat) : A g → Bel A (.ptr g off)
  | slc (g off len : Nat) : A g → Bel A (.slc g off len)
  | amap (g : Nat) : A g → Bel A (.amap g)
  | ro (xs : List (List AV)) : (∀ (i : Nat) (x : List AV) (j : Nat) (v : AV), xs[i]? = some x → x[j]? = some v → Bel A v) → Bel A (.ro xs)
  | rop (cs : List AV) (o : Nat) : (∀ (j : Nat) (v : AV), cs[j]? = some v → Bel A v) → Bel A (.rop cs o)
  | agg (xs : List AV) : (∀ (j : Nat) (v : AV), xs[j]? = some v → Bel A v) → Bel A (.agg xs)
  | tup (xs : List AV) : (∀ (j : Nat) (v : AV), xs[j]? = some v → Bel A v) → Bel A (.tup xs)
  | clo (f : FuncId) (xs : List AV) : (∀ (j : Nat) (v : AV), xs[j]? = some v → Bel A v) → Bel A (.clo f xs)
def BelO (A : Nat → Prop) : AObj → Prop
  | .row _ cells => ∀ (j : Nat) x, cells[j]? = some x → Bel A x
  | .mp es => ∀ (j : Nat) kv, es[j]? = some kv → Bel A kv.1 ∧ Bel A kv.2
  | .it g _ _ => A g
theorem VRel.bel {K : zf} {ρ : Nat → Loc} {A : Nat → Prop} {v : AV} {c : Value} (h : VRel K ρ A v c) : Bel A v := by
  induction h with
  | junk v => exact .junk
  | und => exact .und
  | int k n => exact .int k n
  | bool b => exact .bool b
  | bany b => exact .bany
  | str s => exact .str s
  | nilp => exact .nilp
  | nils => exact .nils
  | nilf => exact .nilf
  | nilm => exact .nilm
  | inil => exact .inil
  | ifc _ _ => exact .ifc
  | zs a => exact .zs
  | ptr g off a hg ha => exact .ptr g off hg
  | slc g off len cap a hg h1 h2 => exact .slc g off len hg
  | amap g r hg hr => exact .amap g hg
  | ro xs a len cap sz b off C h1 h2 h3 h4 h5 _ ih => exact .ro xs ih
  | rop cs o b p a C h1 h2 _ ih => exact .rop cs o ih
  | agg xs cs h1 _ ih =>
    exact .agg xs fun j v hv => by
      have hlt := (List.getElem?_eq_some_iff.1 hv).1
      exact ih j v _ hv (Array.getElem?_eq_getElem (by omega))
  | tup xs cs h1 _ ih =>
    exact .tup xs fun j v hv => by
      have hlt := (List.getElem?_eq_some_iff.1 hv).1
      exact ih j v _ hv (Array.getElem?_eq_getElem (by omega))
  | clo f xs cs h1 _ ih =>
    exact .clo f xs fun j v hv => by
      have hlt := (List.getElem?_eq_some_iff.1 hv).1
      exact ih j v _ hv (Array.getElem?_eq_getElem (by omega))
theorem VRel.restrict {K : zf} {ρ : Nat → Loc} {A A' : Nat → Prop} {v : AV} {c : Value} (h : VRel K ρ A v c) : Bel A' v → VRel K ρ A' v c := by
  induction h with
  | junk v => exact fun _ => .junk v
  | und => exact fun _ => .und
  | int k n => exact fun _ => .int k n
  | bool b => exact fun _ => .bool b
  | bany b => exact fun _ => .bany b
  | str s => exact fun _ => .str s
  | nilp => exact fun _ => .nilp
  | nils => exact fun _ => .nils
  | nilf => exact fun _ => .nilf
  | nilm => exact fun _ => .nilm
  | inil => exact fun _ => .inil
  | ifc _ h => exact fun _ => .ifc _ h
  | zs a => exact fun _ => .zs a
  | ptr g off a hg ha => intro hb; cases hb with | ptr _ _ h => exact .ptr g off a h ha
  | slc g off len cap a hg h1 h2 => intro hb; cases hb with | slc _ _ _ h => exact .slc g off len cap a h h1 h2
  | amap g r hg hr => intro hb; cases hb with | amap _ h => exact .amap g r h hr
  | ro xs a len cap sz b off C h1 h2 h3 h4 h5 _ ih => intro hb; cases hb with | ro _ h => exact .ro xs a len cap sz b off C h1 h2 h3 h4 h5 fun i x j v hx hv => ih i x j v hx hv (h i x j v hx hv)
  | rop cs o b p a C h1 h2 _ ih => intro hb; cases hb with | rop _ _ h => exact .rop cs o b p a C h1 h2 fun j v hv => ih j v hv (h j v hv)
  | agg xs cs h1 _ ih => intro hb; cases hb with | agg _ h => exact .agg xs cs h1 fun j v c hv hc => ih j v c hv hc (h j v hv)
  | tup xs cs h1 _ ih => intro hb; cases hb with | tup _ h => exact .tup xs cs h1 fun j v c hv hc => ih j v c hv hc (h j v hv)
  | clo f xs cs h1 _ ih => intro hb; cases hb with | clo _ _ h => exact .clo f xs cs h1 fun j v c hv hc => ih j v c hv hc (h j v hv)
inductive Frz (H : Heap) (nx : Nat) : AV → AV → Prop
  | same (v : AV) : Bel (· < nx) v → Frz H nx v v
  | nils : Frz H nx .nils (.ro [])
  | zs : Frz H nx .zs (.ro [])
  | slc (g off len sz : Nat) (cells : List AV) (xs : List (List AV)) : nx ≤ g → H g = some (.row sz cells) → off + len * sz ≤ cells.length → xs.length = len → (∀ x ∈ xs, x.length = sz) →
      (U : Nat → Nat → AV) → (∀ (i : Nat) (x : List AV) (j : Nat) (v : AV), xs[i]? = some x → x[j]? = some v → cells[off + i * sz + j]? = some (U i j)) →
      (∀ (i : Nat) (x : List AV) (j : Nat) (v : AV), xs[i]? = some x → x[j]? = some v → Frz H nx (U i j) v) → Frz H nx (.slc g off len) (.ro xs)
  | agg (xs ys : List AV) : ys.length = xs.length → (∀ (j : Nat) (v u : AV), xs[j]? = some v → ys[j]? = some u → Frz H nx v u) → Frz H nx (.agg xs) (.agg ys)
  | tup (xs ys : List AV) : ys.length = xs.length → (∀ (j : Nat) (v u : AV), xs[j]? = some v → ys[j]? = some u → Frz H nx v u) → Frz H nx (.tup xs) (.tup ys)
theorem Frz.rel {A : Nat → Prop} {ρ : Nat → Loc} {H H0 : Heap} {w : World} {nx : Nat} (s : Sim A ρ H w) (h0 : ∀ g o, H0 g = some o → g < nx ∧ H g = some o) {v u : AV} (h : Frz H nx v u) :
    ∀ (c : Value), VRel (Kof ρ H w) ρ A v c → VRel (Kof ρ H0 w) ρ (· < nx) u c := by
  have hK : ∀ b o, Kof ρ H w b = some o → Kof ρ H0 w b = some o := fun b o hb => by
    obtain ⟨h1, h2⟩ := zj.1 hb
    refine zj.2 ⟨fun g hg => ?_, h2⟩
    obtain ⟨o', ho'⟩ := Option.isSome_iff_exists.1 hg
    exact h1 g (by rw [(h0 g o' ho').2]; rfl)
  induction h with
  | same v hb => exact fun c hc => (hc.restrict hb).mono hK (fun _ h => ⟨rfl, h⟩)
  | nils =>
    intro c hc
    cases hc
    exact .ro [] none 0 0 0 0 0 (fun _ _ => undef) rfl (Nat.le_refl _) (fun h => absurd rfl h) (fun x hx => by cases hx) (fun i x j v hx => by simp at hx) (fun i x j v hx => by simp at hx)
  | zs =>
    intro c hc
    cases hc with
    | zs a => exact .ro [] a 0 0 0 0 0 (fun _ _ => undef) rfl (Nat.le_refl _) (fun h => absurd rfl h) (fun x hx => by cases hx) (fun i x j v hx => by simp at hx) (fun i x j v hx => by simp at hx)
  | slc g off len sz cells xs hg hH hle hl hsz U hU _ ih =>
    intro c hc
    cases hc with
    | slc _ _ _ cap a hA hcl hcap =>
      obtain ⟨cc, el, lo, hi, q1, q2, q3, q4, q5, q6⟩ := s.obj g _ hH
      have hKb : Kof ρ H0 w (ρ g).block = some (.cells cc el (lo, hi)) := by
        refine zj.2 ⟨fun x hx e => ?_, q1⟩
        obtain ⟨o', ho'⟩ := Option.isSome_iff_exists.1 hx
        obtain ⟨h1, h2⟩ := h0 x o' ho'
        have := s.inj x g (by rw [h2]; rfl) (by rw [hH]; rfl) e
        omega
      have hex : ∀ (i : Nat) (x : List AV) (j : Nat) (v : AV), xs[i]? = some x → x[j]? = some v → ∃ cv, cc[(ρ g).base + (off + i * sz + j)]? = some cv ∧ VRel (Kof ρ H w) ρ A (U i j) cv := fun i x j v hx hv => q6 _ _ (hU i x j v hx hv)
      refine .ro xs a len cap sz (ρ g).block ((ρ g).base + off) (fun i j => (cc[(ρ g).base + (off + i * sz + j)]?).getD undef) hl.symm hcl (fun hne => ?_) hsz (fun i x j v hx hv => ?_) (fun i x j v hx hv => ?_)
      · have hpos : 0 < xs.length := List.length_pos_iff.2 hne
        exact (hcap (by omega)).2
      · obtain ⟨cv, h1, h2⟩ := hex i x j v hx hv
        unfold zcx
        rw [hKb]
        simp only [h1, Option.getD_some]
        rw [← h1]; congr 1; omega
      · obtain ⟨cv, h1, h2⟩ := hex i x j v hx hv
        rw [h1]
        exact ih i x j v hx hv cv h2
  | agg xs ys hl _ ih =>
    intro c hc
    cases hc with
    | agg _ cs h1 h2 =>
    exact .agg ys cs (by omega) fun j v c hv hc => by
        have hlt := (List.getElem?_eq_some_iff.1 hv).1
        have hx : xs[j]? = some (xs[j]'(by omega)) := List.getElem?_eq_getElem (by omega)
        exact ih j _ v hx hv c (h2 j _ c hx hc)
  | tup xs ys hl _ ih =>
    intro c hc
    cases hc with
    | tup _ cs h1 h2 =>
    exact .tup ys cs (by omega) fun j v c hv hc => by
        have hlt := (List.getElem?_eq_some_iff.1 hv).1
        have hx : xs[j]? = some (xs[j]'(by omega)) := List.getElem?_eq_getElem (by omega)
        exact ih j _ v hx hv c (h2 j _ c hx hc)
theorem zb.gc {P : Program} {f : FuncId} {args : List AV} {H : Heap} {nx : Nat} {Q : AV → Heap → Nat → Prop} {R : AV → Heap → Prop} (h : zb P f args H nx Q)
    (hq : ∀ v H' nx', Q v H' nx' → ∃ r H0, R r H0 ∧ Frz H' nx v r ∧ (∀ g o, H0 g = some o → g < nx ∧ H' g = some o ∧ (H g = some o ∨ BelO (· < nx) o))) :
    zb P f args H nx fun v H' nx' => R v H' ∧ nx' = nx := by
  intro ρ w cargs s ha
  refine zm (h ρ w cargs s ha) fun cv w' ⟨v, H', nx', ρ', q1, q2, q3, q4⟩ => ?_
  obtain ⟨r, H0, hR, hF, h0⟩ := hq v H' nx' q1
  have h0' : ∀ g o, H0 g = some o → g < nx ∧ H' g = some o := fun g o ho => ⟨(h0 g o ho).1, (h0 g o ho).2.1⟩
  have hK : ∀ b o, Kof ρ' H' w' b = some o → Kof ρ' H0 w' b = some o := fun b o hb => by
    obtain ⟨h1, h2⟩ := zj.1 hb
    refine zj.2 ⟨fun g hg => ?_, h2⟩
    obtain ⟨o', ho'⟩ := Option.isSome_iff_exists.1 hg
    exact h1 g (by rw [(h0' g o' ho').2]; rfl)
  refine ⟨r, H0, nx, ρ', ⟨hR, rfl⟩, ⟨fun g o ho => (h0 g o ho).1, fun g o ho => ?_, fun x y hx hy hb => ?_, q2.lay.mono hK⟩, hF.rel q2 h0' cv q3, ⟨fun g hg => ⟨(q4.agree g hg).1, hg⟩, fun b o hb => hK b o (q4.k b o hb), q4.os, q4.tape, q4.output, q4.size⟩⟩
  · obtain ⟨hg, hH', hbel⟩ := h0 g o ho
    have hobj := q2.obj g o hH'
    have hcells : BelO (· < nx) o := by
      rcases hbel with hs | hb
      · have := s.obj g o hs
        cases o with
        | row sz cells =>
          obtain ⟨_, _, _, _, _, _, _, _, _, p6⟩ := this
          intro j x hx
          obtain ⟨cv, _, hv⟩ := p6 j x hx
          exact hv.bel
        | mp es =>
          obtain ⟨en, cl, p1, p2, p3, _⟩ := this
          intro j kv hkv
          have hlt := (List.getElem?_eq_some_iff.1 hkv).1
          obtain ⟨a1, a2⟩ := p3 j kv _ hkv (Array.getElem?_eq_getElem (by omega))
          exact ⟨a1.bel, a2.bel⟩
        | it g c seen => exact this.2.2
      · exact hb
    cases o with
    | row sz cells =>
      obtain ⟨c, el, lo, hi, p1, p2, p3, p4, p5, p6⟩ := hobj
      exact ⟨c, el, lo, hi, p1, p2, p3, p4, p5, fun j x hx => let ⟨cv, a1, a2⟩ := p6 j x hx; ⟨cv, a1, (a2.restrict (hcells j x hx)).mono hK (fun _ h => ⟨rfl, h⟩)⟩⟩
    | mp es =>
      obtain ⟨en, cl, p1, p2, p3, p4⟩ := hobj
      exact ⟨en, cl, p1, p2, fun j kv x hkv hx => let ⟨a1, a2⟩ := p3 j kv x hkv hx; ⟨(a1.restrict (hcells j kv hkv).1).mono hK (fun _ h => ⟨rfl, h⟩), (a2.restrict (hcells j kv hkv).2).mono hK (fun _ h => ⟨rfl, h⟩)⟩, p4⟩
    | it g c seen => exact ⟨hobj.1, hobj.2.1, hcells⟩
  · obtain ⟨o1, ho1⟩ := Option.isSome_iff_exists.1 hx
    obtain ⟨o2, ho2⟩ := Option.isSome_iff_exists.1 hy
    exact q2.inj x y (by rw [(h0' x o1 ho1).2]; rfl) (by rw [(h0' y o2 ho2).2]; rfl) hb
def QC (P : Program) (f : FuncId) (args : List AV) (r : AV) : Prop := ∀ H nx, zb P f args H nx fun v H' nx' => v = r ∧ H' = H ∧ nx' = nx
theorem zb.tidy {P : Program} {f : FuncId} {args : List AV} {H : Heap} {nx : Nat} {Q : AV → Heap → Nat → Prop} (h : (∀ g o, H g = some o → g < nx) → zb P f args H nx Q) : zb P f args H nx Q :=
  fun ρ w cargs s ha => h (fun g o ho => s.live g o ho) ρ w cargs s ha
theorem QC.of {P : Program} {f : FuncId} {args : List AV} {r : AV} (h : ∀ H nx, zb P f args H nx fun v H' _ => Frz H' nx v r ∧ ∀ g, g < nx → H' g = H g) : QC P f args r := by
  intro H nx
  refine zb.tidy fun hlive => ?_
  refine (zb.gc (R := fun v H' => v = r ∧ H' = H) (h H nx) fun v H' nx' ⟨h1, h2⟩ => ⟨r, H, ⟨rfl, rfl⟩, h1, fun g o ho => ⟨hlive g o ho, by rw [h2 g (hlive g o ho)]; exact ho, .inl ho⟩⟩).mono fun v H' nx' ⟨⟨a, b⟩, c⟩ => ⟨a, b, c⟩
theorem Bel.mono {A B : Nat → Prop} {v : AV} (h : Bel A v) (hAB : ∀ g, A g → B g) : Bel B v := by
  induction h with
  | junk => exact .junk
  | und => exact .und
  | int k n => exact .int k n
  | bool b => exact .bool b
  | bany => exact .bany
  | str s => exact .str s
  | nilp => exact .nilp
  | nils => exact .nils
  | nilf => exact .nilf
  | nilm => exact .nilm
  | inil => exact .inil
  | ifc => exact .ifc
  | zs => exact .zs
  | ptr g off h => exact .ptr g off (hAB g h)
  | slc g off len h => exact .slc g off len (hAB g h)
  | amap g h => exact .amap g (hAB g h)
  | ro xs _ ih => exact .ro xs ih
  | rop cs o _ ih => exact .rop cs o ih
  | agg xs _ ih => exact .agg xs ih
  | tup xs _ ih => exact .tup xs ih
  | clo f xs _ ih => exact .clo f xs ih
theorem zaj.restrict {K : zf} {ρ : Nat → Loc} {A A' : Nat → Prop} {w : World} {l : Loc} {o : AObj} (h : zaj K ρ A w l o) (hb : BelO A' o) : zaj K ρ A' w l o := by
  cases o with
  | row sz cells =>
    obtain ⟨c, el, lo, hi, p1, p2, p3, p4, p5, p6⟩ := h
    exact ⟨c, el, lo, hi, p1, p2, p3, p4, p5, fun j x hx => let ⟨cv, a1, a2⟩ := p6 j x hx; ⟨cv, a1, a2.restrict (hb j x hx)⟩⟩
  | mp es =>
    obtain ⟨en, cl, p1, p2, p3, p4⟩ := h
    exact ⟨en, cl, p1, p2, fun j kv x hkv hx => let ⟨a1, a2⟩ := p3 j kv x hkv hx; ⟨a1.restrict (hb j kv hkv).1, a2.restrict (hb j kv hkv).2⟩, p4⟩
  | it g c seen => exact ⟨h.1, h.2.1, hb⟩
theorem zaj.bel {K : zf} {ρ : Nat → Loc} {A : Nat → Prop} {w : World} {l : Loc} {o : AObj} (h : zaj K ρ A w l o) : BelO A o := by
  cases o with
  | row sz cells =>
    obtain ⟨_, _, _, _, _, _, _, _, _, p6⟩ := h
    intro j x hx
    obtain ⟨cv, _, hv⟩ := p6 j x hx
    exact hv.bel
  | mp es =>
    obtain ⟨en, cl, p1, p2, p3, _⟩ := h
    intro j kv hkv
    have hlt := (List.getElem?_eq_some_iff.1 hkv).1
    obtain ⟨a1, a2⟩ := p3 j kv _ hkv (Array.getElem?_eq_getElem (by omega))
    exact ⟨a1.bel, a2.bel⟩
  | it g c seen => exact h.2.2
theorem LC.of_qc {P : Program} {f : FuncId} {args : List AV} {r : AV} (h : QC P f args r) (hr : Bel (fun _ => False) r) (H0 : Heap) : LC P f args H0 [] [] [] r := by
  intro A ρ H w cargs ⟨N, hN⟩ s ha _ _
  have sN : Sim (· < N) ρ H w := ⟨fun g o ho => hN g (s.live g o ho), fun g o ho => (s.obj g o ho).mono rfl (fun _ _ h => h) (fun g hg => ⟨rfl, hN g hg⟩), s.inj, s.lay⟩
  have aN : LRel (Kof ρ H w) ρ (· < N) args cargs.toList := ⟨ha.1, fun j v c hv hc => (ha.2 j v c hv hc).mono (fun _ _ h => h) (fun g hg => ⟨rfl, hN g hg⟩)⟩
  refine zm (h H N ρ w cargs sN aN) fun cv w' ⟨r', H', nx', ρ', ⟨q0, q1, q2⟩, q3, q4, q5⟩ => ?_
  subst q0; subst q1; subst q2
  have hA : (fun x => A x ∨ x ∈ ([] : List Nat)) = A := by funext x; simp
  refine ⟨ρ', ?_, ?_, ?_⟩
  · rw [hA]
    exact ⟨s.live, fun g o ho => (q3.obj g o ho).restrict (s.obj g o ho).bel, q3.inj, q3.lay⟩
  · rw [hA]
    exact q4.restrict (hr.mono fun _ h => h.elim)
  · rw [hA]
    exact ⟨fun g hg => ⟨(q5.agree g (hN g hg)).1, hg⟩, q5.k, q5.os, q5.tape, q5.output, q5.size⟩
theorem zgl.of_qc {P : Program} {f : FuncId} {args cap : List AV} {r : AV} {H : Heap} {nx : Nat} {k : Kt} (h : QC P f (args ++ cap) r) (hr : Bel (fun _ => False) r) (hk : k r [] [] []) : zgl P (.clo f cap) args H nx k :=
  ⟨r, [], [], [], .inl rfl, LC.of_qc h hr H, hk⟩
end Go.Proofs.YtiinnjjmoifoeaaGreatDoor
set_option maxRecDepth 8000
namespace Go.Proofs.YtiinnjjmoifoeaaGreatDoor
open Go Go.RowKit
theorem JN.same {J : J3} {B : J3 → Prop} (h : B J) : JN J B := ⟨J, fun _ _ _ h => h, h⟩
theorem JN.cut {J : J3} {B : J3 → Prop} (I : J3) (h1 : ∀ xs H nx, I xs H nx → J xs H nx) (h2 : B I) : JN J B := ⟨I, h1, h2⟩
theorem LP.mk {F : J3 → J3} {xs : List AV} {H : Heap} {nx : Nat} (I : Nat → J3) (n : Nat) (h0 : I n xs H nx) (hs : ∀ n xs H nx, I n xs H nx → F (fun xs H nx => ∃ m, m < n ∧ I m xs H nx) xs H nx) : LP F xs H nx := ⟨I, n, h0, hs⟩
@[simp] theorem zajg (x : AV) (xs : List AV) : nth (x :: xs) 0 = x := rfl
@[simp] theorem zajf (x y : AV) (xs : List AV) : nth (x :: y :: xs) 1 = y := rfl
@[simp] theorem zaje (x y z : AV) (xs : List AV) : nth (x :: y :: z :: xs) 2 = z := rfl
@[simp] theorem zajd (x y z a : AV) (xs : List AV) : nth (x :: y :: z :: a :: xs) 3 = a := rfl
@[simp] theorem zajc (x y z a b : AV) (xs : List AV) : nth (x :: y :: z :: a :: b :: xs) 4 = b := rfl
@[simp] theorem zajb (x y z a b c : AV) (xs : List AV) : nth (x :: y :: z :: a :: b :: c :: xs) 5 = c := rfl
@[simp] theorem zaja (x y z a b c d : AV) (xs : List AV) : nth (x :: y :: z :: a :: b :: c :: d :: xs) 6 = d := rfl
@[simp] theorem zaiz (x y z a b c d e : AV) (xs : List AV) : nth (x :: y :: z :: a :: b :: c :: d :: e :: xs) 7 = e := rfl
@[simp] theorem zaiy (x y z a b c d e f : AV) (xs : List AV) : nth (x :: y :: z :: a :: b :: c :: d :: e :: f :: xs) 8 = f := rfl
@[simp] theorem zaix (x y z a b c d e f g : AV) (xs : List AV) : nth (x :: y :: z :: a :: b :: c :: d :: e :: f :: g :: xs) 9 = g := rfl
def OPTK {α : Type} (o : Option α) (k : α → Prop) : Prop := ∃ v, o = some v ∧ k v
@[simp ↓] theorem optk {α : Type} {v : α} {k : α → Prop} : OPTK (some v) k = k v := by simp [OPTK]
@[simp ↓] theorem ztz {α : Type} {k : α → Prop} : OPTK none k = False := by simp [OPTK]
@[congr] theorem zafx {α : Type} {o o' : Option α} {k : α → Prop} (h : o = o') : OPTK o k = OPTK o' k := by rw [h]
def ROWK (o : Option AObj) (k : Nat → List AV → Prop) : Prop := ∃ s cs, o = some (.row s cs) ∧ k s cs
@[simp ↓] theorem rowk {s : Nat} {cs : List AV} {k : Nat → List AV → Prop} : ROWK (some (.row s cs)) k = k s cs := by
  apply propext; constructor
  · rintro ⟨s', cs', h, hk⟩; cases h; exact hk
  · exact fun h => ⟨s, cs, rfl, h⟩
@[congr] theorem zafw {o o' : Option AObj} {k : Nat → List AV → Prop} (h : o = o') : ROWK o k = ROWK o' k := by rw [h]
def MAPK (o : Option AObj) (k : List (AV × AV) → Prop) : Prop := ∃ es, o = some (.mp es) ∧ k es
@[simp ↓] theorem mapk {es : List (AV × AV)} {k : List (AV × AV) → Prop} : MAPK (some (.mp es)) k = k es := by
  apply propext; constructor
  · rintro ⟨es', h, hk⟩; cases h; exact hk
  · exact fun h => ⟨es, rfl, h⟩
@[congr] theorem zagw {o o' : Option AObj} {k : List (AV × AV) → Prop} (h : o = o') : MAPK o k = MAPK o' k := by rw [h]
def PUTH (H : Heap) (g : Nat) (o : AObj) (k : Heap → Prop) : Prop := k (H.put g (some o))
@[simp ↓] theorem puth {H : Heap} {g : Nat} {o : AObj} {k : Heap → Prop} : PUTH H g o k = k (H.put g (some o)) := rfl
section
variable {x x' y y' z z' : AV} {k : AV → Prop} {H H' : Heap} {nx nx' : Nat}
@[congr] theorem pk_c (h : x = x') (h2 : y = y') (h3 : z = z') : PK x y z k = PK x' y' z' k := by rw [h, h2, h3]
@[congr] theorem bi_c {op : BinOp} (h : x = x') (h2 : y = y') : BI op x y k = BI op x' y' k := by rw [h, h2]
@[congr] theorem bs_c {op : BinOp} (h : x = x') (h2 : y = y') : BS op x y k = BS op x' y' k := by rw [h, h2]
@[congr] theorem bb_c {op : BinOp} (h : x = x') (h2 : y = y') : BB op x y k = BB op x' y' k := by rw [h, h2]
@[congr] theorem ba_c {s : List AV} {op : BinOp} (h : x = x') (h2 : y = y') : BA s op x y k = BA s op x' y' k := by rw [h, h2]
@[congr] theorem bf_c {op : BinOp} (h : x = x') (h2 : y = y') : BF op x y k = BF op x' y' k := by rw [h, h2]
@[congr] theorem bp_c {op : BinOp} (h : x = x') (h2 : y = y') : BP op x y k = BP op x' y' k := by rw [h, h2]
@[congr] theorem uo_c {op : UnOp} (h : x = x') : UO op x k = UO op x' k := by rw [h]
@[congr] theorem cv_c {ki : IntKind} (h : x = x') : CV ki x k = CV ki x' k := by rw [h]
@[congr] theorem ld_c {g : Bool} {s : Nat} (h : x = x') (h2 : H = H') : LD g s x H k = LD g s x' H' k := by rw [h, h2]
@[congr] theorem zajm {g : Bool} {s : Nat} {kr : AV → List Nat → Prop} (h : x = x') (h2 : H = H') : LDR g s x H kr = LDR g s x' H' kr := by rw [h, h2]
@[congr] theorem st_c {s : Nat} {kh : Heap → Prop} (h : x = x') (h3 : y = y') (h2 : H = H') : ST s x y H kh = ST s x' y' H' kh := by rw [h, h2, h3]
@[congr] theorem zaek {s : Nat} {kt : Kt} (h : x = x') (h3 : y = y') (h2 : H = H') : zbq s x y H kt = zbq s x' y' H' kt := by rw [h, h2, h3]
@[congr] theorem nc_c (h : x = x') : NC x k = NC x' k := by rw [h]
@[congr] theorem fa_c {o : Nat} (h : x = x') : FA o x k = FA o x' k := by rw [h]
@[congr] theorem fi_c {g : Bool} {s o : Nat} (h : x = x') : FI g s o x k = FI g s o x' k := by rw [h]
@[congr] theorem ia_c {s : Nat} (h : x = x') (h2 : y = y') : IA s x y k = IA s x' y' k := by rw [h, h2]
@[congr] theorem aa_c {s l : Nat} (h : x = x') (h2 : y = y') : AA s l x y k = AA s l x' y' k := by rw [h, h2]
@[congr] theorem ix_c (h : x = x') (h2 : y = y') : IX x y k = IX x' y' k := by rw [h, h2]
@[congr] theorem ai_c {g : Bool} {s l : Nat} (h : x = x') (h2 : y = y') : AI g s l x y k = AI g s l x' y' k := by rw [h, h2]
@[congr] theorem zaji (h : x = x') : LNS x k = LNS x' k := by rw [h]
@[congr] theorem zajk (h : x = x') : LNL x k = LNL x' k := by rw [h]
@[congr] theorem zajj (h : x = x') (h2 : H = H') : LNM x H k = LNM x' H' k := by rw [h, h2]
@[congr] theorem ex_c {i : Nat} (h : x = x') : EX x i k = EX x' i k := by rw [h]
@[congr] theorem bd_c {pl : Nat → Option (Nat × Nat)} {zs : List AV} {ps ps' : List (Nat × AV)} (h : ps = ps') : BD pl zs ps k = BD pl zs ps' k := by rw [h]
@[congr] theorem zajv {l s : Nat} {zs : List AV} {ps ps' : List (Nat × AV)} {kc : List AV → Prop} (h : ps = ps') : BSL l s zs ps kc = BSL l s zs ps' kc := by rw [h]
@[congr] theorem mk_c {b : Nat} {kn : Nat → Prop} (h : x = x') (h2 : y = y') : MK b x y kn = MK b x' y' kn := by rw [h, h2]
@[congr] theorem mm_c {b : Bool} (h : x = x') (h2 : y = y') : MM b x y k = MM b x' y' k := by rw [h, h2]
@[congr] theorem zajh {z z' : AV} (h : x = x') (h2 : y = y') (h3 : z = z') : MX3 x y z k = MX3 x' y' z' k := by rw [h, h2, h3]
@[congr] theorem zait {s n : Nat} {lo lo' hi hi' : Option AV} (h : x = x') (h2 : lo = lo') (h3 : hi = hi') (h4 : H = H') : SLP s n x lo hi H k = SLP s n x' lo' hi' H' k := by rw [h, h2, h3, h4]
@[congr] theorem zaju (h : x = x') (h2 : H = H') : CBS x H k = CBS x' H' k := by rw [h, h2]
@[congr] theorem zajq {ks : List UInt8 → Prop} (h : x = x') : CSB x ks = CSB x' ks := by rw [h]
@[congr] theorem zais {lo lo' hi hi' : Option AV} (h : x = x') (h2 : lo = lo') (h3 : hi = hi') : SLS x lo hi k = SLS x' lo' hi' k := by rw [h, h2, h3]
@[congr] theorem sl_c {s : Nat} {lo lo' hi hi' : Option AV} (h : x = x') (h2 : lo = lo') (h3 : hi = hi') (h4 : H = H') : SL s x lo hi H k = SL s x' lo' hi' H' k := by rw [h, h2, h3, h4]
@[congr] theorem zaen {s : Nat} {lo lo' hi hi' : Option AV} {kt : Kt} (h : x = x') (h2 : lo = lo') (h3 : hi = hi') (h4 : H = H') : zai s x lo hi H kt = zai s x' lo' hi' H' kt := by rw [h, h2, h3, h4]
@[congr] theorem zaiw {w w' : AV} (h : x = x') (h2 : y = y') (h3 : z = z') (h4 : w = w') : SL0 x y z w k = SL0 x' y' z' w' k := by rw [h, h2, h3, h4]
@[congr] theorem lk_c {zs : List AV} {g o : Bool} (h : x = x') (h2 : y = y') (h3 : H = H') : LK zs g x y o H k = LK zs g x' y' o H' k := by rw [h, h2, h3]
@[congr] theorem zagy {zs : List AV} {g o : Bool} {kt : Kt} (h : x = x') (h2 : y = y') (h3 : H = H') : LOOK zs g x y o H kt = LOOK zs g x' y' o H' kt := by rw [h, h2, h3]
@[congr] theorem mu_c {kh : Heap → Prop} (h : x = x') (h2 : y = y') (h3 : z = z') (h4 : H = H') : MU x y z H kh = MU x' y' z' H' kh := by rw [h, h2, h3, h4]
@[congr] theorem zags {kt : Kt} (h : x = x') (h2 : y = y') (h3 : z = z') (h4 : H = H') : MUPD x y z H kt = MUPD x' y' z' H' kt := by rw [h, h2, h3, h4]
@[congr] theorem zajz {e b : Nat} {kk : AV → Heap → Nat → Prop} (h : x = x') (h2 : y = y') (h3 : H = H') (h4 : nx = nx') : APP e b x y H nx kk = APP e b x' y' H' nx' kk := by rw [h, h2, h3, h4]
@[congr] theorem zaef {e b : Nat} {kt : Kt} (h : x = x') (h2 : y = y') (h3 : H = H') (h4 : nx = nx') : zad e b x y H nx kt = zad e b x' y' H' nx' kt := by rw [h, h2, h3, h4]
@[congr] theorem cp_c {e : Nat} {kh : AV → Heap → Prop} (h : x = x') (h2 : y = y') (h3 : H = H') : CP e x y H kh = CP e x' y' H' kh := by rw [h, h2, h3]
@[congr] theorem zahj {e : Nat} {kt : Kt} (h : x = x') (h2 : y = y') (h3 : H = H') : COPY e x y H kt = COPY e x' y' H' kt := by rw [h, h2, h3]
@[congr] theorem zajt {A B : Prop} (h : x = x') : CND x A B = CND x' A B := by rw [h]
@[congr] theorem zahm {A B : Prop} (h : x = x') : CNDC x A B = CNDC x' A B := by rw [h]
@[congr] theorem bl_c {op : BinOp} (h : x = x') (h2 : y = y') : BL op x y k = BL op x' y' k := by rw [h, h2]
@[congr] theorem zahn {P : Program} {bs bs' : List AV} {kk : AV → Heap → Nat → Prop} (h : x = x') (h2 : bs = bs') (h3 : H = H') (h4 : nx = nx') : CALL P x bs H nx kk = CALL P x' bs' H' nx' kk := by rw [h, h2, h3, h4]
@[congr] theorem zafh {P : Program} {bs bs' : List AV} {kt : Kt} (h : x = x') (h2 : bs = bs') (h3 : H = H') (h4 : nx = nx') : zgl P x bs H nx kt = zgl P x' bs' H' nx' kt := by rw [h, h2, h3, h4]
@[congr] theorem zaeg {P : Program} {f : FuncId} {bs bs' : List AV} {kk : AV → Heap → Nat → Prop} (h2 : bs = bs') (h3 : H = H') (h4 : nx = nx') : zb P f bs H nx kk = zb P f bs' H' nx' kk := by rw [h2, h3, h4]
@[congr] theorem jn_c {J : J3} {B : J3 → Prop} : JN J B = JN J B := rfl
@[congr] theorem lp_c {F : J3 → J3} {xs xs' : List AV} (h : xs = xs') (h3 : H = H') (h4 : nx = nx') : LP F xs H nx = LP F xs' H' nx' := by rw [h, h3, h4]
@[congr] theorem zafe {l l' m m' : List Nat} {A : Prop} (h : l = l') (h2 : m = m') : zo l m A = zo l' m' A := by rw [h, h2]
@[congr] theorem zafr {p p' v v' : AV} {D D' : zi} {rd rd' : List Nat} {A : Prop} (h : p = p') (h2 : v = v') (h3 : D = D') (h4 : rd = rd') : SOFT p v D rd A = SOFT p' v' D' rd' A := by rw [h, h2, h3, h4]
@[congr] theorem zafg {g g' q q' : Nat} {v v' : AV} {D D' : zi} {A : Prop} (h : g = g') (h2 : q = q') (h3 : v = v') (h4 : D = D') : zdq g q v D A = zdq g' q' v' D' A := by rw [h, h2, h3, h4]
@[congr] theorem gd_c {b b' : Bool} {A : Prop} (h : b = b') : gd b A = gd b' A := by rw [h]
end
@[simp ↓] theorem zajr (A B : Prop) : CND (.bool true) A B = A := rfl
@[simp ↓] theorem zajs (A B : Prop) : CND (.bool false) A B = B := rfl
@[simp ↓ low] theorem cnd (b : Bool) (A B : Prop) : CND (.bool b) A B = ((b = true → A) ∧ (b = false → B)) := propext zxh
@[simp ↓] theorem zahk (A B : Prop) : CNDC (.bool true) A B = A := rfl
@[simp ↓] theorem zahl (A B : Prop) : CNDC (.bool false) A B = B := rfl
@[simp ↓] theorem zaec (A B : Prop) : CNDC .bany A B = (A ∧ B) := rfl
@[simp ↓ low] theorem cndc (b : Bool) (A B : Prop) : CNDC (.bool b) A B = ((b = true → A) ∧ (b = false → B)) := by cases b <;> simp
@[simp ↓] theorem pk (b : Bool) (x y : AV) (k : AV → Prop) : PK (.bool b) x y k = k (bif b then x else y) := rfl
variable {ki : IntKind} {a b : Int} {k : AV → Prop}
@[simp ↓] theorem zaii : BI .add (.int ki a) (.int ki b) k = k (.int ki (ki.wrap (a + b))) := by simp [BI, BINI, IBIN, zu, PURE, qk]
@[simp ↓] theorem zahv : BI .sub (.int ki a) (.int ki b) k = k (.int ki (ki.wrap (a - b))) := by simp [BI, BINI, IBIN, zu, PURE, qk]
@[simp ↓] theorem zaic : BI .mul (.int ki a) (.int ki b) k = k (.int ki (ki.wrap (a * b))) := by simp [BI, BINI, IBIN, zu, PURE, qk]
@[simp ↓] theorem zahz : BI .quo (.int ki a) (.int ki b) k = (b ≠ 0 ∧ k (.int ki (ki.wrap (a.tdiv b)))) := by simp [BI, BINI, IBIN, zu, PURE, qk]
@[simp ↓] theorem zahy : BI .rem (.int ki a) (.int ki b) k = (b ≠ 0 ∧ k (.int ki (a.tmod b))) := by simp [BI, BINI, IBIN, zu, PURE, qk]
@[simp ↓] theorem zahx {kj : IntKind} : BI .shl (.int ki a) (.int kj b) k = (0 ≤ b ∧ k (.int ki (ki.wrap (a * 2 ^ (min b.toNat ki.bits))))) := by simp [BI, BINI, IBIN, zu, PURE, qk]
@[simp ↓] theorem zahw {kj : IntKind} : BI .shr (.int ki a) (.int kj b) k = (0 ≤ b ∧ k (.int ki (a.fdiv (2 ^ (min b.toNat ki.bits))))) := by simp [BI, BINI, IBIN, zu, PURE, qk]
@[simp ↓] theorem zaih : BI .eql (.int ki a) (.int ki b) k = k (.bool (decide (a = b))) := by simp [BI, BINI, IBIN, icmp, zu, PURE, qk]; rfl
@[simp ↓] theorem zaib : BI .neq (.int ki a) (.int ki b) k = k (.bool (!decide (a = b))) := by simp [BI, BINI, IBIN, icmp, zu, PURE, qk]; rfl
@[simp ↓] theorem zaid : BI .lss (.int ki a) (.int ki b) k = k (.bool (decide (a < b))) := by simp [BI, BINI, IBIN, icmp, zu, PURE, qk]
@[simp ↓] theorem zaie : BI .leq (.int ki a) (.int ki b) k = k (.bool (decide (a ≤ b))) := by simp [BI, BINI, IBIN, icmp, zu, PURE, qk]
@[simp ↓] theorem zaif : BI .gtr (.int ki a) (.int ki b) k = k (.bool (decide (b < a))) := by simp [BI, BINI, IBIN, icmp, zu, PURE, qk]
@[simp ↓] theorem zaig : BI .geq (.int ki a) (.int ki b) k = k (.bool (decide (b ≤ a))) := by simp [BI, BINI, IBIN, icmp, zu, PURE, qk]
@[simp ↓] theorem zzy : BI .and (.int ki a) (.int ki b) k = k (.int ki (ki.wrap (BitVec.ofInt ki.bits a &&& BitVec.ofInt ki.bits b).toNat)) := by simp [BI, BINI, IBIN, zci, zu, PURE, qk]
@[simp ↓] theorem zabb : BI .or (.int ki a) (.int ki b) k = k (.int ki (ki.wrap (BitVec.ofInt ki.bits a ||| BitVec.ofInt ki.bits b).toNat)) := by simp [BI, BINI, IBIN, zci, zu, PURE, qk]
@[simp ↓] theorem zzx : BI .xor (.int ki a) (.int ki b) k = k (.int ki (ki.wrap (BitVec.ofInt ki.bits a ^^^ BitVec.ofInt ki.bits b).toNat)) := by simp [BI, BINI, IBIN, zci, zu, PURE, qk]
@[simp ↓] theorem cv (kj : IntKind) : CV kj (.int ki a) k = k (.int kj (kj.wrap a)) := rfl
@[simp ↓] theorem zafo (c : Bool) : UO .not (.bool c) k = k (.bool (!c)) := rfl
@[simp ↓] theorem zafp : UO .neg (.int ki a) k = k (.int ki (ki.wrap (0 - a))) := rfl
@[simp ↓] theorem zahr (s t : List UInt8) : BS .eql (.str s) (.str t) k = k (.bool (decide (s = t))) := by
  have : (s == t) = decide (s = t) := by rw [Bool.eq_iff_iff]; simp
  rw [← this]; rfl
@[simp ↓] theorem zahp (s t : List UInt8) : BS .neq (.str s) (.str t) k = k (.bool (!decide (s = t))) := by
  have : (s == t) = decide (s = t) := by rw [Bool.eq_iff_iff]; simp
  rw [← this]; rfl
@[simp ↓] theorem zahq (s t : List UInt8) : BS .lss (.str s) (.str t) k = k (.bool (Op.bytesLess s t)) := rfl
@[simp ↓] theorem zahs (s t : List UInt8) : BS .add (.str s) (.str t) k = (s.length + t.length ≤ 9223372036854775807 ∧ k (.str (s ++ t))) := rfl
@[simp ↓] theorem zaim (c d : Bool) : BB .eql (.bool c) (.bool d) k = k (.bool (c == d)) := by simp [BB, BINB, zt, PURE, qk]
@[simp ↓] theorem zail (c d : Bool) : BB .neq (.bool c) (.bool d) k = k (.bool (c != d)) := by simp [BB, BINB, zt, PURE, qk]; rfl
@[simp ↓] theorem zagt : MM true (.int ki a) (.int ki b) k = k (.int ki (min a b)) := by
  have : (if b < a then b else a) = min a b := by split <;> omega
  simp [MM, zaw, PURE, qk, this]
@[simp ↓] theorem zagu : MM false (.int ki a) (.int ki b) k = k (.int ki (max a b)) := by
  have : (if b > a then b else a) = max a b := by split <;> omega
  simp only [MM, zaw, PURE, qk, cond_false, this, true_and]
@[simp ↓] theorem zaez {c : Int} : MX3 (.int ki a) (.int ki b) (.int ki c) k = k (.int ki (max (max a b) c)) := by
  have e : ∀ a b : Int, (if b > a then b else a) = max a b := by intro a b; split <;> omega
  simp only [MX3, MAX3, zaw, PURE, qk, cond_false, e, true_and]
@[simp ↓] theorem zaff (s : List UInt8) (ks : List UInt8 → Prop) : CSB (.str s) ks = ks s := rfl
@[simp ↓] theorem zaio (zs xs ys : List AV) : BA zs .eql (.agg xs) (.agg ys) k = ((zc zs xs).isSome = true ∧ OPTK (zc xs ys) fun t => k (.bool t)) := by
  simp only [BA, BINA, zt, PURE, qk, OPTK]
  cases zc xs ys <;> simp
@[simp ↓] theorem zain (zs xs ys : List AV) : BA zs .neq (.agg xs) (.agg ys) k = ((zc zs xs).isSome = true ∧ OPTK (zc xs ys) fun t => k (.bool (!t))) := by
  simp only [BA, BINA, zt, PURE, qk, OPTK]
  cases zc xs ys <;> simp
@[simp] theorem zaab : zc [] [] = some true := rfl
@[simp] theorem zaac {ki : IntKind} {a b : Int} {r s : List AV} : zc (.int ki a :: r) (.int ki b :: s) = (zc r s).map (fun t => a == b && t) := by simp [zc]
@[simp] theorem zaaa {a b : List UInt8} {r s : List AV} : zc (.str a :: r) (.str b :: s) = (zc r s).map (fun t => a == b && t) := rfl
@[simp] theorem zzn {a b : Bool} {r s : List AV} : zc (.bool a :: r) (.bool b :: s) = (zc r s).map (fun t => a == b && t) := rfl
@[simp ↓] theorem zajx (xs : List (List AV)) : BL .eql (.ro xs) .nils k = ((xs = [] → k .bany) ∧ (xs ≠ [] → k (.bool false))) := by simp [BL, BINL, zt, PURE, qk]
@[simp ↓] theorem zaht (g o n : Nat) : BL .eql (.slc g o n) .nils k = ((n = 0 → k .bany) ∧ (n ≠ 0 → k (.bool false))) := by simp [BL, BINL, zt, PURE, qk]
@[simp ↓] theorem zajw : BL .eql .zs .nils k = k .bany := by simp [BL, BINL, zt, PURE, qk]
@[simp ↓] theorem zahu : BL .eql .nils .nils k = k (.bool true) := by simp [BL, BINL, zt, PURE, qk]
@[simp ↓] theorem zaij : BF .eql .inil .inil k = k (.bool true) := by simp [BF, BINF, zt, PURE, qk]
@[simp ↓] theorem zafk : BF .neq .inil .inil k = k (.bool false) := by simp [BF, BINF, zt, PURE, qk]
@[simp ↓] theorem zaik : BF .eql .ifc .inil k = k (.bool false) := by simp [BF, BINF, zt, PURE, qk]
@[simp ↓] theorem zafl : BF .neq .ifc .inil k = k (.bool true) := by simp [BF, BINF, zt, PURE, qk]
@[simp ↓] theorem lns (s : List UInt8) : LNS (.str s) k = k (.int .i64 (s.length : Int)) := rfl
@[simp ↓] theorem zaha (xs : List (List AV)) : LNL (.ro xs) k = k (.int .i64 (xs.length : Int)) := rfl
@[simp ↓] theorem zafa (g off len : Nat) : LNL (.slc g off len) k = k (.int .i64 (len : Int)) := rfl
@[simp ↓] theorem zadu : LNL .nils k = k (.int .i64 0) := rfl
@[simp ↓] theorem zagz : LNL .zs k = k (.int .i64 0) := rfl
@[simp ↓] theorem zahc (s : List UInt8) (n : Int) : IX (.str s) (.int ki n) k = (0 ≤ n ∧ n < s.length ∧ k (.int .u8 ((s.getD n.toNat 0).toNat : Int))) := rfl
@[simp ↓] theorem zxw (esz : Nat) (xs : List (List AV)) (n : Int) : IA esz (.ro xs) (.int ki n) k = (0 ≤ n ∧ n < xs.length ∧ (xs.getD n.toNat []).length = esz ∧ k (.rop (xs.getD n.toNat []) 0)) := rfl
@[simp ↓] theorem zzm (esz g off len : Nat) (n : Int) : IA esz (.slc g off len) (.int ki n) k = (0 ≤ n ∧ n < len ∧ k (.ptr g (off + n.toNat * esz))) := rfl
@[simp ↓] theorem zahg (o : Nat) (cs : List AV) (q : Nat) : FA o (.rop cs q) k = k (.rop cs (q + o)) := rfl
@[simp ↓] theorem zahh (o g q : Nat) : FA o (.ptr g q) k = k (.ptr g (q + o)) := rfl
@[simp ↓] theorem zago (cs : List AV) (q : Nat) : NC (.rop cs q) k = k (.rop cs q) := rfl
@[simp ↓] theorem zagp (g q : Nat) : NC (.ptr g q) k = k (.ptr g q) := rfl
@[simp] theorem zaci : (AV.int ki a).cells = [AV.int ki a] := rfl
@[simp] theorem zacf (s : List UInt8) : (AV.str s).cells = [AV.str s] := rfl
@[simp] theorem zaav (c : Bool) : (AV.bool c).cells = [AV.bool c] := rfl
@[simp] theorem zacj (xs : List AV) : (AV.agg xs).cells = xs := rfl
@[simp] theorem zacg (g o n : Nat) : (AV.slc g o n).cells = [AV.slc g o n] := rfl
@[simp] theorem zaee (xs : List (List AV)) : (AV.ro xs).cells = [AV.ro xs] := rfl
@[simp] theorem zaco : (AV.int ki a).sure = true := rfl
@[simp] theorem zacl (s : List UInt8) : (AV.str s).sure = true := rfl
@[simp] theorem zaaw : AV.bany.cells = [AV.bany] := rfl
@[simp] theorem zabd (c : Bool) : (AV.bool c).sure = true := rfl
@[simp] theorem zacq (xs : List AV) : (AV.agg xs).sure = true := rfl
@[simp] theorem zacm (g o n : Nat) : (AV.slc g o n).sure = true := rfl
@[simp] theorem zaei (xs : List (List AV)) : (AV.ro xs).sure = true := rfl
@[simp] theorem zaex : (AV.int ki a).one = true := rfl
@[simp] theorem zaeu (s : List UInt8) : (AV.str s).one = true := rfl
@[simp] theorem zadr (c : Bool) : (AV.bool c).one = true := rfl
@[simp] theorem zaev (g o n : Nat) : (AV.slc g o n).one = true := rfl
@[simp] theorem zafz (xs : List (List AV)) : (AV.ro xs).one = true := rfl
@[simp ↓] theorem zahi (vs : List AV) (i : Nat) : EX (.tup vs) i k = OPTK vs[i]? k := by
  simp only [EX, EXTR, PURE, qk, OPTK]
  cases vs[i]? <;> simp
theorem i64w {n : Int} (h : -9223372036854775808 ≤ n ∧ n ≤ 9223372036854775807) : IntKind.i64.wrap n = n := IntWalk.i64_in n h
theorem zpa {H : Heap} {nx : Nat} {c : Bool} : Frz H nx (.bool c) (.bool c) := .same _ (.bool _)
end Go.Proofs.YtiinnjjmoifoeaaGreatDoor
