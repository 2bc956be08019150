/- A region whose order is drawn: one walk in the text's order is enough, if what is not ordered does not touch the same. -/
import Derived.Test.YtckhbfbbpdjmdaaDsop
namespace Go.Proofs.Ytckhbfbbpdjmdaa
open Go Go.RowKit

/-- What an operation came to, where it stood. -/
structure Rec where
  v : AV
  rd : List Nat
  fr : List Nat
  D : Delta
  skip : Bool
  env : Env
  H : Heap

def Bdd (A : Nat → Prop) : Prop := ∃ N, ∀ g, A g → g < N
/-- A call's effect, at whatever heap that agrees with H0 where it looks. -/
def LC (P : Program) (f : FuncId) (args : List AV) (H0 : Heap) (rd fr : List Nat) (D : Delta) (v : AV) : Prop :=
  ∀ (A : Nat → Prop) (ρ : Nat → Loc) (H : Heap) (w : World) (cargs : Array Value), Bdd A → Sim A ρ H w → LRel (Kof ρ H w) ρ A args cargs.toList → (∀ g ∈ rd, H g = H0 g) → (∀ g ∈ fr, ¬ A g) →
    flowUpon P (APost A ρ H w v fr D) ((callFunc f cargs).run P w)
def CALLD (P : Program) (f : AV) (args : List AV) (H : Heap) (nx : Nat) (k : Kt) : Prop := match f with
  | .clo f cap => ∃ v rd fr D, (fr = [] ∨ fr = [nx]) ∧ LC P f (args ++ cap) H rd fr D v ∧ k v rd fr D
  | _ => False

/-- As Eff, where the numbers taken are bounded. -/
def EffB (P : Program) (o : Oper) (e : Operand → AV) (H0 : Heap) (rd fr : List Nat) (D : Delta) (v : AV) : Prop :=
  ∀ (A : Nat → Prop) (ρ : Nat → Loc) (H : Heap) (w : World) (ev : Operand → Value), Bdd A → Sim A ρ H w → (∀ x ∈ o.op.operands.toList, VRel (Kof ρ H w) ρ A (e x) (ev x)) →
    (∀ g ∈ rd, H g = H0 g) → (∀ g ∈ fr, ¬ A g) → flowUpon P (APost A ρ H w v fr D) ((execOp ev o).run P w)

section
variable (P : Program) (T : Nat → Option AT) (eqs : Nat → Bool)
def dstep (o : Oper) (env : Env) (H : Heap) (nx : Nat) (k : Kt) : Prop :=
  match o.op with
  | .call c => match c.callee with
    | .value f => CALLD P (env.ev f) (c.args.toList.map env.ev) H nx k
    | _ => dsop T eqs env.ev H nx o k
  | _ => dsop T eqs env.ev H nx o k

def dops (all : List Oper) : List Oper → Known → Env → Heap → Nat → List Rec → (Env → Heap → Nat → List Rec → Prop) → Prop
  | [], _, env, H, nx, log, K => K env H nx log
  | o :: r, kn, env, H, nx, log, K => match o.guard with
    | none => dstep P T eqs o env H nx fun v rd fr D => dops all r (kdrop o.dst kn) (env.putO o.dst v) (H.apply D) (nx + fr.length) (log ++ [⟨v, rd, fr, D, false, env, H⟩]) K
    | some (j, want) => match gdst all j with
      | none => False
      | some t => match klook t kn with
        | some none => dops all r (kskip o.dst kn) (env.putO o.dst .und) H nx (log ++ [⟨.und, [], [], [], true, env, H⟩]) K
        | some (some b) => bif b == want then dstep P T eqs o env H nx fun v rd fr D => dops all r (kdrop o.dst kn) (env.putO o.dst v) (H.apply D) (nx + fr.length) (log ++ [⟨v, rd, fr, D, false, env, H⟩]) K
          else dops all r (kskip o.dst kn) (env.putO o.dst .und) H nx (log ++ [⟨.und, [], [], [], true, env, H⟩]) K
        | none => CND (env t)
          (bif want then dstep P T eqs o (env.put t (.bool true)) H nx fun v rd fr D => dops all r (kdrop o.dst ((t, some true) :: kn)) ((env.put t (.bool true)).putO o.dst v) (H.apply D) (nx + fr.length) (log ++ [⟨v, rd, fr, D, false, env.put t (.bool true), H⟩]) K
            else dops all r (kskip o.dst ((t, some true) :: kn)) ((env.put t (.bool true)).putO o.dst .und) H nx (log ++ [⟨.und, [], [], [], true, env.put t (.bool true), H⟩]) K)
          (bif want then dops all r (kskip o.dst ((t, some false) :: kn)) ((env.put t (.bool false)).putO o.dst .und) H nx (log ++ [⟨.und, [], [], [], true, env.put t (.bool false), H⟩]) K
            else dstep P T eqs o (env.put t (.bool false)) H nx fun v rd fr D => dops all r (kdrop o.dst ((t, some false) :: kn)) ((env.put t (.bool false)).putO o.dst v) (H.apply D) (nx + fr.length) (log ++ [⟨v, rd, fr, D, false, env.put t (.bool false), H⟩]) K)
end

def beforeF (ops : Array Oper) : Nat → Nat → Nat → Bool
  | 0, _, _ => false
  | f + 1, i, j => (predsOf ops j).any fun p => Nat.beq p i || beforeF ops f i p
/-- Which operations come before which, as bits. -/
def ancM (l : List Nat) : List Nat → Nat → Nat
  | [], m => m
  | p :: r, m => ancM l r (Nat.lor (Nat.lor m (Nat.shiftLeft 1 p)) (l.getD p 0))
def ancL (ops : Array Oper) : Nat → List Nat
  | 0 => []
  | n + 1 => ancL ops n ++ [ancM (ancL ops n) (predsOf ops n) 0]
def befB (l : List Nat) (i j : Nat) : Bool := Nat.beq (Nat.land (Nat.shiftRight (l.getD j 0) i) 1) 1
theorem ancM_bit {l : List Nat} {i : Nat} : ∀ (ps : List Nat) (m : Nat), (ancM l ps m).testBit i = true → m.testBit i = true ∨ ∃ p ∈ ps, p = i ∨ (l.getD p 0).testBit i = true
  | [], m, h => .inl h
  | p :: r, m, h => by
    rcases ancM_bit r _ h with h | ⟨q, hq, h⟩
    · have e : Nat.lor (Nat.lor m (Nat.shiftLeft 1 p)) (l.getD p 0) = (m ||| 1 <<< p) ||| l.getD p 0 := rfl
      rw [e, Nat.testBit_or, Nat.testBit_or, Bool.or_eq_true, Bool.or_eq_true] at h
      rcases h with (h | h) | h
      · exact .inl h
      · refine .inr ⟨p, by simp, .inl ?_⟩
        rw [Nat.one_shiftLeft, Nat.testBit_two_pow] at h
        simpa using h
      · exact .inr ⟨p, by simp, .inr h⟩
    · exact .inr ⟨q, by simp [hq], h⟩
theorem ancL_length (ops : Array Oper) : ∀ n, (ancL ops n).length = n
  | 0 => rfl
  | n + 1 => by simp [ancL, ancL_length ops n]
theorem ancL_before {ops : Array Oper} {i : Nat} : ∀ (n j : Nat), ((ancL ops n).getD j 0).testBit i = true → ∃ f, beforeF ops f i j = true
  | 0, j, h => by simp [ancL] at h
  | n + 1, j, h => by
    by_cases hj : j < n
    · refine ancL_before n j ?_
      rw [← h]
      simp only [ancL, List.getD_eq_getElem?_getD]
      rw [List.getElem?_append_left (by rw [ancL_length]; exact hj)]
    · by_cases hjn : j = n
      · subst hjn
        have e : (ancL ops (j + 1)).getD j 0 = ancM (ancL ops j) (predsOf ops j) 0 := by
          simp only [ancL, List.getD_eq_getElem?_getD]
          rw [List.getElem?_append_right (by rw [ancL_length]; exact Nat.le_refl _), ancL_length]
          simp
        rw [e] at h
        rcases ancM_bit _ _ h with h | ⟨p, hp, rfl | h⟩
        · simp at h
        · exact ⟨1, by simp only [beforeF, List.any_eq_true]; exact ⟨p, hp, by simp⟩⟩
        · obtain ⟨f, hf⟩ := ancL_before j p h
          exact ⟨f + 1, by simp only [beforeF, List.any_eq_true]; exact ⟨p, hp, by simp [hf]⟩⟩
      · have e : (ancL ops (n + 1)).getD j 0 = 0 := by
          rw [List.getD_eq_getElem?_getD, List.getElem?_eq_none (by rw [ancL_length]; omega)]; rfl
        rw [e] at h
        simp at h
theorem befB_before {ops : Array Oper} {i j n : Nat} (h : befB (ancL ops n) i j = true) : ∃ f, beforeF ops f i j = true := by
  refine ancL_before n j ?_
  have h1 := Nat.eq_of_beq_eq_true h
  have e : Nat.land (Nat.shiftRight ((ancL ops n).getD j 0) i) 1 = ((ancL ops n).getD j 0 >>> i) &&& 1 := rfl
  rw [e, Nat.and_comm] at h1
  simp only [Nat.testBit, h1]
  rfl

/-- Pairs of operations that are not ordered, and one of which may change the heap. -/
def cpairsL (ops : Array Oper) (l : List Nat) : List (Nat × Nat) :=
  (List.range ops.size).flatMap fun j => (List.range j).filterMap fun i =>
    match ops[i]?, ops[j]? with
    | some a, some b => if (noW a && noW b) || befB l i j then none else some (i, j)
    | _, _ => none
def cpairs (ops : Array Oper) : List (Nat × Nat) := cpairsL ops (ancL ops ops.size)
def disj : List Nat → List Nat → Prop
  | [], _ => True
  | [g], l => g ∉ l
  | g :: r, l => g ∉ l ∧ disj r l
def domD (D : Delta) : List Nat := D.map (·.1)
def pairOk (L : List Rec) (p : Nat × Nat) : Prop := match L[p.1]?, L[p.2]? with
  | some a, some b => disj (domD a.D) (b.rd ++ domD b.D) ∧ disj (domD b.D) a.rd
  | _, _ => False
def conds (L : List Rec) : List (Nat × Nat) → Prop
  | [] => True
  | [p] => pairOk L p
  | p :: r => pairOk L p ∧ conds L r

/-- The same, in front of what is to be shown behind it. -/
def disjK : List Nat → List Nat → Prop → Prop
  | [], _, A => A
  | g :: r, l, A => g ∉ l ∧ disjK r l A
def pairK (L : List Rec) (p : Nat × Nat) (A : Prop) : Prop := match L[p.1]?, L[p.2]? with
  | some a, some b => disjK (domD a.D) b.rd (disjK (domD a.D) (domD b.D) (disjK (domD b.D) a.rd A))
  | _, _ => False
def condK (L : List Rec) (A : Prop) : List (Nat × Nat) → Prop
  | [] => A
  | p :: r => pairK L p (condK L A r)
theorem disj_iff : ∀ (l m : List Nat), disj l m ↔ ∀ g ∈ l, g ∉ m
  | [], m => by simp [disj]
  | [g], m => by simp [disj]
  | g :: h :: r, m => by simp only [disj, disj_iff (h :: r) m]; simp
theorem conds_iff (L : List Rec) : ∀ l : List (Nat × Nat), conds L l ↔ ∀ p ∈ l, pairOk L p
  | [] => by simp [conds]
  | [p] => by simp [conds]
  | p :: q :: r => by simp only [conds, conds_iff L (q :: r)]; simp

theorem disjK_iff {A : Prop} : ∀ (l m : List Nat), disjK l m A ↔ disj l m ∧ A
  | [], m => by simp [disjK, disj]
  | g :: r, m => by
    simp only [disjK, disjK_iff r m]
    rw [disj_iff, disj_iff]
    simp [and_assoc]
theorem condK_iff {L : List Rec} {A : Prop} : ∀ l : List (Nat × Nat), condK L A l ↔ conds L l ∧ A
  | [] => by simp [condK, conds]
  | p :: r => by
    have h : pairK L p (condK L A r) ↔ pairOk L p ∧ condK L A r := by
      unfold pairK pairOk
      split
      · simp only [disjK_iff, disj_iff, List.mem_append, not_or]
        exact ⟨fun ⟨h1, h2, h3, h4⟩ => ⟨⟨fun g hg => ⟨h1 g hg, h2 g hg⟩, h3⟩, h4⟩, fun ⟨⟨h1, h3⟩, h4⟩ => ⟨fun g hg => (h1 g hg).1, fun g hg => (h1 g hg).2, h3, h4⟩⟩
      · simp
    simp only [condK]
    rw [h, condK_iff r, conds_iff, conds_iff]
    simp [and_assoc]

section
variable {P : Program} {T : Nat → Option AT} {eqs : Nat → Bool} (hT : TOk P T) (hE : EOk P T eqs)

theorem LRel.ops {K : KHeap} {ρ : Nat → Loc} {A : Nat → Prop} {e : Operand → AV} {ev : Operand → Value} {xs : Array Operand} (h : ∀ x ∈ xs.toList, VRel K ρ A (e x) (ev x)) : LRel K ρ A (xs.toList.map e) (xs.map ev).toList := by
  refine ⟨by simp, fun j v u hv hu => ?_⟩
  simp only [List.getElem?_map, Option.map_eq_some_iff, Array.toList_map] at hv hu
  obtain ⟨x, hx, rfl⟩ := hv
  obtain ⟨y, hy, rfl⟩ := hu
  rw [hx] at hy
  obtain rfl := Option.some.inj hy
  exact h x (List.mem_of_getElem? hx)

include hT hE in
theorem dstep_sound {o : Oper} {env : Env} {H : Heap} {nx : Nat} {k : Kt} (h : dstep P T eqs o env H nx k) :
    ∃ v rd fr D, (fr = [] ∨ fr = [nx]) ∧ EffB P o env.ev H rd fr D v ∧ (noW o = true → fr = [] ∧ D = []) ∧ k v rd fr D := by
  have plain : dsop T eqs env.ev H nx o k → ∃ v rd fr D, (fr = [] ∨ fr = [nx]) ∧ EffB P o env.ev H rd fr D v ∧ (noW o = true → fr = [] ∧ D = []) ∧ k v rd fr D := by
    intro h
    obtain ⟨v, rd, fr, D, h1, h2, h3, h4⟩ := aop_sound' hT hE (dsop_aop T eqs h)
    exact ⟨v, rd, fr, D, h1, fun A ρ H w ev _ s hx hr hf => h2 A ρ H w ev s hx hr hf, h4, h3⟩
  unfold dstep at h
  split at h
  · rename_i c hop
    split at h
    · rename_i f hc
      unfold CALLD at h
      split at h
      · rename_i fid cap hf
        obtain ⟨v, rd, fr, D, h1, h2, h3⟩ := h
        refine ⟨v, rd, fr, D, h1, fun A ρ H w ev hB s hx hr hfr => ?_, fun hn => by simp [noW, hop] at hn, h3⟩
        have hfv := hx f (by simp [hop, Op.operands, Call.operands, hc])
        rw [hf] at hfv
        generalize hcv : ev f = cv at hfv
        cases hfv with
        | clo _ _ cs hl hR =>
          have hargs : LRel (Kof ρ H w) ρ A (c.args.toList.map env.ev ++ cap) (c.args.map ev ++ cs).toList := by
            rw [Array.toList_append]
            exact LRel.append (LRel.ops fun x hx' => hx x (by simp only [hop, Op.operands, Call.operands, hc]; simp; exact .inr (by simpa using hx'))) ⟨by simpa using hl, fun j v u hv hu => hR j v u hv (by simpa using hu)⟩
          have := h2 A ρ H w (c.args.map ev ++ cs) hB s hargs hr hfr
          have e : (execOp ev o).run P w = (callFunc fid (c.args.map ev ++ cs)).run P w := by
            simp only [execOp, hop, resolve, hc, hcv, Deferred.ofValue, Sem.run_bind, Sem.run_pure, Result.andThen_ok, invoke, Array.empty_append]
          rw [e]
          exact this
      · exact h.elim
    · exact plain h
  · exact plain h

/-- The walk in the text's order. -/
def Fact (P : Program) (all : List Oper) (o : Oper) (r : Rec) (nx : Nat) : Prop :=
  (r.fr = [] ∨ r.fr = [nx]) ∧ (noW o = true → r.fr = [] ∧ r.D = []) ∧
  if r.skip then r.v = .und ∧ r.rd = [] ∧ r.fr = [] ∧ r.D = [] ∧ ∃ j want t, o.guard = some (j, want) ∧ gdst all j = some t ∧ (r.env t = .und ∨ r.env t = .bool (!want))
  else EffB P o r.env.ev r.H r.rd r.fr r.D r.v ∧ (o.guard = none ∨ ∃ j want t, o.guard = some (j, want) ∧ gdst all j = some t ∧ r.env t = .bool want)
def Chain (P : Program) (all : List Oper) : List Oper → List Rec → Env → Heap → Nat → Env → Heap → Nat → Prop
  | [], [], env, H, nx, env', H', nx' => env' = env ∧ H' = H ∧ nx' = nx
  | o :: r, x :: t, env, H, nx, env', H', nx' => x.env = env ∧ x.H = H ∧ Fact P all o x nx ∧ Chain P all r t (env.putO o.dst x.v) (H.apply x.D) (nx + x.fr.length) env' H' nx'
  | _, _, _, _, _, _, _, _ => False

include hT hE in
theorem dops_chain {all : List Oper} {K : Env → Heap → Nat → List Rec → Prop} : ∀ (rest : List Oper) (kn : Known) (env : Env) (H : Heap) (nx : Nat) (log : List Rec), KnOk kn env → dops P T eqs all rest kn env H nx log K →
    ∃ L env' H' nx', Chain P all rest L env H nx env' H' nx' ∧ K env' H' nx' (log ++ L)
  | [], kn, env, H, nx, log, _, h => ⟨[], env, H, nx, ⟨rfl, rfl, rfl⟩, by rw [List.append_nil]; exact h⟩
  | o :: r, kn, env, H, nx, log, hkn, h => by
    have run : ∀ (kn1 : Known) (env1 : Env), env1 = env → KnOk kn1 env1 → (o.guard = none ∨ ∃ j want t, o.guard = some (j, want) ∧ gdst all j = some t ∧ env1 t = .bool want) →
        dstep P T eqs o env1 H nx (fun v rd fr D => dops P T eqs all r (kdrop o.dst kn1) (env1.putO o.dst v) (H.apply D) (nx + fr.length) (log ++ [⟨v, rd, fr, D, false, env1, H⟩]) K) →
        ∃ L env' H' nx', Chain P all (o :: r) L env H nx env' H' nx' ∧ K env' H' nx' (log ++ L) := by
      intro kn1 env1 he hk1 hg hs
      subst he
      obtain ⟨v, rd, fr, D, h1, h2, h3, h4⟩ := dstep_sound hT hE hs
      obtain ⟨L, env', H', nx', q1, q2⟩ := dops_chain r _ _ _ _ _ (hk1.drop o.dst v) h4
      exact ⟨⟨v, rd, fr, D, false, env1, H⟩ :: L, env', H', nx', ⟨rfl, rfl, ⟨h1, h3, by simp only [Bool.false_eq_true, if_false]; exact ⟨h2, hg⟩⟩, q1⟩, by simpa using q2⟩
    have skip : ∀ (kn1 : Known) (env1 : Env), env1 = env → KnOk kn1 env1 → (∃ j want t, o.guard = some (j, want) ∧ gdst all j = some t ∧ (env1 t = .und ∨ env1 t = .bool (!want))) →
        dops P T eqs all r (kskip o.dst kn1) (env1.putO o.dst .und) H nx (log ++ [⟨.und, [], [], [], true, env1, H⟩]) K →
        ∃ L env' H' nx', Chain P all (o :: r) L env H nx env' H' nx' ∧ K env' H' nx' (log ++ L) := by
      intro kn1 env1 he hk1 hg hs
      subst he
      obtain ⟨L, env', H', nx', q1, q2⟩ := dops_chain r _ _ _ _ _ (hk1.skip o.dst) hs
      exact ⟨⟨.und, [], [], [], true, env1, H⟩ :: L, env', H', nx', ⟨rfl, rfl, ⟨.inl rfl, fun _ => ⟨rfl, rfl⟩, (if_pos rfl).mpr ⟨rfl, rfl, rfl, rfl, hg⟩⟩, q1⟩, by simpa using q2⟩
    simp only [dops] at h
    split at h
    · rename_i hg
      exact run kn env rfl hkn (.inl hg) h
    · rename_i j want hg
      split at h
      · exact h.elim
      · rename_i t ht
        split at h
        · rename_i hk
          have hu := hkn t none (klook_mem hk)
          exact skip kn env rfl hkn ⟨j, want, t, hg, ht, .inl hu⟩ h
        · rename_i b hk
          have hb := hkn t (some b) (klook_mem hk)
          simp only at hb
          cases hbw : (b == want) with
          | true =>
            rw [hbw] at h
            have : b = want := by simpa using hbw
            subst this
            exact run kn env rfl hkn (.inr ⟨j, b, t, hg, ht, hb⟩) h
          | false =>
            rw [hbw] at h
            have : b = !want := by cases b <;> cases want <;> simp_all
            subst this
            exact skip kn env rfl hkn ⟨j, want, t, hg, ht, .inr hb⟩ h
        · obtain ⟨b, hb, h1, h2⟩ := cnd_cases h
          have hk2 := hkn.know hb
          have he := put_self hb
          cases b with
          | true =>
            have h := h1 rfl
            cases want with
            | true => exact run _ _ he hk2 (.inr ⟨j, true, t, hg, ht, by rw [he]; exact hb⟩) h
            | false => exact skip _ _ he hk2 ⟨j, false, t, hg, ht, .inr (by rw [he]; exact hb)⟩ h
          | false =>
            have h := h2 rfl
            cases want with
            | true => exact skip _ _ he hk2 ⟨j, true, t, hg, ht, .inr (by rw [he]; exact hb)⟩ h
            | false => exact run _ _ he hk2 (.inr ⟨j, false, t, hg, ht, by rw [he]; exact hb⟩) h
end

/-! What the log says of any order. -/

theorem apply_off (D : Delta) : ∀ (H : Heap) (g : Nat), g ∉ domD D → H.apply D g = H g := by
  induction D with
  | nil => intro H g _; rfl
  | cons p r ih =>
    intro H g hg
    obtain ⟨x, o⟩ := p
    simp only [domD, List.map_cons, List.mem_cons, not_or] at hg
    simp only [Heap.apply]
    rw [ih _ g hg.2, Heap.put_ne _ _ hg.1]
theorem apply_same (D : Delta) : ∀ (H H' : Heap) (g : Nat), (H g = H' g ∨ g ∈ domD D) → H.apply D g = H'.apply D g := by
  induction D with
  | nil =>
    intro H H' g h
    rcases h with h | h
    · exact h
    · cases h
  | cons p r ih =>
    intro H H' g h
    obtain ⟨x, o⟩ := p
    simp only [Heap.apply]
    refine ih _ _ g ?_
    by_cases hx : g = x
    · left; subst hx; rw [Heap.put_at, Heap.put_at]
    · rcases h with h | h
      · left; rw [Heap.put_ne _ _ hx, Heap.put_ne _ _ hx]; exact h
      · right
        simp only [domD, List.map_cons, List.mem_cons] at h
        rcases h with h | h
        · exact absurd h hx
        · exact h

/-- The heap, where such operations are done. -/
def hD (ls : Nat → Bool) : List Rec → Nat → Heap → Heap
  | [], _, H => H
  | r :: t, i, H => hD ls t (i + 1) (bif ls i then H.apply r.D else H)
theorem hD_congr {ls ls' : Nat → Bool} {g : Nat} : ∀ (L : List Rec) (i : Nat) (H H' : Heap), H g = H' g → (∀ j r, L[j]? = some r → g ∈ domD r.D → ls (i + j) = ls' (i + j)) → hD ls L i H g = hD ls' L i H' g
  | [], i, H, H', h, _ => h
  | r :: t, i, H, H', h, hl => by
    simp only [hD]
    refine hD_congr t (i + 1) _ _ ?_ fun j x hj hg => by have := hl (j + 1) x (by simpa using hj) hg; rwa [show i + 1 + j = i + (j + 1) by omega]
    by_cases hg : g ∈ domD r.D
    · have := hl 0 r rfl hg
      simp only [Nat.add_zero] at this
      rw [this]
      cases ls' i with
      | true => exact apply_same _ _ _ _ (.inr hg)
      | false => exact h
    · have e : ∀ (b : Bool) (X : Heap), (bif b then X.apply r.D else X) g = X g := by
        intro b X; cases b
        · rfl
        · exact apply_off _ _ _ hg
      rw [e, e]; exact h
/-- One more operation is done: nothing behind it has touched the same. -/
theorem hD_add {ls : Nat → Bool} : ∀ (L : List Rec) (i k : Nat) (r : Rec) (H : Heap), L[k]? = some r → ls (i + k) = false → (∀ j x, k < j → L[j]? = some x → ls (i + j) = true → ∀ g ∈ domD r.D, g ∉ domD x.D) →
    hD (fun x => bif Nat.beq x (i + k) then true else ls x) L i H = (hD ls L i H).apply r.D := by
  intro L
  induction L with
  | nil => intro i k r H h; simp at h
  | cons y t ih =>
    intro i k r H hk hl hlast
    simp only [hD]
    cases k with
    | zero =>
      simp only [List.getElem?_cons_zero, Option.some.injEq] at hk
      subst hk
      simp only [Nat.add_zero] at hl ⊢
      have e1 : Nat.beq i i = true := by simp
      rw [e1, hl]
      simp only [cond_true, cond_false]
      funext g
      by_cases hg : g ∈ domD y.D
      · have h1 : hD (fun x => bif Nat.beq x i then true else ls x) t (i + 1) (H.apply y.D) g = H.apply y.D g := by
          have : ∀ j x, t[j]? = some x → g ∈ domD x.D → (fun x => bif Nat.beq x i then true else ls x) (i + 1 + j) = (fun _ => false) (i + 1 + j) := by
            intro j x hj hgx
            have hne : Nat.beq (i + 1 + j) i = false := by rw [← Bool.not_eq_true, Nat.beq_eq]; omega
            simp only [hne, cond_false]
            cases hb : ls (i + 1 + j) with
            | false => rfl
            | true => exact absurd hgx (hlast (j + 1) x (by omega) (by simpa using hj) (by rw [← hb]; congr 1; omega) g hg)
          rw [hD_congr (ls' := fun _ => false) t (i + 1) _ (H.apply y.D) rfl this]
          exact congrFun (hD_none t (i + 1) _) g
        rw [h1]
        exact apply_same _ _ _ _ (.inr hg)
      · rw [apply_off _ _ _ hg]
        refine hD_congr t (i + 1) _ _ (apply_off _ _ _ hg) fun j x hj _ => ?_
        have hne : Nat.beq (i + 1 + j) i = false := by rw [← Bool.not_eq_true, Nat.beq_eq]; omega
        simp only [hne, cond_false]
    | succ k =>
      have hne : Nat.beq i (i + (k + 1)) = false := by rw [← Bool.not_eq_true, Nat.beq_eq]; omega
      rw [hne]
      simp only [cond_false]
      have := ih (i + 1) k r (bif ls i then H.apply y.D else H) (by simpa using hk) (by rw [show i + 1 + k = i + (k + 1) by omega]; exact hl)
        (fun j x hj hx hlx g hg => hlast (j + 1) x (by omega) (by simpa using hx) (by rw [show i + (j + 1) = i + 1 + j by omega]; exact hlx) g hg)
      rw [show i + 1 + k = i + (k + 1) by omega] at this
      exact this
where
  hD_none : ∀ (L : List Rec) (i : Nat) (H : Heap), hD (fun _ => false) L i H = H
    | [], _, _ => rfl
    | _ :: t, i, H => by simp only [hD, cond_false]; exact hD_none t (i + 1) H

def eD (ls : Nat → Bool) : List Oper → List Rec → Nat → Env → Env
  | o :: r, x :: t, i, env => eD ls r t (i + 1) (bif ls i then env.putO o.dst x.v else env)
  | _, _, _, env => env

theorem eD_none {ls : Nat → Bool} {t : Nat} : ∀ (os : List Oper) (L : List Rec) (i : Nat) (env : Env), (∀ o ∈ os, o.dst ≠ some t) → eD ls os L i env t = env t
  | [], L, i, env, _ => by simp [eD]
  | o :: r, [], i, env, _ => by simp [eD]
  | o :: r, x :: L, i, env, h => by
    simp only [eD]
    rw [eD_none r L (i + 1) _ fun o ho => h o (by simp [ho])]
    cases ls i with
    | false => rfl
    | true => simp only [cond_true, putO_eq]; rw [if_neg (h o (by simp))]
theorem eD_one {ls : Nat → Bool} {t : Nat} : ∀ (os : List Oper) (L : List Rec) (i k : Nat) (o : Oper) (x : Rec) (env : Env), os[k]? = some o → L[k]? = some x → o.dst = some t → (∀ k' o', os[k']? = some o' → o'.dst = some t → k' = k) →
    eD ls os L i env t = bif ls (i + k) then x.v else env t
  | [], L, i, k, o, x, env, h, _, _, _ => by simp at h
  | o' :: r, [], i, k, o, x, env, _, h, _, _ => by simp at h
  | o' :: r, y :: L, i, 0, o, x, env, ho, hx, hd, hu => by
    simp only [List.getElem?_cons_zero, Option.some.injEq] at ho hx
    subst ho; subst hx
    simp only [eD, Nat.add_zero]
    rw [eD_none r L (i + 1) _ fun q hq e => by
      obtain ⟨k, hk⟩ := List.getElem?_of_mem hq
      have := hu (k + 1) q (by simpa using hk) e
      omega]
    cases ls i with
    | false => rfl
    | true => simp only [cond_true, putO_eq]; rw [if_pos hd]
  | o' :: r, y :: L, i, k + 1, o, x, env, ho, hx, hd, hu => by
    simp only [eD]
    rw [eD_one r L (i + 1) k o x _ (by simpa using ho) (by simpa using hx) hd fun k' q hq e => by have := hu (k' + 1) q (by simpa using hq) e; omega]
    rw [show i + 1 + k = i + (k + 1) by omega]
    have hne : o'.dst ≠ some t := fun e => by have := hu 0 o' rfl e; omega
    have : (bif ls i then env.putO o'.dst y.v else env) t = env t := by
      cases ls i with
      | false => rfl
      | true => simp only [cond_true, putO_eq]; rw [if_neg hne]
    rw [this]

structure At (P : Program) (all : List Oper) (L : List Rec) (os : List Oper) (k : Nat) (env : Env) (H : Heap) (N : Nat → Nat) (i : Nat) (o : Oper) (r : Rec) : Prop where
  get : L[i]? = some r
  env : r.env = eD (fun x => decide (x < k + i)) os L k env
  H : r.H = hD (fun x => decide (x < k + i)) L k H
  fact : Fact P all o r (N i)

theorem chain_at {P : Program} {all : List Oper} : ∀ (os : List Oper) (L : List Rec) (k : Nat) (env : Env) (H : Heap) (nx : Nat) (env' : Env) (H' : Heap) (nx' : Nat), Chain P all os L env H nx env' H' nx' →
    L.length = os.length ∧ env' = eD (fun _ => true) os L k env ∧ H' = hD (fun _ => true) L k H ∧
    ∃ N : Nat → Nat, N 0 = nx ∧ N os.length = nx' ∧ (∀ i r, L[i]? = some r → N (i + 1) = N i + r.fr.length) ∧ ∀ i o, os[i]? = some o → ∃ r, At P all L os k env H N i o r
  | [], [], k, env, H, nx, env', H', nx', ⟨h1, h2, h3⟩ => ⟨rfl, h1, h2, fun _ => nx, rfl, h3.symm, fun i r h => by simp at h, fun i o h => by simp at h⟩
  | [], _ :: _, _, _, _, _, _, _, _, h => h.elim
  | _ :: _, [], _, _, _, _, _, _, _, h => h.elim
  | o :: os, r :: L, k, env, H, nx, env', H', nx', ⟨h1, h2, h3, h4⟩ => by
    obtain ⟨q1, q2, q3, N, n0, nl, ns, hat⟩ := chain_at os L (k + 1) _ _ _ _ _ _ h4
    refine ⟨by simp [q1], by rw [q2]; rfl, by rw [q3]; rfl, fun i => if i = 0 then nx else N (i - 1), rfl, by simpa using nl, fun i x hx => ?_, fun i p hp => ?_⟩
    · cases i with
      | zero =>
        simp only [List.getElem?_cons_zero, Option.some.injEq] at hx
        subst hx
        simp [n0]
      | succ i => have := ns i x (by simpa using hx); simpa using this
    · cases i with
      | zero =>
        simp only [List.getElem?_cons_zero, Option.some.injEq] at hp
        subst hp
        have hf : ∀ x, k ≤ x → decide (x < k + 0) = false := fun x hx => by simp; omega
        refine ⟨r, rfl, ?_, ?_, by simpa using h3⟩
        · rw [h1]; exact (eD_off (o :: os) (r :: L) k env fun x hx => hf x hx).symm
        · rw [h2]; exact (hD_off (r :: L) k H fun x hx => hf x hx).symm
      | succ i =>
        obtain ⟨x, a1, a2, a3, a4⟩ := hat i p (by simpa using hp)
        refine ⟨x, by simpa using a1, ?_, ?_, by simpa using a4⟩
        · rw [a2]; simp only [eD]
          rw [show k + (i + 1) = k + 1 + i by omega, show decide (k < k + 1 + i) = true by simp; omega]; rfl
        · rw [a3]; simp only [hD]
          rw [show k + (i + 1) = k + 1 + i by omega, show decide (k < k + 1 + i) = true by simp; omega]; rfl
where
  eD_off {ls : Nat → Bool} : ∀ (os : List Oper) (L : List Rec) (k : Nat) (env : Env), (∀ x, k ≤ x → ls x = false) → eD ls os L k env = env
    | [], L, k, env, _ => by simp [eD]
    | o :: r, [], k, env, _ => by simp [eD]
    | o :: r, x :: L, k, env, h => by
      simp only [eD, h k (Nat.le_refl _), cond_false]
      exact eD_off r L (k + 1) env fun x hx => h x (by omega)
  hD_off {ls : Nat → Bool} : ∀ (L : List Rec) (k : Nat) (H : Heap), (∀ x, k ≤ x → ls x = false) → hD ls L k H = H
    | [], k, H, _ => rfl
    | x :: L, k, H, h => by
      simp only [hD, h k (Nat.le_refl _), cond_false]
      exact hD_off L (k + 1) H fun x hx => h x (by omega)

section
variable {ops : Array Oper} {listed : Array Bool}
theorem before_down (hc : ∀ i, listed.getD i false = true → ∀ j ∈ predsOf ops i, listed.getD j false = true) : ∀ (f i j : Nat), beforeF ops f i j = true → listed.getD j false = true → listed.getD i false = true
  | 0, i, j, h, _ => by simp [beforeF] at h
  | f + 1, i, j, h, hj => by
    simp only [beforeF, List.any_eq_true, Bool.or_eq_true] at h
    obtain ⟨p, hp, h⟩ := h
    have hpl := hc j hj p hp
    rcases h with h | h
    · have : p = i := Nat.eq_of_beq_eq_true h
      rw [← this]; exact hpl
    · exact before_down hc f i p h hpl
theorem before_ready (hc : ∀ i, listed.getD i false = true → ∀ j ∈ predsOf ops i, listed.getD j false = true) {i : Nat} (hr : ∀ j ∈ predsOf ops i, listed.getD j false = true) (f j : Nat) (h : beforeF ops f j i = true) : listed.getD j false = true := by
  cases f with
  | zero => simp [beforeF] at h
  | succ f =>
    simp only [beforeF, List.any_eq_true, Bool.or_eq_true] at h
    obtain ⟨p, hp, h⟩ := h
    rcases h with h | h
    · have : p = j := Nat.eq_of_beq_eq_true h
      rw [← this]; exact hr p hp
    · exact before_down hc f j p h (hr p hp)
end
end Go.Proofs.Ytckhbfbbpdjmdaa
