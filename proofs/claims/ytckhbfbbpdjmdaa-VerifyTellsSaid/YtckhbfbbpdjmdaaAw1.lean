/- The operations one behind the other, and the state for which they stand. -/
import Derived.Test.YtckhbfbbpdjmdaaSop
import Derived.Scope
namespace Go.Proofs.Ytckhbfbbpdjmdaa
open Go Go.RowKit

abbrev K3 := Env → Heap → Nat → Prop
abbrev J3 := List AV → Heap → Nat → Prop

/-- What a call does: from whatever memory for which the arguments stand. -/
def ACalls (P : Program) (f : FuncId) (args : List AV) (H : Heap) (nx : Nat) (Post : AV → Heap → Nat → Prop) : Prop :=
  ∀ (ρ : Nat → Loc) (w : World) (cargs : Array Value), Sim (· < nx) ρ H w → LRel (Kof ρ H w) ρ (· < nx) args cargs.toList →
    flowUpon P (fun cv w' => ∃ r H' nx' ρ', Post r H' nx' ∧ Sim (· < nx') ρ' H' w' ∧ VRel (Kof ρ' H' w') ρ' (· < nx') r cv ∧ Fr (· < nx) ρ H w (· < nx') ρ' H' w') ((callFunc f cargs).run P w)

def nth (xs : List AV) (i : Nat) : AV := xs.getD i .junk
def envAt (xs : List AV) : List Nat → Nat → Env
  | [], _, _ => .junk
  | t :: r, i, u => bif Nat.beq u t then nth xs i else envAt xs r (i + 1) u
def envOf (L : List Nat) (xs : List AV) : Env := envAt xs L 0

/-- A place where ways meet. -/
def JN (J : J3) (B : J3 → Prop) : Prop := ∃ I : J3, (∀ xs H nx, I xs H nx → J xs H nx) ∧ B I
/-- A loop, by what holds at its head, and how often it may still go round. -/
def LP (F : J3 → J3) (xs : List AV) (H : Heap) (nx : Nat) : Prop :=
  ∃ (I : Nat → J3) (n : Nat), I n xs H nx ∧ ∀ n xs H nx, I n xs H nx → F (fun xs H nx => ∃ m, m < n ∧ I m xs H nx) xs H nx
def CND (v : AV) (A B : Prop) : Prop := match v with
  | .bool true => A
  | .bool false => B
  | _ => False
theorem cnd_bool {b : Bool} {A B : Prop} : CND (.bool b) A B ↔ ((b = true → A) ∧ (b = false → B)) := by cases b <;> simp [CND]
theorem cnd_cases {v : AV} {A B : Prop} (h : CND v A B) : ∃ b, v = .bool b ∧ (b = true → A) ∧ (b = false → B) := by
  unfold CND at h
  split at h
  · exact ⟨true, rfl, fun _ => h, (fun h => by cases h)⟩
  · exact ⟨false, rfl, (fun h => by cases h), fun _ => h⟩
  · exact h.elim
def CALL (P : Program) (f : AV) (args : List AV) (H : Heap) (nx : Nat) (k : AV → Heap → Nat → Prop) : Prop := match f with
  | .clo f cap => ACalls P f (args ++ cap) H nx k
  | _ => False

abbrev Known := List (Nat × Option Bool)
def klook (t : Nat) : Known → Option (Option Bool)
  | [] => none
  | (u, b) :: r => bif Nat.beq u t then some b else klook t r
def kdrop (d : Option Nat) (kn : Known) : Known := match d with
  | none => kn
  | some d => kn.filter fun p => !Nat.beq p.1 d
def kskip (d : Option Nat) (kn : Known) : Known := match d with
  | none => kn
  | some t => (t, none) :: kdrop d kn
def gdst (all : List Oper) (j : Nat) : Option Nat := (all[j]?).bind (·.dst)

section
variable (P : Program) (T : Nat → Option AT) (eqs : Nat → Bool)

def astep (o : Oper) (env : Env) (H : Heap) (nx : Nat) (k : AV → Heap → Nat → Prop) : Prop :=
  match o.op with
  | .call c => match c.callee with
    | .value f => CALL P (env.ev f) (c.args.toList.map env.ev) H nx k
    | _ => sop T eqs env.ev H nx o k
  | _ => sop T eqs env.ev H nx o k

def aops (all : List Oper) : List Oper → Known → K3 → K3
  | [], _, K, env, H, nx => K env H nx
  | o :: r, kn, K, env, H, nx => match o.guard with
    | none => astep P T eqs o env H nx fun v H nx => aops all r (kdrop o.dst kn) K (env.putO o.dst v) H nx
    | some (j, want) => match gdst all j with
      | none => False
      | some t => match klook t kn with
        | some none => aops all r (kskip o.dst kn) K (env.putO o.dst .und) H nx
        | some (some b) => bif b == want then astep P T eqs o env H nx fun v H nx => aops all r (kdrop o.dst kn) K (env.putO o.dst v) H nx
          else aops all r (kskip o.dst kn) K (env.putO o.dst .und) H nx
        | none => CND (env t)
          (bif want then astep P T eqs o (env.put t (.bool true)) H nx fun v H nx => aops all r (kdrop o.dst ((t, some true) :: kn)) K ((env.put t (.bool true)).putO o.dst v) H nx
            else aops all r (kskip o.dst ((t, some true) :: kn)) K ((env.put t (.bool true)).putO o.dst .und) H nx)
          (bif want then aops all r (kskip o.dst ((t, some false) :: kn)) K ((env.put t (.bool false)).putO o.dst .und) H nx
            else astep P T eqs o (env.put t (.bool false)) H nx fun v H nx => aops all r (kdrop o.dst ((t, some false) :: kn)) K ((env.put t (.bool false)).putO o.dst v) H nx)

end
def dstsOk (N : Nat) : List Oper → Bool
  | [] => true
  | o :: r => (match o.dst with | some d => decide (d < N) | none => true) && dstsOk N r
structure St (N : Nat) (env : Env) (H : Heap) (nx : Nat) (ρ : Nat → Loc) (w : World) (a : Act) : Prop where
  sim : Sim (· < nx) ρ H w
  env : ∀ t, VRel (Kof ρ H w) ρ (· < nx) (env t) (a.tmps.getD t undef)
  size : a.tmps.size = N
  defers : a.defers = []

theorem flowUpon_mono {P : Program} {R R' : Value → World → Prop} {r : Result Next} (h : flowUpon P R r) (hr : ∀ v w, R v w → R' v w) : flowUpon P R' r := by
  cases r with
  | ok n w =>
    cases n <;> simp only [flowUpon] at h ⊢
    case value v => exact hr _ _ h
    case skip => exact hr _ _ h
    case enter f args => exact h.mono fun e w'' ⟨v, he, hv⟩ => ⟨v, he, hr _ _ hv⟩
  | halt x w => exact h.elim

theorem St.ev {N : Nat} {env : Env} {H : Heap} {nx : Nat} {ρ : Nat → Loc} {w : World} {a : Act} (h : St N env H nx ρ w a) (x : Operand) : VRel (Kof ρ H w) ρ (· < nx) (env.ev x) (a.eval x) := by
  cases x with
  | tmp t => exact h.env t
  | const v => exact vrel_const _ _ _ v
  | global g => exact .junk _
  | func f => exact .clo f [] #[] rfl fun j v c hv => by simp at hv

theorem getD_put' (a : Act) (d : Option Tmp) (u : Nat) (v : Value) (h : ∀ t, d = some t → t < a.tmps.size) : (a.put d v).tmps.getD u undef = if d = some u then v else a.tmps.getD u undef := by
  cases d with
  | none => simp [Act.put]
  | some t =>
    rw [getD_put a t u v (h t rfl)]
    by_cases hu : u = t
    · subst hu; simp
    · rw [if_neg hu, if_neg (by simpa using (Ne.symm hu))]

theorem putO_eq (e : Env) (d : Option Nat) (v : AV) (u : Nat) : e.putO d v u = if d = some u then v else e u := by
  cases d with
  | none => simp [Env.putO]
  | some t =>
    simp only [Env.putO, Env.put]
    by_cases hu : u = t
    · subst hu; simp
    · have : Nat.beq u t = false := by rw [← Bool.not_eq_true, Nat.beq_eq]; exact hu
      rw [this, if_neg (by simpa using (Ne.symm hu))]; rfl

theorem St.put {N : Nat} {env : Env} {H H' : Heap} {nx nx' : Nat} {ρ ρ' : Nat → Loc} {w w' : World} {a : Act} (h : St N env H nx ρ w a) (s' : Sim (· < nx') ρ' H' w') (f : Fr (· < nx) ρ H w (· < nx') ρ' H' w') {d : Option Nat} (hd : ∀ t, d = some t → t < N)
    {v : AV} {c : Value} (hv : VRel (Kof ρ' H' w') ρ' (· < nx') v c) : St N (env.putO d v) H' nx' ρ' w' (a.put d c) := by
  refine ⟨s', fun t => ?_, ?_, ?_⟩
  · rw [putO_eq, getD_put' a d t c (by rw [h.size]; exact hd)]
    split
    · exact hv
    · exact (h.env t).fr f
  · cases d <;> simp [Act.put, h.size]
  · cases d <;> simp [Act.put, h.defers]

/-- Less may be known of the slots. -/
theorem St.weak {N : Nat} {env env' : Env} {H : Heap} {nx : Nat} {ρ : Nat → Loc} {w : World} {a : Act} (h : St N env H nx ρ w a) (he : ∀ t, env' t = env t ∨ env' t = .junk) : St N env' H nx ρ w a :=
  ⟨h.sim, fun t => by rcases he t with e | e <;> rw [e] <;> first | exact h.env t | exact .junk _, h.size, h.defers⟩

theorem envAt_map (env : Env) : ∀ (L M : List Nat) (t : Nat), envAt ((M ++ L).map env) L M.length t = env t ∨ envAt ((M ++ L).map env) L M.length t = .junk
  | [], M, t => .inr rfl
  | u :: L, M, t => by
    simp only [envAt]
    cases hb : Nat.beq t u with
    | true =>
      have : t = u := Nat.eq_of_beq_eq_true hb
      subst this
      left
      simp [nth]
    | false =>
      have := envAt_map env L (M ++ [u]) t
      simpa using this
theorem envOf_map (env : Env) (L : List Nat) (t : Nat) : envOf L (L.map env) t = env t ∨ envOf L (L.map env) t = .junk := envAt_map env L [] t

section
variable {P : Program} {T : Nat → Option AT} {eqs : Nat → Bool} (hT : TOk P T) (hE : EOk P T eqs) {lv : Nat → Nat → List Nat} {N : Nat}
variable (nx0 : Nat) (ρ0 : Nat → Loc) (H0 : Heap) (w0 : World)

theorem lt_fresh {nx : Nat} {fr : List Nat} (h : fr = [] ∨ fr = [nx]) : (fun x => x < nx ∨ x ∈ fr) = (fun x => x < nx + fr.length) := by
  funext x
  rcases h with rfl | rfl
  · simp
  · simp; omega

include hT hE in
theorem astep_sound {o : Oper} {env : Env} {H : Heap} {nx : Nat} {k : AV → Heap → Nat → Prop} (h : astep P T eqs o env H nx k) {ρ : Nat → Loc} {w : World} {a : Act} (st : St N env H nx ρ w a) :
    flowUpon P (fun cv w' => ∃ v H' nx' ρ', k v H' nx' ∧ Sim (· < nx') ρ' H' w' ∧ VRel (Kof ρ' H' w') ρ' (· < nx') v cv ∧ Fr (· < nx) ρ H w (· < nx') ρ' H' w') ((execOp a.eval o).run P w) := by
  have plain : sop T eqs env.ev H nx o k → flowUpon P (fun cv w' => ∃ v H' nx' ρ', k v H' nx' ∧ Sim (· < nx') ρ' H' w' ∧ VRel (Kof ρ' H' w') ρ' (· < nx') v cv ∧ Fr (· < nx) ρ H w (· < nx') ρ' H' w') ((execOp a.eval o).run P w) := by
    intro h
    obtain ⟨v, rd, fr, D, hfr, he, hk⟩ := aop_sound hT hE (sop_aop T eqs h)
    have := he (· < nx) ρ H w a.eval st.sim (fun x _ => st.ev x) (fun _ _ => rfl) (fun g hg => by rcases hfr with rfl | rfl <;> simp at hg; omega)
    refine flowUpon_mono this fun cv w' ⟨ρ', q1, q2, q3⟩ => ⟨v, H.apply D, nx + fr.length, ρ', hk, ?_, ?_, ?_⟩
    · rw [lt_fresh hfr] at q1; exact q1
    · rw [lt_fresh hfr] at q2; exact q2
    · rw [lt_fresh hfr] at q3; exact q3
  unfold astep at h
  split at h
  · rename_i c hop
    split at h
    · rename_i f hc
      unfold CALL at h
      split at h
      · rename_i fid cap hf
        have hfv := st.ev f
        rw [hf] at hfv
        generalize hcv : a.eval f = cv at hfv
        cases hfv with
        | clo _ _ cs hl hR =>
          have hargs : LRel (Kof ρ H w) ρ (· < nx) (c.args.toList.map env.ev ++ cap) (c.args.map a.eval ++ cs).toList := by
            rw [Array.toList_append]
            refine LRel.append ⟨by simp, fun j v u hv hu => ?_⟩ ⟨by simpa using hl, fun j v u hv hu => hR j v u hv (by simpa using hu)⟩
            simp only [List.getElem?_map, Option.map_eq_some_iff, Array.toList_map] at hv hu
            obtain ⟨x, hx, rfl⟩ := hv
            obtain ⟨y, hy, rfl⟩ := hu
            rw [hx] at hy
            obtain rfl := Option.some.inj hy
            exact st.ev x
          have := h ρ w (c.args.map a.eval ++ cs) st.sim hargs
          have e : (execOp a.eval o).run P w = (callFunc fid (c.args.map a.eval ++ cs)).run P w := by
            simp only [execOp, hop, resolve, hc, hcv, Deferred.ofValue, Sem.run_bind, Sem.run_pure, Result.andThen_ok, invoke, Array.empty_append]
          rw [e]
          exact this
      · exact h.elim
    · exact plain h
  · exact plain h

def KnOk (kn : Known) (env : Env) : Prop := ∀ t b, (t, b) ∈ kn → match b with | some b => env t = .bool b | none => env t = .und
theorem klook_mem {t : Nat} : ∀ {kn : Known} {b : Option Bool}, klook t kn = some b → (t, b) ∈ kn
  | (u, c) :: r, b, h => by
    simp only [klook] at h
    cases hb : Nat.beq u t with
    | true =>
      rw [hb] at h
      have : u = t := Nat.eq_of_beq_eq_true hb
      subst this
      simp only [cond_true, Option.some.injEq] at h
      subst h
      simp
    | false =>
      rw [hb] at h
      simp only [cond_false] at h
      exact List.mem_cons_of_mem _ (klook_mem h)
theorem KnOk.drop {kn : Known} {env : Env} (h : KnOk kn env) (d : Option Nat) (v : AV) : KnOk (kdrop d kn) (env.putO d v) := by
  intro t b hm
  rw [putO_eq]
  cases d with
  | none => exact h t b hm
  | some d =>
    simp only [kdrop, List.mem_filter] at hm
    have hne : d ≠ t := by
      intro e; subst e
      have := hm.2
      simp at this
    rw [if_neg (by simpa using hne)]
    exact h t b hm.1
theorem KnOk.skip {kn : Known} {env : Env} (h : KnOk kn env) (d : Option Nat) : KnOk (kskip d kn) (env.putO d .und) := by
  cases d with
  | none => exact h
  | some d =>
    intro t b hm
    simp only [kskip, List.mem_cons, Prod.mk.injEq] at hm
    rcases hm with ⟨rfl, rfl⟩ | hm
    · simp only [putO_eq, if_pos]
    · exact h.drop (some d) .und t b hm
theorem KnOk.know {kn : Known} {env : Env} (h : KnOk kn env) {t : Nat} {b : Bool} (hb : env t = .bool b) : KnOk ((t, some b) :: kn) (env.put t (.bool b)) := by
  have he : env.put t (.bool b) = env := by
    funext u
    simp only [Env.put]
    cases hu : Nat.beq u t with
    | true => have : u = t := Nat.eq_of_beq_eq_true hu; subst this; exact hb.symm
    | false => rfl
  rw [he]
  intro u c hm
  simp only [List.mem_cons, Prod.mk.injEq] at hm
  rcases hm with ⟨rfl, rfl⟩ | hm
  · exact hb
  · exact h u c hm
theorem put_self {env : Env} {t : Nat} {v : AV} (h : env t = v) : env.put t v = env := by
  funext u
  simp only [Env.put]
  cases hu : Nat.beq u t with
  | true => have : u = t := Nat.eq_of_beq_eq_true hu; subst this; exact h.symm
  | false => rfl

theorem yielded_of {all : Array Oper} {j t : Nat} (h : gdst all.toList j = some t) (a : Act) : yielded all a.tmps j = match a.tmps[t]? with | some (.bool b) => some b | _ => none := by
  unfold gdst at h
  have e : (all[j]?).bind (·.dst) = some t := by simpa using h
  simp only [yielded, e, Option.bind_some]
  cases a.tmps[t]? with
  | none => rfl
  | some v => cases v <;> rfl

end
end Go.Proofs.Ytckhbfbbpdjmdaa
