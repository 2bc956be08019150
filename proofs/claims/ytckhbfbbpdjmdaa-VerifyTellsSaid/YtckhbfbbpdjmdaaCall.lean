/- A function's contract, from its code. -/
import Derived.Test.YtckhbfbbpdjmdaaAw
namespace Go.Proofs.Ytckhbfbbpdjmdaa
open Go Go.RowKit

section
variable (T : Nat → Option AT)
/-- The results. -/
def aret : List ResultVar → Env → Heap → (List AV → Prop) → Prop
  | [], _, _, k => k []
  | .tmp t :: r, env, H, k => aret r env H fun vs => k (env t :: vs)
  | .cell a t :: r, env, H, k => match T t with
    | some at_ => LOAD at_.kind.isAgg at_.size (env a) H fun v _ _ _ => aret r env H fun vs => k (v :: vs)
    | none => False
end
def RET1 (vs : List AV) (k : AV → Prop) : Prop := match vs with
  | [v] => k v
  | vs => k (.tup vs)

def env0 (args : List AV) : Env := fun t => nth args t

def lvOf : List (Nat × Nat × List Nat) → Nat → Nat → Option (List Nat)
  | [], _, _ => none
  | (a, b, l) :: r, k, i => bif Nat.beq a k && Nat.beq b i then some l else lvOf r k i
def codeOf (fn : Func) : Code := match fn.body with
  | some c => c
  | none => .skip

/-- What is to be shown of a function. -/
def body (P : Program) (T : Nat → Option AT) (eqs : Nat → Bool) (lv : Nat → Nat → Option (List Nat)) (fn : Func) (c : Code) (args : List AV) (H : Heap) (nx : Nat) (Q : AV → Heap → Nat → Prop) : Prop :=
  aw P T eqs lv c (fun env H nx => aret T fn.results.toList env H fun vs => RET1 vs fun v => Q v H nx) (fun _ _ _ _ => False) (fun env H nx => aret T fn.results.toList env H fun vs => RET1 vs fun v => Q v H nx) (env0 args) H nx

section
variable {P : Program} {T : Nat → Option AT} {eqs : Nat → Bool} (hT : TOk P T) (hE : EOk P T eqs) {lv : Nat → Nat → Option (List Nat)}

/-- A result, as the model takes it. -/
def resSem (tmps : Array Value) (r : ResultVar) : Sem Value := match r with
  | .tmp t => pure (tmps.getD t undef)
  | .cell b t => do loadVar t (← asAddr (tmps.getD b undef))
theorem run_push {s : Sem Value} {w : World} {v : Value} (h : s.run P w = .ok v w) (acc : Array Value) : (acc.push <$> s).run P w = .ok (acc.push v) w := by
  have hf : (acc.push <$> s) = (s >>= fun x => pure (acc.push x)) := rfl
  simp only [hf, Sem.run_bind, h, Result.andThen_ok, Sem.run_pure]

include hT in
theorem aret_sound {env : Env} {H : Heap} {nx N : Nat} {ρ : Nat → Loc} {w : World} {a : Act} (st : St N env H nx ρ w a) : ∀ (rs : List ResultVar) (k : List AV → Prop), aret T rs env H k →
    ∃ vs cs, k vs ∧ LRel (Kof ρ H w) ρ (· < nx) vs cs ∧ cs.length = rs.length ∧
      ∀ acc : Array Value, (List.foldlM (fun (acc : Array Value) (r : ResultVar) => acc.push <$> resSem a.tmps r) acc rs).run P w = .ok (acc ++ cs.toArray) w
  | [], k, h => ⟨[], [], h, LRel.nil, rfl, fun acc => by simp [Sem.run_pure]⟩
  | .tmp t :: r, k, h => by
    obtain ⟨vs, cs, h1, h2, h3, h4⟩ := aret_sound st r _ h
    refine ⟨env t :: vs, a.tmps.getD t undef :: cs, h1, LRel.cons (st.env t) h2, by simp [h3], fun acc => ?_⟩
    have hr : (resSem a.tmps (.tmp t)).run P w = .ok (a.tmps.getD t undef) w := rfl
    simp only [List.foldlM_cons, Sem.run_bind, run_push hr, Result.andThen_ok, h4]
    congr 1
    apply Array.ext'
    simp
  | .cell b t :: r, k, h => by
    simp only [aret] at h
    split at h
    · rename_i at_ ht
      obtain ⟨i, d, z, ha⟩ := hT.at ht
      unfold LOAD at h
      split at h
      · rename_i cells off rd hrd
        split at h
        · rename_i v hv
          obtain ⟨bb, q, he, hc⟩ := rdp_spec (H0 := H) st.sim (st.env b) hrd (fun _ _ => rfl)
          obtain ⟨cv, hr, hR⟩ := run_loadVar_of (P := P) ha hc hv
          obtain ⟨vs, cs, h1, h2, h3, h4⟩ := aret_sound st r _ h
          refine ⟨v :: vs, cv :: cs, h1, LRel.cons hR h2, by simp [h3], fun acc => ?_⟩
          have hr' : (resSem a.tmps (.cell b t)).run P w = .ok cv w := by
            simp only [resSem, Sem.run_bind, he, asAddr, Sem.run_pure, Result.andThen_ok, hr]
          simp only [List.foldlM_cons, Sem.run_bind, run_push hr', Result.andThen_ok, h4]
          congr 1
          apply Array.ext'
          simp
        · exact h.elim
      · exact h.elim
    · exact h.elim

theorem ACalls.mono {f : FuncId} {args : List AV} {H : Heap} {nx : Nat} {Q Q' : AV → Heap → Nat → Prop} (h : ACalls P f args H nx Q) (hq : ∀ v H' nx', Q v H' nx' → Q' v H' nx') : ACalls P f args H nx Q' :=
  fun ρ w cargs s ha => flowUpon_mono (h ρ w cargs s ha) fun cv w' ⟨r, H', nx', ρ', q1, q2⟩ => ⟨r, H', nx', ρ', hq _ _ _ q1, q2⟩

include hT hE in
theorem acalls_body (hM : P.follows .mixedOrders = true) {f : FuncId} {fn : Func} {c : Code} {args : List AV} {H : Heap} {nx : Nat} {Q : AV → Heap → Nat → Prop} (hf : P.funcs[f]? = some fn) (hb : fn.body = some c) (hname : (fn.name == "runtime.NumGoroutine") = false)
    (hwf : wfC fn.ntmps c = true) (hlen' : Nat.ble args.length fn.ntmps = true)
    (h : body P T eqs lv fn c args H nx Q) :
    ACalls P f args H nx Q := by
  have hlen := Nat.le_of_ble_eq_true hlen'
  intro ρ w cargs s ha
  have hcl : cargs.size = args.length := by simpa using ha.1
  have hcall : (callFunc f cargs).run P w = .ok (.enter f cargs) w := by
    have hname' : ¬ fn.name = "runtime.NumGoroutine" := by simpa using hname
    simp [callFunc, program, Sem.run_bind, Sem.run, hf, hname', hb, pure]
  rw [hcall]
  simp only [flowUpon]
  refine calls_of_wp hf hb (Code.wp_mono (fun e a w' q => ?_) (aw_sound hT hE (lv := lv) nx ρ H w hM c _ _ _ hwf _ w ⟨env0 args, H, nx, ρ, h, ⟨s, fun t => ?_, ?_, rfl⟩, Fr.refl _ _ _ _⟩))
  · have fin : ∀ (a : Act) (w' : World), RS nx ρ H w fn.ntmps (fun env H nx => aret T fn.results.toList env H fun vs => RET1 vs fun v => Q v H nx) a w' →
        a.defers = [] ∧ ∃ v, (results fn a.tmps).run P w' = .ok v w' ∧ ∃ u, Ending.returned v = .returned u ∧ ∃ r H' nx' ρ', Q r H' nx' ∧ Sim (· < nx') ρ' H' w' ∧ VRel (Kof ρ' H' w') ρ' (· < nx') r u ∧ Fr (· < nx) ρ H w (· < nx') ρ' H' w' := by
      intro a w' ⟨env, H', nx', ρ', h1, h2, h3⟩
      obtain ⟨vs, cs, q1, q2, q3, q4⟩ := aret_sound hT h2 _ _ h1
      refine ⟨h2.defers, ?_⟩
      have hm : (fn.results.mapM (resSem a.tmps)).run P w' = .ok cs.toArray w' := by
        rw [Array.mapM_eq_foldlM]
        have := q4 #[]
        rw [Array.foldlM_toList] at this
        simpa using this
      have hrun : ∀ v, (if h : cs.toArray.size = 1 then cs.toArray[0] else Value.tuple cs.toArray) = v → (results fn a.tmps).run P w' = .ok v w' := by
        intro v hv
        have e : results fn a.tmps = (do let vs ← fn.results.mapM (resSem a.tmps); pure (if h : vs.size = 1 then vs[0] else .tuple vs)) := by
          unfold results resSem
          rfl
        rw [e]
        simp only [Sem.run_bind, hm, Result.andThen_ok, Sem.run_pure, hv]
      unfold RET1 at q1
      split at q1
      · rename_i v
        obtain ⟨cv, hcv, hR⟩ := q2.get (j := 0) (v := v) rfl
        have hc1 : cs = [cv] := by
          have hl := q2.1
          match cs, hl, hcv with
          | [x], _, h => simp at h; rw [h]
        subst hc1
        exact ⟨cv, hrun cv (by simp), cv, rfl, v, H', nx', ρ', q1, h2.sim, hR, h3⟩
      · rename_i hne
        have hc1 : cs.length ≠ 1 := by
          intro hl
          have := q2.1
          rw [hl] at this
          match vs, this with
          | [x], _ => exact hne x rfl
        refine ⟨.tuple cs.toArray, hrun _ (by simp [hc1]), _, rfl, .tup vs, H', nx', ρ', q1, h2.sim, ?_, h3⟩
        exact .tup _ _ (by simpa using q2.1) fun j v c hv hc => q2.2 j v c hv (by simpa using hc)
    cases e with
    | normal => exact fin a w' q
    | ret => exact fin a w' q
    | exit i => obtain ⟨_, _, _, _, h, _⟩ := q; exact h.elim
    | goto l => exact q.elim
    | panic c => exact q.elim
    | outgrown => exact q.elim
  · show VRel _ _ _ (nth args t) ((cargs ++ Array.replicate (fn.ntmps - cargs.size) undef).getD t undef)
    unfold nth
    by_cases ht : t < args.length
    · obtain ⟨cv, h1, h2⟩ := ha.get (List.getElem?_eq_getElem ht)
      have : (cargs ++ Array.replicate (fn.ntmps - cargs.size) undef).getD t undef = cv := by
        rw [Array.getD_eq_getD_getElem?, Array.getElem?_append_left (by omega)]
        simp only [Array.getElem?_toList] at h1
        rw [h1]; rfl
      rw [this, List.getD_eq_getElem?_getD, List.getElem?_eq_getElem ht]
      exact h2
    · rw [List.getD_eq_getElem?_getD, List.getElem?_eq_none (by omega)]
      exact .junk _
  · simp; omega
end
end Go.Proofs.Ytckhbfbbpdjmdaa
