/- The operations one behind the other, and the state for which they stand. The operations in a region whose order is drawn: what each came to, what it read, what it changed. A region whose order is drawn: one walk in the text's order is enough, if what is not ordered does not touch the same. A region whose order is drawn, on: whatever order is drawn comes to what the walk says. -/
import Derived.Test.YtiinnjjmoifoeaaGreatDoorG3
import Derived.Scope
set_option linter.unusedSimpArgs false
set_option linter.unusedVariables false
set_option maxRecDepth 8000
namespace Go.Proofs.YtiinnjjmoifoeaaGreatDoor
open Go Go.RowKit
abbrev K3 := Env → Heap → Nat → Prop
abbrev J3 := List AV → Heap → Nat → Prop
abbrev QT := AV → Heap → Nat → Prop
def zb (P : Program) (f : FuncId) (args : List AV) (H : Heap) (nx : Nat) (Post : AV → Heap → Nat → Prop) : Prop :=
  ∀ (ρ : Nat → Loc) (w : World) (cargs : Array Value), Sim (· < nx) ρ H w → LRel (Kof ρ H w) ρ (· < nx) args cargs.toList →
    zh P (fun cv w' => ∃ r H' nx' ρ', Post r H' nx' ∧ Sim (· < nx') ρ' H' w' ∧ VRel (Kof ρ' H' w') ρ' (· < nx') r cv ∧ Fr (· < nx) ρ H w (· < nx') ρ' H' w') ((callFunc f cargs).run P w)
def nth (xs : List AV) (i : Nat) : AV := xs.getD i .junk
def zlz (xs : List AV) : List Nat → Nat → Env
  | [], _, _ => .junk
  | t :: r, i, u => bif Nat.beq u t then nth xs i else zlz xs r (i + 1) u
def zgf (L : List Nat) (xs : List AV) : Env := zlz xs L 0
def JN (J : J3) (B : J3 → Prop) : Prop := ∃ I : J3, (∀ xs H nx, I xs H nx → J xs H nx) ∧ B I
def LP (F : J3 → J3) (xs : List AV) (H : Heap) (nx : Nat) : Prop :=
  ∃ (I : Nat → J3) (n : Nat), I n xs H nx ∧ ∀ n xs H nx, I n xs H nx → F (fun xs H nx => ∃ m, m < n ∧ I m xs H nx) xs H nx
def CND (v : AV) (A B : Prop) : Prop := match v with
  | .bool true => A
  | .bool false => B
  | _ => False
theorem zxh {b : Bool} {A B : Prop} : CND (.bool b) A B ↔ ((b = true → A) ∧ (b = false → B)) := by cases b <;> simp [CND]
theorem zno {v : AV} {A B : Prop} (h : CND v A B) : ∃ b, v = .bool b ∧ (b = true → A) ∧ (b = false → B) := by
  unfold CND at h
  split at h
  · exact ⟨true, rfl, fun _ => h, (fun h => by cases h)⟩
  · exact ⟨false, rfl, (fun h => by cases h), fun _ => h⟩
  · exact h.elim
def CNDC (v : AV) (A B : Prop) : Prop := match v with
  | .bool true => A
  | .bool false => B
  | .bany => A ∧ B
  | _ => False
theorem ztb {v : AV} {A B : Prop} {K : zf} {ρ : Nat → Loc} {U : Nat → Prop} {c : Value} (h : CNDC v A B) (hv : VRel K ρ U v c) : ∃ b, c = .bool b ∧ (b = true → A) ∧ (b = false → B) := by
  unfold CNDC at h
  split at h
  · cases hv; exact ⟨true, rfl, fun _ => h, (fun h => by cases h)⟩
  · cases hv; exact ⟨false, rfl, (fun h => by cases h), fun _ => h⟩
  · cases hv with | bany b => exact ⟨b, rfl, fun _ => h.1, fun _ => h.2⟩
  · exact h.elim
def CALL (P : Program) (f : AV) (args : List AV) (H : Heap) (nx : Nat) (k : AV → Heap → Nat → Prop) : Prop := match f with
  | .clo f cap => zb P f (args ++ cap) H nx k
  | _ => False
abbrev zae := List (Nat × Option Bool)
def zhy (t : Nat) : zae → Option (Option Bool)
  | [] => none
  | (u, b) :: r => bif Nat.beq u t then some b else zhy t r
def zax (d : Option Nat) (kn : zae) : zae := match d with
  | none => kn
  | some d => kn.filter fun p => !Nat.beq p.1 d
def zbc (d : Option Nat) (kn : zae) : zae := match d with
  | none => kn
  | some t => (t, none) :: zax d kn
def gdst (all : List Oper) (j : Nat) : Option Nat := (all[j]?).bind (·.dst)
section
variable (P : Program) (T : Nat → Option AT) (eqs : Nat → Bool)
def zth (m : AV) (H : Heap) (nx : Nat) (k : AV → Heap → Nat → Prop) : Prop := match m with
  | .amap g => match H g with
    | some (.mp es) => k (.ptr nx 0) (H.put nx (some (.it g es.length []))) (nx + 1)
    | _ => False
  | _ => False
def NEXT (x : AV) (H : Heap) (nx : Nat) (k : AV → Heap → Nat → Prop) : Prop := match x with
  | .ptr x off => off = 0 ∧ match H x with
    | some (.it g n seen) => match H g with
      | some (.mp es) => es.length = n ∧ ((∀ i, i < n → i ∈ seen) → k (.tup [.bool false]) H nx) ∧
          ∀ (i : Nat) (e : AV × AV), es[i]? = some e → i ∉ seen → k (.tup [.bool true, e.1, e.2]) (H.put x (some (.it g n (seen ++ [i])))) nx
      | _ => False
    | _ => False
  | _ => False
def zti (x : AV) (H : Heap) (nx : Nat) (k : AV → Heap → Nat → Prop) : Prop := match x with
  | .ptr x off => off = 0 ∧ match H x with
    | some (.it g n seen) => match H g with
      | some (.mp es) => es.length = n ∧ ∃ i e, seen.getLast? = some i ∧ es[i]? = some e ∧ k (.tup [e.1, e.2]) H nx
      | _ => False
    | _ => False
  | _ => False
def zob (t : Nat) : Bool := match T t with
  | some ⟨.map _ _, _, _, _⟩ => true
  | _ => false
def zih (o : Oper) (env : Env) (H : Heap) (nx : Nat) (k : AV → Heap → Nat → Prop) : Prop :=
  match o.op with
  | .call c => match c.callee with
    | .value f => CALL P (env.ev f) (c.args.toList.map env.ev) H nx k
    | _ => sop T eqs env.ev H nx o k
  | .range t x => gd (zob T t) (zth (env.ev x) H nx k)
  | .next x false => NEXT (env.ev x) H nx k
  | .entry x => zti (env.ev x) H nx k
  | _ => sop T eqs env.ev H nx o k
def aops (all : List Oper) : List Oper → zae → K3 → K3
  | [], _, K, env, H, nx => K env H nx
  | o :: r, kn, K, env, H, nx => match o.guard with
    | none => zih P T eqs o env H nx fun v H nx => aops all r (zax o.dst kn) K (env.putO o.dst v) H nx
    | some (j, want) => match gdst all j with
      | none => False
      | some t => match zhy t kn with
        | some none => aops all r (zbc o.dst kn) K (env.putO o.dst .und) H nx
        | some (some b) => bif b == want then zih P T eqs o env H nx fun v H nx => aops all r (zax o.dst kn) K (env.putO o.dst v) H nx
          else aops all r (zbc o.dst kn) K (env.putO o.dst .und) H nx
        | none => CND (env t)
          (bif want then zih P T eqs o (env.put t (.bool true)) H nx fun v H nx => aops all r (zax o.dst ((t, some true) :: kn)) K ((env.put t (.bool true)).putO o.dst v) H nx
            else aops all r (zbc o.dst ((t, some true) :: kn)) K ((env.put t (.bool true)).putO o.dst .und) H nx)
          (bif want then aops all r (zbc o.dst ((t, some false) :: kn)) K ((env.put t (.bool false)).putO o.dst .und) H nx
            else zih P T eqs o (env.put t (.bool false)) H nx fun v H nx => aops all r (zax o.dst ((t, some false) :: kn)) K ((env.put t (.bool false)).putO o.dst v) H nx)
end
def zei (N : Nat) : List Oper → Bool
  | [] => true
  | o :: r => (match o.dst with | some d => decide (d < N) | none => true) && zei N r
structure St (N : Nat) (env : Env) (H : Heap) (nx : Nat) (ρ : Nat → Loc) (w : World) (a : Act) : Prop where
  sim : Sim (· < nx) ρ H w
  env : ∀ t, VRel (Kof ρ H w) ρ (· < nx) (env t) (a.tmps.getD t undef)
  size : a.tmps.size = N
  defers : a.defers = []
theorem zm {P : Program} {R R' : Value → World → Prop} {r : Result Next} (h : zh P R r) (hr : ∀ v w, R v w → R' v w) : zh P R' r := by
  cases r with
  | ok n w =>
    cases n <;> simp only [zh] at h ⊢
    case value v => exact hr _ _ h
    case skip => exact hr _ _ h
    case enter f args => exact h.mono fun e w'' ⟨v, he, hv⟩ => ⟨v, he, hr _ _ hv⟩
  | halt x w => exact h.elim
section
variable {P : Program} {H : Heap} {nx : Nat} {k : AV → Heap → Nat → Prop} {ρ : Nat → Loc} {w : World} {ev : Operand → Value} {o : Oper} {x : Operand} {v : AV}
theorem zfc {nx' : Nat} {v : AV} {fr : List Nat} {D : zi} {cv : Value} {w' : World} (h : zck (· < nx) ρ H w v fr D cv w') (hA : (fun y => y < nx ∨ y ∈ fr) = (fun y => y < nx')) (hk : k v (H.apply D) nx') :
    ∃ v H' nx' ρ', k v H' nx' ∧ Sim (· < nx') ρ' H' w' ∧ VRel (Kof ρ' H' w') ρ' (· < nx') v cv ∧ Fr (· < nx) ρ H w (· < nx') ρ' H' w' := by
  obtain ⟨ρ', h1, h2, h3⟩ := h
  rw [hA] at h1 h2 h3
  exact ⟨v, _, nx', ρ', hk, h1, h2, h3⟩
theorem zqa {t kt el : Nat} (h : zth v H nx k) (s : Sim (· < nx) ρ H w) {env : Operand → AV} (hv : ∀ x ∈ o.op.operands.toList, VRel (Kof ρ H w) ρ (· < nx) (env x) (ev x)) (hx : env x = v) (hu : P.underlying t = some (.map kt el)) (hop : o.op = .range t x) :
    zh P (fun cv w' => ∃ v H' nx' ρ', k v H' nx' ∧ Sim (· < nx') ρ' H' w' ∧ VRel (Kof ρ' H' w') ρ' (· < nx') v cv ∧ Fr (· < nx) ρ H w (· < nx') ρ' H' w') ((execOp ev o).run P w) := by
  unfold zth at h
  split at h
  · split at h
    · rename_i hg
      exact zm (zne hx hg hu hop (· < nx) ρ H w ev s hv (fun _ _ => rfl) (fun g hg => by simp at hg; omega)) fun cv w' q => zfc q (nx' := nx + 1) (by funext y; simp; omega) h
    · exact h.elim
  · exact h.elim
theorem zsj (h : NEXT v H nx k) (s : Sim (· < nx) ρ H w) (hv : VRel (Kof ρ H w) ρ (· < nx) v (ev x)) (hop : o.op = .next x false) :
    zh P (fun cv w' => ∃ v H' nx' ρ', k v H' nx' ∧ Sim (· < nx') ρ' H' w' ∧ VRel (Kof ρ' H' w') ρ' (· < nx') v cv ∧ Fr (· < nx) ρ H w (· < nx') ρ' H' w') ((execOp ev o).run P w) := by
  unfold NEXT at h
  split at h
  · obtain ⟨rfl, h⟩ := h
    split at h
    · rename_i hx
      split at h
      · rename_i hg
        obtain ⟨hn, hend, hstep⟩ := h
        refine zm (zlc s hv hx hg hn hop) fun cv w' q => ?_
        rcases q with ⟨hall, q⟩ | ⟨i, e, hi, hs, q⟩
        · exact zfc q (by funext y; simp) (hend hall)
        · exact zfc q (by funext y; simp) (hstep i e hi hs)
      · exact h.elim
    · exact h.elim
  · exact h.elim
theorem zqg (h : zti v H nx k) (s : Sim (· < nx) ρ H w) {env : Operand → AV} (hv : ∀ x ∈ o.op.operands.toList, VRel (Kof ρ H w) ρ (· < nx) (env x) (ev x)) (hx : env x = v) (hop : o.op = .entry x) :
    zh P (fun cv w' => ∃ v H' nx' ρ', k v H' nx' ∧ Sim (· < nx') ρ' H' w' ∧ VRel (Kof ρ' H' w') ρ' (· < nx') v cv ∧ Fr (· < nx) ρ H w (· < nx') ρ' H' w') ((execOp ev o).run P w) := by
  unfold zti at h
  split at h
  · obtain ⟨rfl, h⟩ := h
    split at h
    · rename_i hy
      split at h
      · rename_i hg
        obtain ⟨hn, j, u, hlast, hj, hk⟩ := h
        exact zm (znk hx hy hg hn hlast hj hop (· < nx) ρ H w ev s hv (fun _ _ => rfl) (fun g hg => by cases hg)) fun cv w' q => zfc q (by funext y; simp) hk
      · exact h.elim
    · exact h.elim
  · exact h.elim
end
theorem St.ev {N : Nat} {env : Env} {H : Heap} {nx : Nat} {ρ : Nat → Loc} {w : World} {a : Act} (h : St N env H nx ρ w a) (x : Operand) : VRel (Kof ρ H w) ρ (· < nx) (env.ev x) (a.eval x) := by
  cases x with
  | tmp t => exact h.env t
  | const v => exact zhr _ _ _ v
  | global g => exact .junk _
  | func f => exact .clo f [] #[] rfl fun j v c hv => by simp at hv
theorem zge (a : Act) (d : Option Tmp) (u : Nat) (v : Value) (h : ∀ t, d = some t → t < a.tmps.size) : (a.put d v).tmps.getD u undef = if d = some u then v else a.tmps.getD u undef := by
  cases d with
  | none => simp [Act.put]
  | some t =>
    rw [zwi a t u v (h t rfl)]
    by_cases hu : u = t
    · subst hu; simp
    · rw [if_neg hu, if_neg (by simpa using (Ne.symm hu))]
theorem zbu (e : Env) (d : Option Nat) (v : AV) (u : Nat) : e.putO d v u = if d = some u then v else e u := by
  cases d with
  | none => simp [Env.putO]
  | some t =>
    simp only [Env.putO, Env.put]
    by_cases hu : u = t
    · subst hu; simp
    · have : Nat.beq u t = false := by rw [← Bool.not_eq_true, Nat.beq_eq]; exact hu
      rw [this, if_neg (by simpa using (Ne.symm hu))]; rfl
theorem St.put {N : Nat} {env : Env} {H H' : Heap} {nx nx' : Nat} {ρ ρ' : Nat → Loc} {w w' : World} {a : Act} (h : St N env H nx ρ w a) (s' : Sim (· < nx') ρ' H' w') (f : Fr (· < nx) ρ H w (· < nx') ρ' H' w') {d : Option Nat} (hd : ∀ t, d = some t → t < N)
    {v : AV} {c : Value} (hv : VRel (Kof ρ' H' w') ρ' (· < nx') v c) : St N (env.putO d v) H' nx' ρ' w' (a.put d c) := by
  refine ⟨s', fun t => ?_, ?_, ?_⟩
  · rw [zbu, zge a d t c (by rw [h.size]; exact hd)]
    split
    · exact hv
    · exact (h.env t).fr f
  · cases d <;> simp [Act.put, h.size]
  · cases d <;> simp [Act.put, h.defers]
theorem St.weak {N : Nat} {env env' : Env} {H : Heap} {nx : Nat} {ρ : Nat → Loc} {w : World} {a : Act} (h : St N env H nx ρ w a) (he : ∀ t, env' t = env t ∨ env' t = .junk) : St N env' H nx ρ w a :=
  ⟨h.sim, fun t => by rcases he t with e | e <;> rw [e] <;> first | exact h.env t | exact .junk _, h.size, h.defers⟩
theorem znj (env : Env) : ∀ (L M : List Nat) (t : Nat), zlz ((M ++ L).map env) L M.length t = env t ∨ zlz ((M ++ L).map env) L M.length t = .junk
  | [], M, t => .inr rfl
  | u :: L, M, t => by
    simp only [zlz]
    cases hb : Nat.beq t u with
    | true =>
      have : t = u := Nat.eq_of_beq_eq_true hb
      subst this
      left
      simp [nth]
    | false =>
      have := znj env L (M ++ [u]) t
      simpa using this
theorem zjq (env : Env) (L : List Nat) (t : Nat) : zgf L (L.map env) t = env t ∨ zgf L (L.map env) t = .junk := znj env L [] t
section
variable {P : Program} {T : Nat → Option AT} {eqs : Nat → Bool} (hT : TOk P T) (hE : EOk P T eqs) {lv : Nat → Nat → List Nat} {N : Nat}
variable (nx0 : Nat) (ρ0 : Nat → Loc) (H0 : Heap) (w0 : World)
theorem zld {nx : Nat} {fr : List Nat} (h : fr = [] ∨ fr = [nx]) : (fun x => x < nx ∨ x ∈ fr) = (fun x => x < nx + fr.length) := by
  funext x
  rcases h with rfl | rfl
  · simp
  · simp; omega
include hT hE in
theorem zqj {o : Oper} {env : Env} {H : Heap} {nx : Nat} {k : AV → Heap → Nat → Prop} (h : zih P T eqs o env H nx k) {ρ : Nat → Loc} {w : World} {a : Act} (st : St N env H nx ρ w a) :
    zh P (fun cv w' => ∃ v H' nx' ρ', k v H' nx' ∧ Sim (· < nx') ρ' H' w' ∧ VRel (Kof ρ' H' w') ρ' (· < nx') v cv ∧ Fr (· < nx) ρ H w (· < nx') ρ' H' w') ((execOp a.eval o).run P w) := by
  have plain : sop T eqs env.ev H nx o k → zh P (fun cv w' => ∃ v H' nx' ρ', k v H' nx' ∧ Sim (· < nx') ρ' H' w' ∧ VRel (Kof ρ' H' w') ρ' (· < nx') v cv ∧ Fr (· < nx) ρ H w (· < nx') ρ' H' w') ((execOp a.eval o).run P w) := by
    intro h
    obtain ⟨v, rd, fr, D, hfr, he, hk⟩ := znt hT hE (zyi T eqs h)
    have := he (· < nx) ρ H w a.eval st.sim (fun x _ => st.ev x) (fun _ _ => rfl) (fun g hg => by rcases hfr with rfl | rfl <;> simp at hg; omega)
    refine zm this fun cv w' ⟨ρ', q1, q2, q3⟩ => ⟨v, H.apply D, nx + fr.length, ρ', hk, ?_, ?_, ?_⟩
    · rw [zld hfr] at q1; exact q1
    · rw [zld hfr] at q2; exact q2
    · rw [zld hfr] at q3; exact q3
  unfold zih at h
  split at h
  · rename_i c hop
    split at h
    · rename_i f hc
      unfold CALL at h
      split at h
      · rename_i fid cap hf
        have hfv := st.ev f
        rw [hf] at hfv
        generalize hcv : a.eval f = cv at hfv
        cases hfv with
        | clo _ _ cs hl hR =>
          have hargs : LRel (Kof ρ H w) ρ (· < nx) (c.args.toList.map env.ev ++ cap) (c.args.map a.eval ++ cs).toList := by
            rw [Array.toList_append]
            refine LRel.append ⟨by simp, fun j v u hv hu => ?_⟩ ⟨by simpa using hl, fun j v u hv hu => hR j v u hv (by simpa using hu)⟩
            simp only [List.getElem?_map, Option.map_eq_some_iff, Array.toList_map] at hv hu
            obtain ⟨x, hx, rfl⟩ := hv
            obtain ⟨y, hy, rfl⟩ := hu
            rw [hx] at hy
            obtain rfl := Option.some.inj hy
            exact st.ev x
          have := h ρ w (c.args.map a.eval ++ cs) st.sim hargs
          have e : (execOp a.eval o).run P w = (callFunc fid (c.args.map a.eval ++ cs)).run P w := by
            simp only [execOp, hop, resolve, hc, hcv, Deferred.ofValue, Sem.run_bind, Sem.run_pure, Result.andThen_ok, invoke, Array.empty_append]
          rw [e]
          exact this
      · exact h.elim
    · exact plain h
  · rename_i t x hop
    rw [zoz] at h
    obtain ⟨hm, h⟩ := h
    unfold zob at hm
    split at hm
    · rename_i kt el s0 b0 z0 ht
      obtain ⟨i, d, z, hat⟩ := hT.at ht
      have hu := zhc hat
      exact zqa h st.sim (env := env.ev) (fun x _ => st.ev x) rfl hu hop
    · cases hm
  · rename_i x hop
    exact zsj h st.sim (st.ev x) hop
  · rename_i x hop
    exact zqg h st.sim (env := env.ev) (fun x _ => st.ev x) rfl hop
  · exact plain h
def KnOk (kn : zae) (env : Env) : Prop := ∀ t b, (t, b) ∈ kn → match b with | some b => env t = .bool b | none => env t = .und
theorem zbf {t : Nat} : ∀ {kn : zae} {b : Option Bool}, zhy t kn = some b → (t, b) ∈ kn
  | (u, c) :: r, b, h => by
    simp only [zhy] at h
    cases hb : Nat.beq u t with
    | true =>
      rw [hb] at h
      have : u = t := Nat.eq_of_beq_eq_true hb
      subst this
      simp only [cond_true, Option.some.injEq] at h
      subst h
      simp
    | false =>
      rw [hb] at h
      simp only [cond_false] at h
      exact List.mem_cons_of_mem _ (zbf h)
theorem KnOk.drop {kn : zae} {env : Env} (h : KnOk kn env) (d : Option Nat) (v : AV) : KnOk (zax d kn) (env.putO d v) := by
  intro t b hm
  rw [zbu]
  cases d with
  | none => exact h t b hm
  | some d =>
    simp only [zax, List.mem_filter] at hm
    have hne : d ≠ t := by
      intro e; subst e
      have := hm.2
      simp at this
    rw [if_neg (by simpa using hne)]
    exact h t b hm.1
theorem KnOk.skip {kn : zae} {env : Env} (h : KnOk kn env) (d : Option Nat) : KnOk (zbc d kn) (env.putO d .und) := by
  cases d with
  | none => exact h
  | some d =>
    intro t b hm
    simp only [zbc, List.mem_cons, Prod.mk.injEq] at hm
    rcases hm with ⟨rfl, rfl⟩ | hm
    · simp only [zbu, if_pos]
    · exact h.drop (some d) .und t b hm
theorem KnOk.know {kn : zae} {env : Env} (h : KnOk kn env) {t : Nat} {b : Bool} (hb : env t = .bool b) : KnOk ((t, some b) :: kn) (env.put t (.bool b)) := by
  have he : env.put t (.bool b) = env := by
    funext u
    simp only [Env.put]
    cases hu : Nat.beq u t with
    | true => have : u = t := Nat.eq_of_beq_eq_true hu; subst this; exact hb.symm
    | false => rfl
  rw [he]
  intro u c hm
  simp only [List.mem_cons, Prod.mk.injEq] at hm
  rcases hm with ⟨rfl, rfl⟩ | hm
  · exact hb
  · exact h u c hm
theorem zfq {env : Env} {t : Nat} {v : AV} (h : env t = v) : env.put t v = env := by
  funext u
  simp only [Env.put]
  cases hu : Nat.beq u t with
  | true => have : u = t := Nat.eq_of_beq_eq_true hu; subst this; exact h.symm
  | false => rfl
theorem zhi {all : Array Oper} {j t : Nat} (h : gdst all.toList j = some t) (a : Act) : yielded all a.tmps j = match a.tmps[t]? with | some (.bool b) => some b | _ => none := by
  unfold gdst at h
  have e : (all[j]?).bind (·.dst) = some t := by simpa using h
  simp only [yielded, e, Option.bind_some]
  cases a.tmps[t]? with
  | none => rfl
  | some v => cases v <;> rfl
end
end Go.Proofs.YtiinnjjmoifoeaaGreatDoor
set_option maxRecDepth 8000
namespace Go.Proofs.YtiinnjjmoifoeaaGreatDoor
open Go Go.RowKit
def LDR (agg : Bool) (sz : Nat) (p : AV) (H : Heap) (k : AV → List Nat → Prop) : Prop := LOAD agg sz p H fun v rd _ _ => k v rd
section
variable {k : Kt}
theorem pk_k {c a b : AV} : PK c a b (fun v => k v [] [] []) = PICK c a b k := by unfold PK PICK PURE; rfl
theorem nc_k {x : AV} : NC x (fun v => k v [] [] []) = NILC x k := by unfold NC NILC PURE qk; rfl
theorem fa_k {o : Nat} {x : AV} : FA o x (fun v => k v [] [] []) = zgj o x k := by unfold FA zgj PURE qk; rfl
theorem fi_k {g : Bool} {s o : Nat} {x : AV} : FI g s o x (fun v => k v [] [] []) = zby g s o x k := by unfold FI zby PURE qk; rfl
theorem ia_k {s : Nat} {x i : AV} : IA s x i (fun v => k v [] [] []) = zin s x i k := by unfold IA zin PURE qk; rfl
theorem aa_k {s l : Nat} {x i : AV} : AA s l x i (fun v => k v [] [] []) = zio s l x i k := by unfold AA zio PURE qk; rfl
theorem ix_k {x i : AV} : IX x i (fun v => k v [] [] []) = zim x i k := by unfold IX zim PURE qk; rfl
theorem ai_k {g : Bool} {s l : Nat} {x i : AV} : AI g s l x i (fun v => k v [] [] []) = zen g s l x i k := by unfold AI zen zby PURE qk; rfl
theorem zaaj {x : AV} : LNS x (fun v => k v [] [] []) = LENS x k := by unfold LNS LENS PURE qk; rfl
theorem zaak {x : AV} : LNL x (fun v => k v [] [] []) = LENL x k := by unfold LNL LENL PURE qk; rfl
theorem ex_k {x : AV} {i : Nat} : EX x i (fun v => k v [] [] []) = EXTR x i k := by unfold EX EXTR PURE qk; rfl
theorem bd_k {pl : Nat → Option (Nat × Nat)} {z : List AV} {ps : List (Nat × AV)} : BD pl z ps (fun v => k v [] [] []) = zdb pl z ps k := by unfold BD zdb PURE qk; rfl
theorem bi_k {op : BinOp} {x y : AV} : BI op x y (fun v => k v [] [] []) = BINI op x y k := by unfold BI BINI IBIN PURE qk; rfl
theorem bs_k {op : BinOp} {x y : AV} : BS op x y (fun v => k v [] [] []) = BINS op x y k := by unfold BS BINS SBIN PURE qk; rfl
theorem bb_k {op : BinOp} {x y : AV} : BB op x y (fun v => k v [] [] []) = BINB op x y k := by unfold BB BINB PURE qk; rfl
theorem ba_k {s : List AV} {op : BinOp} {x y : AV} : BA s op x y (fun v => k v [] [] []) = BINA s op x y k := by unfold BA BINA PURE qk; rfl
theorem bp_k {op : BinOp} {x y : AV} : BP op x y (fun v => k v [] [] []) = BINP op x y k := by unfold BP BINP PURE qk; rfl
theorem bl_k {op : BinOp} {x y : AV} : BL op x y (fun v => k v [] [] []) = BINL op x y k := by unfold BL BINL PURE qk; rfl
theorem bf_k {op : BinOp} {x y : AV} : BF op x y (fun v => k v [] [] []) = BINF op x y k := by unfold BF BINF PURE qk; rfl
theorem uo_k {op : UnOp} {x : AV} : UO op x (fun v => k v [] [] []) = UN op x k := by unfold UO UN IBIN PURE qk; rfl
theorem cv_k {ki : IntKind} {x : AV} : CV ki x (fun v => k v [] [] []) = zgk ki x k := by unfold CV zgk PURE qk; rfl
theorem zaae {x : AV} {lo hi : Option AV} : SLS x lo hi (fun v => k v [] [] []) = zel x lo hi k := by unfold SLS zel PURE qk; rfl
theorem zaaf {x lo hi mx : AV} : SL0 x lo hi mx (fun v => k v [] [] []) = zem x lo hi mx k := by unfold SL0 zem PURE qk; rfl
theorem mm_k {mn : Bool} {x y : AV} : MM mn x y (fun v => k v [] [] []) = zaw mn x y k := by unfold MM zaw PURE qk; rfl
theorem zaai {x y z : AV} : MX3 x y z (fun v => k v [] [] []) = MAX3 x y z k := by unfold MX3 MAX3 zaw PURE qk; rfl
theorem zaam {g : Bool} {s : Nat} {x : AV} {H : Heap} : LDR g s x H (fun v rd => k v rd [] []) = LOAD g s x H k := by unfold LDR LOAD; rfl
end
section
variable (T : Nat → Option AT) (eqs : Nat → Bool)
def dsop (e : Operand → AV) (H : Heap) (nx : Nat) (o : Oper) (k : Kt) : Prop :=
  match o.op with
  | .move x | .assign x => k (e x) [] [] []
  | .pick c a b => PK (e c) (e a) (e b) fun v => k v [] [] []
  | .alloc t => match T t with | some a => k (.ptr nx 0) [] [nx] [(nx, some (.row (zoa T a) a.zero))] | none => False
  | .box _ v => (e v).sure = true ∧ k (.ptr nx 0) [] [nx] [(nx, some (.row (e v).cells.length (e v).cells))]
  | .build t ps => match T t with
    | some ⟨.struct fs, _, _, zero⟩ => gd (fs.all fun p => za T p.1 != 0) <| BD (zas T fs) zero (ps.toList.map fun p => (p.1, e p.2)) fun v => k v [] [] []
    | some ⟨.array _ el, _, _, zero⟩ => gd (za T el != 0) <| BD (fun i => some (i * za T el, za T el)) zero (ps.toList.map fun p => (p.1, e p.2)) fun v => k v [] [] []
    | _ => False
  | .buildSlice t len ps => match T t with
    | some ⟨.slice el, _, _, _⟩ => match T el with
      | some a => gd (Nat.ble (len * a.size) 16777216 && Nat.blt 0 a.size) <| BSL len a.size a.zero (ps.toList.map fun p => (p.1, e p.2)) fun cells => k (zv eqs t len nx) [] [nx] [(nx, some (.row a.size cells))]
      | none => False
    | _ => False
  | .load t p => match T t with | some a => LDR a.kind.isAgg a.size (e p) H fun v rd => k v rd [] [] | none => False
  | .store t p v => match T t with | some a => zbq a.size (e p) (e v) H k | none => False
  | .nilCheck x => NC (e x) fun v => k v [] [] []
  | .binOp op t x y _ => match T t with
    | some ⟨.int _, _, _, _⟩ => BI op (e x) (e y) fun v => k v [] [] []
    | some ⟨.str, _, _, _⟩ => BS op (e x) (e y) fun v => k v [] [] []
    | some ⟨.bool, _, _, _⟩ => BB op (e x) (e y) fun v => k v [] [] []
    | some ⟨.struct _, _, _, zs⟩ => gd (eqs t) <| BA zs op (e x) (e y) fun v => k v [] [] []
    | some ⟨.array _ _, _, _, zs⟩ => gd (eqs t) <| BA zs op (e x) (e y) fun v => k v [] [] []
    | some ⟨.ptr _, _, _, _⟩ => BP op (e x) (e y) fun v => k v [] [] []
    | some ⟨.slice _, _, _, _⟩ => BL op (e x) (e y) fun v => k v [] [] []
    | some ⟨.iface, _, _, _⟩ => match y with | .const _ => BF op (e x) (e y) fun v => k v [] [] [] | _ => False
    | _ => False
  | .unOp op _ x => UO op (e x) fun v => k v [] [] []
  | .convert s d x => match T s, T d with
    | some ⟨.int _, _, _, _⟩, some ⟨.int kd, _, _, _⟩ => CV kd (e x) fun v => k v [] [] []
    | some ⟨.slice el, _, _, _⟩, some ⟨.str, _, _, _⟩ => match T el with
      | some ⟨.int .u8, _, _, _⟩ => zbt (e x) H k
      | _ => False
    | some ⟨.str, _, _, _⟩, some ⟨.slice el, _, _, _⟩ => match T el with
      | some ⟨.int .u8, _, _, _⟩ => zhh (e x) nx k
      | _ => False
    | _, _ => False
  | .makeFunc fn first cap => match fn, first.toList with
    | .func f, [] => k (.clo f (cap.toList.map e)) [] [] []
    | _, _ => False
  | .makeMap _ r => match r with
    | none => k (.amap nx) [] [nx] [(nx, some (.mp []))]
    | some _ => False
  | .makeSlice t l c => match T t with
    | some ⟨.slice el, _, _, _⟩ => match T el with
      | some a => gd (Nat.blt 0 a.size) <| MK a.bytes (e l) (e c) fun n => k (.slc nx 0 n) [] [nx] [(nx, some (.row a.size ((List.replicate n a.zero).flatten)))]
      | none => False
    | _ => False
  | .slice t x lo hi mx => match mx with
    | none => match T t with
      | some ⟨.slice el, _, _, _⟩ => gd (za T el != 0) <| zai (za T el) (e x) (lo.map e) (hi.map e) H k
      | some ⟨.str, _, _, _⟩ => SLS (e x) (lo.map e) (hi.map e) fun v => k v [] [] []
      | some ⟨.ptr ar, _, _, _⟩ => match T ar with
        | some ⟨.array n el, _, _, _⟩ => gd (za T el != 0) <| zfv (za T el) n (e x) (lo.map e) (hi.map e) H k
        | _ => False
      | _ => False
    | some mx => match lo, hi with
      | some lo, some hi => match T t with
        | some ⟨.slice el, _, _, _⟩ => gd (za T el != 0) <| SL0 (e x) (e lo) (e hi) (e mx) fun v => k v [] [] []
        | _ => False
      | _, _ => False
  | .fieldAddr t x f => match T t with
    | some ⟨.struct fs, _, _, _⟩ => match zas T fs f with | some (off, sz) => gd (sz != 0) <| FA off (e x) fun v => k v [] [] [] | none => False
    | _ => False
  | .field t x f => match T t with
    | some ⟨.struct fs, _, _, _⟩ => match fs[f]? with
      | some (ft, off) => match T ft with | some a => FI a.kind.isAgg a.size off (e x) fun v => k v [] [] [] | none => False
      | none => False
    | _ => False
  | .indexAddr t x i => match T t with
    | some ⟨.slice el, _, _, _⟩ => gd (za T el != 0) <| IA (za T el) (e x) (e i) fun v => k v [] [] []
    | some ⟨.array n el, _, _, _⟩ => gd (za T el != 0) <| AA (za T el) n (e x) (e i) fun v => k v [] [] []
    | _ => False
  | .index t x i => match T t with
    | some ⟨.str, _, _, _⟩ => IX (e x) (e i) fun v => k v [] [] []
    | some ⟨.array n el, _, _, _⟩ => match T el with | some a => AI a.kind.isAgg a.size n (e x) (e i) fun v => k v [] [] [] | none => False
    | _ => False
  | .lookup t m key ok => match T t with
    | some ⟨.map kt el, _, _, _⟩ => match T el, T kt with | some a, some ka => zbg ka.kind (e key) = true ∧ LOOK a.zero a.kind.isAgg (e m) (e key) ok H k | _, _ => False
    | _ => False
  | .mapUpdate t m key v | .insert t m key v => match T t with
    | some ⟨.map kt _, _, _, _⟩ => match T kt with | some ka => zbg ka.kind (e key) = true ∧ MUPD (e m) (e key) (e v) H k | none => False
    | _ => False
  | .extract x i => EX (e x) i fun v => k v [] [] []
  | .call c => match c.callee, c.args.toList, c.argTypes.toList with
    | .builtin .len, [x], [t] => match T t with
      | some ⟨.str, _, _, _⟩ => LNS (e x) fun v => k v [] [] []
      | some ⟨.slice _, _, _, _⟩ => LNL (e x) fun v => k v [] [] []
      | some ⟨.map _ _, _, _, _⟩ => LENM (e x) H k
      | _ => False
    | .builtin .min, [x, y], [_, _] => MM true (e x) (e y) fun v => k v [] [] []
    | .builtin .max, [x, y], [_, _] => MM false (e x) (e y) fun v => k v [] [] []
    | .builtin .max, [x, y, z], [_, _, _] => MX3 (e x) (e y) (e z) fun v => k v [] [] []
    | .builtin .append, [s, x], [t, t2] => match T t with
      | some ⟨.slice el, _, _, _⟩ => match T el with | some a => gd (Nat.blt 0 a.size && Nat.blt 0 a.bytes && (zeg T t2 || zgd T t2)) <| zad a.size a.bytes (e s) (srcV T t2 a.zero (e x)) H nx k | none => False
      | _ => False
    | .builtin .copy, [d, x], [t, _] => match T t with
      | some ⟨.slice el, _, _, _⟩ => match T el with | some a => gd (Nat.blt 0 a.size) <| COPY a.size (e d) (e x) H k | none => False
      | _ => False
    | _, _, _ => False
  | _ => False
theorem zxf {e : Operand → AV} {H : Heap} {nx : Nat} {o : Oper} {k : Kt} (h : dsop T eqs e H nx o k) : aop T eqs e H nx o k := by
  cases hop : o.op <;> simp only [dsop, hop] at h <;> simp only [aop, hop]
  all_goals try simp only [pk_k, nc_k, fa_k, fi_k, ia_k, aa_k, ix_k, ai_k, zaaj, zaak, ex_k, bd_k, bi_k, bs_k, bb_k, ba_k, bp_k, bl_k, bf_k, uo_k, cv_k, zaae, zaaf, zaam, mm_k, zaai] at h
  all_goals first | exact h | exact h.elim | skip
  all_goals
    repeat' split at h
    all_goals try simp only [zoz, bne_iff_ne, Bool.and_eq_true, Nat.blt_eq, Nat.ble_eq] at h
    all_goals try simp only [and_assoc] at h
  all_goals first | exact h.elim | (revert h; simp only [*]; intro h; exact h) | (revert h; simp only [*]; exact id) | skip
end
end Go.Proofs.YtiinnjjmoifoeaaGreatDoor
set_option maxRecDepth 8000
namespace Go.Proofs.YtiinnjjmoifoeaaGreatDoor
open Go Go.RowKit
structure Rec where
  v : AV
  rd : List Nat
  fr : List Nat
  D : zi
  skip : Bool
  env : Env
  H : Heap
  pt : Option AV
  cl : Bool
def ptOf (T : Nat → Option AT) (e : Operand → AV) (o : Oper) : Option AV := match o.op with
  | .load t p => match T t with
    | some a => match a.kind.isAgg with
      | false => some (e p)
      | true => none
    | none => none
  | _ => none
def isCl (o : Oper) : Bool := match o.op with
  | .call c => match c.callee with
    | .value _ => true
    | _ => false
  | _ => false
def zbk (o : Option AObj) (q : Nat) (v : AV) : Prop := ∃ s cs, o = some (.row s cs) ∧ cs[q]? = some v
def Bdd (A : Nat → Prop) : Prop := ∃ N, ∀ g, A g → g < N
def LC (P : Program) (f : FuncId) (args : List AV) (H0 : Heap) (rd fr : List Nat) (D : zi) (v : AV) : Prop :=
  ∀ (A : Nat → Prop) (ρ : Nat → Loc) (H : Heap) (w : World) (cargs : Array Value), Bdd A → Sim A ρ H w → LRel (Kof ρ H w) ρ A args cargs.toList → (∀ g ∈ rd, H g = H0 g) → (∀ g ∈ fr, ¬ A g) →
    zh P (zck A ρ H w v fr D) ((callFunc f cargs).run P w)
abbrev FrOk (nx : Nat) (fr : List Nat) : Prop := fr = [] ∨ fr = [nx] ∨ ∀ g ∈ fr, nx ≤ g ∧ g < nx + fr.length
theorem FrOk.of {nx : Nat} {fr : List Nat} (h : fr = [] ∨ fr = [nx]) : FrOk nx fr := h.elim .inl fun h => .inr (.inl h)
theorem FrOk.at {nx : Nat} {fr : List Nat} (h : FrOk nx fr) : ∀ g ∈ fr, nx ≤ g ∧ g < nx + fr.length := by
  rcases h with rfl | rfl | h
  · intro g hg; cases hg
  · intro g hg; simp at hg; simp; omega
  · exact h
def zgl (P : Program) (f : AV) (args : List AV) (H : Heap) (nx : Nat) (k : Kt) : Prop := match f with
  | .clo f cap => ∃ v rd fr D, FrOk nx fr ∧ LC P f (args ++ cap) H rd fr D v ∧ k v rd fr D
  | _ => False
def EffB (P : Program) (o : Oper) (e : Operand → AV) (H0 : Heap) (rd fr : List Nat) (D : zi) (v : AV) : Prop :=
  ∀ (A : Nat → Prop) (ρ : Nat → Loc) (H : Heap) (w : World) (ev : Operand → Value), Bdd A → Sim A ρ H w → (∀ x ∈ o.op.operands.toList, VRel (Kof ρ H w) ρ A (e x) (ev x)) →
    (∀ g ∈ rd, H g = H0 g) → (∀ g ∈ fr, ¬ A g) → zh P (zck A ρ H w v fr D) ((execOp ev o).run P w)
section
variable (P : Program) (T : Nat → Option AT) (eqs : Nat → Bool)
def zic (o : Oper) (env : Env) (H : Heap) (nx : Nat) (k : Kt) : Prop :=
  match o.op with
  | .call c => match c.callee with
    | .value f => zgl P (env.ev f) (c.args.toList.map env.ev) H nx k
    | _ => dsop T eqs env.ev H nx o k
  | _ => dsop T eqs env.ev H nx o k
def dops (all : List Oper) : List Oper → zae → Env → Heap → Nat → List Rec → (Env → Heap → Nat → List Rec → Prop) → Prop
  | [], _, env, H, nx, log, K => K env H nx log
  | o :: r, kn, env, H, nx, log, K => match o.guard with
    | none => zic P T eqs o env H nx fun v rd fr D => dops all r (zax o.dst kn) (env.putO o.dst v) (H.apply D) (nx + fr.length) (log ++ [⟨v, rd, fr, D, false, env, H, ptOf T env.ev o, isCl o⟩]) K
    | some (j, want) => match gdst all j with
      | none => False
      | some t => match zhy t kn with
        | some none => dops all r (zbc o.dst kn) (env.putO o.dst .und) H nx (log ++ [⟨.und, [], [], [], true, env, H, none, false⟩]) K
        | some (some b) => bif b == want then zic P T eqs o env H nx fun v rd fr D => dops all r (zax o.dst kn) (env.putO o.dst v) (H.apply D) (nx + fr.length) (log ++ [⟨v, rd, fr, D, false, env, H, ptOf T env.ev o, isCl o⟩]) K
          else dops all r (zbc o.dst kn) (env.putO o.dst .und) H nx (log ++ [⟨.und, [], [], [], true, env, H, none, false⟩]) K
        | none => CND (env t)
          (bif want then zic P T eqs o (env.put t (.bool true)) H nx fun v rd fr D => dops all r (zax o.dst ((t, some true) :: kn)) ((env.put t (.bool true)).putO o.dst v) (H.apply D) (nx + fr.length) (log ++ [⟨v, rd, fr, D, false, env.put t (.bool true), H, ptOf T (env.put t (.bool true)).ev o, isCl o⟩]) K
            else dops all r (zbc o.dst ((t, some true) :: kn)) ((env.put t (.bool true)).putO o.dst .und) H nx (log ++ [⟨.und, [], [], [], true, env.put t (.bool true), H, none, false⟩]) K)
          (bif want then dops all r (zbc o.dst ((t, some false) :: kn)) ((env.put t (.bool false)).putO o.dst .und) H nx (log ++ [⟨.und, [], [], [], true, env.put t (.bool false), H, none, false⟩]) K
            else zic P T eqs o (env.put t (.bool false)) H nx fun v rd fr D => dops all r (zax o.dst ((t, some false) :: kn)) ((env.put t (.bool false)).putO o.dst v) (H.apply D) (nx + fr.length) (log ++ [⟨v, rd, fr, D, false, env.put t (.bool false), H, ptOf T (env.put t (.bool false)).ev o, isCl o⟩]) K)
end
def zbm (ops : Array Oper) : Nat → Nat → Nat → Bool
  | 0, _, _ => false
  | f + 1, i, j => (zah ops j).any fun p => Nat.beq p i || zbm ops f i p
def ancM (l : List Nat) : List Nat → Nat → Nat
  | [], m => m
  | p :: r, m => ancM l r (Nat.lor (Nat.lor m (Nat.shiftLeft 1 p)) (l.getD p 0))
def ancL (ops : Array Oper) : Nat → List Nat
  | 0 => []
  | n + 1 => ancL ops n ++ [ancM (ancL ops n) (zah ops n) 0]
def befB (l : List Nat) (i j : Nat) : Bool := Nat.beq (Nat.land (Nat.shiftRight (l.getD j 0) i) 1) 1
theorem zpp {l : List Nat} {i : Nat} : ∀ (ps : List Nat) (m : Nat), (ancM l ps m).testBit i = true → m.testBit i = true ∨ ∃ p ∈ ps, p = i ∨ (l.getD p 0).testBit i = true
  | [], m, h => .inl h
  | p :: r, m, h => by
    rcases zpp r _ h with h | ⟨q, hq, h⟩
    · have e : Nat.lor (Nat.lor m (Nat.shiftLeft 1 p)) (l.getD p 0) = (m ||| 1 <<< p) ||| l.getD p 0 := rfl
      rw [e, Nat.testBit_or, Nat.testBit_or, Bool.or_eq_true, Bool.or_eq_true] at h
      rcases h with (h | h) | h
      · exact .inl h
      · refine .inr ⟨p, by simp, .inl ?_⟩
        rw [Nat.one_shiftLeft, Nat.testBit_two_pow] at h
        simpa using h
      · exact .inr ⟨p, by simp, .inr h⟩
    · exact .inr ⟨q, by simp [hq], h⟩
theorem zcs (ops : Array Oper) : ∀ n, (ancL ops n).length = n
  | 0 => rfl
  | n + 1 => by simp [ancL, zcs ops n]
theorem zgt {ops : Array Oper} {i : Nat} : ∀ (n j : Nat), ((ancL ops n).getD j 0).testBit i = true → ∃ f, zbm ops f i j = true
  | 0, j, h => by simp [ancL] at h
  | n + 1, j, h => by
    by_cases hj : j < n
    · refine zgt n j ?_
      rw [← h]
      simp only [ancL, List.getD_eq_getElem?_getD]
      rw [List.getElem?_append_left (by rw [zcs]; exact hj)]
    · by_cases hjn : j = n
      · subst hjn
        have e : (ancL ops (j + 1)).getD j 0 = ancM (ancL ops j) (zah ops j) 0 := by
          simp only [ancL, List.getD_eq_getElem?_getD]
          rw [List.getElem?_append_right (by rw [zcs]; exact Nat.le_refl _), zcs]
          simp
        rw [e] at h
        rcases zpp _ _ h with h | ⟨p, hp, rfl | h⟩
        · simp at h
        · exact ⟨1, by simp only [zbm, List.any_eq_true]; exact ⟨p, hp, by simp⟩⟩
        · obtain ⟨f, hf⟩ := zgt j p h
          exact ⟨f + 1, by simp only [zbm, List.any_eq_true]; exact ⟨p, hp, by simp [hf]⟩⟩
      · have e : (ancL ops (n + 1)).getD j 0 = 0 := by
          rw [List.getD_eq_getElem?_getD, List.getElem?_eq_none (by rw [zcs]; omega)]; rfl
        rw [e] at h
        simp at h
theorem zcr {ops : Array Oper} {i j n : Nat} (h : befB (ancL ops n) i j = true) : ∃ f, zbm ops f i j = true := by
  refine zgt n j ?_
  have h1 := Nat.eq_of_beq_eq_true h
  have e : Nat.land (Nat.shiftRight ((ancL ops n).getD j 0) i) 1 = ((ancL ops n).getD j 0 >>> i) &&& 1 := rfl
  rw [e, Nat.and_comm] at h1
  simp only [Nat.testBit, h1]
  rfl
def zqv (ops : Array Oper) (l : List Nat) : List (Nat × Nat) :=
  (List.range ops.size).flatMap fun j => (List.range j).filterMap fun i =>
    match ops[i]?, ops[j]? with
    | some a, some b => if (noW a && noW b) || befB l i j then none else some (i, j)
    | _, _ => none
def zhe (ops : Array Oper) : List (Nat × Nat) := zqv ops (ancL ops ops.size)
def disj : List Nat → List Nat → Prop
  | [], _ => True
  | [g], l => g ∉ l
  | g :: r, l => g ∉ l ∧ disj r l
def domD (D : zi) : List Nat := D.map (·.1)
def zhf (g q : Nat) (v : AV) (D : zi) : Prop := ∀ p ∈ D, p.1 = g → zbk p.2 q v
def zjf (a b : Rec) : Prop := match b.cl, a.pt with
  | true, some (.ptr g q) => zhf g q a.v b.D
  | _, _ => disj (domD b.D) a.rd
def zee (L : List Rec) (p : Nat × Nat) : Prop := match L[p.1]?, L[p.2]? with
  | some a, some b => disj (domD a.D) (b.rd ++ domD b.D) ∧ zjf a b
  | _, _ => False
def zfb (L : List Rec) : List (Nat × Nat) → Prop
  | [] => True
  | [p] => zee L p
  | p :: r => zee L p ∧ zfb L r
def zo : List Nat → List Nat → Prop → Prop
  | [], _, A => A
  | g :: r, l, A => g ∉ l ∧ zo r l A
def zdq (g q : Nat) (v : AV) : zi → Prop → Prop
  | [], A => A
  | p :: r, A => (p.1 = g → zbk p.2 q v) ∧ zdq g q v r A
def SOFT (p v : AV) (D : zi) (rd : List Nat) (A : Prop) : Prop := match p with
  | .ptr g q => zdq g q v D A
  | _ => zo (domD D) rd A
def zrx (a b : Rec) (A : Prop) : Prop := match b.cl with
  | true => match a.pt with
    | some p => SOFT p a.v b.D a.rd A
    | none => zo (domD b.D) a.rd A
  | false => zo (domD b.D) a.rd A
def zse (L : List Rec) (p : Nat × Nat) (A : Prop) : Prop := match L[p.1]?, L[p.2]? with
  | some a, some b => zo (domD a.D) b.rd (zo (domD a.D) (domD b.D) (zrx a b A))
  | _, _ => False
def zie (L : List Rec) (A : Prop) : List (Nat × Nat) → Prop
  | [] => A
  | p :: r => zse L p (zie L A r)
theorem zcd : ∀ (l m : List Nat), disj l m ↔ ∀ g ∈ l, g ∉ m
  | [], m => by simp [disj]
  | [g], m => by simp [disj]
  | g :: h :: r, m => by simp only [disj, zcd (h :: r) m]; simp
theorem zek (L : List Rec) : ∀ l : List (Nat × Nat), zfb L l ↔ ∀ p ∈ l, zee L p
  | [] => by simp [zfb]
  | [p] => by simp [zfb]
  | p :: q :: r => by simp only [zfb, zek L (q :: r)]; simp
theorem zej {A : Prop} : ∀ (l m : List Nat), zo l m A ↔ disj l m ∧ A
  | [], m => by simp [zo, disj]
  | g :: r, m => by
    simp only [zo, zej r m]
    rw [zcd, zcd]
    simp [and_assoc]
theorem znq {g q : Nat} {v : AV} {A : Prop} : ∀ D : zi, zdq g q v D A ↔ zhf g q v D ∧ A
  | [] => by simp [zdq, zhf]
  | p :: r => by
    simp only [zdq, znq r]
    simp only [zhf, List.mem_cons, forall_eq_or_imp]
    simp [and_assoc]
theorem ztw {a b : Rec} {A : Prop} : zrx a b A ↔ zjf a b ∧ A := by
  unfold zrx zjf
  cases b.cl with
  | false => simp only [zej]
  | true =>
    cases a.pt with
    | none => simp only [zej]
    | some p => cases p <;> simp only [SOFT, zej, znq]
theorem znn {L : List Rec} {A : Prop} : ∀ l : List (Nat × Nat), zie L A l ↔ zfb L l ∧ A
  | [] => by simp [zie, zfb]
  | p :: r => by
    have h : zse L p (zie L A r) ↔ zee L p ∧ zie L A r := by
      unfold zse zee
      split
      · simp only [zej, ztw, zcd, List.mem_append, not_or]
        exact ⟨fun ⟨h1, h2, h3, h4⟩ => ⟨⟨fun g hg => ⟨h1 g hg, h2 g hg⟩, h3⟩, h4⟩, fun ⟨⟨h1, h3⟩, h4⟩ => ⟨fun g hg => (h1 g hg).1, fun g hg => (h1 g hg).2, h3, h4⟩⟩
      · simp
    simp only [zie]
    rw [h, znn r, zek, zek]
    simp [and_assoc]
section
variable {P : Program} {T : Nat → Option AT} {eqs : Nat → Bool} (hT : TOk P T) (hE : EOk P T eqs)
theorem LRel.ops {K : zf} {ρ : Nat → Loc} {A : Nat → Prop} {e : Operand → AV} {ev : Operand → Value} {xs : Array Operand} (h : ∀ x ∈ xs.toList, VRel K ρ A (e x) (ev x)) : LRel K ρ A (xs.toList.map e) (xs.map ev).toList := by
  refine ⟨by simp, fun j v u hv hu => ?_⟩
  simp only [List.getElem?_map, Option.map_eq_some_iff, Array.toList_map] at hv hu
  obtain ⟨x, hx, rfl⟩ := hv
  obtain ⟨y, hy, rfl⟩ := hu
  rw [hx] at hy
  obtain rfl := Option.some.inj hy
  exact h x (List.mem_of_getElem? hx)
def zgh (P : Program) (o : Oper) (e : Operand → AV) (H : Heap) (rd fr : List Nat) (D : zi) (v : AV) (pt : Option AV) : Prop :=
  ∀ g q, pt = some (.ptr g q) → rd = [g] ∧ fr = [] ∧ D = [] ∧ zbk (H g) q v ∧ ∀ H1 : Heap, zbk (H1 g) q v → EffB P o e H1 [g] [] [] v
include hT hE in
theorem zqh {o : Oper} {env : Env} {H : Heap} {nx : Nat} {k : Kt} (h : zic P T eqs o env H nx k) :
    ∃ v rd fr D, FrOk nx fr ∧ EffB P o env.ev H rd fr D v ∧ (noW o = true → fr = [] ∧ D = []) ∧ zgh P o env.ev H rd fr D v (ptOf T env.ev o) ∧ k v rd fr D := by
  have plain : dsop T eqs env.ev H nx o k → ∃ v rd fr D, FrOk nx fr ∧ EffB P o env.ev H rd fr D v ∧ (noW o = true → fr = [] ∧ D = []) ∧ zgh P o env.ev H rd fr D v (ptOf T env.ev o) ∧ k v rd fr D := by
    intro h
    by_cases hex : ∃ g q, ptOf T env.ev o = some (.ptr g q)
    · obtain ⟨g, q, hp⟩ := hex
      have hp0 := hp
      unfold ptOf at hp
      split at hp
      · rename_i t x hop
        split at hp
        · rename_i a hta
          split at hp
          · rename_i hag
            have hp := Option.some.inj hp
            simp only [dsop, hop, hta] at h
            obtain ⟨i, d, z, hat⟩ := hT.at hta
            have any : ∀ {H1 : Heap} {s : Nat} {cs : List AV} {v : AV}, H1 g = some (.row s cs) → cs[q]? = some v → EffB P o env.ev H1 [g] [] [] v := by
              intro H1 s cs v hg hv
              obtain ⟨v', rd', he, rfl, rfl⟩ := zlf (H0 := H1) (e := env.ev) (k := fun v' rd' _ _ => v' = v ∧ rd' = [g]) hat hop (by
                simp only [hp, LOAD, rdp, hg, ldv, hag, cond_false, hv, and_self])
              exact fun A ρ H w ev _ s hx hr hf => he A ρ H w ev s hx hr hf
            unfold LDR LOAD at h
            rw [hp] at h
            cases hg : H g with
            | none => simp only [rdp, hg] at h
            | some ob =>
              cases ob with
              | mp es => simp only [rdp, hg] at h
              | it a b c => simp only [rdp, hg] at h
              | row s cs =>
                simp only [rdp, hg, ldv, hag, cond_false] at h
                cases hv : cs[q]? with
                | none => simp only [hv] at h
                | some v =>
                  simp only [hv] at h
                  refine ⟨v, [g], [], [], .inl rfl, any hg hv, fun _ => ⟨rfl, rfl⟩, fun g' q' e => ?_, h⟩
                  rw [hp0] at e
                  cases e
                  exact ⟨rfl, rfl, rfl, ⟨s, cs, hg, hv⟩, fun H1 ⟨s', cs', h1, h2⟩ => any h1 h2⟩
          · cases hp
        · cases hp
      · cases hp
    · obtain ⟨v, rd, fr, D, h1, h2, h3, h4⟩ := zil hT hE (zxf T eqs h)
      exact ⟨v, rd, fr, D, .of h1, fun A ρ H w ev _ s hx hr hf => h2 A ρ H w ev s hx hr hf, h4, fun g q e => absurd ⟨g, q, e⟩ hex, h3⟩
  unfold zic at h
  split at h
  · rename_i c hop
    split at h
    · rename_i f hc
      unfold zgl at h
      split at h
      · rename_i fid cap hf
        obtain ⟨v, rd, fr, D, h1, h2, h3⟩ := h
        refine ⟨v, rd, fr, D, h1, fun A ρ H w ev hB s hx hr hfr => ?_, fun hn => by simp [noW, hop] at hn, fun g q e => by simp [ptOf, hop] at e, h3⟩
        have hfv := hx f (by simp [hop, Op.operands, Call.operands, hc])
        rw [hf] at hfv
        generalize hcv : ev f = cv at hfv
        cases hfv with
        | clo _ _ cs hl hR =>
          have hargs : LRel (Kof ρ H w) ρ A (c.args.toList.map env.ev ++ cap) (c.args.map ev ++ cs).toList := by
            rw [Array.toList_append]
            exact LRel.append (LRel.ops fun x hx' => hx x (by simp only [hop, Op.operands, Call.operands, hc]; simp; exact .inr (by simpa using hx'))) ⟨by simpa using hl, fun j v u hv hu => hR j v u hv (by simpa using hu)⟩
          have := h2 A ρ H w (c.args.map ev ++ cs) hB s hargs hr hfr
          have e : (execOp ev o).run P w = (callFunc fid (c.args.map ev ++ cs)).run P w := by
            simp only [execOp, hop, resolve, hc, hcv, Deferred.ofValue, Sem.run_bind, Sem.run_pure, Result.andThen_ok, invoke, Array.empty_append]
          rw [e]
          exact this
      · exact h.elim
    · exact plain h
  · exact plain h
def Fact (P : Program) (all : List Oper) (o : Oper) (r : Rec) (nx : Nat) : Prop :=
  FrOk nx r.fr ∧ (noW o = true → r.fr = [] ∧ r.D = []) ∧
  if r.skip then r.pt = none ∧ r.v = .und ∧ r.rd = [] ∧ r.fr = [] ∧ r.D = [] ∧ ∃ j want t, o.guard = some (j, want) ∧ gdst all j = some t ∧ (r.env t = .und ∨ r.env t = .bool (!want))
  else EffB P o r.env.ev r.H r.rd r.fr r.D r.v ∧ zgh P o r.env.ev r.H r.rd r.fr r.D r.v r.pt ∧ (o.guard = none ∨ ∃ j want t, o.guard = some (j, want) ∧ gdst all j = some t ∧ r.env t = .bool want)
def zdt (P : Program) (all : List Oper) : List Oper → List Rec → Env → Heap → Nat → Env → Heap → Nat → Prop
  | [], [], env, H, nx, env', H', nx' => env' = env ∧ H' = H ∧ nx' = nx
  | o :: r, x :: t, env, H, nx, env', H', nx' => x.env = env ∧ x.H = H ∧ Fact P all o x nx ∧ zdt P all r t (env.putO o.dst x.v) (H.apply x.D) (nx + x.fr.length) env' H' nx'
  | _, _, _, _, _, _, _, _ => False
include hT hE in
theorem zid {all : List Oper} {K : Env → Heap → Nat → List Rec → Prop} : ∀ (rest : List Oper) (kn : zae) (env : Env) (H : Heap) (nx : Nat) (log : List Rec), KnOk kn env → dops P T eqs all rest kn env H nx log K →
    ∃ L env' H' nx', zdt P all rest L env H nx env' H' nx' ∧ K env' H' nx' (log ++ L)
  | [], kn, env, H, nx, log, _, h => ⟨[], env, H, nx, ⟨rfl, rfl, rfl⟩, by rw [List.append_nil]; exact h⟩
  | o :: r, kn, env, H, nx, log, hkn, h => by
    have run : ∀ (kn1 : zae) (env1 : Env), env1 = env → KnOk kn1 env1 → (o.guard = none ∨ ∃ j want t, o.guard = some (j, want) ∧ gdst all j = some t ∧ env1 t = .bool want) →
        zic P T eqs o env1 H nx (fun v rd fr D => dops P T eqs all r (zax o.dst kn1) (env1.putO o.dst v) (H.apply D) (nx + fr.length) (log ++ [⟨v, rd, fr, D, false, env1, H, ptOf T env1.ev o, isCl o⟩]) K) →
        ∃ L env' H' nx', zdt P all (o :: r) L env H nx env' H' nx' ∧ K env' H' nx' (log ++ L) := by
      intro kn1 env1 he hk1 hg hs
      subst he
      obtain ⟨v, rd, fr, D, h1, h2, h3, hsf, h4⟩ := zqh hT hE hs
      obtain ⟨L, env', H', nx', q1, q2⟩ := zid r _ _ _ _ _ (hk1.drop o.dst v) h4
      exact ⟨⟨v, rd, fr, D, false, env1, H, ptOf T env1.ev o, isCl o⟩ :: L, env', H', nx', ⟨rfl, rfl, ⟨h1, h3, by simp only [Bool.false_eq_true, if_false]; exact ⟨h2, hsf, hg⟩⟩, q1⟩, by simpa using q2⟩
    have skip : ∀ (kn1 : zae) (env1 : Env), env1 = env → KnOk kn1 env1 → (∃ j want t, o.guard = some (j, want) ∧ gdst all j = some t ∧ (env1 t = .und ∨ env1 t = .bool (!want))) →
        dops P T eqs all r (zbc o.dst kn1) (env1.putO o.dst .und) H nx (log ++ [⟨.und, [], [], [], true, env1, H, none, false⟩]) K →
        ∃ L env' H' nx', zdt P all (o :: r) L env H nx env' H' nx' ∧ K env' H' nx' (log ++ L) := by
      intro kn1 env1 he hk1 hg hs
      subst he
      obtain ⟨L, env', H', nx', q1, q2⟩ := zid r _ _ _ _ _ (hk1.skip o.dst) hs
      exact ⟨⟨.und, [], [], [], true, env1, H, none, false⟩ :: L, env', H', nx', ⟨rfl, rfl, ⟨.inl rfl, fun _ => ⟨rfl, rfl⟩, (if_pos rfl).mpr ⟨rfl, rfl, rfl, rfl, rfl, hg⟩⟩, q1⟩, by simpa using q2⟩
    simp only [dops] at h
    split at h
    · rename_i hg
      exact run kn env rfl hkn (.inl hg) h
    · rename_i j want hg
      split at h
      · exact h.elim
      · rename_i t ht
        split at h
        · rename_i hk
          have hu := hkn t none (zbf hk)
          exact skip kn env rfl hkn ⟨j, want, t, hg, ht, .inl hu⟩ h
        · rename_i b hk
          have hb := hkn t (some b) (zbf hk)
          simp only at hb
          cases hbw : (b == want) with
          | true =>
            rw [hbw] at h
            have : b = want := by simpa using hbw
            subst this
            exact run kn env rfl hkn (.inr ⟨j, b, t, hg, ht, hb⟩) h
          | false =>
            rw [hbw] at h
            have : b = !want := by cases b <;> cases want <;> simp_all
            subst this
            exact skip kn env rfl hkn ⟨j, want, t, hg, ht, .inr hb⟩ h
        · obtain ⟨b, hb, h1, h2⟩ := zno h
          have hk2 := hkn.know hb
          have he := zfq hb
          cases b with
          | true =>
            have h := h1 rfl
            cases want with
            | true => exact run _ _ he hk2 (.inr ⟨j, true, t, hg, ht, by rw [he]; exact hb⟩) h
            | false => exact skip _ _ he hk2 ⟨j, false, t, hg, ht, .inr (by rw [he]; exact hb)⟩ h
          | false =>
            have h := h2 rfl
            cases want with
            | true => exact skip _ _ he hk2 ⟨j, true, t, hg, ht, .inr (by rw [he]; exact hb)⟩ h
            | false => exact run _ _ he hk2 (.inr ⟨j, false, t, hg, ht, by rw [he]; exact hb⟩) h
end
/-! What the log says of any order. -/
theorem zay (D : zi) : ∀ (H : Heap) (g : Nat), g ∉ domD D → H.apply D g = H g := by
  induction D with
  | nil => intro H g _; rfl
  | cons p r ih =>
    intro H g hg
    obtain ⟨x, o⟩ := p
    simp only [domD, List.map_cons, List.mem_cons, not_or] at hg
    simp only [Heap.apply]
    rw [ih _ g hg.2, Heap.put_ne _ _ hg.1]
theorem zdr (D : zi) : ∀ (H H' : Heap) (g : Nat), (H g = H' g ∨ g ∈ domD D) → H.apply D g = H'.apply D g := by
  induction D with
  | nil =>
    intro H H' g h
    rcases h with h | h
    · exact h
    · cases h
  | cons p r ih =>
    intro H H' g h
    obtain ⟨x, o⟩ := p
    simp only [Heap.apply]
    refine ih _ _ g ?_
    by_cases hx : g = x
    · left; subst hx; rw [Heap.put_at, Heap.put_at]
    · rcases h with h | h
      · left; rw [Heap.put_ne _ _ hx, Heap.put_ne _ _ hx]; exact h
      · right
        simp only [domD, List.map_cons, List.mem_cons] at h
        rcases h with h | h
        · exact absurd h hx
        · exact h
def hD (ls : Nat → Bool) : List Rec → Nat → Heap → Heap
  | [], _, H => H
  | r :: t, i, H => hD ls t (i + 1) (bif ls i then H.apply r.D else H)
theorem zfr {ls ls' : Nat → Bool} {g : Nat} : ∀ (L : List Rec) (i : Nat) (H H' : Heap), H g = H' g → (∀ j r, L[j]? = some r → g ∈ domD r.D → ls (i + j) = ls' (i + j)) → hD ls L i H g = hD ls' L i H' g
  | [], i, H, H', h, _ => h
  | r :: t, i, H, H', h, hl => by
    simp only [hD]
    refine zfr t (i + 1) _ _ ?_ fun j x hj hg => by have := hl (j + 1) x (by simpa using hj) hg; rwa [show i + 1 + j = i + (j + 1) by omega]
    by_cases hg : g ∈ domD r.D
    · have := hl 0 r rfl hg
      simp only [Nat.add_zero] at this
      rw [this]
      cases ls' i with
      | true => exact zdr _ _ _ _ (.inr hg)
      | false => exact h
    · have e : ∀ (b : Bool) (X : Heap), (bif b then X.apply r.D else X) g = X g := by
        intro b X; cases b
        · rfl
        · exact zay _ _ _ hg
      rw [e, e]; exact h
theorem zjs {g q : Nat} {v : AV} : ∀ {D : zi}, zhf g q v D → g ∈ domD D → ∀ X : Heap, zbk (X.apply D g) q v
  | [], _, h, _ => by cases h
  | (x, o) :: r, hc, hg, X => by
    simp only [Heap.apply]
    by_cases hr : g ∈ domD r
    · exact zjs (fun p hp => hc p (by simp [hp])) hr _
    · rw [zay _ _ _ hr]
      simp only [domD, List.map_cons, List.mem_cons] at hg
      rcases hg with rfl | hg
      · rw [Heap.put_at]; exact hc _ List.mem_cons_self rfl
      · exact absurd hg hr
theorem zqs {ls ls' : Nat → Bool} {g : Nat} {φ : Option AObj → Prop} : ∀ (L : List Rec) (i : Nat) (H H' : Heap), (H g = H' g ∨ φ (H g)) →
    (∀ j r, L[j]? = some r → g ∈ domD r.D → ls (i + j) = ls' (i + j) ∨ (ls' (i + j) = false ∧ ∀ X : Heap, φ (X.apply r.D g))) → hD ls L i H g = hD ls' L i H' g ∨ φ (hD ls L i H g)
  | [], i, H, H', h, _ => h
  | r :: t, i, H, H', h, hl => by
    simp only [hD]
    refine zqs t (i + 1) _ _ ?_ fun j x hj hg => by have := hl (j + 1) x (by simpa using hj) hg; rwa [show i + 1 + j = i + (j + 1) by omega]
    by_cases hg : g ∈ domD r.D
    · have := hl 0 r rfl hg
      simp only [Nat.add_zero] at this
      rcases this with e | ⟨e1, e2⟩
      · rw [e]
        cases ls' i with
        | true => exact .inl (zdr _ _ _ _ (.inr hg))
        | false => exact h
      · rw [e1]
        cases ls i with
        | true => exact .inr (e2 H)
        | false => exact h
    · have e : ∀ (b : Bool) (X : Heap), (bif b then X.apply r.D else X) g = X g := by
        intro b X; cases b
        · rfl
        · exact zay _ _ _ hg
      rw [e, e]; exact h
theorem zfs {ls : Nat → Bool} : ∀ (L : List Rec) (i k : Nat) (r : Rec) (H : Heap), L[k]? = some r → ls (i + k) = false → (∀ j x, k < j → L[j]? = some x → ls (i + j) = true → ∀ g ∈ domD r.D, g ∉ domD x.D) →
    hD (fun x => bif Nat.beq x (i + k) then true else ls x) L i H = (hD ls L i H).apply r.D := by
  intro L
  induction L with
  | nil => intro i k r H h; simp at h
  | cons y t ih =>
    intro i k r H hk hl hlast
    simp only [hD]
    cases k with
    | zero =>
      simp only [List.getElem?_cons_zero, Option.some.injEq] at hk
      subst hk
      simp only [Nat.add_zero] at hl ⊢
      have e1 : Nat.beq i i = true := by simp
      rw [e1, hl]
      simp only [cond_true, cond_false]
      funext g
      by_cases hg : g ∈ domD y.D
      · have h1 : hD (fun x => bif Nat.beq x i then true else ls x) t (i + 1) (H.apply y.D) g = H.apply y.D g := by
          have : ∀ j x, t[j]? = some x → g ∈ domD x.D → (fun x => bif Nat.beq x i then true else ls x) (i + 1 + j) = (fun _ => false) (i + 1 + j) := by
            intro j x hj hgx
            have hne : Nat.beq (i + 1 + j) i = false := by rw [← Bool.not_eq_true, Nat.beq_eq]; omega
            simp only [hne, cond_false]
            cases hb : ls (i + 1 + j) with
            | false => rfl
            | true => exact absurd hgx (hlast (j + 1) x (by omega) (by simpa using hj) (by rw [← hb]; congr 1; omega) g hg)
          rw [zfr (ls' := fun _ => false) t (i + 1) _ (H.apply y.D) rfl this]
          exact congrFun (hD_none t (i + 1) _) g
        rw [h1]
        exact zdr _ _ _ _ (.inr hg)
      · rw [zay _ _ _ hg]
        refine zfr t (i + 1) _ _ (zay _ _ _ hg) fun j x hj _ => ?_
        have hne : Nat.beq (i + 1 + j) i = false := by rw [← Bool.not_eq_true, Nat.beq_eq]; omega
        simp only [hne, cond_false]
    | succ k =>
      have hne : Nat.beq i (i + (k + 1)) = false := by rw [← Bool.not_eq_true, Nat.beq_eq]; omega
      rw [hne]
      simp only [cond_false]
      have := ih (i + 1) k r (bif ls i then H.apply y.D else H) (by simpa using hk) (by rw [show i + 1 + k = i + (k + 1) by omega]; exact hl)
        (fun j x hj hx hlx g hg => hlast (j + 1) x (by omega) (by simpa using hx) (by rw [show i + (j + 1) = i + 1 + j by omega]; exact hlx) g hg)
      rw [show i + 1 + k = i + (k + 1) by omega] at this
      exact this
where
  hD_none : ∀ (L : List Rec) (i : Nat) (H : Heap), hD (fun _ => false) L i H = H
    | [], _, _ => rfl
    | _ :: t, i, H => by simp only [hD, cond_false]; exact hD_none t (i + 1) H
def eD (ls : Nat → Bool) : List Oper → List Rec → Nat → Env → Env
  | o :: r, x :: t, i, env => eD ls r t (i + 1) (bif ls i then env.putO o.dst x.v else env)
  | _, _, _, env => env
theorem zdd {ls : Nat → Bool} {t : Nat} : ∀ (os : List Oper) (L : List Rec) (i : Nat) (env : Env), (∀ o ∈ os, o.dst ≠ some t) → eD ls os L i env t = env t
  | [], L, i, env, _ => by simp [eD]
  | o :: r, [], i, env, _ => by simp [eD]
  | o :: r, x :: L, i, env, h => by
    simp only [eD]
    rw [zdd r L (i + 1) _ fun o ho => h o (by simp [ho])]
    cases ls i with
    | false => rfl
    | true => simp only [cond_true, zbu]; rw [if_neg (h o (by simp))]
theorem zeh {ls : Nat → Bool} {t : Nat} : ∀ (os : List Oper) (L : List Rec) (i k : Nat) (o : Oper) (x : Rec) (env : Env), os[k]? = some o → L[k]? = some x → o.dst = some t → (∀ k' o', os[k']? = some o' → o'.dst = some t → k' = k) →
    eD ls os L i env t = bif ls (i + k) then x.v else env t
  | [], L, i, k, o, x, env, h, _, _, _ => by simp at h
  | o' :: r, [], i, k, o, x, env, _, h, _, _ => by simp at h
  | o' :: r, y :: L, i, 0, o, x, env, ho, hx, hd, hu => by
    simp only [List.getElem?_cons_zero, Option.some.injEq] at ho hx
    subst ho; subst hx
    simp only [eD, Nat.add_zero]
    rw [zdd r L (i + 1) _ fun q hq e => by
      obtain ⟨k, hk⟩ := List.getElem?_of_mem hq
      have := hu (k + 1) q (by simpa using hk) e
      omega]
    cases ls i with
    | false => rfl
    | true => simp only [cond_true, zbu]; rw [if_pos hd]
  | o' :: r, y :: L, i, k + 1, o, x, env, ho, hx, hd, hu => by
    simp only [eD]
    rw [zeh r L (i + 1) k o x _ (by simpa using ho) (by simpa using hx) hd fun k' q hq e => by have := hu (k' + 1) q (by simpa using hq) e; omega]
    rw [show i + 1 + k = i + (k + 1) by omega]
    have hne : o'.dst ≠ some t := fun e => by have := hu 0 o' rfl e; omega
    have : (bif ls i then env.putO o'.dst y.v else env) t = env t := by
      cases ls i with
      | false => rfl
      | true => simp only [cond_true, zbu]; rw [if_neg hne]
    rw [this]
structure At (P : Program) (all : List Oper) (L : List Rec) (os : List Oper) (k : Nat) (env : Env) (H : Heap) (N : Nat → Nat) (i : Nat) (o : Oper) (r : Rec) : Prop where
  get : L[i]? = some r
  env : r.env = eD (fun x => decide (x < k + i)) os L k env
  H : r.H = hD (fun x => decide (x < k + i)) L k H
  fact : Fact P all o r (N i)
theorem zif {P : Program} {all : List Oper} : ∀ (os : List Oper) (L : List Rec) (k : Nat) (env : Env) (H : Heap) (nx : Nat) (env' : Env) (H' : Heap) (nx' : Nat), zdt P all os L env H nx env' H' nx' →
    L.length = os.length ∧ env' = eD (fun _ => true) os L k env ∧ H' = hD (fun _ => true) L k H ∧
    ∃ N : Nat → Nat, N 0 = nx ∧ N os.length = nx' ∧ (∀ i r, L[i]? = some r → N (i + 1) = N i + r.fr.length) ∧ ∀ i o, os[i]? = some o → ∃ r, At P all L os k env H N i o r
  | [], [], k, env, H, nx, env', H', nx', ⟨h1, h2, h3⟩ => ⟨rfl, h1, h2, fun _ => nx, rfl, h3.symm, fun i r h => by simp at h, fun i o h => by simp at h⟩
  | [], _ :: _, _, _, _, _, _, _, _, h => h.elim
  | _ :: _, [], _, _, _, _, _, _, _, h => h.elim
  | o :: os, r :: L, k, env, H, nx, env', H', nx', ⟨h1, h2, h3, h4⟩ => by
    obtain ⟨q1, q2, q3, N, n0, nl, ns, hat⟩ := zif os L (k + 1) _ _ _ _ _ _ h4
    refine ⟨by simp [q1], by rw [q2]; rfl, by rw [q3]; rfl, fun i => if i = 0 then nx else N (i - 1), rfl, by simpa using nl, fun i x hx => ?_, fun i p hp => ?_⟩
    · cases i with
      | zero =>
        simp only [List.getElem?_cons_zero, Option.some.injEq] at hx
        subst hx
        simp [n0]
      | succ i => have := ns i x (by simpa using hx); simpa using this
    · cases i with
      | zero =>
        simp only [List.getElem?_cons_zero, Option.some.injEq] at hp
        subst hp
        have hf : ∀ x, k ≤ x → decide (x < k + 0) = false := fun x hx => by simp; omega
        refine ⟨r, rfl, ?_, ?_, by simpa using h3⟩
        · rw [h1]; exact (eD_off (o :: os) (r :: L) k env fun x hx => hf x hx).symm
        · rw [h2]; exact (hD_off (r :: L) k H fun x hx => hf x hx).symm
      | succ i =>
        obtain ⟨x, a1, a2, a3, a4⟩ := hat i p (by simpa using hp)
        refine ⟨x, by simpa using a1, ?_, ?_, by simpa using a4⟩
        · rw [a2]; simp only [eD]
          rw [show k + (i + 1) = k + 1 + i by omega, show decide (k < k + 1 + i) = true by simp; omega]; rfl
        · rw [a3]; simp only [hD]
          rw [show k + (i + 1) = k + 1 + i by omega, show decide (k < k + 1 + i) = true by simp; omega]; rfl
where
  eD_off {ls : Nat → Bool} : ∀ (os : List Oper) (L : List Rec) (k : Nat) (env : Env), (∀ x, k ≤ x → ls x = false) → eD ls os L k env = env
    | [], L, k, env, _ => by simp [eD]
    | o :: r, [], k, env, _ => by simp [eD]
    | o :: r, x :: L, k, env, h => by
      simp only [eD, h k (Nat.le_refl _), cond_false]
      exact eD_off r L (k + 1) env fun x hx => h x (by omega)
  hD_off {ls : Nat → Bool} : ∀ (L : List Rec) (k : Nat) (H : Heap), (∀ x, k ≤ x → ls x = false) → hD ls L k H = H
    | [], k, H, _ => rfl
    | x :: L, k, H, h => by
      simp only [hD, h k (Nat.le_refl _), cond_false]
      exact hD_off L (k + 1) H fun x hx => h x (by omega)
section
variable {ops : Array Oper} {listed : Array Bool}
theorem zcq (hc : ∀ i, listed.getD i false = true → ∀ j ∈ zah ops i, listed.getD j false = true) : ∀ (f i j : Nat), zbm ops f i j = true → listed.getD j false = true → listed.getD i false = true
  | 0, i, j, h, _ => by simp [zbm] at h
  | f + 1, i, j, h, hj => by
    simp only [zbm, List.any_eq_true, Bool.or_eq_true] at h
    obtain ⟨p, hp, h⟩ := h
    have hpl := hc j hj p hp
    rcases h with h | h
    · have : p = i := Nat.eq_of_beq_eq_true h
      rw [← this]; exact hpl
    · exact zcq hc f i p h hpl
theorem zjt (hc : ∀ i, listed.getD i false = true → ∀ j ∈ zah ops i, listed.getD j false = true) {i : Nat} (hr : ∀ j ∈ zah ops i, listed.getD j false = true) (f j : Nat) (h : zbm ops f j i = true) : listed.getD j false = true := by
  cases f with
  | zero => simp [zbm] at h
  | succ f =>
    simp only [zbm, List.any_eq_true, Bool.or_eq_true] at h
    obtain ⟨p, hp, h⟩ := h
    rcases h with h | h
    · have : p = j := Nat.eq_of_beq_eq_true h
      rw [← this]; exact hr p hp
    · exact zcq hc f j p h (hr p hp)
end
end Go.Proofs.YtiinnjjmoifoeaaGreatDoor
set_option maxRecDepth 8000
namespace Go.Proofs.YtiinnjjmoifoeaaGreatDoor
open Go Go.RowKit
def lsOf (listed : Array Bool) : Nat → Bool := fun i => listed.getD i false
def AD (B : Nat → Prop) (L : List Rec) (ls : Nat → Bool) : Nat → Prop := fun g => B g ∨ ∃ i r, ls i = true ∧ L[i]? = some r ∧ g ∈ r.fr
section
variable {P : Program} {ops : Array Oper} {L : List Rec} {env0 : Env} {H0 : Heap} {nx0 N : Nat} {B : Nat → Prop}
structure DInv (ops : Array Oper) (L : List Rec) (env0 : Env) (H0 : Heap) (B : Nat → Prop) (N : Nat) (ρ0 : Nat → Loc) (w0 : World) (listed : Array Bool) (a : Act) (w : World) : Prop where
  sz : listed.size = ops.size
  closed : ∀ i, listed.getD i false = true → ∀ j ∈ zah ops i, listed.getD j false = true
  tsz : a.tmps.size = N
  defers : a.defers = []
  st : ∃ ρ, Sim (AD B L (lsOf listed)) ρ (hD (lsOf listed) L 0 H0) w ∧ Fr B ρ0 H0 w0 (AD B L (lsOf listed)) ρ (hD (lsOf listed) L 0 H0) w ∧
    ∀ t, VRel (Kof ρ (hD (lsOf listed) L 0 H0) w) ρ (AD B L (lsOf listed)) (eD (lsOf listed) ops.toList L 0 env0 t) (a.tmps.getD t undef)
theorem zwc {listed : Array Bool} {i : Nat} (hi : i < listed.size) : lsOf (listed.setIfInBounds i true) = fun x => bif Nat.beq x (0 + i) then true else lsOf listed x := by
  funext x
  simp only [lsOf, Nat.zero_add]
  rw [zcb hi]
  by_cases h : x = i
  · subst h; simp
  · have : Nat.beq x i = false := by rw [← Bool.not_eq_true, Nat.beq_eq]; exact h
    rw [if_neg h, this]; rfl
theorem zpu {listed : Array Bool} {i : Nat} (hi : i < listed.size) {r : Rec} (hr : L[i]? = some r) (hl : listed.getD i false = false) : AD B L (lsOf (listed.setIfInBounds i true)) = fun x => AD B L (lsOf listed) x ∨ x ∈ r.fr := by
  funext g
  simp only [AD, lsOf, eq_iff_iff]
  constructor
  · rintro (h | ⟨j, x, h1, h2, h3⟩)
    · exact .inl (.inl h)
    · rw [zcb hi] at h1
      by_cases hj : j = i
      · subst hj
        rw [hr] at h2
        obtain rfl := Option.some.inj h2
        exact .inr h3
      · rw [if_neg hj] at h1
        exact .inl (.inr ⟨j, x, h1, h2, h3⟩)
  · rintro ((h | ⟨j, x, h1, h2, h3⟩) | h)
    · exact .inl h
    · refine .inr ⟨j, x, ?_, h2, h3⟩
      rw [zcb hi]; split
      · rfl
      · exact h1
    · refine .inr ⟨i, r, ?_, hr, h⟩
      rw [zcb hi, if_pos rfl]
theorem zsk {i j : Nat} {a b : Oper} (hij : i < j) (ha : ops[i]? = some a) (hb : ops[j]? = some b) (hn : (noW a && noW b) = false) (hbf : befB (ancL ops ops.size) i j = false) : (i, j) ∈ zhe ops := by
  unfold zhe zqv
  rw [List.mem_flatMap]
  refine ⟨j, List.mem_range.2 (Array.getElem?_eq_some_iff.1 hb).1, ?_⟩
  rw [List.mem_filterMap]
  refine ⟨i, List.mem_range.2 hij, ?_⟩
  simp [ha, hb, hn, hbf]
theorem zkj (hok : zjn ops N = true) {Q : Exit → Act → World → Prop} {ρ0 : Nat → Loc} {w0 : World} {env' : Env} {H' : Heap} {nx' : Nat}
    (hch : zdt P ops.toList ops.toList L env0 H0 nx0 env' H' nx') (hco : zfb L (zhe ops))
    (hBf : ∀ g, nx0 ≤ g → g < nx' → ¬ B g) (hBb : ∃ M, ∀ g, B g → g < M)
    (hend : ∀ (a : Act) (w : World) (ρ : Nat → Loc), Sim (fun g => B g ∨ nx0 ≤ g ∧ g < nx') ρ H' w → (∀ t, VRel (Kof ρ H' w) ρ (fun g => B g ∨ nx0 ≤ g ∧ g < nx') (env' t) (a.tmps.getD t undef)) → a.tmps.size = N → a.defers = [] → Fr B ρ0 H0 w0 (fun g => B g ∨ nx0 ≤ g ∧ g < nx') ρ H' w → Q .normal a w) :
    ∀ (fuel : Nat) (listed : Array Bool) (a : Act) (w : World), DInv ops L env0 H0 B N ρ0 w0 listed a w → ((List.range ops.size).filter fun i => !listed.getD i false).length ≤ fuel → wpAny P .any ops Q fuel listed a w := by
  obtain ⟨hlen, henv', hH', Nf, hN0, hNl, hNs, hat⟩ := zif _ _ 0 _ _ _ _ _ _ hch
  have hlen' : L.length = ops.size := by simpa using hlen
  have hops : ∀ {i : Nat} {o : Oper}, ops[i]? = some o → ops.toList[i]? = some o := fun h => by simpa using h
  have hNmono : ∀ i j, i ≤ j → j ≤ L.length → Nf i ≤ Nf j := by
    intro i j hij hj
    induction j with
    | zero => have : i = 0 := by omega
              rw [this]; exact Nat.le_refl _
    | succ j ih =>
      by_cases h : i = j + 1
      · rw [h]; exact Nat.le_refl _
      · have := ih (by omega) (by omega)
        have h2 := hNs j _ (List.getElem?_eq_getElem (by omega))
        omega
  have hfr : ∀ {i : Nat} {r : Rec}, L[i]? = some r → ∀ g ∈ r.fr, Nf i ≤ g ∧ g < Nf (i + 1) := by
    intro i r hr g hg
    have hi := (List.getElem?_eq_some_iff.1 hr).1
    have ho : ops[i]? = some ops[i] := Array.getElem?_eq_getElem (by omega)
    obtain ⟨r', q1, _, _, q4⟩ := hat i _ (hops ho)
    rw [hr] at q1
    obtain rfl := Option.some.inj q1
    have hs := hNs i r hr
    have := FrOk.at q4.1 g hg
    omega
  have hAN : ∀ ls g, AD B L ls g → B g ∨ nx0 ≤ g ∧ g < nx' := by
    rintro ls g (h | ⟨i, r, h1, h2, h3⟩)
    · exact .inl h
    · obtain ⟨e1, e2⟩ := hfr h2 g h3
      have hi := (List.getElem?_eq_some_iff.1 h2).1
      have := hNmono (i + 1) L.length (by omega) (by omega)
      have h0 := hNmono 0 i (by omega) (by omega)
      rw [hN0] at h0
      rw [← hNl, ← hlen]; right; omega
  have hADb : ∀ ls, Bdd (AD B L ls) := by
    intro ls
    obtain ⟨M, hM⟩ := hBb
    refine ⟨max M nx', fun g hg => ?_⟩
    rcases hAN ls g hg with h | h
    · have := hM g h; omega
    · omega
  have pair : ∀ {i j : Nat} {r x : Rec}, i < j → L[i]? = some r → L[j]? = some x → befB (ancL ops ops.size) i j = false → (∀ g ∈ domD r.D, g ∉ x.rd ∧ g ∉ domD x.D) ∧ ((∀ g ∈ domD x.D, g ∉ r.rd) ∨ ∃ g q, r.pt = some (.ptr g q) ∧ zhf g q r.v x.D) := by
    intro i j r x hij hr hx hb
    have hi := (List.getElem?_eq_some_iff.1 hr).1
    have hj := (List.getElem?_eq_some_iff.1 hx).1
    have hoi : ops[i]? = some ops[i] := Array.getElem?_eq_getElem (by omega)
    have hoj : ops[j]? = some ops[j] := Array.getElem?_eq_getElem (by omega)
    cases hn : (noW ops[i] && noW ops[j]) with
    | true =>
      simp only [Bool.and_eq_true] at hn
      obtain ⟨r', q1, _, _, q4⟩ := hat i _ (hops hoi)
      rw [hr] at q1
      obtain rfl := Option.some.inj q1
      obtain ⟨x', p1, _, _, p4⟩ := hat j _ (hops hoj)
      rw [hx] at p1
      obtain rfl := Option.some.inj p1
      rw [(q4.2.1 hn.1).2, (p4.2.1 hn.2).2]
      exact ⟨(fun g hg => by cases hg), .inl (fun g hg => by cases hg)⟩
    | false =>
      have := (zek L _).1 hco _ (zsk hij hoi hoj hn hb)
      simp only [zee, hr, hx] at this
      obtain ⟨h1, h2⟩ := this
      rw [zcd] at h1
      refine ⟨fun g hg => by have := h1 g hg; simpa using this, ?_⟩
      unfold zjf at h2
      split at h2
      · rename_i g q _ hpt
        exact .inr ⟨g, q, hpt, h2⟩
      · rw [zcd] at h2; exact .inl h2
  have uniq : ∀ {i : Nat} {o : Oper} {t : Nat}, ops[i]? = some o → o.dst = some t → ∀ k' o', ops.toList[k']? = some o' → o'.dst = some t → k' = i := by
    intro i o t ho hd k' o' hk hd'
    have h1 := ((zbo hok ho).2.1 t hd).1
    have h2 := ((zbo hok (o := o') (i := k') (by simpa using hk)).2.1 t hd').1
    rw [h1] at h2
    exact (Option.some.inj h2).symm
  have fin : ∀ (listed : Array Bool) (a : Act) (w : World), DInv ops L env0 H0 B N ρ0 w0 listed a w → Region.ready .any ops listed = [] → Q .normal a w := by
    intro listed a w inv hr
    have all : ∀ n i, i < n → i < ops.size → listed.getD i false = true := by
      intro n
      induction n with
      | zero => intro i hi; omega
      | succ n ih =>
        intro i hi hs
        by_cases hl : listed.getD i false = true
        · exact hl
        · exfalso
          have ho : ops[i]? = some ops[i] := Array.getElem?_eq_getElem hs
          have : i ∈ Region.ready .any ops listed := (zji inv.sz).2 ⟨ops[i], ho, by simpa using hl, fun j hj => ih j (by have := (zbo hok ho).1 j hj; omega) (by have := (zbo hok ho).1 j hj; omega)⟩
          rw [hr] at this
          cases this
    have all' : ∀ i, i < ops.size → lsOf listed i = true := fun i hi => all (i + 1) i (by omega) hi
    obtain ⟨ρ, s, f, hv⟩ := inv.st
    have eH : hD (lsOf listed) L 0 H0 = H' := by
      rw [hH']
      funext g
      exact zfr L 0 _ _ rfl fun j r hj _ => by
        have := (List.getElem?_eq_some_iff.1 hj).1
        rw [Nat.zero_add]; exact all' j (by omega)
    have eE : ∀ t, eD (lsOf listed) ops.toList L 0 env0 t = env' t := by
      intro t
      rw [henv']
      by_cases hw : ∃ (i : Nat) (o : Oper), ops[i]? = some o ∧ o.dst = some t
      · obtain ⟨i, o, ho, hd⟩ := hw
        have hi := (Array.getElem?_eq_some_iff.1 ho).1
        have hx : L[i]? = some (L[i]'(by omega)) := List.getElem?_eq_getElem (by omega)
        rw [zeh _ _ 0 i o _ env0 (hops ho) hx hd (uniq ho hd), zeh _ _ 0 i o _ env0 (hops ho) hx hd (uniq ho hd), Nat.zero_add, all' i hi]
      · have hno : ∀ o ∈ ops.toList, o.dst ≠ some t := fun o ho e => hw (by
          obtain ⟨i, hi⟩ := List.getElem?_of_mem ho
          exact ⟨i, o, by simpa using hi, e⟩)
        rw [zdd _ _ _ _ hno, zdd _ _ _ _ hno]
    have hsub : ∀ g, AD B L (lsOf listed) g → ρ g = ρ g ∧ (B g ∨ nx0 ≤ g ∧ g < nx') := fun g hg => ⟨rfl, hAN _ g hg⟩
    rw [eH] at s f hv
    have s' : Sim (fun g => B g ∨ nx0 ≤ g ∧ g < nx') ρ H' w := ⟨fun g o hg => hAN _ g (s.live g o hg), fun g o hg => (s.obj g o hg).mono rfl (fun _ _ h => h) hsub, s.inj, s.lay⟩
    refine hend a w ρ s' (fun t => ?_) inv.tsz inv.defers ⟨fun g hg => ⟨(f.agree g hg).1, hAN _ g (f.agree g hg).2⟩, f.k, f.os, f.tape, f.output, f.size⟩
    have := hv t
    rw [eE] at this
    exact this.mono (fun _ _ h => h) hsub
  intro fuel
  induction fuel with
  | zero =>
    intro listed a w inv hle
    have hr : Region.ready .any ops listed = [] := by
      cases hr : Region.ready .any ops listed with
      | nil => rfl
      | cons i r =>
        exfalso
        have hi : i ∈ Region.ready .any ops listed := by rw [hr]; simp
        obtain ⟨o, ho, hl, _⟩ := (zji inv.sz).1 hi
        have : i ∈ (List.range ops.size).filter fun i => !listed.getD i false := by
          rw [List.mem_filter]; exact ⟨List.mem_range.2 (Array.getElem?_eq_some_iff.1 ho).1, by rw [hl]; rfl⟩
        have := List.length_pos_of_mem this
        omega
    exact ⟨hr, fin listed a w inv hr⟩
  | succ fuel ih =>
    intro listed a w inv hle
    refine ⟨fun hr => fin listed a w inv hr, fun i hi => ?_⟩
    obtain ⟨o, ho, hl, hp⟩ := (zji inv.sz).1 hi
    have his : i < ops.size := (Array.getElem?_eq_some_iff.1 ho).1
    have hil : i < listed.size := by rw [inv.sz]; exact his
    obtain ⟨r, hr, henv, hH, hfact⟩ := hat i o (hops ho)
    simp only [Nat.zero_add] at henv hH
    obtain ⟨hp1, hp2, hp3, hp4⟩ := zbo hok ho
    obtain ⟨ρ, s, f, hv⟩ := inv.st
    have hlast : ∀ j x, i < j → L[j]? = some x → lsOf listed (0 + j) = true → ∀ g ∈ domD r.D, g ∉ domD x.D := by
      intro j x hij hx hlx g hg
      rw [Nat.zero_add] at hlx
      cases hb : befB (ancL ops ops.size) i j with
      | true =>
        have := zcq inv.closed _ i j (zcr hb).choose_spec hlx
        rw [hl] at this; cases this
      | false => exact ((pair hij hr hx hb).1 g hg).2
    have hHadd : hD (lsOf (listed.setIfInBounds i true)) L 0 H0 = (hD (lsOf listed) L 0 H0).apply r.D := by
      rw [zwc hil]
      exact zfs L 0 i r H0 hr (by rw [Nat.zero_add]; exact hl) hlast
    have hrdeq : (¬ ∃ g q, r.pt = some (.ptr g q)) → ∀ g ∈ r.rd, hD (lsOf listed) L 0 H0 g = r.H g := by
      intro hnp g hg
      rw [hH]
      refine zfr L 0 _ _ rfl fun j x hj hgx => ?_
      rw [Nat.zero_add]
      rcases Nat.lt_trichotomy j i with h | h | h
      · have hd : decide (j < i) = true := by simpa using h
        rw [hd]
        cases hb : befB (ancL ops ops.size) j i with
        | true => exact zjt inv.closed hp _ j (zcr hb).choose_spec
        | false => exact absurd hg ((pair h hj hr hb).1 g hgx).1
      · subst h
        have hd : decide (j < j) = false := by simp
        rw [hd]; exact hl
      · have hd : decide (j < i) = false := by simp; omega
        rw [hd]
        cases hb : befB (ancL ops ops.size) i j with
        | true =>
          cases hx : lsOf listed j with
          | false => rfl
          | true =>
            have := zcq inv.closed _ i j (zcr hb).choose_spec hx
            rw [hl] at this; cases this
        | false => exact absurd hg (((pair h hr hj hb).2.resolve_right fun ⟨g, q, e, _⟩ => hnp ⟨g, q, e⟩) g hgx)
    have hcell : ∀ g q, r.pt = some (.ptr g q) → r.rd = [g] → zbk (r.H g) q r.v → zbk (hD (lsOf listed) L 0 H0 g) q r.v := by
      intro g q hpt hrd hc
      rw [hH] at hc
      have := zqs (ls := lsOf listed) (ls' := fun x => decide (x < i)) (g := g) (φ := fun o => zbk o q r.v) L 0 H0 H0 (.inl rfl) fun j x hj hgx => ?_
      · rcases this with e | e
        · rw [e]; exact hc
        · exact e
      · rw [Nat.zero_add]
        rcases Nat.lt_trichotomy j i with h | h | h
        · have hd : decide (j < i) = true := by simpa using h
          rw [hd]
          cases hb : befB (ancL ops ops.size) j i with
          | true => exact .inl (zjt inv.closed hp _ j (zcr hb).choose_spec)
          | false => exact absurd (by rw [hrd]; simp) ((pair h hj hr hb).1 g hgx).1
        · subst h
          have hd : decide (j < j) = false := by simp
          rw [hd]; exact .inl hl
        · have hd : decide (j < i) = false := by simp; omega
          rw [hd]
          cases hb : befB (ancL ops ops.size) i j with
          | true =>
            cases hx : lsOf listed j with
            | false => exact .inl rfl
            | true =>
              have := zcq inv.closed _ i j (zcr hb).choose_spec hx
              rw [hl] at this; cases this
          | false =>
            rcases (pair h hr hj hb).2 with h1 | ⟨g', q', h1, h2⟩
            · exact absurd (by rw [hrd]; simp) (h1 g hgx)
            · rw [hpt] at h1
              cases h1
              exact .inr ⟨rfl, zjs h2 hgx⟩
    have hslot : ∀ t ∈ o.looksAt ops, eD (lsOf listed) ops.toList L 0 env0 t = r.env t := by
      intro t ht
      rw [henv]
      by_cases hw : ∃ (j : Nat) (o' : Oper), ops[j]? = some o' ∧ o'.dst = some t
      · obtain ⟨j, o', ho', hd⟩ := hw
        have hj := (Array.getElem?_eq_some_iff.1 ho').1
        have hx : L[j]? = some (L[j]'(by omega)) := List.getElem?_eq_getElem (by omega)
        rw [zeh _ _ 0 j o' _ env0 (hops ho') hx hd (uniq ho' hd), zeh _ _ 0 j o' _ env0 (hops ho') hx hd (uniq ho' hd), Nat.zero_add]
        have hwr := ((zbo hok ho').2.1 t hd).1
        rcases hp4 t ht j hwr with h | h
        · have h1 := hp j h
          have h2 := hp1 j h
          have hd' : decide (j < i) = true := by simpa using h2
          rw [hd']; rw [show lsOf listed j = true from h1]
        · have h2 := (zbo hok ho').1 i h
          have hd' : decide (j < i) = false := by simp; omega
          rw [hd']
          cases hxl : lsOf listed j with
          | false => rfl
          | true =>
            have := inv.closed j hxl i h
            rw [hl] at this; cases this
      · have hno : ∀ o ∈ ops.toList, o.dst ≠ some t := fun o ho e => hw (by
          obtain ⟨i, hi⟩ := List.getElem?_of_mem ho
          exact ⟨i, o, by simpa using hi, e⟩)
        rw [zdd _ _ _ _ hno, zdd _ _ _ _ hno]
    have hfresh : ∀ g ∈ r.fr, ¬ AD B L (lsOf listed) g := by
      intro g hg hA
      obtain ⟨e1, e2⟩ := hfr hr g hg
      have hi := (List.getElem?_eq_some_iff.1 hr).1
      rcases hA with h | ⟨j, x, h1, h2, h3⟩
      · have h0 := hNmono 0 i (by omega) (by omega)
        have h4 := hNmono (i + 1) L.length (by omega) (by omega)
        rw [hN0] at h0
        rw [hlen, hNl] at h4
        exact hBf g (by omega) (by omega) h
      · obtain ⟨d1, d2⟩ := hfr h2 g h3
        have hji : j ≠ i := by intro e; subst e; rw [show lsOf listed j = listed.getD j false from rfl, hl] at h1; cases h1
        have hjl := (List.getElem?_eq_some_iff.1 h2).1
        rcases Nat.lt_or_ge j i with h | h
        · have := hNmono (j + 1) i (by omega) (by omega); omega
        · have := hNmono (i + 1) j (by omega) (by omega); omega
    have step : ∀ (ρ' : Nat → Loc) (cv : Value) (w' : World), Sim (fun x => AD B L (lsOf listed) x ∨ x ∈ r.fr) ρ' ((hD (lsOf listed) L 0 H0).apply r.D) w' →
        VRel (Kof ρ' ((hD (lsOf listed) L 0 H0).apply r.D) w') ρ' (fun x => AD B L (lsOf listed) x ∨ x ∈ r.fr) r.v cv →
        Fr (AD B L (lsOf listed)) ρ (hD (lsOf listed) L 0 H0) w (fun x => AD B L (lsOf listed) x ∨ x ∈ r.fr) ρ' ((hD (lsOf listed) L 0 H0).apply r.D) w' →
        wpAny P .any ops Q fuel (listed.setIfInBounds i true) (a.put o.dst cv) w' := by
      intro ρ' cv w' q1 q2 q3
      refine ih _ _ _ ⟨by simp [inv.sz], fun j hj k hk => ?_, ?_, ?_, ρ', ?_, ?_, fun t => ?_⟩ ?_
      · rw [zcb hil] at hj ⊢
        by_cases hji : j = i
        · subst hji; have := hp k hk; split
          · rfl
          · exact this
        · rw [if_neg hji] at hj
          have := inv.closed j hj k hk
          split
          · rfl
          · exact this
      · cases o.dst <;> simp [Act.put, inv.tsz]
      · cases o.dst <;> simp [Act.put, inv.defers]
      · rw [zpu hil hr hl, hHadd]; exact q1
      · rw [zpu hil hr hl, hHadd]; exact f.trans q3
      · rw [zpu hil hr hl, hHadd]
        rw [zge a o.dst t cv (fun t ht => by rw [inv.tsz]; exact (hp2 t ht).2)]
        by_cases hd : o.dst = some t
        · rw [if_pos hd, zeh _ _ 0 i o r env0 (hops ho) hr hd (uniq ho hd), Nat.zero_add]
          have : lsOf (listed.setIfInBounds i true) i = true := by simp only [lsOf]; rw [zcb hil, if_pos rfl]
          rw [this]; exact q2
        · rw [if_neg hd]
          have e : eD (lsOf (listed.setIfInBounds i true)) ops.toList L 0 env0 t = eD (lsOf listed) ops.toList L 0 env0 t := by
            by_cases hw : ∃ (j : Nat) (o' : Oper), ops[j]? = some o' ∧ o'.dst = some t
            · obtain ⟨j, o', ho', hd'⟩ := hw
              have hj := (Array.getElem?_eq_some_iff.1 ho').1
              have hx : L[j]? = some (L[j]'(by omega)) := List.getElem?_eq_getElem (by omega)
              rw [zeh _ _ 0 j o' _ env0 (hops ho') hx hd' (uniq ho' hd'), zeh _ _ 0 j o' _ env0 (hops ho') hx hd' (uniq ho' hd'), Nat.zero_add]
              have hji : j ≠ i := by intro e; subst e; rw [ho] at ho'; obtain rfl := Option.some.inj ho'; exact hd hd'
              have : lsOf (listed.setIfInBounds i true) j = lsOf listed j := by simp only [lsOf]; rw [zcb hil, if_neg hji]
              rw [this]
            · have hno : ∀ o ∈ ops.toList, o.dst ≠ some t := fun o ho e => hw (by
                obtain ⟨i, hi⟩ := List.getElem?_of_mem ho
                exact ⟨i, o, by simpa using hi, e⟩)
              rw [zdd _ _ _ _ hno, zdd _ _ _ _ hno]
          rw [e]
          exact (hv t).mono q3.k q3.agree
      · have hfil : ((List.range ops.size).filter fun k => !(listed.setIfInBounds i true).getD k false).length < ((List.range ops.size).filter fun k => !listed.getD k false).length := by
          have e : ((List.range ops.size).filter fun k => !(listed.setIfInBounds i true).getD k false) = (((List.range ops.size).filter fun k => !listed.getD k false).filter fun k => decide (k ≠ i)) := by
            rw [List.filter_filter]
            refine List.filter_congr fun k _ => ?_
            rw [zcb hil]
            by_cases hk : k = i
            · subst hk; simp
            · rw [if_neg hk]; simp [hk]
          rw [e]
          refine List.length_filter_lt_length_iff_exists.2 ⟨i, ?_, by simp⟩
          rw [List.mem_filter]
          exact ⟨List.mem_range.2 his, by rw [hl]; rfl⟩
        omega
    simp only [wpOp, ho]
    obtain ⟨hf1, hf2, hf3⟩ := hfact
    have hguard : ∀ (j : Nat) (want : Bool) (t : Nat), o.guard = some (j, want) → gdst ops.toList j = some t → VRel (Kof ρ (hD (lsOf listed) L 0 H0) w) ρ (AD B L (lsOf listed)) (r.env t) (a.tmps.getD t undef) ∧
        Region.wanted o (yielded ops a.tmps) = (match a.tmps.getD t undef with | .bool b => b == want | _ => false) := by
      intro j want t hg ht
      have e : (ops[j]?).bind (·.dst) = some t := by unfold gdst at ht; simpa using ht
      have hmem : t ∈ o.looksAt ops := by
        unfold Oper.looksAt
        rw [hg]
        simp [e]
      refine ⟨by rw [← hslot t hmem]; exact hv t, ?_⟩
      have hy := zhi ht a
      have htN : t < N := by
        obtain ⟨o', ho', hd⟩ := Option.bind_eq_some_iff.1 e
        exact ((zbo hok ho').2.1 t hd).2
      have hget : a.tmps[t]? = some (a.tmps.getD t undef) := by simp [Array.getD, inv.tsz, htN]
      rw [hget] at hy
      have hwant : Region.wanted o (yielded ops a.tmps) = (yielded ops a.tmps j == some want) := by simp [Region.wanted, hg]
      rw [hwant, hy]
      cases a.tmps.getD t undef <;> rfl
    cases hsk : r.skip with
    | true =>
      rw [hsk, if_pos rfl] at hf3
      obtain ⟨_, h1, h2, h3, h4, j, want, t, hg, ht, hor⟩ := hf3
      obtain ⟨g1, g2⟩ := hguard j want t hg ht
      have hw : Region.wanted o (yielded ops a.tmps) = false := by
        rw [g2]
        rcases hor with h | h <;> rw [h] at g1 <;> generalize a.tmps.getD t undef = tv at g1 <;> cases g1
        · rfl
        · simp
      rw [hw]
      simp only [Bool.false_eq_true, if_false]
      refine step ρ undef w ?_ ?_ ?_
      · rw [h3, h4, zav]; exact s
      · rw [h1]; exact .und
      · rw [h3, h4, zav]; exact Fr.refl _ _ _ _
    | false =>
      rw [hsk, if_neg (by simp)] at hf3
      obtain ⟨heff, hsoft, hg⟩ := hf3
      have hw : Region.wanted o (yielded ops a.tmps) = true := by
        rcases hg with hg | ⟨j, want, t, hg, ht, hb⟩
        · simp [Region.wanted, hg]
        · obtain ⟨g1, g2⟩ := hguard j want t hg ht
          rw [g2]
          rw [hb] at g1
          generalize a.tmps.getD t undef = tv at g1
          cases g1
          simp
      rw [hw]
      simp only [if_true]
      have hops' : ∀ x ∈ o.op.operands.toList, VRel (Kof ρ (hD (lsOf listed) L 0 H0) w) ρ (AD B L (lsOf listed)) (r.env.ev x) (a.eval x) := by
        intro x hx
        cases x with
        | tmp t =>
          have hmem : t ∈ o.looksAt ops := by
            unfold Oper.looksAt
            rw [List.mem_append]
            left
            rw [List.mem_filterMap]
            exact ⟨.tmp t, hx, rfl⟩
          show VRel _ _ _ (r.env t) _
          rw [← hslot t hmem]
          exact hv t
        | const v => exact zhr _ _ _ v
        | global g => exact .junk _
        | func f => exact .clo f [] #[] rfl fun j v c hv => by simp at hv
      by_cases hnp : ∃ g q, r.pt = some (.ptr g q)
      · obtain ⟨g, q, hpt⟩ := hnp
        obtain ⟨e1, e2, e3, hc, hany⟩ := hsoft g q hpt
        have := hany _ (hcell g q hpt e1 hc) _ ρ _ w a.eval (hADb _) s hops' (fun _ _ => rfl) (by simp)
        rw [← e2, ← e3] at this
        exact .inl (zex this fun cv w' ⟨ρ', q1, q2, q3⟩ => step ρ' cv w' q1 q2 q3)
      · exact .inl (zex (heff _ ρ _ w a.eval (hADb _) s hops' (hrdeq hnp) hfresh) fun cv w' ⟨ρ', q1, q2, q3⟩ => step ρ' cv w' q1 q2 q3)
end
end Go.Proofs.YtiinnjjmoifoeaaGreatDoor
