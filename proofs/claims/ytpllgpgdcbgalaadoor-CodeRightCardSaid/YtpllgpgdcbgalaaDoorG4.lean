/- A region whose order is drawn: one walk in the text's order is enough, if what is not ordered does not touch the same. A region whose order is drawn, on: whatever order is drawn comes to what the walk says. The code, by abstract operations: what is to be shown of it, and that this is enough. A function's contract, from its code. What a call made may be forgotten, or is never written again: then it is read by value. A law's arguments, read as abstract values; and a law's call, out of an abstract one. A text that a law is handed, read as data. The plain law of wire: numbers as bytes, and back; no program in sight. -/
import Derived.Test.YtpllgpgdcbgalaaDoorG3
import Derived.Deep.Slices
import Derived.SizedLaws
import Derived.ChangeSame
set_option linter.unusedSimpArgs false
set_option linter.unusedVariables false
namespace Go.Proofs.YtpllgpgdcbgalaaDoor
open Go Go.RowKit
structure Rec where
  v : AV
  rd : List Nat
  fr : List Nat
  D : zw
  skip : Bool
  env : Env
  H : Heap
  pt : Option AV
  cl : Bool
def ptOf (T : Nat → Option AT) (e : Operand → AV) (o : Oper) : Option AV := match o.op with
  | .load t p => match T t with
    | some a => match a.kind.isAgg with
      | false => some (e p)
      | true => none
    | none => none
  | _ => none
def isCl (o : Oper) : Bool := match o.op with
  | .call c => match c.callee with
    | .value _ => true
    | _ => false
  | _ => false
def zep (o : Option AObj) (q : Nat) (v : AV) : Prop := ∃ s cs, o = some (.row s cs) ∧ cs[q]? = some v
def Bdd (A : Nat → Prop) : Prop := ∃ N, ∀ g, A g → g < N
def LC (P : Program) (f : FuncId) (args : List AV) (H0 : Heap) (rd fr : List Nat) (D : zw) (v : AV) : Prop :=
  ∀ (A : Nat → Prop) (ρ : Nat → Loc) (H : Heap) (w : World) (cargs : Array Value), Bdd A → Sim A ρ H w → LRel (Kof ρ H w) ρ A args cargs.toList → (∀ g ∈ rd, H g = H0 g) → (∀ g ∈ fr, ¬ A g) →
    zac P (zkc A ρ H w v fr D) ((callFunc f cargs).run P w)
def zae (P : Program) (f : AV) (args : List AV) (H : Heap) (nx : Nat) (k : Kt) : Prop := match f with
  | .clo f cap => ∃ v rd fr D, (fr = [] ∨ fr = [nx]) ∧ LC P f (args ++ cap) H rd fr D v ∧ k v rd fr D
  | _ => False
def EffB (P : Program) (o : Oper) (e : Operand → AV) (H0 : Heap) (rd fr : List Nat) (D : zw) (v : AV) : Prop :=
  ∀ (A : Nat → Prop) (ρ : Nat → Loc) (H : Heap) (w : World) (ev : Operand → Value), Bdd A → Sim A ρ H w → (∀ x ∈ o.op.operands.toList, VRel (Kof ρ H w) ρ A (e x) (ev x)) →
    (∀ g ∈ rd, H g = H0 g) → (∀ g ∈ fr, ¬ A g) → zac P (zkc A ρ H w v fr D) ((execOp ev o).run P w)
section
variable (P : Program) (T : Nat → Option AT) (eqs : Nat → Bool)
def zlu (o : Oper) (env : Env) (H : Heap) (nx : Nat) (k : Kt) : Prop :=
  match o.op with
  | .call c => match c.callee with
    | .value f => zae P (env.ev f) (c.args.toList.map env.ev) H nx k
    | _ => dsop T eqs env.ev H nx o k
  | _ => dsop T eqs env.ev H nx o k
def dops (all : List Oper) : List Oper → zbs → Env → Heap → Nat → List Rec → (Env → Heap → Nat → List Rec → Prop) → Prop
  | [], _, env, H, nx, log, K => K env H nx log
  | o :: r, kn, env, H, nx, log, K => match o.guard with
    | none => zlu P T eqs o env H nx fun v rd fr D => dops all r (zds o.dst kn) (env.putO o.dst v) (H.apply D) (nx + fr.length) (log ++ [⟨v, rd, fr, D, false, env, H, ptOf T env.ev o, isCl o⟩]) K
    | some (j, want) => match gdst all j with
      | none => False
      | some t => match zpc t kn with
        | some none => dops all r (zeu o.dst kn) (env.putO o.dst .und) H nx (log ++ [⟨.und, [], [], [], true, env, H, none, false⟩]) K
        | some (some b) => bif b == want then zlu P T eqs o env H nx fun v rd fr D => dops all r (zds o.dst kn) (env.putO o.dst v) (H.apply D) (nx + fr.length) (log ++ [⟨v, rd, fr, D, false, env, H, ptOf T env.ev o, isCl o⟩]) K
          else dops all r (zeu o.dst kn) (env.putO o.dst .und) H nx (log ++ [⟨.und, [], [], [], true, env, H, none, false⟩]) K
        | none => CND (env t)
          (bif want then zlu P T eqs o (env.put t (.bool true)) H nx fun v rd fr D => dops all r (zds o.dst ((t, some true) :: kn)) ((env.put t (.bool true)).putO o.dst v) (H.apply D) (nx + fr.length) (log ++ [⟨v, rd, fr, D, false, env.put t (.bool true), H, ptOf T (env.put t (.bool true)).ev o, isCl o⟩]) K
            else dops all r (zeu o.dst ((t, some true) :: kn)) ((env.put t (.bool true)).putO o.dst .und) H nx (log ++ [⟨.und, [], [], [], true, env.put t (.bool true), H, none, false⟩]) K)
          (bif want then dops all r (zeu o.dst ((t, some false) :: kn)) ((env.put t (.bool false)).putO o.dst .und) H nx (log ++ [⟨.und, [], [], [], true, env.put t (.bool false), H, none, false⟩]) K
            else zlu P T eqs o (env.put t (.bool false)) H nx fun v rd fr D => dops all r (zds o.dst ((t, some false) :: kn)) ((env.put t (.bool false)).putO o.dst v) (H.apply D) (nx + fr.length) (log ++ [⟨v, rd, fr, D, false, env.put t (.bool false), H, ptOf T (env.put t (.bool false)).ev o, isCl o⟩]) K)
end
def zcg (ops : Array Oper) : Nat → Nat → Nat → Bool
  | 0, _, _ => false
  | f + 1, i, j => (zau ops j).any fun p => Nat.beq p i || zcg ops f i p
def ancM (l : List Nat) : List Nat → Nat → Nat
  | [], m => m
  | p :: r, m => ancM l r (Nat.lor (Nat.lor m (Nat.shiftLeft 1 p)) (l.getD p 0))
def ancL (ops : Array Oper) : Nat → List Nat
  | 0 => []
  | n + 1 => ancL ops n ++ [ancM (ancL ops n) (zau ops n) 0]
def befB (l : List Nat) (i j : Nat) : Bool := Nat.beq (Nat.land (Nat.shiftRight (l.getD j 0) i) 1) 1
theorem zse {l : List Nat} {i : Nat} : ∀ (ps : List Nat) (m : Nat), (ancM l ps m).testBit i = true → m.testBit i = true ∨ ∃ p ∈ ps, p = i ∨ (l.getD p 0).testBit i = true
  | [], m, h => .inl h
  | p :: r, m, h => by
    rcases zse r _ h with h | ⟨q, hq, h⟩
    · have e : Nat.lor (Nat.lor m (Nat.shiftLeft 1 p)) (l.getD p 0) = (m ||| 1 <<< p) ||| l.getD p 0 := rfl
      rw [e, Nat.testBit_or, Nat.testBit_or, Bool.or_eq_true, Bool.or_eq_true] at h
      rcases h with (h | h) | h
      · exact .inl h
      · refine .inr ⟨p, by simp, .inl ?_⟩
        rw [Nat.one_shiftLeft, Nat.testBit_two_pow] at h
        simpa using h
      · exact .inr ⟨p, by simp, .inr h⟩
    · exact .inr ⟨q, by simp [hq], h⟩
theorem zes (ops : Array Oper) : ∀ n, (ancL ops n).length = n
  | 0 => rfl
  | n + 1 => by simp [ancL, zes ops n]
theorem zkk {ops : Array Oper} {i : Nat} : ∀ (n j : Nat), ((ancL ops n).getD j 0).testBit i = true → ∃ f, zcg ops f i j = true
  | 0, j, h => by simp [ancL] at h
  | n + 1, j, h => by
    by_cases hj : j < n
    · refine zkk n j ?_
      rw [← h]
      simp only [ancL, List.getD_eq_getElem?_getD]
      rw [List.getElem?_append_left (by rw [zes]; exact hj)]
    · by_cases hjn : j = n
      · subst hjn
        have e : (ancL ops (j + 1)).getD j 0 = ancM (ancL ops j) (zau ops j) 0 := by
          simp only [ancL, List.getD_eq_getElem?_getD]
          rw [List.getElem?_append_right (by rw [zes]; exact Nat.le_refl _), zes]
          simp
        rw [e] at h
        rcases zse _ _ h with h | ⟨p, hp, rfl | h⟩
        · simp at h
        · exact ⟨1, by simp only [zcg, List.any_eq_true]; exact ⟨p, hp, by simp⟩⟩
        · obtain ⟨f, hf⟩ := zkk j p h
          exact ⟨f + 1, by simp only [zcg, List.any_eq_true]; exact ⟨p, hp, by simp [hf]⟩⟩
      · have e : (ancL ops (n + 1)).getD j 0 = 0 := by
          rw [List.getD_eq_getElem?_getD, List.getElem?_eq_none (by rw [zes]; omega)]; rfl
        rw [e] at h
        simp at h
theorem zer {ops : Array Oper} {i j n : Nat} (h : befB (ancL ops n) i j = true) : ∃ f, zcg ops f i j = true := by
  refine zkk n j ?_
  have h1 := Nat.eq_of_beq_eq_true h
  have e : Nat.land (Nat.shiftRight ((ancL ops n).getD j 0) i) 1 = ((ancL ops n).getD j 0 >>> i) &&& 1 := rfl
  rw [e, Nat.and_comm] at h1
  simp only [Nat.testBit, h1]
  rfl
def ztn (ops : Array Oper) (l : List Nat) : List (Nat × Nat) :=
  (List.range ops.size).flatMap fun j => (List.range j).filterMap fun i =>
    match ops[i]?, ops[j]? with
    | some a, some b => if (noW a && noW b) || befB l i j then none else some (i, j)
    | _, _ => none
def zpk (ops : Array Oper) : List (Nat × Nat) := ztn ops (ancL ops ops.size)
def disj : List Nat → List Nat → Prop
  | [], _ => True
  | [g], l => g ∉ l
  | g :: r, l => g ∉ l ∧ disj r l
def domD (D : zw) : List Nat := D.map (·.1)
def zkz (g q : Nat) (v : AV) (D : zw) : Prop := ∀ p ∈ D, p.1 = g → zep p.2 q v
def zoy (a b : Rec) : Prop := match b.cl, a.pt with
  | true, some (.ptr g q) => zkz g q a.v b.D
  | _, _ => disj (domD b.D) a.rd
def zkr (L : List Rec) (p : Nat × Nat) : Prop := match L[p.1]?, L[p.2]? with
  | some a, some b => disj (domD a.D) (b.rd ++ domD b.D) ∧ zoy a b
  | _, _ => False
def zew (L : List Rec) : List (Nat × Nat) → Prop
  | [] => True
  | [p] => zkr L p
  | p :: r => zkr L p ∧ zew L r
def zf : List Nat → List Nat → Prop → Prop
  | [], _, A => A
  | g :: r, l, A => g ∉ l ∧ zf r l A
def zfq (g q : Nat) (v : AV) : zw → Prop → Prop
  | [], A => A
  | p :: r, A => (p.1 = g → zep p.2 q v) ∧ zfq g q v r A
def SOFT (p v : AV) (D : zw) (rd : List Nat) (A : Prop) : Prop := match p with
  | .ptr g q => zfq g q v D A
  | _ => zf (domD D) rd A
def ztr (a b : Rec) (A : Prop) : Prop := match b.cl with
  | true => match a.pt with
    | some p => SOFT p a.v b.D a.rd A
    | none => zf (domD b.D) a.rd A
  | false => zf (domD b.D) a.rd A
def ztz (L : List Rec) (p : Nat × Nat) (A : Prop) : Prop := match L[p.1]?, L[p.2]? with
  | some a, some b => zf (domD a.D) b.rd (zf (domD a.D) (domD b.D) (ztr a b A))
  | _, _ => False
def zlw (L : List Rec) (A : Prop) : List (Nat × Nat) → Prop
  | [] => A
  | p :: r => ztz L p (zlw L A r)
theorem zgk : ∀ (l m : List Nat), disj l m ↔ ∀ g ∈ l, g ∉ m
  | [], m => by simp [disj]
  | [g], m => by simp [disj]
  | g :: h :: r, m => by simp only [disj, zgk (h :: r) m]; simp
theorem zjz (L : List Rec) : ∀ l : List (Nat × Nat), zew L l ↔ ∀ p ∈ l, zkr L p
  | [] => by simp [zew]
  | [p] => by simp [zew]
  | p :: q :: r => by simp only [zew, zjz L (q :: r)]; simp
theorem zgt {A : Prop} : ∀ (l m : List Nat), zf l m A ↔ disj l m ∧ A
  | [], m => by simp [zf, disj]
  | g :: r, m => by
    simp only [zf, zgt r m]
    rw [zgk, zgk]
    simp [and_assoc]
theorem zqm {g q : Nat} {v : AV} {A : Prop} : ∀ D : zw, zfq g q v D A ↔ zkz g q v D ∧ A
  | [] => by simp [zfq, zkz]
  | p :: r => by
    simp only [zfq, zqm r]
    simp only [zkz, List.mem_cons, forall_eq_or_imp]
    simp [and_assoc]
theorem zvd {a b : Rec} {A : Prop} : ztr a b A ↔ zoy a b ∧ A := by
  unfold ztr zoy
  cases b.cl with
  | false => simp only [zgt]
  | true =>
    cases a.pt with
    | none => simp only [zgt]
    | some p => cases p <;> simp only [SOFT, zgt, zqm]
theorem zqk {L : List Rec} {A : Prop} : ∀ l : List (Nat × Nat), zlw L A l ↔ zew L l ∧ A
  | [] => by simp [zlw, zew]
  | p :: r => by
    have h : ztz L p (zlw L A r) ↔ zkr L p ∧ zlw L A r := by
      unfold ztz zkr
      split
      · simp only [zgt, zvd, zgk, List.mem_append, not_or]
        exact ⟨fun ⟨h1, h2, h3, h4⟩ => ⟨⟨fun g hg => ⟨h1 g hg, h2 g hg⟩, h3⟩, h4⟩, fun ⟨⟨h1, h3⟩, h4⟩ => ⟨fun g hg => (h1 g hg).1, fun g hg => (h1 g hg).2, h3, h4⟩⟩
      · simp
    simp only [zlw]
    rw [h, zqk r, zjz, zjz]
    simp [and_assoc]
section
variable {P : Program} {T : Nat → Option AT} {eqs : Nat → Bool} (hT : TOk P T) (hE : EOk P T eqs)
theorem LRel.ops {K : zg} {ρ : Nat → Loc} {A : Nat → Prop} {e : Operand → AV} {ev : Operand → Value} {xs : Array Operand} (h : ∀ x ∈ xs.toList, VRel K ρ A (e x) (ev x)) : LRel K ρ A (xs.toList.map e) (xs.map ev).toList := by
  refine ⟨by simp, fun j v u hv hu => ?_⟩
  simp only [List.getElem?_map, Option.map_eq_some_iff, Array.toList_map] at hv hu
  obtain ⟨x, hx, rfl⟩ := hv
  obtain ⟨y, hy, rfl⟩ := hu
  rw [hx] at hy
  obtain rfl := Option.some.inj hy
  exact h x (List.mem_of_getElem? hx)
def zuw (P : Program) (o : Oper) (e : Operand → AV) (H : Heap) (rd fr : List Nat) (D : zw) (v : AV) (pt : Option AV) : Prop :=
  ∀ g q, pt = some (.ptr g q) → rd = [g] ∧ fr = [] ∧ D = [] ∧ zep (H g) q v ∧ ∀ H1 : Heap, zep (H1 g) q v → EffB P o e H1 [g] [] [] v
include hT hE in
theorem zsv {o : Oper} {env : Env} {H : Heap} {nx : Nat} {k : Kt} (h : zlu P T eqs o env H nx k) :
    ∃ v rd fr D, (fr = [] ∨ fr = [nx]) ∧ EffB P o env.ev H rd fr D v ∧ (noW o = true → fr = [] ∧ D = []) ∧ zuw P o env.ev H rd fr D v (ptOf T env.ev o) ∧ k v rd fr D := by
  have plain : dsop T eqs env.ev H nx o k → ∃ v rd fr D, (fr = [] ∨ fr = [nx]) ∧ EffB P o env.ev H rd fr D v ∧ (noW o = true → fr = [] ∧ D = []) ∧ zuw P o env.ev H rd fr D v (ptOf T env.ev o) ∧ k v rd fr D := by
    intro h
    by_cases hex : ∃ g q, ptOf T env.ev o = some (.ptr g q)
    · obtain ⟨g, q, hp⟩ := hex
      have hp0 := hp
      unfold ptOf at hp
      split at hp
      · rename_i t x hop
        split at hp
        · rename_i a hta
          split at hp
          · rename_i hag
            have hp := Option.some.inj hp
            simp only [dsop, hop, hta] at h
            obtain ⟨i, d, z, hat⟩ := hT.at hta
            have any : ∀ {H1 : Heap} {s : Nat} {cs : List AV} {v : AV}, H1 g = some (.row s cs) → cs[q]? = some v → EffB P o env.ev H1 [g] [] [] v := by
              intro H1 s cs v hg hv
              obtain ⟨v', rd', he, rfl, rfl⟩ := zrx (H0 := H1) (e := env.ev) (k := fun v' rd' _ _ => v' = v ∧ rd' = [g]) hat hop (by
                simp only [hp, LOAD, rdp, hg, ldv, hag, cond_false, hv, and_self])
              exact fun A ρ H w ev _ s hx hr hf => he A ρ H w ev s hx hr hf
            unfold LDR LOAD at h
            rw [hp] at h
            cases hg : H g with
            | none => simp only [rdp, hg] at h
            | some ob =>
              cases ob with
              | mp es => simp only [rdp, hg] at h
              | row s cs =>
                simp only [rdp, hg, ldv, hag, cond_false] at h
                cases hv : cs[q]? with
                | none => simp only [hv] at h
                | some v =>
                  simp only [hv] at h
                  refine ⟨v, [g], [], [], .inl rfl, any hg hv, fun _ => ⟨rfl, rfl⟩, fun g' q' e => ?_, h⟩
                  rw [hp0] at e
                  cases e
                  exact ⟨rfl, rfl, rfl, ⟨s, cs, hg, hv⟩, fun H1 ⟨s', cs', h1, h2⟩ => any h1 h2⟩
          · cases hp
        · cases hp
      · cases hp
    · obtain ⟨v, rd, fr, D, h1, h2, h3, h4⟩ := zpm hT hE (zym T eqs h)
      exact ⟨v, rd, fr, D, h1, fun A ρ H w ev _ s hx hr hf => h2 A ρ H w ev s hx hr hf, h4, fun g q e => absurd ⟨g, q, e⟩ hex, h3⟩
  unfold zlu at h
  split at h
  · rename_i c hop
    split at h
    · rename_i f hc
      unfold zae at h
      split at h
      · rename_i fid cap hf
        obtain ⟨v, rd, fr, D, h1, h2, h3⟩ := h
        refine ⟨v, rd, fr, D, h1, fun A ρ H w ev hB s hx hr hfr => ?_, fun hn => by simp [noW, hop] at hn, fun g q e => by simp [ptOf, hop] at e, h3⟩
        have hfv := hx f (by simp [hop, Op.operands, Call.operands, hc])
        rw [hf] at hfv
        generalize hcv : ev f = cv at hfv
        cases hfv with
        | clo _ _ cs hl hR =>
          have hargs : LRel (Kof ρ H w) ρ A (c.args.toList.map env.ev ++ cap) (c.args.map ev ++ cs).toList := by
            rw [Array.toList_append]
            exact LRel.append (LRel.ops fun x hx' => hx x (by simp only [hop, Op.operands, Call.operands, hc]; simp; exact .inr (by simpa using hx'))) ⟨by simpa using hl, fun j v u hv hu => hR j v u hv (by simpa using hu)⟩
          have := h2 A ρ H w (c.args.map ev ++ cs) hB s hargs hr hfr
          have e : (execOp ev o).run P w = (callFunc fid (c.args.map ev ++ cs)).run P w := by
            simp only [execOp, hop, resolve, hc, hcv, Deferred.ofValue, Sem.run_bind, Sem.run_pure, Result.andThen_ok, invoke, Array.empty_append]
          rw [e]
          exact this
      · exact h.elim
    · exact plain h
  · exact plain h
def Fact (P : Program) (all : List Oper) (o : Oper) (r : Rec) (nx : Nat) : Prop :=
  (r.fr = [] ∨ r.fr = [nx]) ∧ (noW o = true → r.fr = [] ∧ r.D = []) ∧
  if r.skip then r.pt = none ∧ r.v = .und ∧ r.rd = [] ∧ r.fr = [] ∧ r.D = [] ∧ ∃ j want t, o.guard = some (j, want) ∧ gdst all j = some t ∧ (r.env t = .und ∨ r.env t = .bool (!want))
  else EffB P o r.env.ev r.H r.rd r.fr r.D r.v ∧ zuw P o r.env.ev r.H r.rd r.fr r.D r.v r.pt ∧ (o.guard = none ∨ ∃ j want t, o.guard = some (j, want) ∧ gdst all j = some t ∧ r.env t = .bool want)
def zns (P : Program) (all : List Oper) : List Oper → List Rec → Env → Heap → Nat → Env → Heap → Nat → Prop
  | [], [], env, H, nx, env', H', nx' => env' = env ∧ H' = H ∧ nx' = nx
  | o :: r, x :: t, env, H, nx, env', H', nx' => x.env = env ∧ x.H = H ∧ Fact P all o x nx ∧ zns P all r t (env.putO o.dst x.v) (H.apply x.D) (nx + x.fr.length) env' H' nx'
  | _, _, _, _, _, _, _, _ => False
include hT hE in
theorem zlv {all : List Oper} {K : Env → Heap → Nat → List Rec → Prop} : ∀ (rest : List Oper) (kn : zbs) (env : Env) (H : Heap) (nx : Nat) (log : List Rec), KnOk kn env → dops P T eqs all rest kn env H nx log K →
    ∃ L env' H' nx', zns P all rest L env H nx env' H' nx' ∧ K env' H' nx' (log ++ L)
  | [], kn, env, H, nx, log, _, h => ⟨[], env, H, nx, ⟨rfl, rfl, rfl⟩, by rw [List.append_nil]; exact h⟩
  | o :: r, kn, env, H, nx, log, hkn, h => by
    have run : ∀ (kn1 : zbs) (env1 : Env), env1 = env → KnOk kn1 env1 → (o.guard = none ∨ ∃ j want t, o.guard = some (j, want) ∧ gdst all j = some t ∧ env1 t = .bool want) →
        zlu P T eqs o env1 H nx (fun v rd fr D => dops P T eqs all r (zds o.dst kn1) (env1.putO o.dst v) (H.apply D) (nx + fr.length) (log ++ [⟨v, rd, fr, D, false, env1, H, ptOf T env1.ev o, isCl o⟩]) K) →
        ∃ L env' H' nx', zns P all (o :: r) L env H nx env' H' nx' ∧ K env' H' nx' (log ++ L) := by
      intro kn1 env1 he hk1 hg hs
      subst he
      obtain ⟨v, rd, fr, D, h1, h2, h3, hsf, h4⟩ := zsv hT hE hs
      obtain ⟨L, env', H', nx', q1, q2⟩ := zlv r _ _ _ _ _ (hk1.drop o.dst v) h4
      exact ⟨⟨v, rd, fr, D, false, env1, H, ptOf T env1.ev o, isCl o⟩ :: L, env', H', nx', ⟨rfl, rfl, ⟨h1, h3, by simp only [Bool.false_eq_true, if_false]; exact ⟨h2, hsf, hg⟩⟩, q1⟩, by simpa using q2⟩
    have skip : ∀ (kn1 : zbs) (env1 : Env), env1 = env → KnOk kn1 env1 → (∃ j want t, o.guard = some (j, want) ∧ gdst all j = some t ∧ (env1 t = .und ∨ env1 t = .bool (!want))) →
        dops P T eqs all r (zeu o.dst kn1) (env1.putO o.dst .und) H nx (log ++ [⟨.und, [], [], [], true, env1, H, none, false⟩]) K →
        ∃ L env' H' nx', zns P all (o :: r) L env H nx env' H' nx' ∧ K env' H' nx' (log ++ L) := by
      intro kn1 env1 he hk1 hg hs
      subst he
      obtain ⟨L, env', H', nx', q1, q2⟩ := zlv r _ _ _ _ _ (hk1.skip o.dst) hs
      exact ⟨⟨.und, [], [], [], true, env1, H, none, false⟩ :: L, env', H', nx', ⟨rfl, rfl, ⟨.inl rfl, fun _ => ⟨rfl, rfl⟩, (if_pos rfl).mpr ⟨rfl, rfl, rfl, rfl, rfl, hg⟩⟩, q1⟩, by simpa using q2⟩
    simp only [dops] at h
    split at h
    · rename_i hg
      exact run kn env rfl hkn (.inl hg) h
    · rename_i j want hg
      split at h
      · exact h.elim
      · rename_i t ht
        split at h
        · rename_i hk
          have hu := hkn t none (zgr hk)
          exact skip kn env rfl hkn ⟨j, want, t, hg, ht, .inl hu⟩ h
        · rename_i b hk
          have hb := hkn t (some b) (zgr hk)
          simp only at hb
          cases hbw : (b == want) with
          | true =>
            rw [hbw] at h
            have : b = want := by simpa using hbw
            subst this
            exact run kn env rfl hkn (.inr ⟨j, b, t, hg, ht, hb⟩) h
          | false =>
            rw [hbw] at h
            have : b = !want := by cases b <;> cases want <;> simp_all
            subst this
            exact skip kn env rfl hkn ⟨j, want, t, hg, ht, .inr hb⟩ h
        · obtain ⟨b, hb, h1, h2⟩ := zql h
          have hk2 := hkn.know hb
          have he := zoj hb
          cases b with
          | true =>
            have h := h1 rfl
            cases want with
            | true => exact run _ _ he hk2 (.inr ⟨j, true, t, hg, ht, by rw [he]; exact hb⟩) h
            | false => exact skip _ _ he hk2 ⟨j, false, t, hg, ht, .inr (by rw [he]; exact hb)⟩ h
          | false =>
            have h := h2 rfl
            cases want with
            | true => exact skip _ _ he hk2 ⟨j, true, t, hg, ht, .inr (by rw [he]; exact hb)⟩ h
            | false => exact run _ _ he hk2 (.inr ⟨j, false, t, hg, ht, by rw [he]; exact hb⟩) h
end
/-! What the log says of any order. -/
theorem zhk (D : zw) : ∀ (H : Heap) (g : Nat), g ∉ domD D → H.apply D g = H g := by
  induction D with
  | nil => intro H g _; rfl
  | cons p r ih =>
    intro H g hg
    obtain ⟨x, o⟩ := p
    simp only [domD, List.map_cons, List.mem_cons, not_or] at hg
    simp only [Heap.apply]
    rw [ih _ g hg.2, Heap.put_ne _ _ hg.1]
theorem zma (D : zw) : ∀ (H H' : Heap) (g : Nat), (H g = H' g ∨ g ∈ domD D) → H.apply D g = H'.apply D g := by
  induction D with
  | nil =>
    intro H H' g h
    rcases h with h | h
    · exact h
    · cases h
  | cons p r ih =>
    intro H H' g h
    obtain ⟨x, o⟩ := p
    simp only [Heap.apply]
    refine ih _ _ g ?_
    by_cases hx : g = x
    · left; subst hx; rw [Heap.put_at, Heap.put_at]
    · rcases h with h | h
      · left; rw [Heap.put_ne _ _ hx, Heap.put_ne _ _ hx]; exact h
      · right
        simp only [domD, List.map_cons, List.mem_cons] at h
        rcases h with h | h
        · exact absurd h hx
        · exact h
def hD (ls : Nat → Bool) : List Rec → Nat → Heap → Heap
  | [], _, H => H
  | r :: t, i, H => hD ls t (i + 1) (bif ls i then H.apply r.D else H)
theorem zjg {ls ls' : Nat → Bool} {g : Nat} : ∀ (L : List Rec) (i : Nat) (H H' : Heap), H g = H' g → (∀ j r, L[j]? = some r → g ∈ domD r.D → ls (i + j) = ls' (i + j)) → hD ls L i H g = hD ls' L i H' g
  | [], i, H, H', h, _ => h
  | r :: t, i, H, H', h, hl => by
    simp only [hD]
    refine zjg t (i + 1) _ _ ?_ fun j x hj hg => by have := hl (j + 1) x (by simpa using hj) hg; rwa [show i + 1 + j = i + (j + 1) by omega]
    by_cases hg : g ∈ domD r.D
    · have := hl 0 r rfl hg
      simp only [Nat.add_zero] at this
      rw [this]
      cases ls' i with
      | true => exact zma _ _ _ _ (.inr hg)
      | false => exact h
    · have e : ∀ (b : Bool) (X : Heap), (bif b then X.apply r.D else X) g = X g := by
        intro b X; cases b
        · rfl
        · exact zhk _ _ _ hg
      rw [e, e]; exact h
theorem znc {g q : Nat} {v : AV} : ∀ {D : zw}, zkz g q v D → g ∈ domD D → ∀ X : Heap, zep (X.apply D g) q v
  | [], _, h, _ => by cases h
  | (x, o) :: r, hc, hg, X => by
    simp only [Heap.apply]
    by_cases hr : g ∈ domD r
    · exact znc (fun p hp => hc p (by simp [hp])) hr _
    · rw [zhk _ _ _ hr]
      simp only [domD, List.map_cons, List.mem_cons] at hg
      rcases hg with rfl | hg
      · rw [Heap.put_at]; exact hc _ List.mem_cons_self rfl
      · exact absurd hg hr
theorem ztj {ls ls' : Nat → Bool} {g : Nat} {φ : Option AObj → Prop} : ∀ (L : List Rec) (i : Nat) (H H' : Heap), (H g = H' g ∨ φ (H g)) →
    (∀ j r, L[j]? = some r → g ∈ domD r.D → ls (i + j) = ls' (i + j) ∨ (ls' (i + j) = false ∧ ∀ X : Heap, φ (X.apply r.D g))) → hD ls L i H g = hD ls' L i H' g ∨ φ (hD ls L i H g)
  | [], i, H, H', h, _ => h
  | r :: t, i, H, H', h, hl => by
    simp only [hD]
    refine ztj t (i + 1) _ _ ?_ fun j x hj hg => by have := hl (j + 1) x (by simpa using hj) hg; rwa [show i + 1 + j = i + (j + 1) by omega]
    by_cases hg : g ∈ domD r.D
    · have := hl 0 r rfl hg
      simp only [Nat.add_zero] at this
      rcases this with e | ⟨e1, e2⟩
      · rw [e]
        cases ls' i with
        | true => exact .inl (zma _ _ _ _ (.inr hg))
        | false => exact h
      · rw [e1]
        cases ls i with
        | true => exact .inr (e2 H)
        | false => exact h
    · have e : ∀ (b : Bool) (X : Heap), (bif b then X.apply r.D else X) g = X g := by
        intro b X; cases b
        · rfl
        · exact zhk _ _ _ hg
      rw [e, e]; exact h
theorem zpg {ls : Nat → Bool} : ∀ (L : List Rec) (i k : Nat) (r : Rec) (H : Heap), L[k]? = some r → ls (i + k) = false → (∀ j x, k < j → L[j]? = some x → ls (i + j) = true → ∀ g ∈ domD r.D, g ∉ domD x.D) →
    hD (fun x => bif Nat.beq x (i + k) then true else ls x) L i H = (hD ls L i H).apply r.D := by
  intro L
  induction L with
  | nil => intro i k r H h; simp at h
  | cons y t ih =>
    intro i k r H hk hl hlast
    simp only [hD]
    cases k with
    | zero =>
      simp only [List.getElem?_cons_zero, Option.some.injEq] at hk
      subst hk
      simp only [Nat.add_zero] at hl ⊢
      have e1 : Nat.beq i i = true := by simp
      rw [e1, hl]
      simp only [cond_true, cond_false]
      funext g
      by_cases hg : g ∈ domD y.D
      · have h1 : hD (fun x => bif Nat.beq x i then true else ls x) t (i + 1) (H.apply y.D) g = H.apply y.D g := by
          have : ∀ j x, t[j]? = some x → g ∈ domD x.D → (fun x => bif Nat.beq x i then true else ls x) (i + 1 + j) = (fun _ => false) (i + 1 + j) := by
            intro j x hj hgx
            have hne : Nat.beq (i + 1 + j) i = false := by rw [← Bool.not_eq_true, Nat.beq_eq]; omega
            simp only [hne, cond_false]
            cases hb : ls (i + 1 + j) with
            | false => rfl
            | true => exact absurd hgx (hlast (j + 1) x (by omega) (by simpa using hj) (by rw [← hb]; congr 1; omega) g hg)
          rw [zjg (ls' := fun _ => false) t (i + 1) _ (H.apply y.D) rfl this]
          exact congrFun (hD_none t (i + 1) _) g
        rw [h1]
        exact zma _ _ _ _ (.inr hg)
      · rw [zhk _ _ _ hg]
        refine zjg t (i + 1) _ _ (zhk _ _ _ hg) fun j x hj _ => ?_
        have hne : Nat.beq (i + 1 + j) i = false := by rw [← Bool.not_eq_true, Nat.beq_eq]; omega
        simp only [hne, cond_false]
    | succ k =>
      have hne : Nat.beq i (i + (k + 1)) = false := by rw [← Bool.not_eq_true, Nat.beq_eq]; omega
      rw [hne]
      simp only [cond_false]
      have := ih (i + 1) k r (bif ls i then H.apply y.D else H) (by simpa using hk) (by rw [show i + 1 + k = i + (k + 1) by omega]; exact hl)
        (fun j x hj hx hlx g hg => hlast (j + 1) x (by omega) (by simpa using hx) (by rw [show i + (j + 1) = i + 1 + j by omega]; exact hlx) g hg)
      rw [show i + 1 + k = i + (k + 1) by omega] at this
      exact this
where
  hD_none : ∀ (L : List Rec) (i : Nat) (H : Heap), hD (fun _ => false) L i H = H
    | [], _, _ => rfl
    | _ :: t, i, H => by simp only [hD, cond_false]; exact hD_none t (i + 1) H
def eD (ls : Nat → Bool) : List Oper → List Rec → Nat → Env → Env
  | o :: r, x :: t, i, env => eD ls r t (i + 1) (bif ls i then env.putO o.dst x.v else env)
  | _, _, _, env => env
theorem zfe {ls : Nat → Bool} {t : Nat} : ∀ (os : List Oper) (L : List Rec) (i : Nat) (env : Env), (∀ o ∈ os, o.dst ≠ some t) → eD ls os L i env t = env t
  | [], L, i, env, _ => by simp [eD]
  | o :: r, [], i, env, _ => by simp [eD]
  | o :: r, x :: L, i, env, h => by
    simp only [eD]
    rw [zfe r L (i + 1) _ fun o ho => h o (by simp [ho])]
    cases ls i with
    | false => rfl
    | true => simp only [cond_true, zgh]; rw [if_neg (h o (by simp))]
theorem zgs {ls : Nat → Bool} {t : Nat} : ∀ (os : List Oper) (L : List Rec) (i k : Nat) (o : Oper) (x : Rec) (env : Env), os[k]? = some o → L[k]? = some x → o.dst = some t → (∀ k' o', os[k']? = some o' → o'.dst = some t → k' = k) →
    eD ls os L i env t = bif ls (i + k) then x.v else env t
  | [], L, i, k, o, x, env, h, _, _, _ => by simp at h
  | o' :: r, [], i, k, o, x, env, _, h, _, _ => by simp at h
  | o' :: r, y :: L, i, 0, o, x, env, ho, hx, hd, hu => by
    simp only [List.getElem?_cons_zero, Option.some.injEq] at ho hx
    subst ho; subst hx
    simp only [eD, Nat.add_zero]
    rw [zfe r L (i + 1) _ fun q hq e => by
      obtain ⟨k, hk⟩ := List.getElem?_of_mem hq
      have := hu (k + 1) q (by simpa using hk) e
      omega]
    cases ls i with
    | false => rfl
    | true => simp only [cond_true, zgh]; rw [if_pos hd]
  | o' :: r, y :: L, i, k + 1, o, x, env, ho, hx, hd, hu => by
    simp only [eD]
    rw [zgs r L (i + 1) k o x _ (by simpa using ho) (by simpa using hx) hd fun k' q hq e => by have := hu (k' + 1) q (by simpa using hq) e; omega]
    rw [show i + 1 + k = i + (k + 1) by omega]
    have hne : o'.dst ≠ some t := fun e => by have := hu 0 o' rfl e; omega
    have : (bif ls i then env.putO o'.dst y.v else env) t = env t := by
      cases ls i with
      | false => rfl
      | true => simp only [cond_true, zgh]; rw [if_neg hne]
    rw [this]
structure At (P : Program) (all : List Oper) (L : List Rec) (os : List Oper) (k : Nat) (env : Env) (H : Heap) (N : Nat → Nat) (i : Nat) (o : Oper) (r : Rec) : Prop where
  get : L[i]? = some r
  env : r.env = eD (fun x => decide (x < k + i)) os L k env
  H : r.H = hD (fun x => decide (x < k + i)) L k H
  fact : Fact P all o r (N i)
theorem zoq {P : Program} {all : List Oper} : ∀ (os : List Oper) (L : List Rec) (k : Nat) (env : Env) (H : Heap) (nx : Nat) (env' : Env) (H' : Heap) (nx' : Nat), zns P all os L env H nx env' H' nx' →
    L.length = os.length ∧ env' = eD (fun _ => true) os L k env ∧ H' = hD (fun _ => true) L k H ∧
    ∃ N : Nat → Nat, N 0 = nx ∧ N os.length = nx' ∧ (∀ i r, L[i]? = some r → N (i + 1) = N i + r.fr.length) ∧ ∀ i o, os[i]? = some o → ∃ r, At P all L os k env H N i o r
  | [], [], k, env, H, nx, env', H', nx', ⟨h1, h2, h3⟩ => ⟨rfl, h1, h2, fun _ => nx, rfl, h3.symm, fun i r h => by simp at h, fun i o h => by simp at h⟩
  | [], _ :: _, _, _, _, _, _, _, _, h => h.elim
  | _ :: _, [], _, _, _, _, _, _, _, h => h.elim
  | o :: os, r :: L, k, env, H, nx, env', H', nx', ⟨h1, h2, h3, h4⟩ => by
    obtain ⟨q1, q2, q3, N, n0, nl, ns, hat⟩ := zoq os L (k + 1) _ _ _ _ _ _ h4
    refine ⟨by simp [q1], by rw [q2]; rfl, by rw [q3]; rfl, fun i => if i = 0 then nx else N (i - 1), rfl, by simpa using nl, fun i x hx => ?_, fun i p hp => ?_⟩
    · cases i with
      | zero =>
        simp only [List.getElem?_cons_zero, Option.some.injEq] at hx
        subst hx
        simp [n0]
      | succ i => have := ns i x (by simpa using hx); simpa using this
    · cases i with
      | zero =>
        simp only [List.getElem?_cons_zero, Option.some.injEq] at hp
        subst hp
        have hf : ∀ x, k ≤ x → decide (x < k + 0) = false := fun x hx => by simp; omega
        refine ⟨r, rfl, ?_, ?_, by simpa using h3⟩
        · rw [h1]; exact (eD_off (o :: os) (r :: L) k env fun x hx => hf x hx).symm
        · rw [h2]; exact (hD_off (r :: L) k H fun x hx => hf x hx).symm
      | succ i =>
        obtain ⟨x, a1, a2, a3, a4⟩ := hat i p (by simpa using hp)
        refine ⟨x, by simpa using a1, ?_, ?_, by simpa using a4⟩
        · rw [a2]; simp only [eD]
          rw [show k + (i + 1) = k + 1 + i by omega, show decide (k < k + 1 + i) = true by simp; omega]; rfl
        · rw [a3]; simp only [hD]
          rw [show k + (i + 1) = k + 1 + i by omega, show decide (k < k + 1 + i) = true by simp; omega]; rfl
where
  eD_off {ls : Nat → Bool} : ∀ (os : List Oper) (L : List Rec) (k : Nat) (env : Env), (∀ x, k ≤ x → ls x = false) → eD ls os L k env = env
    | [], L, k, env, _ => by simp [eD]
    | o :: r, [], k, env, _ => by simp [eD]
    | o :: r, x :: L, k, env, h => by
      simp only [eD, h k (Nat.le_refl _), cond_false]
      exact eD_off r L (k + 1) env fun x hx => h x (by omega)
  hD_off {ls : Nat → Bool} : ∀ (L : List Rec) (k : Nat) (H : Heap), (∀ x, k ≤ x → ls x = false) → hD ls L k H = H
    | [], k, H, _ => rfl
    | x :: L, k, H, h => by
      simp only [hD, h k (Nat.le_refl _), cond_false]
      exact hD_off L (k + 1) H fun x hx => h x (by omega)
section
variable {ops : Array Oper} {listed : Array Bool}
theorem zeq (hc : ∀ i, listed.getD i false = true → ∀ j ∈ zau ops i, listed.getD j false = true) : ∀ (f i j : Nat), zcg ops f i j = true → listed.getD j false = true → listed.getD i false = true
  | 0, i, j, h, _ => by simp [zcg] at h
  | f + 1, i, j, h, hj => by
    simp only [zcg, List.any_eq_true, Bool.or_eq_true] at h
    obtain ⟨p, hp, h⟩ := h
    have hpl := hc j hj p hp
    rcases h with h | h
    · have : p = i := Nat.eq_of_beq_eq_true h
      rw [← this]; exact hpl
    · exact zeq hc f i p h hpl
theorem zne (hc : ∀ i, listed.getD i false = true → ∀ j ∈ zau ops i, listed.getD j false = true) {i : Nat} (hr : ∀ j ∈ zau ops i, listed.getD j false = true) (f j : Nat) (h : zcg ops f j i = true) : listed.getD j false = true := by
  cases f with
  | zero => simp [zcg] at h
  | succ f =>
    simp only [zcg, List.any_eq_true, Bool.or_eq_true] at h
    obtain ⟨p, hp, h⟩ := h
    rcases h with h | h
    · have : p = j := Nat.eq_of_beq_eq_true h
      rw [← this]; exact hr p hp
    · exact zeq hc f j p h (hr p hp)
end
end Go.Proofs.YtpllgpgdcbgalaaDoor
namespace Go.Proofs.YtpllgpgdcbgalaaDoor
open Go Go.RowKit
def lsOf (listed : Array Bool) : Nat → Bool := fun i => listed.getD i false
def AD (nx0 : Nat) (L : List Rec) (ls : Nat → Bool) : Nat → Prop := fun g => g < nx0 ∨ ∃ i r, ls i = true ∧ L[i]? = some r ∧ g ∈ r.fr
section
variable {P : Program} {ops : Array Oper} {L : List Rec} {env0 : Env} {H0 : Heap} {nx0 N : Nat}
structure DInv (ops : Array Oper) (L : List Rec) (env0 : Env) (H0 : Heap) (nx0 N : Nat) (ρ0 : Nat → Loc) (w0 : World) (listed : Array Bool) (a : Act) (w : World) : Prop where
  sz : listed.size = ops.size
  closed : ∀ i, listed.getD i false = true → ∀ j ∈ zau ops i, listed.getD j false = true
  tsz : a.tmps.size = N
  defers : a.defers = []
  st : ∃ ρ, Sim (AD nx0 L (lsOf listed)) ρ (hD (lsOf listed) L 0 H0) w ∧ Fr (· < nx0) ρ0 H0 w0 (AD nx0 L (lsOf listed)) ρ (hD (lsOf listed) L 0 H0) w ∧
    ∀ t, VRel (Kof ρ (hD (lsOf listed) L 0 H0) w) ρ (AD nx0 L (lsOf listed)) (eD (lsOf listed) ops.toList L 0 env0 t) (a.tmps.getD t undef)
theorem zxj {listed : Array Bool} {i : Nat} (hi : i < listed.size) : lsOf (listed.setIfInBounds i true) = fun x => bif Nat.beq x (0 + i) then true else lsOf listed x := by
  funext x
  simp only [lsOf, Nat.zero_add]
  rw [zdm hi]
  by_cases h : x = i
  · subst h; simp
  · have : Nat.beq x i = false := by rw [← Bool.not_eq_true, Nat.beq_eq]; exact h
    rw [if_neg h, this]; rfl
theorem zsi {listed : Array Bool} {i : Nat} (hi : i < listed.size) {r : Rec} (hr : L[i]? = some r) (hl : listed.getD i false = false) : AD nx0 L (lsOf (listed.setIfInBounds i true)) = fun x => AD nx0 L (lsOf listed) x ∨ x ∈ r.fr := by
  funext g
  simp only [AD, lsOf, eq_iff_iff]
  constructor
  · rintro (h | ⟨j, x, h1, h2, h3⟩)
    · exact .inl (.inl h)
    · rw [zdm hi] at h1
      by_cases hj : j = i
      · subst hj
        rw [hr] at h2
        obtain rfl := Option.some.inj h2
        exact .inr h3
      · rw [if_neg hj] at h1
        exact .inl (.inr ⟨j, x, h1, h2, h3⟩)
  · rintro ((h | ⟨j, x, h1, h2, h3⟩) | h)
    · exact .inl h
    · refine .inr ⟨j, x, ?_, h2, h3⟩
      rw [zdm hi]; split
      · rfl
      · exact h1
    · refine .inr ⟨i, r, ?_, hr, h⟩
      rw [zdm hi, if_pos rfl]
theorem zuc {i j : Nat} {a b : Oper} (hij : i < j) (ha : ops[i]? = some a) (hb : ops[j]? = some b) (hn : (noW a && noW b) = false) (hbf : befB (ancL ops ops.size) i j = false) : (i, j) ∈ zpk ops := by
  unfold zpk ztn
  rw [List.mem_flatMap]
  refine ⟨j, List.mem_range.2 (Array.getElem?_eq_some_iff.1 hb).1, ?_⟩
  rw [List.mem_filterMap]
  refine ⟨i, List.mem_range.2 hij, ?_⟩
  simp [ha, hb, hn, hbf]
theorem zsj (hok : zmv ops N = true) {Q : Exit → Act → World → Prop} {ρ0 : Nat → Loc} {w0 : World} {env' : Env} {H' : Heap} {nx' : Nat}
    (hch : zns P ops.toList ops.toList L env0 H0 nx0 env' H' nx') (hco : zew L (zpk ops))
    (hend : ∀ (a : Act) (w : World) (ρ : Nat → Loc), St N env' H' nx' ρ w a → Fr (· < nx0) ρ0 H0 w0 (· < nx') ρ H' w → Q .normal a w) :
    ∀ (fuel : Nat) (listed : Array Bool) (a : Act) (w : World), DInv ops L env0 H0 nx0 N ρ0 w0 listed a w → ((List.range ops.size).filter fun i => !listed.getD i false).length ≤ fuel → wpAny P .any ops Q fuel listed a w := by
  obtain ⟨hlen, henv', hH', Nf, hN0, hNl, hNs, hat⟩ := zoq _ _ 0 _ _ _ _ _ _ hch
  have hlen' : L.length = ops.size := by simpa using hlen
  have hops : ∀ {i : Nat} {o : Oper}, ops[i]? = some o → ops.toList[i]? = some o := fun h => by simpa using h
  have hNmono : ∀ i j, i ≤ j → j ≤ L.length → Nf i ≤ Nf j := by
    intro i j hij hj
    induction j with
    | zero => have : i = 0 := by omega
              rw [this]; exact Nat.le_refl _
    | succ j ih =>
      by_cases h : i = j + 1
      · rw [h]; exact Nat.le_refl _
      · have := ih (by omega) (by omega)
        have h2 := hNs j _ (List.getElem?_eq_getElem (by omega))
        omega
  have hfr : ∀ {i : Nat} {r : Rec}, L[i]? = some r → ∀ g ∈ r.fr, g = Nf i ∧ Nf (i + 1) = Nf i + 1 := by
    intro i r hr g hg
    have hi := (List.getElem?_eq_some_iff.1 hr).1
    have ho : ops[i]? = some ops[i] := Array.getElem?_eq_getElem (by omega)
    obtain ⟨r', q1, _, _, q4⟩ := hat i _ (hops ho)
    rw [hr] at q1
    obtain rfl := Option.some.inj q1
    have hs := hNs i r hr
    rcases q4.1 with h | h
    · rw [h] at hg; cases hg
    · rw [h] at hg hs
      simp at hg hs
      exact ⟨hg, hs⟩
  have hAN : ∀ ls g, AD nx0 L ls g → g < nx' := by
    rintro ls g (h | ⟨i, r, h1, h2, h3⟩)
    · have := hNmono 0 L.length (by omega) (by omega)
      rw [hN0] at this
      rw [← hNl, ← hlen]; omega
    · obtain ⟨e1, e2⟩ := hfr h2 g h3
      have hi := (List.getElem?_eq_some_iff.1 h2).1
      have := hNmono (i + 1) L.length (by omega) (by omega)
      rw [← hNl, ← hlen]; omega
  have pair : ∀ {i j : Nat} {r x : Rec}, i < j → L[i]? = some r → L[j]? = some x → befB (ancL ops ops.size) i j = false → (∀ g ∈ domD r.D, g ∉ x.rd ∧ g ∉ domD x.D) ∧ ((∀ g ∈ domD x.D, g ∉ r.rd) ∨ ∃ g q, r.pt = some (.ptr g q) ∧ zkz g q r.v x.D) := by
    intro i j r x hij hr hx hb
    have hi := (List.getElem?_eq_some_iff.1 hr).1
    have hj := (List.getElem?_eq_some_iff.1 hx).1
    have hoi : ops[i]? = some ops[i] := Array.getElem?_eq_getElem (by omega)
    have hoj : ops[j]? = some ops[j] := Array.getElem?_eq_getElem (by omega)
    cases hn : (noW ops[i] && noW ops[j]) with
    | true =>
      simp only [Bool.and_eq_true] at hn
      obtain ⟨r', q1, _, _, q4⟩ := hat i _ (hops hoi)
      rw [hr] at q1
      obtain rfl := Option.some.inj q1
      obtain ⟨x', p1, _, _, p4⟩ := hat j _ (hops hoj)
      rw [hx] at p1
      obtain rfl := Option.some.inj p1
      rw [(q4.2.1 hn.1).2, (p4.2.1 hn.2).2]
      exact ⟨(fun g hg => by cases hg), .inl (fun g hg => by cases hg)⟩
    | false =>
      have := (zjz L _).1 hco _ (zuc hij hoi hoj hn hb)
      simp only [zkr, hr, hx] at this
      obtain ⟨h1, h2⟩ := this
      rw [zgk] at h1
      refine ⟨fun g hg => by have := h1 g hg; simpa using this, ?_⟩
      unfold zoy at h2
      split at h2
      · rename_i g q _ hpt
        exact .inr ⟨g, q, hpt, h2⟩
      · rw [zgk] at h2; exact .inl h2
  have uniq : ∀ {i : Nat} {o : Oper} {t : Nat}, ops[i]? = some o → o.dst = some t → ∀ k' o', ops.toList[k']? = some o' → o'.dst = some t → k' = i := by
    intro i o t ho hd k' o' hk hd'
    have h1 := ((zci hok ho).2.1 t hd).1
    have h2 := ((zci hok (o := o') (i := k') (by simpa using hk)).2.1 t hd').1
    rw [h1] at h2
    exact (Option.some.inj h2).symm
  have fin : ∀ (listed : Array Bool) (a : Act) (w : World), DInv ops L env0 H0 nx0 N ρ0 w0 listed a w → Region.ready .any ops listed = [] → Q .normal a w := by
    intro listed a w inv hr
    have all : ∀ n i, i < n → i < ops.size → listed.getD i false = true := by
      intro n
      induction n with
      | zero => intro i hi; omega
      | succ n ih =>
        intro i hi hs
        by_cases hl : listed.getD i false = true
        · exact hl
        · exfalso
          have ho : ops[i]? = some ops[i] := Array.getElem?_eq_getElem hs
          have : i ∈ Region.ready .any ops listed := (zmr inv.sz).2 ⟨ops[i], ho, by simpa using hl, fun j hj => ih j (by have := (zci hok ho).1 j hj; omega) (by have := (zci hok ho).1 j hj; omega)⟩
          rw [hr] at this
          cases this
    have all' : ∀ i, i < ops.size → lsOf listed i = true := fun i hi => all (i + 1) i (by omega) hi
    obtain ⟨ρ, s, f, hv⟩ := inv.st
    have eH : hD (lsOf listed) L 0 H0 = H' := by
      rw [hH']
      funext g
      exact zjg L 0 _ _ rfl fun j r hj _ => by
        have := (List.getElem?_eq_some_iff.1 hj).1
        rw [Nat.zero_add]; exact all' j (by omega)
    have eE : ∀ t, eD (lsOf listed) ops.toList L 0 env0 t = env' t := by
      intro t
      rw [henv']
      by_cases hw : ∃ (i : Nat) (o : Oper), ops[i]? = some o ∧ o.dst = some t
      · obtain ⟨i, o, ho, hd⟩ := hw
        have hi := (Array.getElem?_eq_some_iff.1 ho).1
        have hx : L[i]? = some (L[i]'(by omega)) := List.getElem?_eq_getElem (by omega)
        rw [zgs _ _ 0 i o _ env0 (hops ho) hx hd (uniq ho hd), zgs _ _ 0 i o _ env0 (hops ho) hx hd (uniq ho hd), Nat.zero_add, all' i hi]
      · have hno : ∀ o ∈ ops.toList, o.dst ≠ some t := fun o ho e => hw (by
          obtain ⟨i, hi⟩ := List.getElem?_of_mem ho
          exact ⟨i, o, by simpa using hi, e⟩)
        rw [zfe _ _ _ _ hno, zfe _ _ _ _ hno]
    have hsub : ∀ g, AD nx0 L (lsOf listed) g → ρ g = ρ g ∧ g < nx' := fun g hg => ⟨rfl, hAN _ g hg⟩
    rw [eH] at s f hv
    have s' : Sim (· < nx') ρ H' w := ⟨fun g o hg => hAN _ g (s.live g o hg), fun g o hg => (s.obj g o hg).mono rfl (fun _ _ h => h) hsub, s.inj, s.lay⟩
    refine hend a w ρ ⟨s', fun t => ?_, inv.tsz, inv.defers⟩ ⟨fun g hg => ⟨(f.agree g hg).1, hAN _ g (f.agree g hg).2⟩, f.k, f.os, f.tape, f.output, f.size⟩
    have := hv t
    rw [eE] at this
    exact this.mono (fun _ _ h => h) hsub
  intro fuel
  induction fuel with
  | zero =>
    intro listed a w inv hle
    have hr : Region.ready .any ops listed = [] := by
      cases hr : Region.ready .any ops listed with
      | nil => rfl
      | cons i r =>
        exfalso
        have hi : i ∈ Region.ready .any ops listed := by rw [hr]; simp
        obtain ⟨o, ho, hl, _⟩ := (zmr inv.sz).1 hi
        have : i ∈ (List.range ops.size).filter fun i => !listed.getD i false := by
          rw [List.mem_filter]; exact ⟨List.mem_range.2 (Array.getElem?_eq_some_iff.1 ho).1, by rw [hl]; rfl⟩
        have := List.length_pos_of_mem this
        omega
    exact ⟨hr, fin listed a w inv hr⟩
  | succ fuel ih =>
    intro listed a w inv hle
    refine ⟨fun hr => fin listed a w inv hr, fun i hi => ?_⟩
    obtain ⟨o, ho, hl, hp⟩ := (zmr inv.sz).1 hi
    have his : i < ops.size := (Array.getElem?_eq_some_iff.1 ho).1
    have hil : i < listed.size := by rw [inv.sz]; exact his
    obtain ⟨r, hr, henv, hH, hfact⟩ := hat i o (hops ho)
    simp only [Nat.zero_add] at henv hH
    obtain ⟨hp1, hp2, hp3, hp4⟩ := zci hok ho
    obtain ⟨ρ, s, f, hv⟩ := inv.st
    have hlast : ∀ j x, i < j → L[j]? = some x → lsOf listed (0 + j) = true → ∀ g ∈ domD r.D, g ∉ domD x.D := by
      intro j x hij hx hlx g hg
      rw [Nat.zero_add] at hlx
      cases hb : befB (ancL ops ops.size) i j with
      | true =>
        have := zeq inv.closed _ i j (zer hb).choose_spec hlx
        rw [hl] at this; cases this
      | false => exact ((pair hij hr hx hb).1 g hg).2
    have hHadd : hD (lsOf (listed.setIfInBounds i true)) L 0 H0 = (hD (lsOf listed) L 0 H0).apply r.D := by
      rw [zxj hil]
      exact zpg L 0 i r H0 hr (by rw [Nat.zero_add]; exact hl) hlast
    have hrdeq : (¬ ∃ g q, r.pt = some (.ptr g q)) → ∀ g ∈ r.rd, hD (lsOf listed) L 0 H0 g = r.H g := by
      intro hnp g hg
      rw [hH]
      refine zjg L 0 _ _ rfl fun j x hj hgx => ?_
      rw [Nat.zero_add]
      rcases Nat.lt_trichotomy j i with h | h | h
      · have hd : decide (j < i) = true := by simpa using h
        rw [hd]
        cases hb : befB (ancL ops ops.size) j i with
        | true => exact zne inv.closed hp _ j (zer hb).choose_spec
        | false => exact absurd hg ((pair h hj hr hb).1 g hgx).1
      · subst h
        have hd : decide (j < j) = false := by simp
        rw [hd]; exact hl
      · have hd : decide (j < i) = false := by simp; omega
        rw [hd]
        cases hb : befB (ancL ops ops.size) i j with
        | true =>
          cases hx : lsOf listed j with
          | false => rfl
          | true =>
            have := zeq inv.closed _ i j (zer hb).choose_spec hx
            rw [hl] at this; cases this
        | false => exact absurd hg (((pair h hr hj hb).2.resolve_right fun ⟨g, q, e, _⟩ => hnp ⟨g, q, e⟩) g hgx)
    have hcell : ∀ g q, r.pt = some (.ptr g q) → r.rd = [g] → zep (r.H g) q r.v → zep (hD (lsOf listed) L 0 H0 g) q r.v := by
      intro g q hpt hrd hc
      rw [hH] at hc
      have := ztj (ls := lsOf listed) (ls' := fun x => decide (x < i)) (g := g) (φ := fun o => zep o q r.v) L 0 H0 H0 (.inl rfl) fun j x hj hgx => ?_
      · rcases this with e | e
        · rw [e]; exact hc
        · exact e
      · rw [Nat.zero_add]
        rcases Nat.lt_trichotomy j i with h | h | h
        · have hd : decide (j < i) = true := by simpa using h
          rw [hd]
          cases hb : befB (ancL ops ops.size) j i with
          | true => exact .inl (zne inv.closed hp _ j (zer hb).choose_spec)
          | false => exact absurd (by rw [hrd]; simp) ((pair h hj hr hb).1 g hgx).1
        · subst h
          have hd : decide (j < j) = false := by simp
          rw [hd]; exact .inl hl
        · have hd : decide (j < i) = false := by simp; omega
          rw [hd]
          cases hb : befB (ancL ops ops.size) i j with
          | true =>
            cases hx : lsOf listed j with
            | false => exact .inl rfl
            | true =>
              have := zeq inv.closed _ i j (zer hb).choose_spec hx
              rw [hl] at this; cases this
          | false =>
            rcases (pair h hr hj hb).2 with h1 | ⟨g', q', h1, h2⟩
            · exact absurd (by rw [hrd]; simp) (h1 g hgx)
            · rw [hpt] at h1
              cases h1
              exact .inr ⟨rfl, znc h2 hgx⟩
    have hslot : ∀ t ∈ o.looksAt ops, eD (lsOf listed) ops.toList L 0 env0 t = r.env t := by
      intro t ht
      rw [henv]
      by_cases hw : ∃ (j : Nat) (o' : Oper), ops[j]? = some o' ∧ o'.dst = some t
      · obtain ⟨j, o', ho', hd⟩ := hw
        have hj := (Array.getElem?_eq_some_iff.1 ho').1
        have hx : L[j]? = some (L[j]'(by omega)) := List.getElem?_eq_getElem (by omega)
        rw [zgs _ _ 0 j o' _ env0 (hops ho') hx hd (uniq ho' hd), zgs _ _ 0 j o' _ env0 (hops ho') hx hd (uniq ho' hd), Nat.zero_add]
        have hwr := ((zci hok ho').2.1 t hd).1
        rcases hp4 t ht j hwr with h | h
        · have h1 := hp j h
          have h2 := hp1 j h
          have hd' : decide (j < i) = true := by simpa using h2
          rw [hd']; rw [show lsOf listed j = true from h1]
        · have h2 := (zci hok ho').1 i h
          have hd' : decide (j < i) = false := by simp; omega
          rw [hd']
          cases hxl : lsOf listed j with
          | false => rfl
          | true =>
            have := inv.closed j hxl i h
            rw [hl] at this; cases this
      · have hno : ∀ o ∈ ops.toList, o.dst ≠ some t := fun o ho e => hw (by
          obtain ⟨i, hi⟩ := List.getElem?_of_mem ho
          exact ⟨i, o, by simpa using hi, e⟩)
        rw [zfe _ _ _ _ hno, zfe _ _ _ _ hno]
    have hfresh : ∀ g ∈ r.fr, ¬ AD nx0 L (lsOf listed) g := by
      intro g hg hA
      obtain ⟨e1, e2⟩ := hfr hr g hg
      rcases hA with h | ⟨j, x, h1, h2, h3⟩
      · have := hNmono 0 i (by omega) (by omega)
        rw [hN0] at this; omega
      · obtain ⟨d1, d2⟩ := hfr h2 g h3
        have hji : j ≠ i := by intro e; subst e; rw [show lsOf listed j = listed.getD j false from rfl, hl] at h1; cases h1
        have hjl := (List.getElem?_eq_some_iff.1 h2).1
        rcases Nat.lt_or_ge j i with h | h
        · have := hNmono (j + 1) i (by omega) (by omega); omega
        · have := hNmono (i + 1) j (by omega) (by omega); omega
    have step : ∀ (ρ' : Nat → Loc) (cv : Value) (w' : World), Sim (fun x => AD nx0 L (lsOf listed) x ∨ x ∈ r.fr) ρ' ((hD (lsOf listed) L 0 H0).apply r.D) w' →
        VRel (Kof ρ' ((hD (lsOf listed) L 0 H0).apply r.D) w') ρ' (fun x => AD nx0 L (lsOf listed) x ∨ x ∈ r.fr) r.v cv →
        Fr (AD nx0 L (lsOf listed)) ρ (hD (lsOf listed) L 0 H0) w (fun x => AD nx0 L (lsOf listed) x ∨ x ∈ r.fr) ρ' ((hD (lsOf listed) L 0 H0).apply r.D) w' →
        wpAny P .any ops Q fuel (listed.setIfInBounds i true) (a.put o.dst cv) w' := by
      intro ρ' cv w' q1 q2 q3
      refine ih _ _ _ ⟨by simp [inv.sz], fun j hj k hk => ?_, ?_, ?_, ρ', ?_, ?_, fun t => ?_⟩ ?_
      · rw [zdm hil] at hj ⊢
        by_cases hji : j = i
        · subst hji; have := hp k hk; split
          · rfl
          · exact this
        · rw [if_neg hji] at hj
          have := inv.closed j hj k hk
          split
          · rfl
          · exact this
      · cases o.dst <;> simp [Act.put, inv.tsz]
      · cases o.dst <;> simp [Act.put, inv.defers]
      · rw [zsi hil hr hl, hHadd]; exact q1
      · rw [zsi hil hr hl, hHadd]; exact f.trans q3
      · rw [zsi hil hr hl, hHadd]
        rw [zqf a o.dst t cv (fun t ht => by rw [inv.tsz]; exact (hp2 t ht).2)]
        by_cases hd : o.dst = some t
        · rw [if_pos hd, zgs _ _ 0 i o r env0 (hops ho) hr hd (uniq ho hd), Nat.zero_add]
          have : lsOf (listed.setIfInBounds i true) i = true := by simp only [lsOf]; rw [zdm hil, if_pos rfl]
          rw [this]; exact q2
        · rw [if_neg hd]
          have e : eD (lsOf (listed.setIfInBounds i true)) ops.toList L 0 env0 t = eD (lsOf listed) ops.toList L 0 env0 t := by
            by_cases hw : ∃ (j : Nat) (o' : Oper), ops[j]? = some o' ∧ o'.dst = some t
            · obtain ⟨j, o', ho', hd'⟩ := hw
              have hj := (Array.getElem?_eq_some_iff.1 ho').1
              have hx : L[j]? = some (L[j]'(by omega)) := List.getElem?_eq_getElem (by omega)
              rw [zgs _ _ 0 j o' _ env0 (hops ho') hx hd' (uniq ho' hd'), zgs _ _ 0 j o' _ env0 (hops ho') hx hd' (uniq ho' hd'), Nat.zero_add]
              have hji : j ≠ i := by intro e; subst e; rw [ho] at ho'; obtain rfl := Option.some.inj ho'; exact hd hd'
              have : lsOf (listed.setIfInBounds i true) j = lsOf listed j := by simp only [lsOf]; rw [zdm hil, if_neg hji]
              rw [this]
            · have hno : ∀ o ∈ ops.toList, o.dst ≠ some t := fun o ho e => hw (by
                obtain ⟨i, hi⟩ := List.getElem?_of_mem ho
                exact ⟨i, o, by simpa using hi, e⟩)
              rw [zfe _ _ _ _ hno, zfe _ _ _ _ hno]
          rw [e]
          exact (hv t).mono q3.k q3.agree
      · have hfil : ((List.range ops.size).filter fun k => !(listed.setIfInBounds i true).getD k false).length < ((List.range ops.size).filter fun k => !listed.getD k false).length := by
          have e : ((List.range ops.size).filter fun k => !(listed.setIfInBounds i true).getD k false) = (((List.range ops.size).filter fun k => !listed.getD k false).filter fun k => decide (k ≠ i)) := by
            rw [List.filter_filter]
            refine List.filter_congr fun k _ => ?_
            rw [zdm hil]
            by_cases hk : k = i
            · subst hk; simp
            · rw [if_neg hk]; simp [hk]
          rw [e]
          refine List.length_filter_lt_length_iff_exists.2 ⟨i, ?_, by simp⟩
          rw [List.mem_filter]
          exact ⟨List.mem_range.2 his, by rw [hl]; rfl⟩
        omega
    simp only [wpOp, ho]
    obtain ⟨hf1, hf2, hf3⟩ := hfact
    have hguard : ∀ (j : Nat) (want : Bool) (t : Nat), o.guard = some (j, want) → gdst ops.toList j = some t → VRel (Kof ρ (hD (lsOf listed) L 0 H0) w) ρ (AD nx0 L (lsOf listed)) (r.env t) (a.tmps.getD t undef) ∧
        Region.wanted o (yielded ops a.tmps) = (match a.tmps.getD t undef with | .bool b => b == want | _ => false) := by
      intro j want t hg ht
      have e : (ops[j]?).bind (·.dst) = some t := by unfold gdst at ht; simpa using ht
      have hmem : t ∈ o.looksAt ops := by
        unfold Oper.looksAt
        rw [hg]
        simp [e]
      refine ⟨by rw [← hslot t hmem]; exact hv t, ?_⟩
      have hy := zor ht a
      have htN : t < N := by
        obtain ⟨o', ho', hd⟩ := Option.bind_eq_some_iff.1 e
        exact ((zci hok ho').2.1 t hd).2
      have hget : a.tmps[t]? = some (a.tmps.getD t undef) := by simp [Array.getD, inv.tsz, htN]
      rw [hget] at hy
      have hwant : Region.wanted o (yielded ops a.tmps) = (yielded ops a.tmps j == some want) := by simp [Region.wanted, hg]
      rw [hwant, hy]
      cases a.tmps.getD t undef <;> rfl
    cases hsk : r.skip with
    | true =>
      rw [hsk, if_pos rfl] at hf3
      obtain ⟨_, h1, h2, h3, h4, j, want, t, hg, ht, hor⟩ := hf3
      obtain ⟨g1, g2⟩ := hguard j want t hg ht
      have hw : Region.wanted o (yielded ops a.tmps) = false := by
        rw [g2]
        rcases hor with h | h <;> rw [h] at g1 <;> generalize a.tmps.getD t undef = tv at g1 <;> cases g1
        · rfl
        · simp
      rw [hw]
      simp only [Bool.false_eq_true, if_false]
      refine step ρ undef w ?_ ?_ ?_
      · rw [h3, h4, zcf]; exact s
      · rw [h1]; exact .und
      · rw [h3, h4, zcf]; exact Fr.refl _ _ _ _
    | false =>
      rw [hsk, if_neg (by simp)] at hf3
      obtain ⟨heff, hsoft, hg⟩ := hf3
      have hw : Region.wanted o (yielded ops a.tmps) = true := by
        rcases hg with hg | ⟨j, want, t, hg, ht, hb⟩
        · simp [Region.wanted, hg]
        · obtain ⟨g1, g2⟩ := hguard j want t hg ht
          rw [g2]
          rw [hb] at g1
          generalize a.tmps.getD t undef = tv at g1
          cases g1
          simp
      rw [hw]
      simp only [if_true]
      have hops' : ∀ x ∈ o.op.operands.toList, VRel (Kof ρ (hD (lsOf listed) L 0 H0) w) ρ (AD nx0 L (lsOf listed)) (r.env.ev x) (a.eval x) := by
        intro x hx
        cases x with
        | tmp t =>
          have hmem : t ∈ o.looksAt ops := by
            unfold Oper.looksAt
            rw [List.mem_append]
            left
            rw [List.mem_filterMap]
            exact ⟨.tmp t, hx, rfl⟩
          show VRel _ _ _ (r.env t) _
          rw [← hslot t hmem]
          exact hv t
        | const v => exact zot _ _ _ v
        | global g => exact .junk _
        | func f => exact .clo f [] #[] rfl fun j v c hv => by simp at hv
      by_cases hnp : ∃ g q, r.pt = some (.ptr g q)
      · obtain ⟨g, q, hpt⟩ := hnp
        obtain ⟨e1, e2, e3, hc, hany⟩ := hsoft g q hpt
        have := hany _ (hcell g q hpt e1 hc) _ ρ _ w a.eval ⟨nx', fun g hg => hAN _ g hg⟩ s hops' (fun _ _ => rfl) (by simp)
        rw [← e2, ← e3] at this
        exact .inl (zlj this fun cv w' ⟨ρ', q1, q2, q3⟩ => step ρ' cv w' q1 q2 q3)
      · exact .inl (zlj (heff _ ρ _ w a.eval ⟨nx', fun g hg => hAN _ g hg⟩ s hops' (hrdeq hnp) hfresh) fun cv w' ⟨ρ', q1, q2, q3⟩ => step ρ' cv w' q1 q2 q3)
end
end Go.Proofs.YtpllgpgdcbgalaaDoor
namespace Go.Proofs.YtpllgpgdcbgalaaDoor
open Go Go.RowKit
section
variable (P : Program) (T : Nat → Option AT) (eqs : Nat → Bool)
def zdn : Code → Nat
  | .region id _ _ => id
  | .seq a _ => zdn a
  | .cond _ a _ => zdn a
  | .block _ a => zdn a
  | .loop a => zdn a
  | .scope a => zdn a
  | _ => 100000
variable (lv : Nat → Nat → Option (List Nat))
def join (L : Option (List Nat)) (J : K3) (B : K3 → K3) : K3 := match L with
  | none => B J
  | some L => fun env H nx => JN (fun xs H nx => J (zjy L xs) H nx) fun j => B (fun env H nx => j (L.map env) H nx) env H nx
def lvL (L : Option (List Nat)) : List Nat := match L with
  | none => []
  | some L => L
def adr (ops : Array Oper) (K : K3) : K3 := fun env H nx => dops P T eqs ops.toList ops.toList [] env H nx [] fun env H nx log => zlw log (K env H nx) (zpk ops)
def zuf (c : Operand) (b : Bool) (env : Env) : Env := match c with
  | .tmp t => env.put t (.bool b)
  | _ => env
theorem St.know {N : Nat} {env : Env} {H : Heap} {nx : Nat} {ρ : Nat → Loc} {w : World} {a : Act} (h : St N env H nx ρ w a) {c : Operand} {b : Bool} (hc : a.eval c = .bool b) : St N (zuf c b env) H nx ρ w a := by
  cases c with
  | tmp t =>
    refine ⟨h.sim, fun u => ?_, h.size, h.defers⟩
    have := zgh env (some t) (.bool b) u
    simp only [Env.putO] at this
    show VRel _ _ _ (env.put t (.bool b) u) _
    rw [this]
    split
    · rename_i e; cases e
      have e : a.tmps.getD t undef = .bool b := hc
      rw [e]; exact .bool b
    · exact h.env u
  | const v => exact h
  | global g => exact h
  | func f => exact h
def aw : Code → K3 → (Nat → K3) → K3 → K3
  | .skip, kn, _, _ => kn
  | .label _, kn, _, _ => kn
  | .region id ops false, kn, _, _ => join (lv 0 id) kn fun K => aops P T eqs ops.toList ops.toList [] K
  | .region id ops true, kn, _, _ => join (lv 0 id) kn fun K => adr P T eqs ops K
  | .seq a b, kn, kx, kr => join (lv 3 (zdn b)) (aw b kn kx kr) fun K => aw a K kx kr
  | .cond c a b, kn, kx, kr => fun env H nx => CNDC (env.ev c) (aw a kn kx kr (zuf c true env) H nx) (aw b kn kx kr (zuf c false env) H nx)
  | .block id a, kn, kx, kr => join (lv 1 id) kn fun K => aw a K (fun i => bif Nat.beq i id then K else kx i) kr
  | .loop a, _, kx, kr => fun env H nx => LP (fun K xs H nx => aw a (fun env H nx => K ((lvL (lv 2 (zdn a))).map env) H nx) kx kr (zjy (lvL (lv 2 (zdn a))) xs) H nx) ((lvL (lv 2 (zdn a))).map env) H nx
  | .exit i, _, kx, _ => kx i
  | .ret, _, _, kr => kr
  | .scope a, kn, kx, kr => aw a kn kx kr
  | _, _, _, _ => fun _ _ _ => False
end
def wfC (N : Nat) : Code → Bool
  | .region _ ops drawn => zku N ops.toList && (!drawn || zmv ops N)
  | .seq a b => wfC N a && wfC N b
  | .cond _ a b => wfC N a && wfC N b
  | .block _ a => wfC N a
  | .loop a => wfC N a
  | .scope a => wfC N a
  | _ => true
section
variable {P : Program} {T : Nat → Option AT} {eqs : Nat → Bool} (hT : TOk P T) (hE : EOk P T eqs) {lv : Nat → Nat → Option (List Nat)} {N : Nat}
variable (nx0 : Nat) (ρ0 : Nat → Loc) (H0 : Heap) (w0 : World)
def RS (N : Nat) (K : K3) (a : Act) (w : World) : Prop := ∃ env H nx ρ, K env H nx ∧ St N env H nx ρ w a ∧ Fr (· < nx0) ρ0 H0 w0 (· < nx) ρ H w
def QS (N : Nat) (kn : K3) (kx : Nat → K3) (kr : K3) : Exit → Act → World → Prop
  | .normal, a, w => RS nx0 ρ0 H0 w0 N kn a w
  | .exit i, a, w => RS nx0 ρ0 H0 w0 N (kx i) a w
  | .ret, a, w => RS nx0 ρ0 H0 w0 N kr a w
  | _, _, _ => False
include hT hE in
theorem zii {all : Array Oper} {kn' : K3} {kx : Nat → K3} {kr : K3} : ∀ (rest : List Oper) (kn : zbs) (env : Env) (H : Heap) (nx : Nat), zku N rest = true → (∀ t, (∃ o ∈ all.toList, o.dst = some t) → t < N) → aops P T eqs all.toList rest kn kn' env H nx → KnOk kn env →
    ∀ (ρ : Nat → Loc) (w : World) (a : Act), St N env H nx ρ w a → Fr (· < nx0) ρ0 H0 w0 (· < nx) ρ H w → wpList P all (QS nx0 ρ0 H0 w0 N kn' kx kr) rest a w
  | [], kn, env, H, nx, _, _, h, _, ρ, w, a, st, f => wpList_nil ⟨env, H, nx, ρ, h, st, f⟩
  | o :: r, kn, env, H, nx, hd, hall, h, hkn, ρ, w, a, st, f => by
    simp only [zku, Bool.and_eq_true] at hd
    have hdo : ∀ t, o.dst = some t → t < N := fun t ht => by have := hd.1; rw [ht] at this; simpa using this
    have run : ∀ (kn1 : zbs) (env1 : Env), KnOk kn1 env1 → St N env1 H nx ρ w a → zly P T eqs o env1 H nx (fun v H nx => aops P T eqs all.toList r (zds o.dst kn1) kn' (env1.putO o.dst v) H nx) → Region.wanted o (yielded all a.tmps) = true →
        wpList P all (QS nx0 ρ0 H0 w0 N kn' kx kr) (o :: r) a w := by
      intro kn1 env1 hk1 st1 hs hw
      refine wpList_step fun K hK => ?_
      rw [if_pos hw]
      refine zlj (zsz hT hE hs st1) fun cv w' ⟨v, H', nx', ρ', q1, q2, q3, q4⟩ => hK _ _ ?_
      exact zii r _ _ H' nx' hd.2 hall q1 (hk1.drop o.dst v) ρ' w' _ (st1.put q2 q4 hdo q3) (f.trans q4)
    have skip : ∀ (kn1 : zbs) (env1 : Env), KnOk kn1 env1 → St N env1 H nx ρ w a → aops P T eqs all.toList r (zeu o.dst kn1) kn' (env1.putO o.dst .und) H nx → Region.wanted o (yielded all a.tmps) = false →
        wpList P all (QS nx0 ρ0 H0 w0 N kn' kx kr) (o :: r) a w := by
      intro kn1 env1 hk1 st1 hs hw
      refine wpList_step fun K hK => ?_
      rw [if_neg (by rw [hw]; simp)]
      exact hK _ _ (zii r _ _ H nx hd.2 hall hs (hk1.skip o.dst) ρ w _ (st1.put st1.sim (Fr.refl _ _ _ _) hdo .und) f)
    simp only [aops] at h
    split at h
    · rename_i hg
      exact run kn env hkn st h (by simp [Region.wanted, hg])
    · rename_i j want hg
      split at h
      · exact h.elim
      · rename_i t ht
        have hy := zor ht a
        have htN : t < N := by
          obtain ⟨o', ho', hdst⟩ := Option.bind_eq_some_iff.1 ht
          exact hall t ⟨o', List.mem_of_getElem? ho', hdst⟩
        have hget : a.tmps[t]? = some (a.tmps.getD t undef) := by simp [Array.getD, st.size, htN]
        rw [hget] at hy
        have hwant : Region.wanted o (yielded all a.tmps) = (yielded all a.tmps j == some want) := by simp [Region.wanted, hg]
        have hbool : ∀ b, env t = .bool b → Region.wanted o (yielded all a.tmps) = (b == want) := by
          intro b hb
          have := st.env t
          rw [hb] at this
          generalize a.tmps.getD t undef = tv at this hy
          cases this
          rw [hwant, hy]; simp
        split at h
        · rename_i hk
          have hu := hkn t none (zgr hk)
          simp only at hu
          refine skip kn env hkn st h ?_
          have := st.env t
          rw [hu] at this
          generalize a.tmps.getD t undef = tv at this hy
          cases this
          rw [hwant, hy]; rfl
        · rename_i b hk
          have hb := hkn t (some b) (zgr hk)
          simp only at hb
          cases hbw : (b == want) with
          | true => rw [hbw] at h; exact run kn env hkn st h (by rw [hbool b hb, hbw])
          | false => rw [hbw] at h; exact skip kn env hkn st h (by rw [hbool b hb, hbw])
        · obtain ⟨b, hb, h1, h2⟩ := zql h
          · cases b with
            | true =>
              have h := h1 rfl
              have hk2 := hkn.know hb
              have he := zoj hb
              rw [he] at hk2 h
              cases want with
              | true => exact run _ env hk2 st h (by rw [hbool _ hb]; rfl)
              | false => exact skip _ env hk2 st h (by rw [hbool _ hb]; rfl)
            | false =>
              have h := h2 rfl
              have hk2 := hkn.know hb
              have he := zoj hb
              rw [he] at hk2 h
              cases want with
              | true => exact skip _ env hk2 st h (by rw [hbool _ hb]; rfl)
              | false => exact run _ env hk2 st h (by rw [hbool _ hb]; rfl)
theorem zrz {all : List Oper} (h : zku N all = true) : ∀ t, (∃ o ∈ all, o.dst = some t) → t < N := by
  induction all with
  | nil => rintro t ⟨o, ho, _⟩; cases ho
  | cons x r ih =>
    simp only [zku, Bool.and_eq_true] at h
    rintro t ⟨o, ho, hd⟩
    rcases List.mem_cons.1 ho with rfl | ho
    · have := h.1; rw [hd] at this; simpa using this
    · exact ih h.2 t ⟨o, ho, hd⟩
theorem RS.mono {K K' : K3} {a : Act} {w : World} (h : RS nx0 ρ0 H0 w0 N K a w) (hk : ∀ env H nx, K env H nx → K' env H nx) : RS nx0 ρ0 H0 w0 N K' a w := by
  obtain ⟨env, H, nx, ρ, h1, h2, h3⟩ := h
  exact ⟨env, H, nx, ρ, hk _ _ _ h1, h2, h3⟩
theorem RS.join {L : List Nat} {I : J3} {J : K3} (hI : ∀ xs H nx, I xs H nx → J (zjy L xs) H nx) {a : Act} {w : World} (h : RS nx0 ρ0 H0 w0 N (fun env H nx => I (L.map env) H nx) a w) : RS nx0 ρ0 H0 w0 N J a w := by
  obtain ⟨env, H, nx, ρ, h1, h2, h3⟩ := h
  exact ⟨zjy L (L.map env), H, nx, ρ, hI _ _ _ h1, h2.weak (zmy env L), h3⟩
theorem zaba (p : Nat → Prop) : ∀ n, p n → ∃ m, p m ∧ ∀ k, p k → m ≤ k := by
  intro n
  induction n using Nat.strongRecOn with
  | _ n ih =>
    intro h
    by_cases hk : ∃ k, k < n ∧ p k
    · obtain ⟨k, h1, h2⟩ := hk
      exact ih k h1 h2
    · exact ⟨n, h, fun k hp => by
        rcases Nat.lt_or_ge k n with hl | hl
        · exact absurd ⟨k, hl, hp⟩ hk
        · exact hl⟩
open Classical in
noncomputable def znk (p : Nat → Prop) : Nat := if h : ∃ m, p m ∧ ∀ k, p k → m ≤ k then Classical.choose h else 0
theorem zmu {p : Nat → Prop} {n : Nat} (h : p n) : p (znk p) ∧ znk p ≤ n := by
  have he := zaba p n h
  unfold znk
  rw [dif_pos he]
  exact ⟨(Classical.choose_spec he).1, (Classical.choose_spec he).2 n h⟩
include hT hE in
theorem zqp (hM : P.follows .mixedOrders = true) {id : Nat} {ops : Array Oper} (hok : zmv ops N = true) {K : K3} {env : Env} {H : Heap} {nx : Nat} (h : adr P T eqs ops K env H nx) {ρ : Nat → Loc} {w : World} {a : Act} (st : St N env H nx ρ w a)
    (f : Fr (· < nx0) ρ0 H0 w0 (· < nx) ρ H w) {Q : Exit → Act → World → Prop} (hQ : ∀ a w, RS nx0 ρ0 H0 w0 N K a w → Q .normal a w) : (Code.region id ops true).wp P Q a w := by
  obtain ⟨L, env', H', nx', hch, hK⟩ := zlv hT hE _ _ _ _ _ _ (fun t b hm => by cases hm) h
  rw [List.nil_append] at hK
  obtain ⟨hco, hK⟩ := (zqk _).1 hK
  have hfalse : ∀ i, (Array.replicate ops.size false).getD i false = false := fun i => by
    simp only [Array.getD]
    split <;> simp
  have hls : lsOf (Array.replicate ops.size false) = fun _ => false := funext hfalse
  have hA : AD nx L (fun _ => false) = (· < nx) := by
    funext g; simp [AD]
  refine wp_region_any hM (zsj (ρ0 := ρ) (w0 := w) hok hch hco (fun a' w' ρ' st' f' => hQ a' w' ⟨env', H', nx', ρ', hK, st', f.trans f'⟩) _ _ _ _ ⟨by simp, (fun i hi => by rw [hfalse] at hi; cases hi), st.size, st.defers, ρ, ?_, ?_, ?_⟩ ?_)
  · have e : ({ w with drawn := w.drawn + 1 } : World).heap = w.heap := rfl
    rw [hls, hA, zpg.hD_none]
    exact st.sim.heap e
  · have e : ({ w with drawn := w.drawn + 1 } : World).heap = w.heap := rfl
    rw [hls, hA, zpg.hD_none]
    exact ⟨fun g hg => ⟨rfl, hg⟩, fun b o hb => by rw [zgl e]; exact hb, rfl, rfl, rfl, Nat.le_refl _⟩
  · intro t
    have e : ({ w with drawn := w.drawn + 1 } : World).heap = w.heap := rfl
    rw [hls, hA, zpg.hD_none, zgl e]
    have : eD (fun _ => false) ops.toList L 0 env t = env t := by
      rw [zoq.eD_off _ _ _ _ fun _ _ => rfl]
    rw [this]
    exact st.env t
  · exact Nat.le_trans (List.length_filter_le _ _) (by simp)
include hT hE in
theorem zbq (hM : P.follows .mixedOrders = true) : ∀ (c : Code) (kn : K3) (kx : Nat → K3) (kr : K3), wfC N c = true → ∀ (a : Act) (w : World), RS nx0 ρ0 H0 w0 N (aw P T eqs lv c kn kx kr) a w → c.wp P (QS nx0 ρ0 H0 w0 N kn kx kr) a w
  | .skip, kn, kx, kr, _, a, w, h => wp_skip h
  | .label _, kn, kx, kr, _, a, w, h => wp_label h
  | .exit i, kn, kx, kr, _, a, w, h => wp_exit h
  | .ret, kn, kx, kr, _, a, w, h => wp_ret h
  | .scope c, kn, kx, kr, hwf, a, w, h => by
    refine wp_scope_straight (Code.wp_mono (fun e a w q => ?_) (zbq hM c kn kx kr hwf a w h))
    cases e <;> first | exact q | exact q.elim
  | .region id ops false, kn, kx, kr, hwf, a, w, h => by
    simp only [aw] at h
    simp only [wfC, Bool.not_false, Bool.true_or, Bool.and_true] at hwf
    cases hg : lv 0 id with
    | none =>
      rw [hg] at h
      obtain ⟨env, H, nx, ρ, h1, h2, h3⟩ := h
      exact wp_region_list (zii hT hE nx0 ρ0 H0 w0 ops.toList [] env H nx hwf (zrz hwf) h1 (fun t b hm => by cases hm) ρ w a h2 h3)
    | some L =>
      rw [hg] at h
      obtain ⟨env, H, nx, ρ, ⟨I, hI, h1⟩, h2, h3⟩ := h
      have := wp_region_list (id := id) (zii (kx := kx) (kr := kr) hT hE nx0 ρ0 H0 w0 ops.toList [] env H nx hwf (zrz hwf) h1 (fun t b hm => by cases hm) ρ w a h2 h3)
      refine Code.wp_mono (fun e a w q => ?_) this
      cases e <;> first | exact q.elim | exact RS.join nx0 ρ0 H0 w0 hI q | exact q
  | .seq x y, kn, kx, kr, hwf, a, w, h => by
    simp only [wfC, Bool.and_eq_true] at hwf
    refine wp_seq ?_
    simp only [aw] at h
    cases hb : lv 3 (zdn y) with
    | none =>
      rw [hb] at h
      refine Code.wp_mono (fun e a w q => ?_) (zbq hM x (aw P T eqs lv y kn kx kr) kx kr hwf.1 a w h)
      cases e <;> first | exact q | exact q.elim | exact zbq hM y kn kx kr hwf.2 _ _ q
    | some L =>
      rw [hb] at h
      obtain ⟨env, H, nx, ρ, ⟨I, hI, h1⟩, h2, h3⟩ := h
      refine Code.wp_mono (fun e a w q => ?_) (zbq hM x (fun env H nx => I (L.map env) H nx) kx kr hwf.1 a w ⟨env, H, nx, ρ, h1, h2, h3⟩)
      cases e <;> first | exact q | exact q.elim | exact zbq hM y kn kx kr hwf.2 _ _ (RS.join nx0 ρ0 H0 w0 hI q)
  | .cond c x y, kn, kx, kr, hwf, a, w, h => by
    simp only [wfC, Bool.and_eq_true] at hwf
    obtain ⟨env, H, nx, ρ, h1, h2, h3⟩ := h
    simp only [aw] at h1
    obtain ⟨b, hc, h1⟩ := zus h1 (h2.ev c)
    · refine wp_cond hc ?_
      cases b with
      | true => exact zbq hM x kn kx kr hwf.1 a w ⟨_, H, nx, ρ, h1.1 rfl, h2.know hc, h3⟩
      | false => exact zbq hM y kn kx kr hwf.2 a w ⟨_, H, nx, ρ, h1.2 rfl, h2.know hc, h3⟩
  | .block id x, kn, kx, kr, hwf, a, w, h => by
    refine wp_block ?_
    simp only [aw] at h
    cases hb : lv 1 id with
    | none =>
      rw [hb] at h
      refine Code.wp_mono (fun e a w q => ?_) (zbq hM x kn (fun i => bif Nat.beq i id then kn else kx i) kr hwf a w h)
      cases e <;> first | exact q | exact q.elim | skip
      rename_i i
      simp only [Exit.inBlock]
      simp only [QS] at q
      by_cases hi : i = id
      · subst hi; rw [if_pos rfl]; simpa [QS] using q
      · have : Nat.beq i id = false := by rw [← Bool.not_eq_true, Nat.beq_eq]; exact hi
        rw [if_neg hi]; rw [this] at q; exact q
    | some L =>
      rw [hb] at h
      obtain ⟨env, H, nx, ρ, ⟨I, hI, h1⟩, h2, h3⟩ := h
      refine Code.wp_mono (fun e a w q => ?_) (zbq hM x (fun env H nx => I (L.map env) H nx) (fun i => bif Nat.beq i id then (fun env H nx => I (L.map env) H nx) else kx i) kr hwf a w ⟨env, H, nx, ρ, h1, h2, h3⟩)
      cases e <;> first | exact q.elim | skip
      case normal => exact RS.join nx0 ρ0 H0 w0 hI q
      case ret => exact q
      case exit i =>
        simp only [Exit.inBlock]
        simp only [QS] at q
        by_cases hi : i = id
        · subst hi; rw [if_pos rfl]
          have q' : RS nx0 ρ0 H0 w0 N (fun env H nx => I (L.map env) H nx) a w := by simpa using q
          exact RS.join nx0 ρ0 H0 w0 hI q'
        · have : Nat.beq i id = false := by rw [← Bool.not_eq_true, Nat.beq_eq]; exact hi
          rw [if_neg hi]; rw [this] at q; exact q
  | .loop x, kn, kx, kr, hwf, a, w, h => by
    obtain ⟨env, H, nx, ρ, ⟨I, n, h0, hstep⟩, h2, h3⟩ := h
    let L := lvL (lv 2 (zdn x))
    let Rn : Nat → Act → World → Prop := fun n a w => ∃ xs H nx ρ, I n xs H nx ∧ St N (zjy L xs) H nx ρ w a ∧ Fr (· < nx0) ρ0 H0 w0 (· < nx) ρ H w
    have hR0 : ∃ n, Rn n a w := ⟨n, _, H, nx, ρ, h0, h2.weak (zmy env L), h3⟩
    refine wp_loop (fun a w => ∃ n, Rn n a w) (fun a w => znk fun n => Rn n a w) hR0 fun a w hI => ?_
    obtain ⟨n1, hn1⟩ := hI
    have hn := (zmu (p := fun n => Rn n a w) hn1).1
    obtain ⟨xs, H, nx, ρ, q1, q2, q3⟩ := hn
    have hb := hstep _ xs H nx q1
    refine Code.wp_mono (fun e a' w' q => ?_) (zbq hM x _ kx kr hwf a w ⟨zjy L xs, H, nx, ρ, hb, q2, q3⟩)
    cases e <;> first | exact q | exact q.elim | skip
    obtain ⟨env', H', nx', ρ', ⟨m, hm, hIm⟩, r2, r3⟩ := q
    have hRm : Rn m a' w' := ⟨_, H', nx', ρ', hIm, r2.weak (zmy env' L), r3⟩
    refine ⟨⟨m, hRm⟩, ?_⟩
    exact Nat.lt_of_le_of_lt (zmu (p := fun n => Rn n a' w') hRm).2 hm
  | .region id ops true, kn, kx, kr, hwf, a, w, h => by
    simp only [aw] at h
    simp only [wfC, Bool.not_true, Bool.false_or, Bool.and_eq_true] at hwf
    cases hg : lv 0 id with
    | none =>
      rw [hg] at h
      obtain ⟨env, H, nx, ρ, h1, h2, h3⟩ := h
      exact zqp hT hE nx0 ρ0 H0 w0 hM hwf.2 h1 h2 h3 fun a w h => h
    | some L =>
      rw [hg] at h
      obtain ⟨env, H, nx, ρ, ⟨I, hI, h1⟩, h2, h3⟩ := h
      exact zqp hT hE nx0 ρ0 H0 w0 hM hwf.2 h1 h2 h3 fun a w h => RS.join nx0 ρ0 H0 w0 hI h
  | .rangeFunc _ _ _ _, _, _, _, _, _, _, ⟨_, _, _, _, h, _, _⟩ => h.elim
  | .goto _, _, _, _, _, _, _, ⟨_, _, _, _, h, _, _⟩ => h.elim
  | .refuse _, _, _, _, _, _, _, ⟨_, _, _, _, h, _, _⟩ => h.elim
end
end Go.Proofs.YtpllgpgdcbgalaaDoor
namespace Go.Proofs.YtpllgpgdcbgalaaDoor
open Go Go.RowKit
section
variable (T : Nat → Option AT)
def aret : List ResultVar → Env → Heap → (List AV → Prop) → Prop
  | [], _, _, k => k []
  | .tmp t :: r, env, H, k => aret r env H fun vs => k (env t :: vs)
  | .cell a t :: r, env, H, k => match T t with
    | some at_ => LOAD at_.kind.isAgg at_.size (env a) H fun v _ _ _ => aret r env H fun vs => k (v :: vs)
    | none => False
end
def RET1 (vs : List AV) (k : AV → Prop) : Prop := match vs with
  | [v] => k v
  | vs => k (.tup vs)
def env0 (args : List AV) : Env := fun t => nth args t
def lvOf : List (Nat × Nat × List Nat) → Nat → Nat → Option (List Nat)
  | [], _, _ => none
  | (a, b, l) :: r, k, i => bif Nat.beq a k && Nat.beq b i then some l else lvOf r k i
def zp (fn : Func) : Code := match fn.body with
  | some c => c
  | none => .skip
def body (P : Program) (T : Nat → Option AT) (eqs : Nat → Bool) (lv : Nat → Nat → Option (List Nat)) (fn : Func) (c : Code) (args : List AV) (H : Heap) (nx : Nat) (Q : AV → Heap → Nat → Prop) : Prop :=
  aw P T eqs lv c (fun env H nx => aret T fn.results.toList env H fun vs => RET1 vs fun v => Q v H nx) (fun _ _ _ _ => False) (fun env H nx => aret T fn.results.toList env H fun vs => RET1 vs fun v => Q v H nx) (env0 args) H nx
section
variable {P : Program} {T : Nat → Option AT} {eqs : Nat → Bool} (hT : TOk P T) (hE : EOk P T eqs) {lv : Nat → Nat → Option (List Nat)}
def zje (tmps : Array Value) (r : ResultVar) : Sem Value := match r with
  | .tmp t => pure (tmps.getD t undef)
  | .cell b t => do loadVar t (← asAddr (tmps.getD b undef))
theorem zrg {s : Sem Value} {w : World} {v : Value} (h : s.run P w = .ok v w) (acc : Array Value) : (acc.push <$> s).run P w = .ok (acc.push v) w := by
  have hf : (acc.push <$> s) = (s >>= fun x => pure (acc.push x)) := rfl
  simp only [hf, Sem.run_bind, h, Result.andThen_ok, Sem.run_pure]
include hT in
theorem zlz {env : Env} {H : Heap} {nx N : Nat} {ρ : Nat → Loc} {w : World} {a : Act} (st : St N env H nx ρ w a) : ∀ (rs : List ResultVar) (k : List AV → Prop), aret T rs env H k →
    ∃ vs cs, k vs ∧ LRel (Kof ρ H w) ρ (· < nx) vs cs ∧ cs.length = rs.length ∧
      ∀ acc : Array Value, (List.foldlM (fun (acc : Array Value) (r : ResultVar) => acc.push <$> zje a.tmps r) acc rs).run P w = .ok (acc ++ cs.toArray) w
  | [], k, h => ⟨[], [], h, LRel.nil, rfl, fun acc => by simp [Sem.run_pure]⟩
  | .tmp t :: r, k, h => by
    obtain ⟨vs, cs, h1, h2, h3, h4⟩ := zlz st r _ h
    refine ⟨env t :: vs, a.tmps.getD t undef :: cs, h1, LRel.cons (st.env t) h2, by simp [h3], fun acc => ?_⟩
    have hr : (zje a.tmps (.tmp t)).run P w = .ok (a.tmps.getD t undef) w := rfl
    simp only [List.foldlM_cons, Sem.run_bind, zrg hr, Result.andThen_ok, h4]
    congr 1
    apply Array.ext'
    simp
  | .cell b t :: r, k, h => by
    simp only [aret] at h
    split at h
    · rename_i at_ ht
      obtain ⟨i, d, z, ha⟩ := hT.at ht
      unfold LOAD at h
      split at h
      · rename_i cells off rd hrd
        split at h
        · rename_i v hv
          obtain ⟨bb, q, he, hc⟩ := zrk (H0 := H) st.sim (st.env b) hrd (fun _ _ => rfl)
          obtain ⟨cv, hr, hR⟩ := zkp (P := P) ha hc hv
          obtain ⟨vs, cs, h1, h2, h3, h4⟩ := zlz st r _ h
          refine ⟨v :: vs, cv :: cs, h1, LRel.cons hR h2, by simp [h3], fun acc => ?_⟩
          have hr' : (zje a.tmps (.cell b t)).run P w = .ok cv w := by
            simp only [zje, Sem.run_bind, he, asAddr, Sem.run_pure, Result.andThen_ok, hr]
          simp only [List.foldlM_cons, Sem.run_bind, zrg hr', Result.andThen_ok, h4]
          congr 1
          apply Array.ext'
          simp
        · exact h.elim
      · exact h.elim
    · exact h.elim
theorem za.mono {f : FuncId} {args : List AV} {H : Heap} {nx : Nat} {Q Q' : AV → Heap → Nat → Prop} (h : za P f args H nx Q) (hq : ∀ v H' nx', Q v H' nx' → Q' v H' nx') : za P f args H nx Q' :=
  fun ρ w cargs s ha => zav (h ρ w cargs s ha) fun cv w' ⟨r, H', nx', ρ', q1, q2⟩ => ⟨r, H', nx', ρ', hq _ _ _ q1, q2⟩
include hT hE in
theorem ztb (hM : P.follows .mixedOrders = true) {f : FuncId} {fn : Func} {c : Code} {args : List AV} {H : Heap} {nx : Nat} {Q : AV → Heap → Nat → Prop} (hf : P.funcs[f]? = some fn) (hb : fn.body = some c) (hname : (fn.name == "runtime.NumGoroutine") = false)
    (hwf : wfC fn.ntmps c = true) (hlen' : Nat.ble args.length fn.ntmps = true)
    (h : body P T eqs lv fn c args H nx Q) :
    za P f args H nx Q := by
  have hlen := Nat.le_of_ble_eq_true hlen'
  intro ρ w cargs s ha
  have hcl : cargs.size = args.length := by simpa using ha.1
  have hcall : (callFunc f cargs).run P w = .ok (.enter f cargs) w := by
    have hname' : ¬ fn.name = "runtime.NumGoroutine" := by simpa using hname
    simp [callFunc, program, Sem.run_bind, Sem.run, hf, hname', hb, pure]
  rw [hcall]
  simp only [zac]
  refine calls_of_wp hf hb (Code.wp_mono (fun e a w' q => ?_) (zbq hT hE (lv := lv) nx ρ H w hM c _ _ _ hwf _ w ⟨env0 args, H, nx, ρ, h, ⟨s, fun t => ?_, ?_, rfl⟩, Fr.refl _ _ _ _⟩))
  · have fin : ∀ (a : Act) (w' : World), RS nx ρ H w fn.ntmps (fun env H nx => aret T fn.results.toList env H fun vs => RET1 vs fun v => Q v H nx) a w' →
        a.defers = [] ∧ ∃ v, (results fn a.tmps).run P w' = .ok v w' ∧ ∃ u, Ending.returned v = .returned u ∧ ∃ r H' nx' ρ', Q r H' nx' ∧ Sim (· < nx') ρ' H' w' ∧ VRel (Kof ρ' H' w') ρ' (· < nx') r u ∧ Fr (· < nx) ρ H w (· < nx') ρ' H' w' := by
      intro a w' ⟨env, H', nx', ρ', h1, h2, h3⟩
      obtain ⟨vs, cs, q1, q2, q3, q4⟩ := zlz hT h2 _ _ h1
      refine ⟨h2.defers, ?_⟩
      have hm : (fn.results.mapM (zje a.tmps)).run P w' = .ok cs.toArray w' := by
        rw [Array.mapM_eq_foldlM]
        have := q4 #[]
        rw [Array.foldlM_toList] at this
        simpa using this
      have hrun : ∀ v, (if h : cs.toArray.size = 1 then cs.toArray[0] else Value.tuple cs.toArray) = v → (results fn a.tmps).run P w' = .ok v w' := by
        intro v hv
        have e : results fn a.tmps = (do let vs ← fn.results.mapM (zje a.tmps); pure (if h : vs.size = 1 then vs[0] else .tuple vs)) := by
          unfold results zje
          rfl
        rw [e]
        simp only [Sem.run_bind, hm, Result.andThen_ok, Sem.run_pure, hv]
      unfold RET1 at q1
      split at q1
      · rename_i v
        obtain ⟨cv, hcv, hR⟩ := q2.get (j := 0) (v := v) rfl
        have hc1 : cs = [cv] := by
          have hl := q2.1
          match cs, hl, hcv with
          | [x], _, h => simp at h; rw [h]
        subst hc1
        exact ⟨cv, hrun cv (by simp), cv, rfl, v, H', nx', ρ', q1, h2.sim, hR, h3⟩
      · rename_i hne
        have hc1 : cs.length ≠ 1 := by
          intro hl
          have := q2.1
          rw [hl] at this
          match vs, this with
          | [x], _ => exact hne x rfl
        refine ⟨.tuple cs.toArray, hrun _ (by simp [hc1]), _, rfl, .tup vs, H', nx', ρ', q1, h2.sim, ?_, h3⟩
        exact .tup _ _ (by simpa using q2.1) fun j v c hv hc => q2.2 j v c hv (by simpa using hc)
    cases e with
    | normal => exact fin a w' q
    | ret => exact fin a w' q
    | exit i => obtain ⟨_, _, _, _, h, _⟩ := q; exact h.elim
    | goto l => exact q.elim
    | panic c => exact q.elim
    | outgrown => exact q.elim
  · show VRel _ _ _ (nth args t) ((cargs ++ Array.replicate (fn.ntmps - cargs.size) undef).getD t undef)
    unfold nth
    by_cases ht : t < args.length
    · obtain ⟨cv, h1, h2⟩ := ha.get (List.getElem?_eq_getElem ht)
      have : (cargs ++ Array.replicate (fn.ntmps - cargs.size) undef).getD t undef = cv := by
        rw [Array.getD_eq_getD_getElem?, Array.getElem?_append_left (by omega)]
        simp only [Array.getElem?_toList] at h1
        rw [h1]; rfl
      rw [this, List.getD_eq_getElem?_getD, List.getElem?_eq_getElem ht]
      exact h2
    · rw [List.getD_eq_getElem?_getD, List.getElem?_eq_none (by omega)]
      exact .junk _
  · simp; omega
include hT hE in
theorem ze (hM : P.follows .mixedOrders = true) {f : FuncId} {fn : Func} {c : Code} {args : List AV} {H : Heap} {nx : Nat} {Q : AV → Heap → Nat → Prop} {V : Prop} (hf : P.funcs[f]? = some fn) (hb : fn.body = some c) (hname : (fn.name == "runtime.NumGoroutine") = false)
    (hwf : wfC fn.ntmps c = true) (hlen' : Nat.ble args.length fn.ntmps = true)
    (he : body P T eqs lv fn c args H nx Q = V) (h : V) : za P f args H nx Q := by
  subst he
  exact ztb hT hE hM hf hb hname hwf hlen' h
end
end Go.Proofs.YtpllgpgdcbgalaaDoor
namespace Go.Proofs.YtpllgpgdcbgalaaDoor
open Go Go.RowKit
inductive Bel (A : Nat → Prop) : AV → Prop
  | junk : Bel A .junk
  | und : Bel A .und
  | int (k : IntKind) (n : Int) : Bel A (.int k n)
  | bool (b : Bool) : Bel A (.bool b)
  | bany : Bel A .bany
  | str (s : List UInt8) : Bel A (.str s)
  | nilp : Bel A .nilp
  | nils : Bel A .nils
  | nilf : Bel A .nilf
  | nilm : Bel A .nilm
  | inil : Bel A .inil
  | ifc : Bel A .ifc
  | zs : Bel A .zs
  | ptr (g off : Nat) : A g → Bel A (.ptr g off)
  | slc (g off len : Nat) : A g → Bel A (.slc g off len)
  | amap (g : Nat) : A g → Bel A (.amap g)
  | ro (xs : List (List AV)) : (∀ (i : Nat) (x : List AV) (j : Nat) (v : AV), xs[i]? = some x → x[j]? = some v → Bel A v) → Bel A (.ro xs)
  | rop (cs : List AV) (o : Nat) : (∀ (j : Nat) (v : AV), cs[j]? = some v → Bel A v) → Bel A (.rop cs o)
  | agg (xs : List AV) : (∀ (j : Nat) (v : AV), xs[j]? = some v → Bel A v) → Bel A (.agg xs)
  | tup (xs : List AV) : (∀ (j : Nat) (v : AV), xs[j]? = some v → Bel A v) → Bel A (.tup xs)
  | clo (f : FuncId) (xs : List AV) : (∀ (j : Nat) (v : AV), xs[j]? = some v → Bel A v) → Bel A (.clo f xs)
def BelO (A : Nat → Prop) : AObj → Prop
  | .row _ cells => ∀ (j : Nat) x, cells[j]? = some x → Bel A x
  | .mp es => ∀ (j : Nat) kv, es[j]? = some kv → Bel A kv.1 ∧ Bel A kv.2
theorem VRel.bel {K : zg} {ρ : Nat → Loc} {A : Nat → Prop} {v : AV} {c : Value} (h : VRel K ρ A v c) : Bel A v := by
  induction h with
  | junk v => exact .junk
  | und => exact .und
  | int k n => exact .int k n
  | bool b => exact .bool b
  | bany b => exact .bany
  | str s => exact .str s
  | nilp => exact .nilp
  | nils => exact .nils
  | nilf => exact .nilf
  | nilm => exact .nilm
  | inil => exact .inil
  | ifc _ _ => exact .ifc
  | zs a => exact .zs
  | ptr g off a hg ha => exact .ptr g off hg
  | slc g off len cap a hg h1 h2 => exact .slc g off len hg
  | amap g r hg hr => exact .amap g hg
  | ro xs a len cap sz b off C h1 h2 h3 h4 h5 _ ih => exact .ro xs ih
  | rop cs o b p a C h1 h2 _ ih => exact .rop cs o ih
  | agg xs cs h1 _ ih =>
    exact .agg xs fun j v hv => by
      have hlt := (List.getElem?_eq_some_iff.1 hv).1
      exact ih j v _ hv (Array.getElem?_eq_getElem (by omega))
  | tup xs cs h1 _ ih =>
    exact .tup xs fun j v hv => by
      have hlt := (List.getElem?_eq_some_iff.1 hv).1
      exact ih j v _ hv (Array.getElem?_eq_getElem (by omega))
  | clo f xs cs h1 _ ih =>
    exact .clo f xs fun j v hv => by
      have hlt := (List.getElem?_eq_some_iff.1 hv).1
      exact ih j v _ hv (Array.getElem?_eq_getElem (by omega))
theorem VRel.restrict {K : zg} {ρ : Nat → Loc} {A A' : Nat → Prop} {v : AV} {c : Value} (h : VRel K ρ A v c) : Bel A' v → VRel K ρ A' v c := by
  induction h with
  | junk v => exact fun _ => .junk v
  | und => exact fun _ => .und
  | int k n => exact fun _ => .int k n
  | bool b => exact fun _ => .bool b
  | bany b => exact fun _ => .bany b
  | str s => exact fun _ => .str s
  | nilp => exact fun _ => .nilp
  | nils => exact fun _ => .nils
  | nilf => exact fun _ => .nilf
  | nilm => exact fun _ => .nilm
  | inil => exact fun _ => .inil
  | ifc _ h => exact fun _ => .ifc _ h
  | zs a => exact fun _ => .zs a
  | ptr g off a hg ha => intro hb; cases hb with | ptr _ _ h => exact .ptr g off a h ha
  | slc g off len cap a hg h1 h2 => intro hb; cases hb with | slc _ _ _ h => exact .slc g off len cap a h h1 h2
  | amap g r hg hr => intro hb; cases hb with | amap _ h => exact .amap g r h hr
  | ro xs a len cap sz b off C h1 h2 h3 h4 h5 _ ih => intro hb; cases hb with | ro _ h => exact .ro xs a len cap sz b off C h1 h2 h3 h4 h5 fun i x j v hx hv => ih i x j v hx hv (h i x j v hx hv)
  | rop cs o b p a C h1 h2 _ ih => intro hb; cases hb with | rop _ _ h => exact .rop cs o b p a C h1 h2 fun j v hv => ih j v hv (h j v hv)
  | agg xs cs h1 _ ih => intro hb; cases hb with | agg _ h => exact .agg xs cs h1 fun j v c hv hc => ih j v c hv hc (h j v hv)
  | tup xs cs h1 _ ih => intro hb; cases hb with | tup _ h => exact .tup xs cs h1 fun j v c hv hc => ih j v c hv hc (h j v hv)
  | clo f xs cs h1 _ ih => intro hb; cases hb with | clo _ _ h => exact .clo f xs cs h1 fun j v c hv hc => ih j v c hv hc (h j v hv)
inductive Frz (H : Heap) (nx : Nat) : AV → AV → Prop
  | same (v : AV) : Bel (· < nx) v → Frz H nx v v
  | nils : Frz H nx .nils (.ro [])
  | zs : Frz H nx .zs (.ro [])
  | slc (g off len sz : Nat) (cells : List AV) (xs : List (List AV)) : nx ≤ g → H g = some (.row sz cells) → off + len * sz ≤ cells.length → xs.length = len → (∀ x ∈ xs, x.length = sz) →
      (U : Nat → Nat → AV) → (∀ (i : Nat) (x : List AV) (j : Nat) (v : AV), xs[i]? = some x → x[j]? = some v → cells[off + i * sz + j]? = some (U i j)) →
      (∀ (i : Nat) (x : List AV) (j : Nat) (v : AV), xs[i]? = some x → x[j]? = some v → Frz H nx (U i j) v) → Frz H nx (.slc g off len) (.ro xs)
  | agg (xs ys : List AV) : ys.length = xs.length → (∀ (j : Nat) (v u : AV), xs[j]? = some v → ys[j]? = some u → Frz H nx v u) → Frz H nx (.agg xs) (.agg ys)
  | tup (xs ys : List AV) : ys.length = xs.length → (∀ (j : Nat) (v u : AV), xs[j]? = some v → ys[j]? = some u → Frz H nx v u) → Frz H nx (.tup xs) (.tup ys)
theorem Frz.rel {A : Nat → Prop} {ρ : Nat → Loc} {H H0 : Heap} {w : World} {nx : Nat} (s : Sim A ρ H w) (h0 : ∀ g o, H0 g = some o → g < nx ∧ H g = some o) {v u : AV} (h : Frz H nx v u) :
    ∀ (c : Value), VRel (Kof ρ H w) ρ A v c → VRel (Kof ρ H0 w) ρ (· < nx) u c := by
  have hK : ∀ b o, Kof ρ H w b = some o → Kof ρ H0 w b = some o := fun b o hb => by
    obtain ⟨h1, h2⟩ := zq.1 hb
    refine zq.2 ⟨fun g hg => ?_, h2⟩
    obtain ⟨o', ho'⟩ := Option.isSome_iff_exists.1 hg
    exact h1 g (by rw [(h0 g o' ho').2]; rfl)
  induction h with
  | same v hb => exact fun c hc => (hc.restrict hb).mono hK (fun _ h => ⟨rfl, h⟩)
  | nils =>
    intro c hc
    cases hc
    exact .ro [] none 0 0 0 0 0 (fun _ _ => undef) rfl (Nat.le_refl _) (fun h => absurd rfl h) (fun x hx => by cases hx) (fun i x j v hx => by simp at hx) (fun i x j v hx => by simp at hx)
  | zs =>
    intro c hc
    cases hc with
    | zs a => exact .ro [] a 0 0 0 0 0 (fun _ _ => undef) rfl (Nat.le_refl _) (fun h => absurd rfl h) (fun x hx => by cases hx) (fun i x j v hx => by simp at hx) (fun i x j v hx => by simp at hx)
  | slc g off len sz cells xs hg hH hle hl hsz U hU _ ih =>
    intro c hc
    cases hc with
    | slc _ _ _ cap a hA hcl hcap =>
      obtain ⟨cc, el, lo, hi, q1, q2, q3, q4, q5, q6⟩ := s.obj g _ hH
      have hKb : Kof ρ H0 w (ρ g).block = some (.cells cc el (lo, hi)) := by
        refine zq.2 ⟨fun x hx e => ?_, q1⟩
        obtain ⟨o', ho'⟩ := Option.isSome_iff_exists.1 hx
        obtain ⟨h1, h2⟩ := h0 x o' ho'
        have := s.inj x g (by rw [h2]; rfl) (by rw [hH]; rfl) e
        omega
      have hex : ∀ (i : Nat) (x : List AV) (j : Nat) (v : AV), xs[i]? = some x → x[j]? = some v → ∃ cv, cc[(ρ g).base + (off + i * sz + j)]? = some cv ∧ VRel (Kof ρ H w) ρ A (U i j) cv := fun i x j v hx hv => q6 _ _ (hU i x j v hx hv)
      refine .ro xs a len cap sz (ρ g).block ((ρ g).base + off) (fun i j => (cc[(ρ g).base + (off + i * sz + j)]?).getD undef) hl.symm hcl (fun hne => ?_) hsz (fun i x j v hx hv => ?_) (fun i x j v hx hv => ?_)
      · have hpos : 0 < xs.length := List.length_pos_iff.2 hne
        exact (hcap (by omega)).2
      · obtain ⟨cv, h1, h2⟩ := hex i x j v hx hv
        unfold zih
        rw [hKb]
        simp only [h1, Option.getD_some]
        rw [← h1]; congr 1; omega
      · obtain ⟨cv, h1, h2⟩ := hex i x j v hx hv
        rw [h1]
        exact ih i x j v hx hv cv h2
  | agg xs ys hl _ ih =>
    intro c hc
    cases hc with
    | agg _ cs h1 h2 =>
    exact .agg ys cs (by omega) fun j v c hv hc => by
        have hlt := (List.getElem?_eq_some_iff.1 hv).1
        have hx : xs[j]? = some (xs[j]'(by omega)) := List.getElem?_eq_getElem (by omega)
        exact ih j _ v hx hv c (h2 j _ c hx hc)
  | tup xs ys hl _ ih =>
    intro c hc
    cases hc with
    | tup _ cs h1 h2 =>
    exact .tup ys cs (by omega) fun j v c hv hc => by
        have hlt := (List.getElem?_eq_some_iff.1 hv).1
        have hx : xs[j]? = some (xs[j]'(by omega)) := List.getElem?_eq_getElem (by omega)
        exact ih j _ v hx hv c (h2 j _ c hx hc)
theorem za.gc {P : Program} {f : FuncId} {args : List AV} {H : Heap} {nx : Nat} {Q : AV → Heap → Nat → Prop} {R : AV → Heap → Prop} (h : za P f args H nx Q)
    (hq : ∀ v H' nx', Q v H' nx' → ∃ r H0, R r H0 ∧ Frz H' nx v r ∧ (∀ g o, H0 g = some o → g < nx ∧ H' g = some o ∧ (H g = some o ∨ BelO (· < nx) o))) :
    za P f args H nx fun v H' nx' => R v H' ∧ nx' = nx := by
  intro ρ w cargs s ha
  refine zav (h ρ w cargs s ha) fun cv w' ⟨v, H', nx', ρ', q1, q2, q3, q4⟩ => ?_
  obtain ⟨r, H0, hR, hF, h0⟩ := hq v H' nx' q1
  have h0' : ∀ g o, H0 g = some o → g < nx ∧ H' g = some o := fun g o ho => ⟨(h0 g o ho).1, (h0 g o ho).2.1⟩
  have hK : ∀ b o, Kof ρ' H' w' b = some o → Kof ρ' H0 w' b = some o := fun b o hb => by
    obtain ⟨h1, h2⟩ := zq.1 hb
    refine zq.2 ⟨fun g hg => ?_, h2⟩
    obtain ⟨o', ho'⟩ := Option.isSome_iff_exists.1 hg
    exact h1 g (by rw [(h0' g o' ho').2]; rfl)
  refine ⟨r, H0, nx, ρ', ⟨hR, rfl⟩, ⟨fun g o ho => (h0 g o ho).1, fun g o ho => ?_, fun x y hx hy hb => ?_, q2.lay.mono hK⟩, hF.rel q2 h0' cv q3, ⟨fun g hg => ⟨(q4.agree g hg).1, hg⟩, fun b o hb => hK b o (q4.k b o hb), q4.os, q4.tape, q4.output, q4.size⟩⟩
  · obtain ⟨hg, hH', hbel⟩ := h0 g o ho
    have hobj := q2.obj g o hH'
    have hcells : BelO (· < nx) o := by
      rcases hbel with hs | hb
      · have := s.obj g o hs
        cases o with
        | row sz cells =>
          obtain ⟨_, _, _, _, _, _, _, _, _, p6⟩ := this
          intro j x hx
          obtain ⟨cv, _, hv⟩ := p6 j x hx
          exact hv.bel
        | mp es =>
          obtain ⟨en, cl, p1, p2, p3⟩ := this
          intro j kv hkv
          have hlt := (List.getElem?_eq_some_iff.1 hkv).1
          obtain ⟨a1, a2⟩ := p3 j kv _ hkv (Array.getElem?_eq_getElem (by omega))
          exact ⟨a1.bel, a2.bel⟩
      · exact hb
    cases o with
    | row sz cells =>
      obtain ⟨c, el, lo, hi, p1, p2, p3, p4, p5, p6⟩ := hobj
      exact ⟨c, el, lo, hi, p1, p2, p3, p4, p5, fun j x hx => let ⟨cv, a1, a2⟩ := p6 j x hx; ⟨cv, a1, (a2.restrict (hcells j x hx)).mono hK (fun _ h => ⟨rfl, h⟩)⟩⟩
    | mp es =>
      obtain ⟨en, cl, p1, p2, p3⟩ := hobj
      exact ⟨en, cl, p1, p2, fun j kv x hkv hx => let ⟨a1, a2⟩ := p3 j kv x hkv hx; ⟨(a1.restrict (hcells j kv hkv).1).mono hK (fun _ h => ⟨rfl, h⟩), (a2.restrict (hcells j kv hkv).2).mono hK (fun _ h => ⟨rfl, h⟩)⟩⟩
  · obtain ⟨o1, ho1⟩ := Option.isSome_iff_exists.1 hx
    obtain ⟨o2, ho2⟩ := Option.isSome_iff_exists.1 hy
    exact q2.inj x y (by rw [(h0' x o1 ho1).2]; rfl) (by rw [(h0' y o2 ho2).2]; rfl) hb
def QC (P : Program) (f : FuncId) (args : List AV) (r : AV) : Prop := ∀ H nx, za P f args H nx fun v H' nx' => v = r ∧ H' = H ∧ nx' = nx
theorem za.tidy {P : Program} {f : FuncId} {args : List AV} {H : Heap} {nx : Nat} {Q : AV → Heap → Nat → Prop} (h : (∀ g o, H g = some o → g < nx) → za P f args H nx Q) : za P f args H nx Q :=
  fun ρ w cargs s ha => h (fun g o ho => s.live g o ho) ρ w cargs s ha
theorem QC.of {P : Program} {f : FuncId} {args : List AV} {r : AV} (h : ∀ H nx, za P f args H nx fun v H' _ => Frz H' nx v r ∧ ∀ g, g < nx → H' g = H g) : QC P f args r := by
  intro H nx
  refine za.tidy fun hlive => ?_
  refine (za.gc (R := fun v H' => v = r ∧ H' = H) (h H nx) fun v H' nx' ⟨h1, h2⟩ => ⟨r, H, ⟨rfl, rfl⟩, h1, fun g o ho => ⟨hlive g o ho, by rw [h2 g (hlive g o ho)]; exact ho, .inl ho⟩⟩).mono fun v H' nx' ⟨⟨a, b⟩, c⟩ => ⟨a, b, c⟩
theorem Bel.mono {A B : Nat → Prop} {v : AV} (h : Bel A v) (hAB : ∀ g, A g → B g) : Bel B v := by
  induction h with
  | junk => exact .junk
  | und => exact .und
  | int k n => exact .int k n
  | bool b => exact .bool b
  | bany => exact .bany
  | str s => exact .str s
  | nilp => exact .nilp
  | nils => exact .nils
  | nilf => exact .nilf
  | nilm => exact .nilm
  | inil => exact .inil
  | ifc => exact .ifc
  | zs => exact .zs
  | ptr g off h => exact .ptr g off (hAB g h)
  | slc g off len h => exact .slc g off len (hAB g h)
  | amap g h => exact .amap g (hAB g h)
  | ro xs _ ih => exact .ro xs ih
  | rop cs o _ ih => exact .rop cs o ih
  | agg xs _ ih => exact .agg xs ih
  | tup xs _ ih => exact .tup xs ih
  | clo f xs _ ih => exact .clo f xs ih
theorem zaj.restrict {K : zg} {ρ : Nat → Loc} {A A' : Nat → Prop} {w : World} {l : Loc} {o : AObj} (h : zaj K ρ A w l o) (hb : BelO A' o) : zaj K ρ A' w l o := by
  cases o with
  | row sz cells =>
    obtain ⟨c, el, lo, hi, p1, p2, p3, p4, p5, p6⟩ := h
    exact ⟨c, el, lo, hi, p1, p2, p3, p4, p5, fun j x hx => let ⟨cv, a1, a2⟩ := p6 j x hx; ⟨cv, a1, a2.restrict (hb j x hx)⟩⟩
  | mp es =>
    obtain ⟨en, cl, p1, p2, p3⟩ := h
    exact ⟨en, cl, p1, p2, fun j kv x hkv hx => let ⟨a1, a2⟩ := p3 j kv x hkv hx; ⟨a1.restrict (hb j kv hkv).1, a2.restrict (hb j kv hkv).2⟩⟩
theorem zaj.bel {K : zg} {ρ : Nat → Loc} {A : Nat → Prop} {w : World} {l : Loc} {o : AObj} (h : zaj K ρ A w l o) : BelO A o := by
  cases o with
  | row sz cells =>
    obtain ⟨_, _, _, _, _, _, _, _, _, p6⟩ := h
    intro j x hx
    obtain ⟨cv, _, hv⟩ := p6 j x hx
    exact hv.bel
  | mp es =>
    obtain ⟨en, cl, p1, p2, p3⟩ := h
    intro j kv hkv
    have hlt := (List.getElem?_eq_some_iff.1 hkv).1
    obtain ⟨a1, a2⟩ := p3 j kv _ hkv (Array.getElem?_eq_getElem (by omega))
    exact ⟨a1.bel, a2.bel⟩
end Go.Proofs.YtpllgpgdcbgalaaDoor
namespace Go.Proofs.YtpllgpgdcbgalaaDoor
open Go Go.RowKit
theorem LRel.one {K : zg} {ρ : Nat → Loc} {A : Nat → Prop} {v : AV} {c : Value} (h : VRel K ρ A v c) : LRel K ρ A [v] [c] := LRel.cons h LRel.nil
structure OpA (P : Program) (t : TypeId) {α : Type} (av : α → List AV) (ok : α → Prop) : Prop where
  len : ∀ x, ok x → (av x).length = P.cellsOf t
  get : ∀ {H : Type} (enc : TypeId × Value → H) (w : World) (base : Nat) (sp : Nat → Bool) (held : Bool) (fuel : Nat) (cs : List Value) (x : DataW H × List MemPlace),
    DataW.trod enc P w base sp held fuel t cs = some x → (∀ n ∈ x.1.weights P t, n ≤ reachBytes) → ∃ y, ok y ∧ ∀ ρ A, LRel (fun b => w.heap[b]?) ρ A (av y) cs
theorem zzm {P : Program} {t : TypeId} (ht : P.underlying t = some .string) (hc : P.cellsOf t = 1) : OpA P t (fun s : List UInt8 => [.str s]) (fun s => s.length ≤ reachBytes) :=
  ⟨fun _ _ => hc.symm, fun enc w base sp held fuel cs x h hw => by
    obtain ⟨s, rfl, rfl, _⟩ := DataW.trod_string ht h
    exact ⟨s.data.toList, hw _ (by simp [DataW.weights]), fun ρ A => LRel.one (.str _)⟩⟩
theorem za.law {P : Program} {f : FuncId} {args : List AV} {r : AV} {cargs : Array Value} {w : World} {fn : Func} {c : Code} (hf : P.funcs[f]? = some fn) (hb : fn.body = some c) (hname : (fn.name == "runtime.NumGoroutine") = false)
    (hlay : LayK (fun b => w.heap[b]?)) (h : ∀ H nx, za P f args H nx fun v _ _ => v = r) (ha : ∀ ρ A, LRel (fun b => w.heap[b]?) ρ A args cargs.toList) :
    Calls P f cargs w fun e w' => ∃ v, e = .returned v ∧ (∃ K ρ A, VRel K ρ A r v) ∧ Below w.heap.size w w' := by
  have hk : Kof (fun _ => default) (fun _ => none) w = fun b => w.heap[b]? := by
    funext b
    unfold Kof
    rw [if_neg (by rintro ⟨g, hg, _⟩; simp at hg)]
  have s : Sim (fun x => x < 0) (fun _ => default) (fun _ => none) w := ⟨fun g o h => (by cases h), fun g o h => (by cases h), fun g g' h _ _ => (by cases h), by rw [hk]; exact hlay⟩
  have := h (fun _ => none) 0 (fun _ => default) w cargs s (by rw [hk]; exact ha _ _)
  have hcall : (callFunc f cargs).run P w = .ok (.enter f cargs) w := by
    have hname' : ¬ fn.name = "runtime.NumGoroutine" := by simpa using hname
    simp [callFunc, program, Sem.run_bind, Sem.run, hf, hname', hb, pure]
  rw [hcall] at this
  simp only [zac] at this
  refine this.mono fun e w' ⟨v, he, r', H', nx', ρ', q0, q1, q2, q3⟩ => ?_
  subst q0
  refine ⟨v, he, ⟨_, _, _, q2⟩, ⟨q3.os, q3.tape, q3.output, q3.size, fun k hk' => ?_⟩⟩
  have := q3.k k (w.heap[k]) (by rw [hk]; exact Array.getElem?_eq_getElem hk')
  rw [(zq.1 this).2, Array.getElem?_eq_getElem hk']
end Go.Proofs.YtpllgpgdcbgalaaDoor
namespace Go.Proofs.YtpllgpgdcbgalaaDoor
open Go Go.RowKit
theorem cStr : Tryd.prog.cellsOf 9 = 1 := by kernel_rfl
theorem oStr : OpA Tryd.prog 9 (fun s : List UInt8 => [.str s]) (fun s => s.length ≤ reachBytes) := zzm Tryd.underlying9 cStr
end Go.Proofs.YtpllgpgdcbgalaaDoor
namespace Go.Proofs.YtpllgpgdcbgalaaDoor
namespace WM
abbrev Bytes := List UInt8
def enc : Nat → Nat → Bytes
  | 0, u => [UInt8.ofNat u]
  | f + 1, u => if 128 ≤ u then UInt8.ofNat (u % 128 + 128) :: enc f (u / 128) else [UInt8.ofNat u]
def rot5 (u : Nat) : Nat := (u * 32 % 4294967296) ||| (u / 134217728)
def sumStep (s : Nat) (c : UInt8) : Nat := rot5 (s ^^^ c.toNat) * 16777619 % 4294967296
def sum (b : Bytes) : Nat := b.foldl sumStep 2166136261
end WM
end Go.Proofs.YtpllgpgdcbgalaaDoor
