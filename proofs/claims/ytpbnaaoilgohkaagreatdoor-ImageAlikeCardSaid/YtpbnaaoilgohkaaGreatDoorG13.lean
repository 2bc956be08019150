/- A function's text, run: the steps. What a run comes to is so: operations, and calls. What a run comes to is so: the text. What a run comes to is so: where the order is drawn. What a run comes to is so: a function. DERIVED: THE SHELF's CONTRACTS AT THIS DUMP, IN PLAIN WORDS (tools/lay-plain.mjs out of 'YtpbnaaoilgohkaaGreatDoorShelf0.lean', which tools/lay-shelf.mjs wrote): THE SAME DECLARATIONS UNDER THE SAME NAMES: 'import', 'namespace', 'open', 'def', 'theorem' AND NOTHING ELSE: no command of the shelf's: FOR A HAND-IN. Each laying: the table of numbers ('.._ren') and one theorem, a field a fact of the dump's own or the kernel's comparison; each contract: ONE APPLICATION. strconv.Itoa: a number's digits. strconv.Atoi: a word's number, and whether it is one. -/
import Derived.Test.YtpbnaaoilgohkaaGreatDoorG12
import Derived.LoopN
import Derived.Test.YtpbnaaoilgohkaaGreatDoorG6
import Derived.Shelf.Strconv.Atoi
import Derived.Shelf.Strconv.Itoa0
import Derived.Shelf.Strconv.Itoa1
import Derived.Shelf.LaysM
import Derived.Shelf.Strconv.Itoa2
import Derived.Shelf.Strconv.Itoa3
import Derived.Shelf.Strconv.AtoiErrFast
import Derived.Shelf.Strconv.ParseIntEmpty
import Derived.Shelf.Strconv.AtoiFail
import Derived.Shelf.Strconv.Clone
import Derived.Shelf.Strconv.SyntaxError
import Derived.Shelf.LaysC
import Derived.Shelf.Strconv.ToError
import Derived.Shelf.Strconv.Lower
import Derived.Shelf.Strconv.ParseUint10
import Derived.Shelf.Strconv.ParseUint10Empty
import Derived.Shelf.Strconv.ParseUint10Any
import Derived.Shelf.Strconv.ParseInt10
import Derived.Shelf.Strconv.AtoiLong
import Derived.Shelf.Strconv.AtoiInnerAll
import Derived.Shelf.Strconv.RangeError
import Derived.Shelf.Strconv.ToErrorRange
import Derived.Shelf.Strconv.AtoiAll
import Derived.Shelf.Strconv.ErrVarAll
import Derived.Ground.Names2Prog
import Derived.Test.YtpbnaaoilgohkaaGreatDoorProg
import Derived.Test.YtpbnaaoilgohkaaGreatDoorG5
import Derived.Lib.ItoaLen
set_option linter.unusedSimpArgs false
set_option linter.unusedVariables false
set_option maxRecDepth 8000
namespace Go.Proofs.YtpbnaaoilgohkaaGreatDoor
open Go Go.RowKit
abbrev XCl := Nat → List AV → HB → Nat → Option (AV × HB × Nat)
noncomputable def isH (H : HB) (g : Nat) : Bool := match H.get g with | some _ => true | none => false
noncomputable def chkD (H : HB) (rd fr : List Nat) (D : zl) : Bool := rd.all (isH H) && D.all fun p => isH H p.1 || fr.any fun g => Nat.beq p.1 g
noncomputable def zjc (seen : List Nat) : Nat → List Nat
  | 0 => []
  | n + 1 => bif seen.any (fun j => Nat.beq j n) then zjc seen n else n :: zjc seen n
section
variable (T : Nat → Option AT) (eqs : Nat → Bool)
noncomputable def xpl (o : Oper) (e : Operand → AV) (H : HB) (nx : Nat) : Option XR := match o.op with
  | .range t x => xg (zuz T t) (match e x with
    | .amap g => match H.get g with
      | some (.mp es) => some (.ptr nx 0, [g], [nx], [(nx, some (.it g es.length []))])
      | _ => none
    | _ => none)
  | .next x false => match e x with
    | .ptr y 0 => match H.get y with
      | some (.it g n seen) => match H.get g with
        | some (.mp es) => xg (Nat.beq es.length n) (match zjc seen n with
          | [] => some (.tup [.bool false], [y, g], [], [])
          | [i] => match es[i]? with
            | some e => some (.tup [.bool true, e.1, e.2], [y, g], [], [(y, some (.it g n (seen ++ [i])))])
            | none => none
          | _ => none)
        | _ => none
      | _ => none
    | _ => none
  | .entry x => match e x with
    | .ptr y 0 => match H.get y with
      | some (.it g n seen) => match H.get g with
        | some (.mp es) => xg (Nat.beq es.length n) (match seen.getLast? with
          | some i => match es[i]? with
            | some e => some (.tup [e.1, e.2], [y, g], [], [])
            | none => none
          | none => none)
        | _ => none
      | _ => none
    | _ => none
  | _ => xaop T eqs e (toH H) nx o
section
variable {β : Type} (call : XCl)
noncomputable def xcal (o : Oper) (e : Operand → AV) : Option (Nat × List AV) := match o.op with
  | .call c => match c.callee with
    | .value f => match e f with
      | .clo f cap => some (f, c.args.toList.map e ++ cap)
      | _ => none
    | _ => none
  | _ => none
noncomputable def zpu (o : Oper) (E : EB) (H : HB) (nx : Nat) (c : AV → HB → Nat → Option β) : Option β := match isCl o with
  | true => match xcal o (toE E).ev with
    | some (f, args) => match call f args H nx with
      | some (v, H, nx) => c v H nx
      | none => none
    | none => none
  | false => match xpl T eqs o (toE E).ev H nx with
    | some (v, rd, fr, D) => match chkD H rd fr D with
      | true => fV v fun v => putD D H fun H => fN (nx + fr.length) fun nx => c v H nx
      | false => none
    | none => none
noncomputable def xops (all : List Oper) : List Oper → zau → EB → HB → Nat → (EB → HB → Nat → Option β) → Option β
  | [], _, E, H, nx, c => c E H nx
  | o :: r, kn, E, H, nx, c => match o.guard with
    | none => zpu T eqs call o E H nx fun v H nx => putE E o.dst v fun E => xops all r (zbw o.dst kn) E H nx c
    | some (j, want) => match gdst all j with
      | none => none
      | some t => match znj t kn with
        | some none => putE E o.dst .und fun E => xops all r (zcb o.dst kn) E H nx c
        | some (some b) => match b == want with
          | true => zpu T eqs call o E H nx fun v H nx => putE E o.dst v fun E => xops all r (zbw o.dst kn) E H nx c
          | false => putE E o.dst .und fun E => xops all r (zcb o.dst kn) E H nx c
        | none => match toE E t with
          | .bool b => match b == want with
            | true => zpu T eqs call o E H nx fun v H nx => putE E o.dst v fun E => xops all r (zbw o.dst ((t, some b) :: kn)) E H nx c
            | false => putE E o.dst .und fun E => xops all r (zcb o.dst ((t, some b) :: kn)) E H nx c
          | _ => none
/-! Where the order is drawn. -/
def zpe : Nat → AV → List Nat → List Nat
  | 0, _, l => l
  | n + 1, v, l => match v with
    | .ptr g _ | .slc g _ _ | .amap g => bif l.any (Nat.beq g) then l else g :: l
    | .agg xs | .tup xs | .clo _ xs => xs.foldl (fun l v => zpe n v l) l
    | _ => l
noncomputable def zlx (H : HB) : Nat → List Nat → List Nat → List Nat
  | 0, _, done => done
  | _ + 1, [], done => done
  | f + 1, g :: todo, done => bif done.any (Nat.beq g) then zlx H f todo done else match H.get g with
    | some (.row _ cs) => zlx H f (cs.foldl (fun l v => zpe 3 v l) todo) (g :: done)
    | some (.mp es) => zlx H f (es.foldl (fun l v => zpe 3 v.2 l) todo) (g :: done)
    | _ => zlx H f todo done
noncomputable def zbm (H : HB) : List Nat → HB
  | [] => .nil
  | g :: r => match H.get g with
    | some o => Tr.setK (g + 1) (zbm H r) g (some o) id
    | none => zbm H r
noncomputable def zef (H H' : HB) : List Nat → zl
  | [] => []
  | g :: r => match H'.get g with
    | o => match obEq (H.get g) o with
      | true => zef H H' r
      | false => (g, o) :: zef H H' r
def zcw (nx : Nat) : Nat → List Nat
  | 0 => []
  | n + 1 => nx :: zcw (nx + 1) n
noncomputable def zvi (f : Nat) (args : List AV) (H : HB) (nx : Nat) : Option XR :=
  match zlx H 1000 (args.foldl (fun l v => zpe 3 v l) []) [] with
  | rs => match zbm H rs with
    | H0 => match call f args H0 nx with
      | some (v, H1, nx1) => match zcw nx (nx1 - nx) with
        | fr => some (v, rs, fr, zef H0 H1 rs ++ fr.map fun g => (g, H1.get g))
      | none => none
noncomputable def zrn (o : Oper) (E : EB) (H : HB) (nx : Nat) : Option XR := match isCl o with
  | true => match xcal o (toE E).ev with
    | some (f, args) => zvi call f args H nx
    | none => none
  | false => xaop T eqs (toE E).ev (toH H) nx o
noncomputable def zmt (all : List Oper) : List Oper → zau → EB → HB → Nat → List Rec → (EB → HB → Nat → List Rec → Option β) → Option β
  | [], _, E, H, nx, log, c => c E H nx log
  | o :: r, kn, E, H, nx, log, c =>
    let run : zau → Option β := fun kn => match zrn T eqs call o E H nx with
      | some (v, rd, fr, D) => match chkD H rd fr D with
        | true => fV v fun v => putD D H fun H' => fN (nx + fr.length) fun nx' => putE E o.dst v fun E' => zmt all r (zbw o.dst kn) E' H' nx' (log ++ [⟨v, rd, fr, D, false, fun _ => .junk, fun _ => none, ptOf T (toE E).ev o, isCl o⟩]) c
        | false => none
      | none => none
    let skip : zau → Option β := fun kn => putE E o.dst .und fun E' => zmt all r (zcb o.dst kn) E' H nx (log ++ [⟨.und, [], [], [], true, fun _ => .junk, fun _ => none, none, false⟩]) c
    match o.guard with
    | none => run kn
    | some (j, want) => match gdst all j with
      | none => none
      | some t => match znj t kn with
        | some none => skip kn
        | some (some b) => match b == want with
          | true => run kn
          | false => skip kn
        | none => match toE E t with
          | .bool b => match b == want with
            | true => run ((t, some b) :: kn)
            | false => skip ((t, some b) :: kn)
          | _ => none
def zvb (l m : List Nat) : Bool := l.all fun g => !m.any (Nat.beq g)
def zakj (g q : Nat) (v : AV) (D : zl) : Bool := D.all fun p => !Nat.beq p.1 g || match p.2 with
  | some (.row _ cs) => match cs[q]? with | some u => avEq 40 u v | none => false
  | _ => false
def zagy (a b : Rec) : Bool := match b.cl, a.pt with
  | true, some (.ptr g q) => zakj g q a.v b.D
  | _, _ => zvb (domD b.D) a.rd
def zaar (L : List Rec) (p : Nat × Nat) : Bool := match L[p.1]?, L[p.2]? with
  | some a, some b => zvb (domD a.D) b.rd && zvb (domD a.D) (domD b.D) && zagy a b
  | _, _ => false
/-! The text. -/
inductive XO where
  | nrm | exi (i : Nat) | ret
noncomputable def zrm (body : EB → HB → Nat → Option (XO × EB × HB × Nat)) : Nat → EB → HB → Nat → Option (XO × EB × HB × Nat)
  | 0, _, _, _ => none
  | n + 1, E, H, nx => match body E H nx with
    | some (x, E, H, nx) => match x with
      | .nrm => zrm body n E H nx
      | .exi i => some (.exi i, E, H, nx)
      | .ret => some (.ret, E, H, nx)
    | none => none
noncomputable def zbp : Code → EB → HB → Nat → Option (XO × EB × HB × Nat)
  | .skip, E, H, nx => some (.nrm, E, H, nx)
  | .label _, E, H, nx => some (.nrm, E, H, nx)
  | .exit i, E, H, nx => some (.exi i, E, H, nx)
  | .ret, E, H, nx => some (.ret, E, H, nx)
  | .region _ ops false, E, H, nx => xops T eqs call ops.toList ops.toList [] E H nx fun E H nx => some (.nrm, E, H, nx)
  | .region _ ops true, E, H, nx => zmt T eqs call ops.toList ops.toList [] E H nx [] fun E H nx log => match (zmj ops).all (zaar log) with
    | true => some (.nrm, E, H, nx)
    | false => none
  | .seq a b, E, H, nx => match zbp a E H nx with
    | some (x, E, H, nx) => match x with
      | .nrm => zbp b E H nx
      | .exi i => some (.exi i, E, H, nx)
      | .ret => some (.ret, E, H, nx)
    | none => none
  | .cond c a b, E, H, nx => match (toE E).ev c with
    | .bool t => match t with
      | true => zbp a E H nx
      | false => zbp b E H nx
    | _ => none
  | .block id a, E, H, nx => match zbp a E H nx with
    | some (x, E, H, nx) => match x with
      | .nrm => some (.nrm, E, H, nx)
      | .exi i => match Nat.beq i id with
        | true => some (.nrm, E, H, nx)
        | false => some (.exi i, E, H, nx)
      | .ret => some (.ret, E, H, nx)
    | none => none
  | .loop a, E, H, nx => zrm (zbp a) 3000 E H nx
  | .scope a, E, H, nx => zbp a E H nx
  | _, _, _, _ => none
noncomputable def xret : List ResultVar → EB → HB → (List AV → Option β) → Option β
  | [], _, _, c => c []
  | .tmp t :: r, E, H, c => fV0 (toE E t) fun v => xret r E H fun vs => c (v :: vs)
  | .cell a t :: r, E, H, c => match T t with
    | some at_ => match zpv at_.kind.isAgg at_.size (toE E a) (toH H) with
      | some (v, _, _, _) => fV v fun v => xret r E H fun vs => c (v :: vs)
      | none => none
    | none => none
noncomputable def zvc : List AV → Nat → EB → (EB → Option β) → Option β
  | [], _, E, c => c E
  | v :: r, t, E, c => fV v fun v => Tr.setK (t + 1) E t (some v) fun E => zvc r (t + 1) E c
end
noncomputable def xfun (P : Program) (ok : Nat → Bool) (orc : Nat → List AV → Option AV) : Nat → XCl
  | 0, _, _, _, _ => none
  | n + 1, f, args, H, nx => match orc f args with
    | some v => some (v, H, nx)
    | none => match ok f with
      | false => none
      | true => match P.funcs[f]? with
        | some fn => match fn.body with
          | some c => match Nat.ble args.length fn.ntmps with
            | true => zvc args 0 .nil fun E => match zbp T eqs (xfun P ok orc n) c E H nx with
              | some (x, E, H, nx) => match x with
                | .exi _ => none
                | .nrm => xret T fn.results.toList E H fun vs => some (match vs with | [v] => v | vs => .tup vs, H, nx)
                | .ret => xret T fn.results.toList E H fun vs => some (match vs with | [v] => v | vs => .tup vs, H, nx)
              | none => none
            | false => none
          | none => none
        | none => none
end
end Go.Proofs.YtpbnaaoilgohkaaGreatDoor
set_option maxRecDepth 8000
namespace Go.Proofs.YtpbnaaoilgohkaaGreatDoor
open Go Go.RowKit
theorem zjf {H : HB} {g : Nat} : isH H g = true ↔ ∃ o, toH H g = some o := by
  unfold isH toH
  cases H.get g <;> simp
theorem zhc {H : HB} {g : Nat} (h : ¬ isH H g = true) : toH H g = none := by
  cases e : toH H g with
  | none => rfl
  | some o => exact absurd (zjf.2 ⟨o, e⟩) h
def Tk (X : HB) (n0 nE : Nat) (g : Nat) : Prop := isH X g = true ∨ (n0 ≤ g ∧ g < nE)
open Classical in
noncomputable def mix (Hm : Heap) (X : HB) (n0 nE : Nat) (H : HB) : Heap := fun g => if Tk X n0 nE g then toH H g else Hm g
theorem zcl {Hm : Heap} {X : HB} {n0 nE : Nat} {H : HB} {g : Nat} (h : Tk X n0 nE g) : mix Hm X n0 nE H g = toH H g := if_pos h
theorem zed {Hm : Heap} {X : HB} {n0 nE : Nat} {H : HB} {g : Nat} (h : ¬ Tk X n0 nE g) : mix Hm X n0 nE H g = Hm g := if_neg h
def zahi (A : Nat → Prop) (ρ : Nat → Loc) (Hm : Heap) (w : World) (H : HB) (nx : Nat) (v : AV) (H' : HB) (nx' : Nat) (cv : Value) (w' : World) : Prop :=
  ∃ ρ', Sim (fun g => A g ∨ nx ≤ g ∧ g < nx') ρ' (mix Hm H nx nx' H') w' ∧ VRel (Kof ρ' (mix Hm H nx nx' H') w') ρ' (fun g => A g ∨ nx ≤ g ∧ g < nx') v cv ∧ Fr A ρ Hm w (fun g => A g ∨ nx ≤ g ∧ g < nx') ρ' (mix Hm H nx nx' H') w'
structure Does (P : Program) (H : HB) (nx : Nat) (v : AV) (H' : HB) (nx' : Nat) (pre : zh → (Nat → Loc) → (Nat → Prop) → Prop) (run : World → Result Next) : Prop where
  le : nx ≤ nx'
  dom : ∀ g, isH H' g = true → isH H g = true ∨ nx ≤ g ∧ g < nx'
  run : ∀ (A : Nat → Prop) (ρ : Nat → Loc) (Hm : Heap) (w : World), Bdd A → Sim A ρ Hm w → pre (Kof ρ Hm w) ρ A → (∀ g, isH H g = true → Hm g = toH H g) → (∀ g, nx ≤ g → g < nx' → ¬ A g) → zo P (zahi A ρ Hm w H nx v H' nx') (run w)
theorem zabt {D : zl} : ∀ {H : Heap} {g : Nat} {o : AObj}, H.apply D g = some o → g ∈ domD D ∨ H g = some o := by
  intro H g o h
  by_cases hg : g ∈ domD D
  · exact .inl hg
  · rw [zbx D H g hg] at h; exact .inr h
theorem zuh {H : HB} {rd fr : List Nat} {D : zl} (h : chkD H rd fr D = true) : (∀ g ∈ rd, isH H g = true) ∧ ∀ g ∈ domD D, isH H g = true ∨ g ∈ fr := by
  unfold chkD at h
  simp only [Bool.and_eq_true, List.all_eq_true, Bool.or_eq_true, List.any_eq_true, Nat.beq_eq] at h
  refine ⟨h.1, fun g hg => ?_⟩
  obtain ⟨p, hp, rfl⟩ := List.mem_map.1 hg
  rcases h.2 p hp with h | ⟨x, hx, e⟩
  · exact .inl h
  · exact .inr (e ▸ hx)
theorem Does.eff {P : Program} {o : Oper} {e : Operand → AV} {H : HB} {nx : Nat} {v : AV} {rd fr : List Nat} {D : zl} (he : EffB P o e (toH H) rd fr D v) (hfr : ∀ g, g ∈ fr ↔ nx ≤ g ∧ g < nx + fr.length) (hc : chkD H rd fr D = true) (ev : Operand → Value) :
    Does P H nx v (zgn D H) (nx + fr.length) (fun K ρ A => ∀ x ∈ o.op.operands.toList, VRel K ρ A (e x) (ev x)) fun w => (execOp ev o).run P w := by
  obtain ⟨c1, c2⟩ := zuh hc
  refine ⟨by omega, fun g hg => ?_, fun A ρ Hm w hB s hx hag hfree => ?_⟩
  · obtain ⟨ob, h⟩ := zjf.1 hg
    rw [zlv] at h
    rcases zabt h with h | h
    · rcases c2 g h with h | h
      · exact .inl h
      · exact .inr ((hfr g).1 h)
    · exact .inl (zjf.2 ⟨ob, h⟩)
  · refine zi (he A ρ Hm w ev hB s hx (fun g hg => hag g (c1 g hg)) fun g hg => hfree g ((hfr g).1 hg).1 ((hfr g).1 hg).2) fun cv w' ⟨ρ', q1, q2, q3⟩ => ?_
    have hA : (fun x => A x ∨ x ∈ fr) = (fun g => A g ∨ nx ≤ g ∧ g < nx + fr.length) := by funext g; rw [hfr]
    have hH : Hm.apply D = mix Hm H nx (nx + fr.length) (zgn D H) := by
      funext g
      by_cases ht : Tk H nx (nx + fr.length) g
      · rw [zcl ht, zlv]
        refine zgt D _ _ g (.inl ?_)
        by_cases hi : isH H g = true
        · exact hag g hi
        · rw [zhc hi]
          rcases ht with h | h
          · exact absurd h hi
          · cases e : Hm g with
            | none => rfl
            | some o => exact absurd (s.live g o e) (hfree g h.1 h.2)
      · rw [zed ht]
        refine zbx D Hm g fun hg => ht ?_
        rcases c2 g hg with h | h
        · exact .inl h
        · exact .inr ((hfr g).1 h)
    rw [hA, hH] at q1 q2 q3
    exact ⟨ρ', q1, q2, q3⟩
theorem zact {nx : Nat} {fr : List Nat} (h : fr = [] ∨ fr = [nx]) (g : Nat) : g ∈ fr ↔ nx ≤ g ∧ g < nx + fr.length := by
  rcases h with rfl | rfl
  · simp
  · simp; omega
theorem zey {seen : List Nat} : ∀ {n i : Nat}, i ∈ zjc seen n ↔ i < n ∧ i ∉ seen
  | 0, i => by simp [zjc]
  | n + 1, i => by
    unfold zjc
    cases h : seen.any (fun j => Nat.beq j n) with
    | true =>
      simp only [cond_true, zey]
      simp only [List.any_eq_true, Nat.beq_eq] at h
      obtain ⟨j, hj, rfl⟩ := h
      constructor
      · rintro ⟨h1, h2⟩; exact ⟨by omega, h2⟩
      · rintro ⟨h1, h2⟩
        exact ⟨by rcases Nat.lt_or_ge i j with h | h
                  · exact h
                  · exact absurd hj (by rwa [show j = i by omega]), h2⟩
    | false =>
      simp only [cond_false, List.mem_cons, zey]
      have hn : n ∉ seen := fun hn => by
        have : seen.any (fun j => Nat.beq j n) = true := List.any_eq_true.2 ⟨n, hn, by simp⟩
        rw [h] at this; cases this
      constructor
      · rintro (rfl | ⟨h1, h2⟩)
        · exact ⟨by omega, hn⟩
        · exact ⟨by omega, h2⟩
      · rintro ⟨h1, h2⟩
        rcases Nat.lt_or_ge i n with h | h
        · exact .inr ⟨h, h2⟩
        · exact .inl (by omega)
section
variable {P : Program} {T : Nat → Option AT} {eqs : Nat → Bool} (hT : TOk P T) (hE : EOk P T eqs)
include hT hE in
theorem zaij {o : Oper} {e : Operand → AV} {H : HB} {nx : Nat} {v : AV} {rd fr : List Nat} {D : zl} (h : xpl T eqs o e H nx = some (v, rd, fr, D)) : (fr = [] ∨ fr = [nx]) ∧ Eff P o e (toH H) rd fr D v := by
  unfold xpl at h
  split at h
  · rename_i t x hop
    rw [zja] at h
    obtain ⟨hm, h⟩ := h
    split at h
    · rename_i g hx
      split at h
      · rename_i es hg
        cases h
        unfold zuz at hm
        split at hm
        · rename_i kt el s0 b0 z0 ht
          obtain ⟨i, d, z, hat⟩ := hT.at ht
          exact ⟨.inr rfl, ztt hx hg (zly hat) hop⟩
        · cases hm
      · cases h
    · cases h
  · rename_i x hop
    split at h
    · rename_i y hx
      split at h
      · rename_i g n seen hy
        split at h
        · rename_i es hg
          rw [zja] at h
          obtain ⟨hn, h⟩ := h
          rw [Nat.beq_eq] at hn
          split at h
          · rename_i hu
            cases h
            refine ⟨.inl rfl, fun A ρ H1 w ev s hv hrd hfr => zi (zre s (by rw [← hx]; exact hv x (by simp [Op.operands, hop])) ((hrd y (by simp)).trans hy) ((hrd g (by simp)).trans hg) hn hop) fun cv w' q => ?_⟩
            rcases q with ⟨_, q⟩ | ⟨i, e, hi, hs, q⟩
            · exact q
            · have := zey (seen := seen) (n := n) (i := i) |>.2 ⟨by have := (List.getElem?_eq_some_iff.1 hi).1; omega, hs⟩
              rw [hu] at this; cases this
          · rename_i i hu
            split at h
            · rename_i u hu2
              cases h
              have hiu := zey (seen := seen) (n := n) (i := i) |>.1 (by rw [hu]; simp)
              refine ⟨.inl rfl, fun A ρ H1 w ev s hv hrd hfr => zi (zre s (by rw [← hx]; exact hv x (by simp [Op.operands, hop])) ((hrd y (by simp)).trans hy) ((hrd g (by simp)).trans hg) hn hop) fun cv w' q => ?_⟩
              rcases q with ⟨hall, q⟩ | ⟨j, e, hj, hs, q⟩
              · exact absurd (hall i hiu.1) hiu.2
              · have := zey (seen := seen) (n := n) (i := j) |>.2 ⟨by have := (List.getElem?_eq_some_iff.1 hj).1; omega, hs⟩
                rw [hu, List.mem_singleton] at this
                subst this
                rw [hu2] at hj
                cases hj
                exact q
            · cases h
          · cases h
        · cases h
      · cases h
    · cases h
  · rename_i x hop
    split at h
    · rename_i y hx
      split at h
      · rename_i g n seen hy
        split at h
        · rename_i es hg
          rw [zja] at h
          obtain ⟨hn, h⟩ := h
          rw [Nat.beq_eq] at hn
          split at h
          · rename_i i hl
            split at h
            · rename_i u hu
              cases h
              exact ⟨.inl rfl, zub hx hy hg hn hl hu hop⟩
            · cases h
          · cases h
        · cases h
      · cases h
    · cases h
  · obtain ⟨v', rd', fr', D', h1, h2, h3⟩ := zuo hT hE (zyp T eqs _ _ _ _ h (fun v' rd' fr' D' => v' = v ∧ rd' = rd ∧ fr' = fr ∧ D' = D) ⟨rfl, rfl, rfl, rfl⟩)
    obtain ⟨rfl, rfl, rfl, rfl⟩ := h3
    exact ⟨h1, h2⟩
def zfi (P : Program) (call : XCl) : Prop := ∀ f args H nx v H' nx', call f args H nx = some (v, H', nx') → ∀ cargs : Array Value, Does P H nx v H' nx' (fun K ρ A => LRel K ρ A args cargs.toList) fun w => (callFunc f cargs).run P w
theorem zabz {o : Oper} {e : Operand → AV} {f : Nat} {args : List AV} (h : xcal o e = some (f, args)) (ev : Operand → Value) {K : zh} {ρ : Nat → Loc} {A : Nat → Prop} (hx : ∀ x ∈ o.op.operands.toList, VRel K ρ A (e x) (ev x)) :
    ∃ cargs : Array Value, LRel K ρ A args cargs.toList ∧ ∀ w, (execOp ev o).run P w = (callFunc f cargs).run P w := by
  unfold xcal at h
  split at h
  · rename_i c hop
    split at h
    · rename_i y hc
      split at h
      · rename_i fid cap hf
        cases h
        have hfv := hx y (by simp [hop, Op.operands, Call.operands, hc])
        rw [hf] at hfv
        generalize hcv : ev y = cv at hfv
        cases hfv with
        | clo _ _ cs hl hR =>
          refine ⟨c.args.map ev ++ cs, ?_, fun w => ?_⟩
          · rw [Array.toList_append]
            exact LRel.append (LRel.ops fun x hx' => hx x (by simp only [hop, Op.operands, Call.operands, hc]; simp; exact .inr (by simpa using hx'))) ⟨by simpa using hl, fun j v u hv hu => hR j v u hv (by simpa using hu)⟩
          · simp only [execOp, hop, resolve, hc, hcv, Deferred.ofValue, Sem.run_bind, Sem.run_pure, Result.andThen_ok, invoke, Array.empty_append]
      · cases h
    · cases h
  · cases h
theorem Does.call {call : XCl} (hcall : zfi P call) {o : Oper} {e : Operand → AV} {f : Nat} {args : List AV} (h : xcal o e = some (f, args)) {H : HB} {nx : Nat} {v : AV} {H' : HB} {nx' : Nat} (hc : call f args H nx = some (v, H', nx')) (ev : Operand → Value) :
    Does P H nx v H' nx' (fun K ρ A => ∀ x ∈ o.op.operands.toList, VRel K ρ A (e x) (ev x)) fun w => (execOp ev o).run P w := by
  have d := hcall f args H nx v H' nx' hc
  refine ⟨(d #[]).le, (d #[]).dom, fun A ρ Hm w hB s hx hag hfree => ?_⟩
  obtain ⟨cargs, h1, h2⟩ := zabz (P := P) h ev hx
  simp only [h2]
  exact (d cargs).run A ρ Hm w hB s h1 hag hfree
include hT hE in
theorem zaea {β : Type} {call : XCl} (hcall : zfi P call) {o : Oper} {E : EB} {H : HB} {nx : Nat} {c : AV → HB → Nat → Option β} {r : β} (h : zpu T eqs call o E H nx c = some r) :
    ∃ v H' nx', c v H' nx' = some r ∧ ∀ ev, Does P H nx v H' nx' (fun K ρ A => ∀ x ∈ o.op.operands.toList, VRel K ρ A ((toE E).ev x) (ev x)) fun w => (execOp ev o).run P w := by
  unfold zpu at h
  split at h
  · split at h
    · rename_i f args hx
      split at h
      · rename_i v H' nx' hc
        exact ⟨v, H', nx', h, fun ev => Does.call hcall hx hc ev⟩
      · cases h
    · cases h
  · split at h
    · rename_i v rd fr D hx
      split at h
      · rename_i hck
        rw [zse, zpy, zva] at h
        obtain ⟨h1, h2⟩ := zaij hT hE hx
        exact ⟨v, _, _, h, fun ev => Does.eff (fun A ρ H w ev _ s hx hr hf => h2 A ρ H w ev s hx hr hf) (zact h1) hck ev⟩
      · cases h
    · cases h
end
end Go.Proofs.YtpbnaaoilgohkaaGreatDoor
set_option maxRecDepth 8000
namespace Go.Proofs.YtpbnaaoilgohkaaGreatDoor
open Go Go.RowKit
section
variable {P : Program} {T : Nat → Option AT} {eqs : Nat → Bool} (hT : TOk P T) (hE : EOk P T eqs)
variable {A0 : Nat → Prop} {ρ0 : Nat → Loc} {Hi : Heap} {w0 : World} {X : HB} {n0 nE N : Nat}
abbrev AX (A0 : Nat → Prop) (n0 nx : Nat) : Nat → Prop := fun g => A0 g ∨ n0 ≤ g ∧ g < nx
structure SX (A0 : Nat → Prop) (ρ0 : Nat → Loc) (Hi : Heap) (w0 : World) (X : HB) (n0 nE N : Nat) (E : EB) (H : HB) (nx : Nat) (a : Act) (w : World) : Prop where
  ex : ∃ ρ, Sim (AX A0 n0 nx) ρ (mix Hi X n0 nE H) w ∧ (∀ t, VRel (Kof ρ (mix Hi X n0 nE H) w) ρ (AX A0 n0 nx) (toE E t) (a.tmps.getD t undef)) ∧ Fr A0 ρ0 Hi w0 (AX A0 n0 nx) ρ (mix Hi X n0 nE H) w
  size : a.tmps.size = N
  defers : a.defers = []
  le : n0 ≤ nx
  dom : ∀ g, isH H g = true → Tk X n0 nx g
structure FX (A0 : Nat → Prop) (n0 nE : Nat) : Prop where
  free : ∀ g, n0 ≤ g → g < nE → ¬ A0 g
  bdd : Bdd A0
theorem Tk.mono {g m n : Nat} (h : Tk X n0 m g) (hm : m ≤ n) : Tk X n0 n g := h.imp id fun ⟨a, b⟩ => ⟨a, by omega⟩
theorem zaia {H H' : HB} {nx nx' : Nat} (h0 : n0 ≤ nx) (h1 : nx' ≤ nE) (hle : nx ≤ nx') (hd : ∀ g, isH H g = true → Tk X n0 nx g) (hd' : ∀ g, isH H' g = true → isH H g = true ∨ nx ≤ g ∧ g < nx') :
    mix (mix Hi X n0 nE H) H nx nx' H' = mix Hi X n0 nE H' := by
  funext g
  by_cases ht : Tk H nx nx' g
  · rw [zcl ht, zcl]
    rcases ht with h | h
    · exact (hd g h).mono (by omega)
    · exact .inr ⟨by omega, by omega⟩
  · rw [zed ht]
    by_cases hk : Tk X n0 nE g
    · rw [zcl hk, zcl hk]
      rw [zhc fun h => ht (.inl h), zhc fun h => ht (hd' g h)]
    · rw [zed hk, zed hk]
theorem zahe {nx nx' : Nat} (h0 : n0 ≤ nx) (hle : nx ≤ nx') : (fun g => AX A0 n0 nx g ∨ nx ≤ g ∧ g < nx') = AX A0 n0 nx' := by
  funext g
  simp only [AX, eq_iff_iff]
  constructor
  · rintro ((h | h) | h)
    · exact .inl h
    · exact .inr ⟨h.1, by omega⟩
    · exact .inr ⟨by omega, h.2⟩
  · rintro (h | h)
    · exact .inl (.inl h)
    · rcases Nat.lt_or_ge g nx with h' | h'
      · exact .inl (.inr ⟨h.1, h'⟩)
      · exact .inr ⟨h', h.2⟩
theorem FX.bddX (fx : FX A0 n0 nE) {nx : Nat} : Bdd (AX A0 n0 nx) := by
  obtain ⟨M, hM⟩ := fx.bdd
  exact ⟨max M nx, fun g hg => by rcases hg with h | h
                                  · have := hM g h; omega
                                  · omega⟩
theorem zys {K : zh} {ρ : Nat → Loc} {A : Nat → Prop} {e : Env} {a : Act} (h : ∀ t, VRel K ρ A (e t) (a.tmps.getD t undef)) (x : Operand) : VRel K ρ A (e.ev x) (a.eval x) := by
  cases x with
  | tmp t => exact h t
  | const v => exact zna _ _ _ v
  | global g => exact .junk _
  | func f => exact .clo f [] #[] rfl fun j v c hv => by simp at hv
theorem SX.next (fx : FX A0 n0 nE) {E : EB} {H : HB} {nx : Nat} {a : Act} {w : World} (st : SX A0 ρ0 Hi w0 X n0 nE N E H nx a w) {v : AV} {H' : HB} {nx' : Nat} {pre : zh → (Nat → Loc) → (Nat → Prop) → Prop} {run : World → Result Next}
    (d : Does P H nx v H' nx' pre run) (hn : nx' ≤ nE) (hp : ∀ K ρ A, (∀ t, VRel K ρ A (toE E t) (a.tmps.getD t undef)) → pre K ρ A) {dd : Option Nat} (hd : ∀ t, dd = some t → t < N) :
    zo P (fun cv w' => SX A0 ρ0 Hi w0 X n0 nE N (zpx E dd v) H' nx' (a.put dd cv) w') (run w) := by
  obtain ⟨ρ, s, hv, f⟩ := st.ex
  have hle := d.le
  refine zi (d.run _ ρ _ w fx.bddX s (hp _ _ _ hv) (fun g hg => zcl ((st.dom g hg).mono (by omega))) fun g h1 h2 h3 => ?_) fun cv w' ⟨ρ', q1, q2, q3⟩ => ?_
  · rcases h3 with h | h
    · exact fx.free g (by have := st.le; omega) (by omega) h
    · omega
  · rw [zaia st.le hn hle st.dom d.dom, zahe st.le hle] at q1 q2 q3
    refine ⟨⟨ρ', q1, fun t => ?_, f.trans q3⟩, ?_, ?_, by have := st.le; omega, fun g hg => ?_⟩
    · rw [zeb, zdk, zla a dd t cv (by rw [st.size]; exact hd)]
      split
      · exact q2
      · exact (hv t).fr q3
    · cases dd <;> simp [Act.put, st.size]
    · cases dd <;> simp [Act.put, st.defers]
    · rcases d.dom g hg with h | h
      · exact (st.dom g h).mono hle
      · exact .inr ⟨by have := st.le; omega, h.2⟩
theorem SX.skip {E : EB} {H : HB} {nx : Nat} {a : Act} {w : World} (st : SX A0 ρ0 Hi w0 X n0 nE N E H nx a w) {dd : Option Nat} (hd : ∀ t, dd = some t → t < N) : SX A0 ρ0 Hi w0 X n0 nE N (zpx E dd .und) H nx (a.put dd undef) w := by
  obtain ⟨ρ, s, hv, f⟩ := st.ex
  refine ⟨⟨ρ, s, fun t => ?_, f⟩, ?_, ?_, st.le, st.dom⟩
  · rw [zeb, zdk, zla a dd t undef (by rw [st.size]; exact hd)]
    split
    · exact .und
    · exact hv t
  · cases dd <;> simp [Act.put, st.size]
  · cases dd <;> simp [Act.put, st.defers]
def zaz (H : HB) (nx : Nat) (H' : HB) (nx' : Nat) : Prop := nx ≤ nx' ∧ ∀ g, isH H' g = true → isH H g = true ∨ nx ≤ g ∧ g < nx'
theorem zaz.refl (H : HB) (nx : Nat) : zaz H nx H nx := ⟨Nat.le_refl _, fun _ h => .inl h⟩
theorem zaz.trans {H H' H'' : HB} {nx nx' nx'' : Nat} (h : zaz H nx H' nx') (k : zaz H' nx' H'' nx'') : zaz H nx H'' nx'' :=
  ⟨Nat.le_trans h.1 k.1, fun g hg => by
    have h1 := h.1
    have k1 := k.1
    rcases k.2 g hg with e | e
    · rcases h.2 g e with e | e
      · exact .inl e
      · exact .inr ⟨e.1, by omega⟩
    · exact .inr ⟨by omega, e.2⟩⟩
include hT hE in
theorem zsl {β : Type} {call : XCl} (hcall : zfi P call) (fx : FX A0 n0 nE) {all : Array Oper} : ∀ (rest : List Oper) (kn : zau) (E : EB) (H : HB) (nx : Nat) (c : EB → HB → Nat → Option β) (r : β), xops T eqs call all.toList rest kn E H nx c = some r → zho N rest = true → (∀ t, (∃ o ∈ all.toList, o.dst = some t) → t < N) → KnOk kn (toE E) →
    ∃ E' H' nx', c E' H' nx' = some r ∧ zaz H nx H' nx' ∧ (nx' ≤ nE → ∀ a w, SX A0 ρ0 Hi w0 X n0 nE N E H nx a w → wpList P all (fun e a w => e = .normal ∧ SX A0 ρ0 Hi w0 X n0 nE N E' H' nx' a w) rest a w)
  | [], kn, E, H, nx, c, r, h, _, _, _ => ⟨E, H, nx, h, zaz.refl H nx, fun _ a w st => wpList_nil ⟨rfl, st⟩⟩
  | o :: rest, kn, E, H, nx, c, r, h, hd, hall, hkn => by
    simp only [zho, Bool.and_eq_true] at hd
    have hdo : ∀ t, o.dst = some t → t < N := fun t ht => by have := hd.1; rw [ht] at this; simpa using this
    have run : ∀ kn1, KnOk kn1 (toE E) → zpu T eqs call o E H nx (fun v H nx => putE E o.dst v fun E => xops T eqs call all.toList rest (zbw o.dst kn1) E H nx c) = some r → (∀ (ρ : Nat → Loc) (Hm : Heap) (w : World) (A : Nat → Prop) (a : Act), a.tmps.size = N → (∀ t, VRel (Kof ρ Hm w) ρ A (toE E t) (a.tmps.getD t undef)) → Region.wanted o (yielded all a.tmps) = true) →
        ∃ E' H' nx', c E' H' nx' = some r ∧ zaz H nx H' nx' ∧ (nx' ≤ nE → ∀ a w, SX A0 ρ0 Hi w0 X n0 nE N E H nx a w → wpList P all (fun e a w => e = .normal ∧ SX A0 ρ0 Hi w0 X n0 nE N E' H' nx' a w) (o :: rest) a w) := by
      intro kn1 hk1 hs hw
      obtain ⟨v, H1, nx1, h1, hd1⟩ := zaea hT hE hcall hs
      rw [zpw] at h1
      obtain ⟨E', H', nx', h2, h3, h4⟩ := zsl hcall fx rest _ _ _ _ c r h1 hd.2 hall (by rw [zeb]; exact hk1.drop o.dst v)
      have hd0 := hd1 fun _ => undef
      refine ⟨E', H', nx', h2, zaz.trans ⟨hd0.le, hd0.dom⟩ h3, fun hn a w st => ?_⟩
      refine wpList_step fun K hK => ?_
      obtain ⟨ρ, s, hv, f⟩ := st.ex
      rw [if_pos (hw ρ _ w _ a st.size hv)]
      exact zin (st.next fx (hd1 a.eval) (by have := h3.1; omega) (fun K ρ A hv x _ => zys hv x) hdo) fun cv w' q => hK _ _ (h4 hn _ _ q)
    have skip : ∀ kn1, KnOk kn1 (toE E) → putE E o.dst .und (fun E => xops T eqs call all.toList rest (zcb o.dst kn1) E H nx c) = some r → (∀ (ρ : Nat → Loc) (Hm : Heap) (w : World) (A : Nat → Prop) (a : Act), a.tmps.size = N → (∀ t, VRel (Kof ρ Hm w) ρ A (toE E t) (a.tmps.getD t undef)) → Region.wanted o (yielded all a.tmps) = false) →
        ∃ E' H' nx', c E' H' nx' = some r ∧ zaz H nx H' nx' ∧ (nx' ≤ nE → ∀ a w, SX A0 ρ0 Hi w0 X n0 nE N E H nx a w → wpList P all (fun e a w => e = .normal ∧ SX A0 ρ0 Hi w0 X n0 nE N E' H' nx' a w) (o :: rest) a w) := by
      intro kn1 hk1 hs hw
      rw [zpw] at hs
      obtain ⟨E', H', nx', h2, h3, h4⟩ := zsl hcall fx rest _ _ _ _ c r hs hd.2 hall (by rw [zeb]; exact hk1.skip o.dst)
      refine ⟨E', H', nx', h2, h3, fun hn a w st => ?_⟩
      refine wpList_step fun K hK => ?_
      obtain ⟨ρ, s, hv, f⟩ := st.ex
      rw [if_neg (by rw [hw ρ _ w _ a st.size hv]; simp)]
      exact hK _ _ (h4 hn _ _ (st.skip hdo))
    simp only [xops] at h
    split at h
    · rename_i hg
      exact run kn hkn h fun _ _ _ _ a _ _ => by simp [Region.wanted, hg]
    · rename_i j want hg
      split at h
      · cases h
      · rename_i t ht
        have htN : t < N := by
          obtain ⟨o', ho', hdst⟩ := Option.bind_eq_some_iff.1 ht
          exact hall t ⟨o', List.mem_of_getElem? ho', hdst⟩
        have hwant : ∀ (a : Act), a.tmps.size = N → Region.wanted o (yielded all a.tmps) = (match a.tmps.getD t undef with | .bool b => b == want | _ => false) := by
          intro a hsz
          have hy := zms ht a
          have hget : a.tmps[t]? = some (a.tmps.getD t undef) := by simp [Array.getD, hsz, htN]
          rw [hget] at hy
          have : Region.wanted o (yielded all a.tmps) = (yielded all a.tmps j == some want) := by simp [Region.wanted, hg]
          rw [this, hy]
          cases a.tmps.getD t undef <;> rfl
        have hbool : ∀ b, toE E t = .bool b → ∀ (ρ : Nat → Loc) (Hm : Heap) (w : World) (A : Nat → Prop) (a : Act), a.tmps.size = N → (∀ t, VRel (Kof ρ Hm w) ρ A (toE E t) (a.tmps.getD t undef)) → Region.wanted o (yielded all a.tmps) = (b == want) := by
          intro b hb ρ Hm w A a hsz hv
          have := hv t
          rw [hb] at this
          rw [hwant a hsz]
          generalize a.tmps.getD t undef = tv at this
          cases this
          rfl
        split at h
        · rename_i hk
          have hu := hkn t none (zcm hk)
          simp only at hu
          refine skip kn hkn h fun ρ Hm w A a hsz hv => ?_
          have := hv t
          rw [hu] at this
          rw [hwant a hsz]
          generalize a.tmps.getD t undef = tv at this
          cases this
          rfl
        · rename_i b hk
          have hb := hkn t (some b) (zcm hk)
          simp only at hb
          split at h
          · rename_i hbw
            exact run kn hkn h fun ρ Hm w A a hsz hv => by rw [hbool b hb ρ Hm w A a hsz hv, hbw]
          · rename_i hbw
            exact skip kn hkn h fun ρ Hm w A a hsz hv => by rw [hbool b hb ρ Hm w A a hsz hv, hbw]
        · split at h
          · rename_i b hb
            have hk2 : KnOk ((t, some b) :: kn) (toE E) := by
              have := hkn.know hb
              rwa [zjp hb] at this
            split at h
            · rename_i hbw
              exact run _ hk2 h fun ρ Hm w A a hsz hv => by rw [hbool b hb ρ Hm w A a hsz hv, hbw]
            · rename_i hbw
              exact skip _ hk2 h fun ρ Hm w A a hsz hv => by rw [hbool b hb ρ Hm w A a hsz hv, hbw]
          · cases h
end
end Go.Proofs.YtpbnaaoilgohkaaGreatDoor
set_option maxRecDepth 8000
namespace Go.Proofs.YtpbnaaoilgohkaaGreatDoor
open Go Go.RowKit
def zjj (r : Rec) : Rec := { r with env := fun _ => .junk, H := fun _ => none }
section
variable {P : Program} {T : Nat → Option AT} {eqs : Nat → Bool} (hT : TOk P T) (hE : EOk P T eqs)
variable {A0 : Nat → Prop} {ρ0 : Nat → Loc} {Hi : Heap} {w0 : World} {X : HB} {n0 nE N : Nat}
theorem EffB.at {o : Oper} {e : Operand → AV} {H H1 : Heap} {rd fr : List Nat} {D : zl} {v : AV} (h : EffB P o e H rd fr D v) (hr : ∀ g ∈ rd, H1 g = H g) : EffB P o e H1 rd fr D v :=
  fun A ρ Hm w ev hB s hx hrd hf => h A ρ Hm w ev hB s hx (fun g hg => (hrd g hg).trans (hr g hg)) hf
theorem zlf.at {o : Oper} {e : Operand → AV} {H H1 : Heap} {rd fr : List Nat} {D : zl} {v : AV} {pt : Option AV} (h : zlf P o e H rd fr D v pt) (hr : ∀ g ∈ rd, H1 g = H g) : zlf P o e H1 rd fr D v pt := by
  intro g q e
  obtain ⟨h1, h2, h3, h4, h5⟩ := h g q e
  exact ⟨h1, h2, h3, by rw [hr g (by rw [h1]; simp)]; exact h4, h5⟩
include hT hE in
theorem zagv {o : Oper} {env : Env} {H : Heap} {nx : Nat} {v : AV} {rd fr : List Nat} {D : zl} (h : xaop T eqs env.ev H nx o = some (v, rd, fr, D)) :
    (fr = [] ∨ fr = [nx]) ∧ EffB P o env.ev H rd fr D v ∧ (noW o = true → fr = [] ∧ D = []) ∧ zlf P o env.ev H rd fr D v (ptOf T env.ev o) := by
  obtain ⟨v', rd', fr', D', h1, h2, h3, h4⟩ := znt hT hE (zyp T eqs _ _ _ _ h (fun v' rd' fr' D' => v' = v ∧ rd' = rd ∧ fr' = fr ∧ D' = D) ⟨rfl, rfl, rfl, rfl⟩)
  obtain ⟨rfl, rfl, rfl, rfl⟩ := h3
  refine ⟨h1, fun A ρ H w ev _ s hx hr hf => h2 A ρ H w ev s hx hr hf, h4, fun g q hp => ?_⟩
  unfold ptOf at hp
  split at hp
  · rename_i t x hop
    split at hp
    · rename_i a hta
      split at hp
      · rename_i hag
        have hp := Option.some.inj hp
        obtain ⟨i, d, z, hat⟩ := hT.at hta
        have any : ∀ {H1 : Heap} {s : Nat} {cs : List AV} {v : AV}, H1 g = some (.row s cs) → cs[q]? = some v → EffB P o env.ev H1 [g] [] [] v := by
          intro H1 s cs v hg hv
          obtain ⟨v', rd', he, rfl, rfl⟩ := zrh (H0 := H1) (e := env.ev) (k := fun v' rd' _ _ => v' = v ∧ rd' = [g]) hat hop (by
            simp only [hp, LOAD, rdp, hg, ldv, hag, cond_false, hv, and_self])
          exact fun A ρ H w ev _ s hx hr hf => he A ρ H w ev s hx hr hf
        simp only [xaop, hop, hta, zpv, hp] at h
        cases hg : H g with
        | none => simp only [rdp, hg] at h; cases h
        | some ob =>
          cases ob with
          | mp es => simp only [rdp, hg] at h; cases h
          | it a b c => simp only [rdp, hg] at h; cases h
          | row s cs =>
            simp only [rdp, hg, ldv, hag, cond_false] at h
            cases hv : cs[q]? with
            | none => simp only [hv] at h; cases h
            | some u =>
              simp only [hv] at h
              cases h
              exact ⟨rfl, rfl, rfl, ⟨s, cs, by first | rfl | exact hg, hv⟩, fun H1 ⟨s', cs', h1, h2⟩ => any h1 h2⟩
      · cases hp
    · cases hp
  · cases hp
theorem ziq {H : HB} : ∀ {rs : List Nat} {g : Nat}, isH (zbm H rs) g = true → g ∈ rs ∧ toH (zbm H rs) g = toH H g
  | [], g, h => by simp [zbm, isH, Tr.get_nil] at h
  | x :: r, g, h => by
    unfold zbm at h ⊢
    cases hx : H.get x with
    | none =>
      rw [hx] at h
      obtain ⟨h1, h2⟩ := ziq h
      exact ⟨List.mem_cons_of_mem _ h1, h2⟩
    | some o =>
      simp only [hx] at h ⊢
      obtain ⟨ob, h'⟩ := zjf.1 h
      rw [zsv] at h' ⊢
      by_cases hg : g = x
      · subst hg
        exact ⟨by simp, by rw [Heap.put_at]; exact hx.symm⟩
      · rw [Heap.put_ne _ _ hg] at h' ⊢
        obtain ⟨h1, h2⟩ := ziq (zjf.2 ⟨ob, h'⟩)
        exact ⟨List.mem_cons_of_mem _ h1, h2⟩
theorem zuc {H H' : HB} : ∀ {rs : List Nat}, (∀ p ∈ zef H H' rs, p.2 = toH H' p.1) ∧ (∀ g ∈ domD (zef H H' rs), isH H g = true ∨ isH H' g = true) ∧ ∀ g ∈ rs, g ∉ domD (zef H H' rs) → toH H g = toH H' g
  | [] => ⟨fun p hp => (by cases hp), fun g hg => (by simp [zef, domD] at hg), fun g hg => (by cases hg)⟩
  | x :: r => by
    obtain ⟨h1, h2, h3⟩ := zuc (H := H) (H' := H') (rs := r)
    unfold zef
    simp only
    cases he : obEq (H.get x) (H'.get x) with
    | true =>
      refine ⟨h1, h2, fun g hg hn => ?_⟩
      rcases List.mem_cons.1 hg with rfl | hg
      · exact zahz he
      · exact h3 g hg hn
    | false =>
      refine ⟨fun p hp => ?_, fun g hg => ?_, fun g hg hn => ?_⟩
      · rcases List.mem_cons.1 hp with rfl | hp
        · rfl
        · exact h1 p hp
      · simp only [domD, List.map_cons, List.mem_cons] at hg
        rcases hg with rfl | hg
        · by_cases ha : isH H g = true
          · exact .inl ha
          · by_cases hb : isH H' g = true
            · exact .inr hb
            · have e1 : H.get g = none := zhc ha
              have e2 : H'.get g = none := zhc hb
              rw [e1, e2] at he
              cases he
        · exact h2 g hg
      · simp only [domD, List.map_cons, List.mem_cons, not_or] at hn
        rcases List.mem_cons.1 hg with rfl | hg
        · exact absurd rfl hn.1
        · exact h3 g hg hn.2
theorem znk : ∀ {n nx g : Nat}, g ∈ zcw nx n ↔ nx ≤ g ∧ g < nx + n
  | 0, nx, g => by simp [zcw]
  | n + 1, nx, g => by
    simp only [zcw, List.mem_cons, znk]
    omega
theorem zsc : ∀ (n nx : Nat), (zcw nx n).length = n
  | 0, _ => rfl
  | n + 1, nx => by simp [zcw, zsc n]
theorem zabs {D : zl} {f : Heap} (h : ∀ p ∈ D, p.2 = f p.1) : ∀ {H : Heap} {g : Nat}, g ∈ domD D → H.apply D g = f g := by
  induction D with
  | nil => intro H g hg; cases hg
  | cons p r ih =>
    intro H g hg
    obtain ⟨x, o⟩ := p
    simp only [domD, List.map_cons, List.mem_cons] at hg
    show ((H.put x o).apply r) g = f g
    by_cases hr : g ∈ domD r
    · exact ih (fun p hp => h p (List.mem_cons_of_mem _ hp)) hr
    · rw [zbx r _ g hr]
      rcases hg with rfl | hg
      · rw [Heap.put_at]; exact h (g, o) (by simp)
      · exact absurd hg hr
theorem zaby {call : XCl} (hcall : zfi P call) {o : Oper} {e : Operand → AV} {f : Nat} {args : List AV} (hx : xcal o e = some (f, args)) {H : HB} {nx : Nat} {v : AV} {rd fr : List Nat} {D : zl} (h : zvi call f args H nx = some (v, rd, fr, D)) :
    (∀ g, g ∈ fr ↔ nx ≤ g ∧ g < nx + fr.length) ∧ EffB P o e (toH H) rd fr D v := by
  unfold zvi at h
  simp only at h
  split at h
  · rename_i v1 H1 nx1 hc
    simp only [Option.some.injEq, Prod.mk.injEq] at h
    obtain ⟨rfl, rfl, rfl, rfl⟩ := h
    generalize hrs : zlx H 1000 (args.foldl (fun l v => zpe 3 v l) []) [] = rs at hc ⊢
    have d := fun ev => Does.call hcall hx hc ev
    have hle := (d fun _ => undef).le
    have hdom := (d fun _ => undef).dom
    have e1 : ∀ g, g ∈ zcw nx (nx1 - nx) ↔ nx ≤ g ∧ g < nx1 := fun g => by rw [znk]; omega
    refine ⟨fun g => by rw [zsc]; rw [znk], fun A ρ Hm w ev hB s hxx hrd hfr => ?_⟩
    have hag : ∀ g, isH (zbm H rs) g = true → Hm g = toH (zbm H rs) g := fun g hg => by
      obtain ⟨h1, h2⟩ := ziq hg
      rw [hrd g h1, h2]
    refine zi ((d ev).run A ρ Hm w hB s hxx hag fun g h1 h2 => hfr g ((e1 g).2 ⟨h1, h2⟩)) fun cv w' ⟨ρ', q1, q2, q3⟩ => ?_
    have hA : (fun g => A g ∨ nx ≤ g ∧ g < nx1) = (fun x => A x ∨ x ∈ zcw nx (nx1 - nx)) := by funext g; rw [e1]
    obtain ⟨m1, m2, m3⟩ := zuc (H := zbm H rs) (H' := H1) (rs := rs)
    have hH : mix Hm (zbm H rs) nx nx1 H1 = Hm.apply (zef (zbm H rs) H1 rs ++ (zcw nx (nx1 - nx)).map fun g => (g, H1.get g)) := by
      funext g
      have told : ∀ p ∈ zef (zbm H rs) H1 rs ++ (zcw nx (nx1 - nx)).map fun g => (g, H1.get g), p.2 = toH H1 p.1 := fun p hp => by
        rcases List.mem_append.1 hp with hp | hp
        · exact m1 p hp
        · obtain ⟨x, _, rfl⟩ := List.mem_map.1 hp; rfl
      have hdm : ∀ g, g ∈ domD (zef (zbm H rs) H1 rs ++ (zcw nx (nx1 - nx)).map fun g => (g, H1.get g)) ↔ g ∈ domD (zef (zbm H rs) H1 rs) ∨ (nx ≤ g ∧ g < nx1) := fun g => by
        rw [← e1]
        simp [domD]
      by_cases hg : g ∈ domD (zef (zbm H rs) H1 rs ++ (zcw nx (nx1 - nx)).map fun g => (g, H1.get g))
      · rw [zabs (f := toH H1) told hg, zcl]
        rcases (hdm g).1 hg with h | h
        · rcases m2 g h with h | h
          · exact .inl h
          · exact hdom g h
        · exact .inr h
      · rw [zbx _ _ _ hg]
        rw [hdm, not_or] at hg
        by_cases ht : Tk (zbm H rs) nx nx1 g
        · rw [zcl ht]
          rcases ht with ht | ht
          · rw [hag g ht]
            exact (m3 g (ziq ht).1 hg.1).symm
          · exact absurd ht hg.2
        · rw [zed ht]
    rw [hA, hH] at q1 q2 q3
    exact ⟨ρ', q1, q2, q3⟩
  · cases h
include hT hE in
theorem zabx {call : XCl} (hcall : zfi P call) {o : Oper} {E : EB} {H : HB} {nx : Nat} {v : AV} {rd fr : List Nat} {D : zl} (h : zrn T eqs call o E H nx = some (v, rd, fr, D)) :
    FrOk nx fr ∧ (∀ g, g ∈ fr ↔ nx ≤ g ∧ g < nx + fr.length) ∧ EffB P o (toE E).ev (toH H) rd fr D v ∧ (noW o = true → fr = [] ∧ D = []) ∧ zlf P o (toE E).ev (toH H) rd fr D v (ptOf T (toE E).ev o) := by
  unfold zrn at h
  split at h
  · rename_i hcl
    split at h
    · rename_i f args hx
      obtain ⟨h1, h2⟩ := zaby hcall hx h
      have hop : ∃ c, o.op = .call c := by
        unfold isCl at hcl
        split at hcl
        · exact ⟨_, by assumption⟩
        · cases hcl
      obtain ⟨c, hop⟩ := hop
      exact ⟨.inr (.inr fun g hg => (h1 g).1 hg), h1, h2, fun hn => by simp [noW, hop] at hn, fun g q e => by simp [ptOf, hop] at e⟩
    · cases h
  · obtain ⟨h1, h2, h3, h4⟩ := zagv hT hE h
    exact ⟨.of h1, zact h1, h2, h3, h4⟩
theorem zacs {H : HB} {D : zl} (hD : ∀ g ∈ domD D, Tk X n0 nE g) : (mix Hi X n0 nE H).apply D = mix Hi X n0 nE (zgn D H) := by
  funext g
  by_cases ht : Tk X n0 nE g
  · rw [zcl ht, zlv]
    exact zgt D _ _ g (.inl (zcl ht))
  · rw [zed ht, zbx D _ g fun h => ht (hD g h), zed ht]
include hT hE in
theorem zqw {β : Type} {call : XCl} (hcall : zfi P call) {all : List Oper} : ∀ (rest : List Oper) (kn : zau) (E : EB) (H : HB) (nx : Nat) (log : List Rec) (c : EB → HB → Nat → List Rec → Option β) (r : β), zmt T eqs call all rest kn E H nx log c = some r → KnOk kn (toE E) →
    ∃ L E' H' nx', c E' H' nx' (log ++ L.map zjj) = some r ∧ zaz H nx H' nx' ∧ (nx' ≤ nE → n0 ≤ nx → (∀ g, isH H g = true → Tk X n0 nx g) → zgu P all rest L (toE E) (mix Hi X n0 nE H) nx (toE E') (mix Hi X n0 nE H') nx')
  | [], kn, E, H, nx, log, c, r, h, _ => ⟨[], E, H, nx, by rw [List.map_nil, List.append_nil]; exact h, zaz.refl H nx, fun _ _ _ => ⟨rfl, rfl, rfl⟩⟩
  | o :: rest, kn, E, H, nx, log, c, r, h, hkn => by
    have run : ∀ kn1, KnOk kn1 (toE E) → (o.guard = none ∨ ∃ j want t, o.guard = some (j, want) ∧ gdst all j = some t ∧ toE E t = .bool want) →
        (match zrn T eqs call o E H nx with
          | some (v, rd, fr, D) => match chkD H rd fr D with
            | true => fV v fun v => putD D H fun H' => fN (nx + fr.length) fun nx' => putE E o.dst v fun E' => zmt T eqs call all rest (zbw o.dst kn1) E' H' nx' (log ++ [⟨v, rd, fr, D, false, fun _ => .junk, fun _ => none, ptOf T (toE E).ev o, isCl o⟩]) c
            | false => none
          | none => none) = some r →
        ∃ L E' H' nx', c E' H' nx' (log ++ L.map zjj) = some r ∧ zaz H nx H' nx' ∧ (nx' ≤ nE → n0 ≤ nx → (∀ g, isH H g = true → Tk X n0 nx g) → zgu P all (o :: rest) L (toE E) (mix Hi X n0 nE H) nx (toE E') (mix Hi X n0 nE H') nx') := by
      intro kn1 hk1 hg hs
      split at hs
      · rename_i v rd fr D hx
        split at hs
        · rename_i hck
          rw [zse, zpy, zva, zpw] at hs
          obtain ⟨h1, h2, h3, h4, h5⟩ := zabx hT hE hcall hx
          obtain ⟨c1, c2⟩ := zuh hck
          obtain ⟨L, E', H', nx', q1, q2, q3⟩ := zqw hcall rest _ _ _ _ _ c r hs (by rw [zeb]; exact hk1.drop o.dst v)
          have d := (Does.eff h3 h2 hck fun _ => undef)
          refine ⟨⟨v, rd, fr, D, false, toE E, mix Hi X n0 nE H, ptOf T (toE E).ev o, isCl o⟩ :: L, E', H', nx', by simpa [zjj] using q1, zaz.trans ⟨d.le, d.dom⟩ q2, fun hn hn0 hdm => ?_⟩
          have hle2 := q2.1
          have hrd : ∀ g ∈ rd, mix Hi X n0 nE H g = toH H g := fun g hg => zcl ((hdm g (c1 g hg)).mono (by omega))
          have hDk : ∀ g ∈ domD D, Tk X n0 nE g := fun g hg => by
            rcases c2 g hg with h | h
            · exact (hdm g h).mono (by omega)
            · have := (h2 g).1 h
              exact .inr ⟨by omega, by omega⟩
          refine ⟨rfl, rfl, ⟨h1, h4, ?_⟩, ?_⟩
          · simp only [Bool.false_eq_true, if_false]
            exact ⟨h3.at hrd, h5.at hrd, hg⟩
          · have := q3 hn (by omega) fun g hg => ?_
            · rw [zeb, ← zacs hDk] at this
              exact this
            · rcases d.dom g hg with h | h
              · exact (hdm g h).mono (by omega)
              · exact .inr ⟨by omega, h.2⟩
        · cases hs
      · cases hs
    have skip : ∀ kn1, KnOk kn1 (toE E) → (∃ j want t, o.guard = some (j, want) ∧ gdst all j = some t ∧ (toE E t = .und ∨ toE E t = .bool (!want))) →
        (putE E o.dst .und fun E' => zmt T eqs call all rest (zcb o.dst kn1) E' H nx (log ++ [⟨.und, [], [], [], true, fun _ => .junk, fun _ => none, none, false⟩]) c) = some r →
        ∃ L E' H' nx', c E' H' nx' (log ++ L.map zjj) = some r ∧ zaz H nx H' nx' ∧ (nx' ≤ nE → n0 ≤ nx → (∀ g, isH H g = true → Tk X n0 nx g) → zgu P all (o :: rest) L (toE E) (mix Hi X n0 nE H) nx (toE E') (mix Hi X n0 nE H') nx') := by
      intro kn1 hk1 hg hs
      rw [zpw] at hs
      obtain ⟨L, E', H', nx', q1, q2, q3⟩ := zqw hcall rest _ _ _ _ _ c r hs (by rw [zeb]; exact hk1.skip o.dst)
      refine ⟨⟨.und, [], [], [], true, toE E, mix Hi X n0 nE H, none, false⟩ :: L, E', H', nx', by simpa [zjj] using q1, q2, fun hn hn0 hdm => ⟨rfl, rfl, ⟨.inl rfl, fun _ => ⟨rfl, rfl⟩, (if_pos rfl).mpr ⟨rfl, rfl, rfl, rfl, rfl, hg⟩⟩, ?_⟩⟩
      have := q3 hn hn0 hdm
      rw [zeb] at this
      exact this
    simp only [zmt] at h
    split at h
    · rename_i hg
      exact run kn hkn (.inl hg) h
    · rename_i j want hg
      split at h
      · cases h
      · rename_i t ht
        split at h
        · rename_i hk
          have hu := hkn t none (zcm hk)
          exact skip kn hkn ⟨j, want, t, hg, ht, .inl hu⟩ h
        · rename_i b hk
          have hb := hkn t (some b) (zcm hk)
          simp only at hb
          split at h
          · rename_i hbw
            have : b = want := by simpa using hbw
            subst this
            exact run kn hkn (.inr ⟨j, b, t, hg, ht, hb⟩) h
          · rename_i hbw
            have : b = !want := by cases b <;> cases want <;> simp_all
            subst this
            exact skip kn hkn ⟨j, want, t, hg, ht, .inr hb⟩ h
        · split at h
          · rename_i b hb
            have hk2 : KnOk ((t, some b) :: kn) (toE E) := by
              have := hkn.know hb
              rwa [zjp hb] at this
            split at h
            · rename_i hbw
              have : b = want := by simpa using hbw
              subst this
              exact run _ hk2 (.inr ⟨j, b, t, hg, ht, hb⟩) h
            · rename_i hbw
              have : b = !want := by cases b <;> cases want <;> simp_all
              subst this
              exact skip _ hk2 ⟨j, want, t, hg, ht, .inr hb⟩ h
          · cases h
/-! The conditions. -/
theorem zit {l m : List Nat} (h : zvb l m = true) : disj l m := by
  rw [zdy]
  intro g hg hm
  have := List.all_eq_true.1 h g hg
  simp only [Bool.not_eq_true', List.any_eq_false, Nat.beq_eq] at this
  exact this g hm rfl
theorem zaaq {L : List Rec} {p : Nat × Nat} (h : zaar (L.map zjj) p = true) : zhj L p := by
  unfold zaar at h
  unfold zhj
  simp only [List.getElem?_map] at h
  cases ha : L[p.1]? with
  | none => simp [ha] at h
  | some a =>
    cases hb : L[p.2]? with
    | none => simp [ha, hb] at h
    | some b =>
      simp only [ha, hb, Option.map_some, Bool.and_eq_true] at h
      obtain ⟨⟨h1, h2⟩, h3⟩ := h
      have d1 := zit h1
      have d2 := zit h2
      refine ⟨?_, ?_⟩
      · rw [zdy] at d1 d2 ⊢
        intro g hg
        rw [List.mem_append, not_or]
        exact ⟨d1 g hg, d2 g hg⟩
      · unfold zagy at h3
        unfold zot
        simp only [zjj] at h3
        cases hc : b.cl with
        | false => simp only [hc] at h3; exact zit h3
        | true =>
          simp only [hc] at h3
          split at h3
          · rename_i g q _ hpt
            rw [hpt]
            intro x hx e
            have := List.all_eq_true.1 h3 x hx
            simp only [e, Bool.or_eq_true, Bool.not_eq_true'] at this
            rcases this with h | h
            · simp at h
            · split at h
              · rename_i s cs hrow
                split at h
                · rename_i u hu
                  exact ⟨s, cs, hrow, by rw [hu, zmm 40 _ _ h]⟩
                · cases h
              · cases h
          · rename_i hne
            have := zit h3
            cases hpt : a.pt with
            | none => exact this
            | some q =>
              cases q <;> first | exact this | skip
              exact absurd hpt (hne _ _ rfl)
end
end Go.Proofs.YtpbnaaoilgohkaaGreatDoor
set_option maxRecDepth 8000
namespace Go.Proofs.YtpbnaaoilgohkaaGreatDoor
open Go Go.RowKit
def ExOk : XO → Exit → Prop
  | .nrm, e => e = .normal
  | .exi i, e => e = .exit i
  | .ret, e => e = .ret
section
variable {P : Program} {T : Nat → Option AT} {eqs : Nat → Bool} (hT : TOk P T) (hE : EOk P T eqs)
variable {A0 : Nat → Prop} {ρ0 : Nat → Loc} {Hi : Heap} {w0 : World} {X : HB} {n0 nE N : Nat}
abbrev QX (A0 : Nat → Prop) (ρ0 : Nat → Loc) (Hi : Heap) (w0 : World) (X : HB) (n0 nE N : Nat) (x : XO) (E : EB) (H : HB) (nx : Nat) : Exit → Act → World → Prop := fun e a w => ExOk x e ∧ SX A0 ρ0 Hi w0 X n0 nE N E H nx a w
def ztf (P : Program) (A0 : Nat → Prop) (ρ0 : Nat → Loc) (Hi : Heap) (w0 : World) (X : HB) (n0 nE N : Nat) (c : Code) (E : EB) (H : HB) (nx : Nat) (x : XO) (E' : EB) (H' : HB) (nx' : Nat) : Prop :=
  zaz H nx H' nx' ∧ (nx' ≤ nE → ∀ a w, SX A0 ρ0 Hi w0 X n0 nE N E H nx a w → c.wp P (QX A0 ρ0 Hi w0 X n0 nE N x E' H' nx') a w)
theorem zvh {c : Code} {body : EB → HB → Nat → Option (XO × EB × HB × Nat)} (hb : ∀ E H nx x E' H' nx', body E H nx = some (x, E', H', nx') → ztf P A0 ρ0 Hi w0 X n0 nE N c E H nx x E' H' nx') :
    ∀ (n : Nat) (E : EB) (H : HB) (nx : Nat) (x : XO) (E' : EB) (H' : HB) (nx' : Nat), zrm body n E H nx = some (x, E', H', nx') → zaz H nx H' nx' ∧ (nx' ≤ nE → ∀ a w, SX A0 ρ0 Hi w0 X n0 nE N E H nx a w → Code.rounds P c (QX A0 ρ0 Hi w0 X n0 nE N x E' H' nx') n a w)
  | 0, E, H, nx, x, E', H', nx', h => by simp [zrm] at h
  | n + 1, E, H, nx, x, E', H', nx', h => by
    unfold zrm at h
    split at h
    · rename_i x1 E1 H1 nx1 h1
      obtain ⟨g1, p1⟩ := hb _ _ _ _ _ _ _ h1
      cases x1 with
      | nrm =>
        simp only at h
        obtain ⟨g2, p2⟩ := zvh hb n _ _ _ _ _ _ _ h
        refine ⟨g1.trans g2, fun hn a w st => ?_⟩
        have := g2.1
        refine Code.wp_mono (fun e a w q => ?_) (p1 (by omega) a w st)
        obtain ⟨rfl, q⟩ := q
        exact p2 hn a w q
      | exi i =>
        simp only [Option.some.injEq, Prod.mk.injEq] at h
        obtain ⟨rfl, rfl, rfl, rfl⟩ := h
        refine ⟨g1, fun hn a w st => Code.wp_mono (fun e a w q => ?_) (p1 hn a w st)⟩
        obtain ⟨h1, q⟩ := q
        have h1' : e = .exit i := h1
        subst h1'
        exact ⟨rfl, q⟩
      | ret =>
        simp only [Option.some.injEq, Prod.mk.injEq] at h
        obtain ⟨rfl, rfl, rfl, rfl⟩ := h
        refine ⟨g1, fun hn a w st => Code.wp_mono (fun e a w q => ?_) (p1 hn a w st)⟩
        obtain ⟨h1, q⟩ := q
        have h1' : e = .ret := h1
        subst h1'
        exact ⟨rfl, q⟩
    · cases h
include hT hE in
theorem zdr (hM : P.follows .mixedOrders = true) {call : XCl} (hcall : zfi P call) (fx : FX A0 n0 nE) : ∀ (c : Code) (E : EB) (H : HB) (nx : Nat) (x : XO) (E' : EB) (H' : HB) (nx' : Nat), wfC N c = true → zbp T eqs call c E H nx = some (x, E', H', nx') → ztf P A0 ρ0 Hi w0 X n0 nE N c E H nx x E' H' nx'
  | .skip, E, H, nx, x, E', H', nx', _, h => by
    simp only [zbp, Option.some.injEq, Prod.mk.injEq] at h
    obtain ⟨rfl, rfl, rfl, rfl⟩ := h
    exact ⟨zaz.refl _ _, fun _ a w st => wp_skip ⟨rfl, st⟩⟩
  | .label _, E, H, nx, x, E', H', nx', _, h => by
    simp only [zbp, Option.some.injEq, Prod.mk.injEq] at h
    obtain ⟨rfl, rfl, rfl, rfl⟩ := h
    exact ⟨zaz.refl _ _, fun _ a w st => wp_label ⟨rfl, st⟩⟩
  | .exit i, E, H, nx, x, E', H', nx', _, h => by
    simp only [zbp, Option.some.injEq, Prod.mk.injEq] at h
    obtain ⟨rfl, rfl, rfl, rfl⟩ := h
    exact ⟨zaz.refl _ _, fun _ a w st => wp_exit ⟨rfl, st⟩⟩
  | .ret, E, H, nx, x, E', H', nx', _, h => by
    simp only [zbp, Option.some.injEq, Prod.mk.injEq] at h
    obtain ⟨rfl, rfl, rfl, rfl⟩ := h
    exact ⟨zaz.refl _ _, fun _ a w st => wp_ret ⟨rfl, st⟩⟩
  | .scope c, E, H, nx, x, E', H', nx', hwf, h => by
    simp only [zbp] at h
    obtain ⟨g1, p1⟩ := zdr hM hcall fx c _ _ _ _ _ _ _ hwf h
    refine ⟨g1, fun hn a w st => wp_scope_straight (Code.wp_mono (fun e a w q => ?_) (p1 hn a w st))⟩
    obtain ⟨h1, q⟩ := q
    cases x <;> (have h1' := h1; unfold ExOk at h1'; subst h1'; exact ⟨rfl, q⟩)
  | .region id ops false, E, H, nx, x, E', H', nx', hwf, h => by
    simp only [zbp] at h
    simp only [wfC, Bool.not_false, Bool.true_or, Bool.and_true] at hwf
    obtain ⟨E1, H1, nx1, h1, h2, h3⟩ := zsl (ρ0 := ρ0) (Hi := Hi) (w0 := w0) (X := X) hT hE hcall fx ops.toList [] E H nx _ _ h hwf (zrj hwf) (fun t b hm => by cases hm)
    simp only [Option.some.injEq, Prod.mk.injEq] at h1
    obtain ⟨rfl, rfl, rfl, rfl⟩ := h1
    exact ⟨h2, fun hn a w st => wp_region_list (h3 hn a w st)⟩
  | .region id ops true, E, H, nx, x, E', H', nx', hwf, h => by
    simp only [zbp] at h
    simp only [wfC, Bool.not_true, Bool.false_or, Bool.and_eq_true] at hwf
    obtain ⟨L, E1, H1, nx1, h1, h2, h3⟩ := zqw (Hi := Hi) (X := X) (n0 := n0) (nE := nE) hT hE hcall ops.toList [] E H nx [] _ _ h (fun t b hm => by cases hm)
    rw [List.nil_append] at h1
    split at h1
    · rename_i hck
      simp only [Option.some.injEq, Prod.mk.injEq] at h1
      obtain ⟨rfl, rfl, rfl, rfl⟩ := h1
      refine ⟨h2, fun hn a w st => ?_⟩
      have hch := h3 hn st.le st.dom
      have hco : ziu L (zmj ops) := (zhq L _).2 fun p hp => zaaq (List.all_eq_true.1 hck p hp)
      obtain ⟨ρ, s, hv, f⟩ := st.ex
      have hle := h2.1
      have hfalse : ∀ i, (Array.replicate ops.size false).getD i false = false := fun i => by
        simp only [Array.getD]
        split <;> simp
      have hls : lsOf (Array.replicate ops.size false) = fun _ => false := funext hfalse
      have hA : AD (AX A0 n0 nx) L (fun _ => false) = AX A0 n0 nx := by
        funext g; simp [AD]
      have hA2 := zahe (A0 := A0) st.le hle
      refine wp_region_any hM (zqj (B := AX A0 n0 nx) (ρ0 := ρ) (w0 := w) hwf.2 hch hco (fun g h1 h2 h3 => ?_) fx.bddX (fun a' w' ρ' s' v' t' d' f' => ?_) _ _ _ _ ⟨by simp, (fun i hi => by rw [hfalse] at hi; cases hi), st.size, st.defers, ρ, ?_, ?_, ?_⟩ ?_)
      · rcases h3 with h3 | h3
        · exact fx.free g (by have := st.le; omega) (by omega) h3
        · omega
      · rw [hA2] at s' v' f'
        refine ⟨rfl, ⟨ρ', s', v', f.trans f'⟩, t', d', by have := st.le; omega, fun g hg => ?_⟩
        rcases h2.2 g hg with h | h
        · exact (st.dom g h).mono hle
        · exact .inr ⟨by have := st.le; omega, h.2⟩
      · have e : ({ w with drawn := w.drawn + 1 } : World).heap = w.heap := rfl
        rw [hls, hA, zjt.hD_none]
        exact s.heap e
      · have e : ({ w with drawn := w.drawn + 1 } : World).heap = w.heap := rfl
        rw [hls, hA, zjt.hD_none]
        exact ⟨fun g hg => ⟨rfl, hg⟩, fun b o hb => by rw [zea e]; exact hb, rfl, rfl, rfl, Nat.le_refl _⟩
      · intro t
        have e : ({ w with drawn := w.drawn + 1 } : World).heap = w.heap := rfl
        rw [hls, hA, zjt.hD_none, zea e]
        have : eD (fun _ => false) ops.toList L 0 (toE E) t = toE E t := by
          rw [znp.eD_off _ _ _ _ fun _ _ => rfl]
        rw [this]
        exact hv t
      · exact Nat.le_trans (List.length_filter_le _ _) (by simp)
    · cases h1
  | .seq c d, E, H, nx, x, E', H', nx', hwf, h => by
    simp only [wfC, Bool.and_eq_true] at hwf
    simp only [zbp] at h
    split at h
    · rename_i x1 E1 H1 nx1 h1
      obtain ⟨g1, p1⟩ := zdr hM hcall fx c _ _ _ _ _ _ _ hwf.1 h1
      cases x1 with
      | nrm =>
        simp only at h
        obtain ⟨g2, p2⟩ := zdr hM hcall fx d _ _ _ _ _ _ _ hwf.2 h
        refine ⟨g1.trans g2, fun hn a w st => wp_seq (Code.wp_mono (fun e a w q => ?_) (p1 (by have := g2.1; omega) a w st))⟩
        obtain ⟨rfl, q⟩ := q
        exact p2 hn a w q
      | exi i =>
        simp only [Option.some.injEq, Prod.mk.injEq] at h
        obtain ⟨rfl, rfl, rfl, rfl⟩ := h
        refine ⟨g1, fun hn a w st => wp_seq (Code.wp_mono (fun e a w q => ?_) (p1 hn a w st))⟩
        obtain ⟨h1, q⟩ := q
        have h1' : e = .exit i := h1
        subst h1'
        exact ⟨rfl, q⟩
      | ret =>
        simp only [Option.some.injEq, Prod.mk.injEq] at h
        obtain ⟨rfl, rfl, rfl, rfl⟩ := h
        refine ⟨g1, fun hn a w st => wp_seq (Code.wp_mono (fun e a w q => ?_) (p1 hn a w st))⟩
        obtain ⟨h1, q⟩ := q
        have h1' : e = .ret := h1
        subst h1'
        exact ⟨rfl, q⟩
    · cases h
  | .cond y c d, E, H, nx, x, E', H', nx', hwf, h => by
    simp only [wfC, Bool.and_eq_true] at hwf
    simp only [zbp] at h
    split at h
    · rename_i t ht
      have hev : ∀ a w, SX A0 ρ0 Hi w0 X n0 nE N E H nx a w → a.eval y = .bool t := fun a w st => by
        obtain ⟨ρ, s, hv, f⟩ := st.ex
        have := zys hv y
        rw [ht] at this
        generalize a.eval y = cv at this
        cases this
        rfl
      cases t with
      | true =>
        simp only at h
        obtain ⟨g1, p1⟩ := zdr hM hcall fx c _ _ _ _ _ _ _ hwf.1 h
        exact ⟨g1, fun hn a w st => wp_cond (hev a w st) (p1 hn a w st)⟩
      | false =>
        simp only at h
        obtain ⟨g1, p1⟩ := zdr hM hcall fx d _ _ _ _ _ _ _ hwf.2 h
        exact ⟨g1, fun hn a w st => wp_cond (hev a w st) (p1 hn a w st)⟩
    · cases h
  | .block id c, E, H, nx, x, E', H', nx', hwf, h => by
    simp only [zbp] at h
    split at h
    · rename_i x1 E1 H1 nx1 h1
      obtain ⟨g1, p1⟩ := zdr hM hcall fx c _ _ _ _ _ _ _ hwf h1
      cases x1 with
      | nrm =>
        simp only [Option.some.injEq, Prod.mk.injEq] at h
        obtain ⟨rfl, rfl, rfl, rfl⟩ := h
        refine ⟨g1, fun hn a w st => wp_block (Code.wp_mono (fun e a w q => ?_) (p1 hn a w st))⟩
        obtain ⟨rfl, q⟩ := q
        exact ⟨rfl, q⟩
      | ret =>
        simp only [Option.some.injEq, Prod.mk.injEq] at h
        obtain ⟨rfl, rfl, rfl, rfl⟩ := h
        refine ⟨g1, fun hn a w st => wp_block (Code.wp_mono (fun e a w q => ?_) (p1 hn a w st))⟩
        obtain ⟨h1, q⟩ := q
        have h1' : e = .ret := h1
        subst h1'
        exact ⟨rfl, q⟩
      | exi i =>
        simp only at h
        split at h
        · rename_i hi
          rw [Nat.beq_eq] at hi
          subst hi
          simp only [Option.some.injEq, Prod.mk.injEq] at h
          obtain ⟨rfl, rfl, rfl, rfl⟩ := h
          refine ⟨g1, fun hn a w st => wp_block (Code.wp_mono (fun e a w q => ?_) (p1 hn a w st))⟩
          obtain ⟨h1, q⟩ := q
          have h1' : e = .exit i := h1
          subst h1'
          simp only [Exit.inBlock, if_true]
          exact ⟨rfl, q⟩
        · rename_i hi
          simp only [Option.some.injEq, Prod.mk.injEq] at h
          obtain ⟨rfl, rfl, rfl, rfl⟩ := h
          refine ⟨g1, fun hn a w st => wp_block (Code.wp_mono (fun e a w q => ?_) (p1 hn a w st))⟩
          obtain ⟨h1, q⟩ := q
          have h1' : e = .exit i := h1
          subst h1'
          simp only [Exit.inBlock]
          rw [if_neg (by intro e; subst e; simp at hi)]
          exact ⟨rfl, q⟩
    · cases h
  | .loop c, E, H, nx, x, E', H', nx', hwf, h => by
    simp only [zbp] at h
    obtain ⟨g1, p1⟩ := zvh (c := c) (fun E H nx x E' H' nx' h => zdr hM hcall fx c E H nx x E' H' nx' hwf h) 3000 E H nx x E' H' nx' h
    exact ⟨g1, fun hn a w st => wp_loop_rounds 3000 (p1 hn a w st)⟩
theorem zsk {β : Type} (hT : TOk P T) {Hm : Heap} {A : Nat → Prop} {ρ : Nat → Loc} {w : World} {a : Act} {E : EB} {H : HB} (s : Sim A ρ Hm w) (hv : ∀ t, VRel (Kof ρ Hm w) ρ A (toE E t) (a.tmps.getD t undef)) (hag : ∀ g, isH H g = true → Hm g = toH H g) :
    ∀ (rs : List ResultVar) (c : List AV → Option β) (r : β), xret T rs E H c = some r → ∃ vs, c vs = some r ∧ ∃ cs, LRel (Kof ρ Hm w) ρ A vs cs ∧ cs.length = rs.length ∧
      ∀ acc : Array Value, (List.foldlM (fun (acc : Array Value) (r : ResultVar) => acc.push <$> zcj a.tmps r) acc rs).run P w = .ok (acc ++ cs.toArray) w
  | [], c, r, h => ⟨[], h, [], LRel.nil, rfl, fun acc => by simp [Sem.run_pure]⟩
  | .tmp t :: rs, c, r, h => by
    simp only [xret, zsf] at h
    obtain ⟨vs, h1, cs, h2, h3, h4⟩ := zsk hT s hv hag rs _ r h
    refine ⟨_, h1, a.tmps.getD t undef :: cs, LRel.cons (hv t) h2, by simp [h3], fun acc => ?_⟩
    have hr : (zcj a.tmps (.tmp t)).run P w = .ok (a.tmps.getD t undef) w := rfl
    simp only [List.foldlM_cons, Sem.run_bind, zne hr, Result.andThen_ok, h4]
    congr 1
    apply Array.ext'
    simp
  | .cell b t :: rs, c, r, h => by
    simp only [xret] at h
    split at h
    · rename_i at_ ht
      obtain ⟨i, d, z, ha⟩ := hT.at ht
      split at h
      · rename_i v rd _ _ hx
        rw [zse] at h
        obtain ⟨vs, h1, cs, h2, h3, h4⟩ := zsk hT s hv hag rs _ r h
        unfold zpv at hx
        split at hx
        · rename_i cells off rd' hrd
          split at hx
          · rename_i v' hl
            simp only [Option.some.injEq, Prod.mk.injEq] at hx
            obtain ⟨rfl, rfl, _, _⟩ := hx
            have hrds : ∀ g ∈ rd', Hm g = toH H g := fun g hg => by
              unfold rdp at hrd
              split at hrd
              · rename_i g' _ _
                split at hrd
                · rename_i hgg
                  cases hrd
                  simp at hg
                  subst hg
                  exact hag _ (zjf.2 ⟨_, hgg⟩)
                · cases hrd
              · cases hrd; cases hg
              · cases hrd
            obtain ⟨bb, q, he, hc⟩ := zrd s (hv b) hrd hrds
            obtain ⟨cv, hr, hR⟩ := zgy (P := P) ha hc hl
            refine ⟨_, h1, cv :: cs, LRel.cons hR h2, by simp [h3], fun acc => ?_⟩
            have hr' : (zcj a.tmps (.cell b t)).run P w = .ok cv w := by
              simp only [zcj, Sem.run_bind, he, asAddr, Sem.run_pure, Result.andThen_ok, hr]
            simp only [List.foldlM_cons, Sem.run_bind, zne hr', Result.andThen_ok, h4]
            congr 1
            apply Array.ext'
            simp
          · cases hx
        · cases hx
      · cases h
    · cases h
theorem zxe {β : Type} : ∀ (args : List AV) (t : Nat) (E : EB) (c : EB → Option β) (r : β), zvc args t E c = some r → ∃ E', c E' = some r ∧ ∀ u, toE E' u = if t ≤ u ∧ u < t + args.length then nth args (u - t) else toE E u
  | [], t, E, c, r, h => ⟨E, h, fun u => by rw [if_neg (by simp only [List.length_nil]; omega)]⟩
  | v :: rs, t, E, c, r, h => by
    simp only [zvc, zse] at h
    rw [Tr.setK_eq] at h
    obtain ⟨E', h1, h2⟩ := zxe rs (t + 1) _ c r h
    refine ⟨E', h1, fun u => ?_⟩
    rw [h2]
    have hs : toE (Tr.setK (t + 1) E t (some v) id) u = if u = t then v else toE E u := by
      have := congrFun (zeb E (some t) v) u
      rw [show zpx E (some t) v = Tr.setK (t + 1) E t (some v) id from rfl] at this
      rw [this, zdk]
      by_cases h : u = t
      · subst h; simp
      · rw [if_neg (by simpa using Ne.symm h), if_neg h]
    rw [hs]
    simp only [List.length_cons]
    by_cases h1 : t + 1 ≤ u ∧ u < t + 1 + rs.length
    · rw [if_pos h1, if_pos (by omega)]
      have : u - t = (u - (t + 1)) + 1 := by omega
      rw [this]
      simp [nth]
    · rw [if_neg h1]
      by_cases h3 : u = t
      · subst h3
        rw [if_pos rfl, if_pos (by omega)]
        simp [nth]
      · rw [if_neg h3, if_neg (by omega)]
def zahg (P : Program) (orc : Nat → List AV → Option AV) : Prop := ∀ f args v, orc f args = some v → ∀ H : Heap, LC P f args H [] [] [] v
def FnOk (P : Program) (ok : Nat → Bool) : Prop := ∀ f fn c, ok f = true → P.funcs[f]? = some fn → fn.body = some c → wfC fn.ntmps c = true ∧ (fn.name == "runtime.NumGoroutine") = false
include hT hE in
theorem zyo (hM : P.follows .mixedOrders = true) {ok : Nat → Bool} {orc : Nat → List AV → Option AV} (ho : zahg P orc) (hf : FnOk P ok) : ∀ n, zfi P (xfun T eqs P ok orc n)
  | 0, f, args, H, nx, v, H', nx', h, cargs => by simp [xfun] at h
  | n + 1, f, args, H, nx, v, H', nx', h, cargs => by
    have ih := zyo hM ho hf n
    unfold xfun at h
    split at h
    · rename_i u hu
      simp only [Option.some.injEq, Prod.mk.injEq] at h
      obtain ⟨rfl, rfl, rfl⟩ := h
      refine ⟨Nat.le_refl _, fun g hg => .inl hg, fun A ρ Hm w hB s ha hag hfree => ?_⟩
      refine zi (ho f args u hu (fun _ => none) A ρ Hm w cargs hB s ha (fun g hg => by cases hg) (fun g hg => by cases hg)) fun cv w' ⟨ρ', q1, q2, q3⟩ => ?_
      have hA : (fun x => A x ∨ x ∈ ([] : List Nat)) = (fun g => A g ∨ nx ≤ g ∧ g < nx) := by funext g; simp; omega
      have hH : Hm.apply [] = mix Hm H nx nx H := by
        funext g
        show Hm g = _
        by_cases ht : Tk H nx nx g
        · rw [zcl ht]
          rcases ht with h | h
          · exact hag g h
          · omega
        · rw [zed ht]
      rw [hA, hH] at q1 q2 q3
      exact ⟨ρ', q1, q2, q3⟩
    · split at h
      · cases h
      · rename_i hok
        split at h
        · rename_i fn hfn
          split at h
          · rename_i c hc
            split at h
            · rename_i hlen
              obtain ⟨hwf, hname⟩ := hf f fn c hok hfn hc
              have hlen := Nat.le_of_ble_eq_true hlen
              obtain ⟨E0, h1, h2⟩ := zxe _ _ _ _ _ h
              split at h1
              · rename_i x E1 H1 nx1 hx
                have key : ∀ (A : Nat → Prop) (ρ : Nat → Loc) (Hm : Heap) (w : World), FX A nx nx1 → ztf P A ρ Hm w H nx nx1 fn.ntmps c E0 H nx x E1 H1 nx1 := fun A ρ Hm w fx => zdr hT hE hM ih fx c E0 H nx x E1 H1 nx1 hwf hx
                have hg : zaz H nx H1 nx1 := (key (fun _ => False) (fun _ => default) (fun _ => none) default ⟨fun _ _ _ h => h, ⟨0, fun _ h => h.elim⟩⟩).1
                have fin : ∀ (h1 : xret T fn.results.toList E1 H1 (fun vs => some (match vs with | [v] => v | vs => .tup vs, H1, nx1)) = some (v, H', nx')) (hx2 : ∀ e, ExOk x e → e = .normal ∨ e = .ret),
                    Does P H nx v H' nx' (fun K ρ A => LRel K ρ A args cargs.toList) fun w => (callFunc f cargs).run P w := by
                  intro h1 hx2
                  have hout : H' = H1 ∧ nx' = nx1 := by
                    have : ∀ (rs : List ResultVar) (cc : List AV → AV), xret T rs E1 H1 (fun vs => some (cc vs, H1, nx1)) = some (v, H', nx') → H' = H1 ∧ nx' = nx1 := by
                      intro rs
                      induction rs with
                      | nil => intro cc h; simp only [xret, Option.some.injEq, Prod.mk.injEq] at h; exact ⟨h.2.1.symm, h.2.2.symm⟩
                      | cons r rs ih =>
                        intro cc h
                        cases r with
                        | tmp t => simp only [xret, zsf] at h; exact ih (fun vs => cc (toE E1 t :: vs)) h
                        | cell b t =>
                          simp only [xret] at h
                          split at h
                          · split at h
                            · rename_i v' _ _ _ _
                              rw [zse] at h
                              exact ih (fun vs => cc (v' :: vs)) h
                            · cases h
                          · cases h
                    exact this _ (fun vs => match vs with | [v] => v | vs => .tup vs) h1
                  obtain ⟨rfl, rfl⟩ := hout
                  refine ⟨hg.1, hg.2, fun A ρ Hm w hB s ha hag hfree => ?_⟩
                  have fx : FX A nx nx' := ⟨hfree, hB⟩
                  have hp := (key A ρ Hm w fx).2 (Nat.le_refl _)
                  have hcl : cargs.size = args.length := by simpa using ha.1
                  have hcall : (callFunc f cargs).run P w = .ok (.enter f cargs) w := by
                    have hname' : ¬ fn.name = "runtime.NumGoroutine" := by simpa using hname
                    simp [callFunc, program, Sem.run_bind, Sem.run, hfn, hname', hc, pure]
                  rw [hcall]
                  simp only [zo]
                  have hA0 : AX A nx nx = A := by funext g; simp [AX]; omega
                  have hH0 : mix Hm H nx nx' H = Hm := by
                    funext g
                    by_cases ht : Tk H nx nx' g
                    · rw [zcl ht]
                      by_cases hi : isH H g = true
                      · exact (hag g hi).symm
                      · rw [zhc hi]
                        rcases ht with h | h
                        · exact absurd h hi
                        · cases e : Hm g with
                          | none => rfl
                          | some o => exact absurd (s.live g o e) (hfree g h.1 h.2)
                    · rw [zed ht]
                  refine calls_of_wp hfn hc (Code.wp_mono (fun e a w' q => ?_) (hp _ w ⟨⟨ρ, ?_, fun t => ?_, ?_⟩, by simp; omega, rfl, Nat.le_refl _, fun g hg => .inl hg⟩))
                  · obtain ⟨he, st⟩ := q
                    have done : a.defers = [] ∧ ∃ v', (results fn a.tmps).run P w' = .ok v' w' ∧ ∃ u, Ending.returned v' = .returned u ∧ zahi A ρ Hm w H nx v H' nx' u w' := by
                      obtain ⟨ρ', s', hv', f'⟩ := st.ex
                      obtain ⟨vs, q1, cs, q2, q3, q4⟩ := zsk (P := P) hT s' hv' (fun g hg => zcl (st.dom g hg)) fn.results.toList _ _ h1
                      refine ⟨st.defers, ?_⟩
                      have hm : (fn.results.mapM (zcj a.tmps)).run P w' = .ok cs.toArray w' := by
                        rw [Array.mapM_eq_foldlM]
                        have := q4 #[]
                        rw [Array.foldlM_toList] at this
                        simpa using this
                      have hrun : ∀ v, (if h : cs.toArray.size = 1 then cs.toArray[0] else Value.tuple cs.toArray) = v → (results fn a.tmps).run P w' = .ok v w' := by
                        intro v hv
                        have e : results fn a.tmps = (do let vs ← fn.results.mapM (zcj a.tmps); pure (if h : vs.size = 1 then vs[0] else .tuple vs)) := by
                          unfold results zcj
                          rfl
                        rw [e]
                        simp only [Sem.run_bind, hm, Result.andThen_ok, Sem.run_pure, hv]
                      simp only [Option.some.injEq, Prod.mk.injEq, and_true] at q1
                      split at q1
                      · rename_i u
                        subst q1
                        obtain ⟨cv, hcv, hR⟩ := q2.get (j := 0) (v := u) rfl
                        have hc1 : cs = [cv] := by
                          have hl := q2.1
                          match cs, hl, hcv with
                          | [x], _, h => simp at h; rw [h]
                        subst hc1
                        exact ⟨cv, hrun cv (by simp), cv, rfl, ρ', s', hR, f'⟩
                      · rename_i hne
                        have hc1 : cs.length ≠ 1 := by
                          intro hl
                          have := q2.1
                          rw [hl] at this
                          match vs, this with
                          | [x], _ => exact hne x rfl
                        subst q1
                        exact ⟨.tuple cs.toArray, hrun _ (by simp [hc1]), _, rfl, ρ', s', .tup _ _ (by simpa using q2.1) fun j v c hv hc => q2.2 j v c hv (by simpa using hc), f'⟩
                    rcases hx2 e he with rfl | rfl
                    · exact done
                    · exact done
                  · rw [hA0, hH0]; exact s
                  · rw [hA0, hH0, h2]
                    show VRel _ _ _ _ ((cargs ++ Array.replicate (fn.ntmps - cargs.size) undef).getD t undef)
                    by_cases ht : t < args.length
                    · rw [if_pos (by omega)]
                      obtain ⟨cv, h1, h2⟩ := ha.get (List.getElem?_eq_getElem ht)
                      have : (cargs ++ Array.replicate (fn.ntmps - cargs.size) undef).getD t undef = cv := by
                        rw [Array.getD_eq_getD_getElem?, Array.getElem?_append_left (by omega)]
                        simp only [Array.getElem?_toList] at h1
                        rw [h1]; rfl
                      rw [this, Nat.sub_zero, nth, List.getD_eq_getElem?_getD, List.getElem?_eq_getElem ht]
                      exact h2
                    · rw [if_neg (by omega)]
                      exact .junk _
                  · rw [hA0, hH0]; exact Fr.refl _ _ _ _
                split at h1
                · cases h1
                · exact fin h1 fun e he => .inl he
                · exact fin h1 fun e he => .inr he
              · cases h1
            · cases h
          · cases h
        · cases h
theorem QC.closed {call : XCl} (hc : zfi P call) {f : FuncId} {v : AV} {H' : HB} {nx' : Nat} (h : call f [] .nil 0 = some (v, H', nx')) (hf : flat v = true) : QC P f [] v := by
  intro H nx ρ w cargs s ha
  have s0 : Sim (fun _ => False) ρ (fun _ => none) w := by
    have := (s.drop (H' := fun _ => none) (fun g o ho => by cases ho)).1
    exact ⟨fun g o ho => (by cases ho), fun g o ho => (by cases ho), fun g g' hg _ _ => (by cases hg), this.lay⟩
  have d := hc f [] .nil 0 v H' nx' h cargs
  have ha0 : LRel (Kof ρ (fun _ => none) w) ρ (fun _ => False) [] cargs.toList := ⟨ha.1, fun j v c hv => by simp at hv⟩
  refine zi (d.run (fun _ => False) ρ (fun _ => none) w ⟨0, fun _ h => h.elim⟩ s0 ha0 (fun g hg => by simp [isH, Tr.get_nil] at hg) (fun _ _ _ h => h)) fun cv w' ⟨ρ', q3, q4, q5⟩ => ?_
  have keep : ∀ b o, w.heap[b]? = some o → w'.heap[b]? = some o := fun b o hb =>
    (zm.1 (q5.k b o (zm.2 ⟨fun g hg => by simp at hg, hb⟩))).2
  have hK : ∀ b o, Kof ρ H w b = some o → Kof ρ H w' b = some o := fun b o hb => by
    obtain ⟨h1, h2⟩ := zm.1 hb
    exact zm.2 ⟨h1, keep b o h2⟩
  refine ⟨v, H, nx, ρ, ⟨rfl, rfl, rfl⟩, ⟨s.live, fun g o ho => ?_, s.inj, s.lay.mono hK⟩, q4.flat hf, ⟨fun g hg => ⟨rfl, hg⟩, hK, q5.os, q5.tape, q5.output, q5.size⟩⟩
  have ho' := s.obj g o ho
  obtain ⟨ob, hob⟩ : ∃ ob, w.heap[(ρ g).block]? = some ob := ⟨_, Array.getElem?_eq_getElem ho'.block_lt⟩
  exact ho'.mono (by rw [keep _ _ hob, hob]) hK fun g hg => ⟨rfl, hg⟩
end
end Go.Proofs.YtpbnaaoilgohkaaGreatDoor
namespace Go.Proofs
open Go.Shelf
def Tryz.laysM171_ren : Go.Shelf.Ren := ⟨fun | 171 => 88 | 243 => 94 | 246 => 97 | 283 => 103 | 284 => 104 | 285 => 105 | 286 => 106 | 129 => 111 | 317 => 110 | 318 => 112 | 319 => 113 | 320 => 114 | 337 => 117 | 338 => 118 | n => n, fun | 3 => 3 | 9 => 9 | 2 => 2 | 4 => 4 | 171 => 183 | 0 => 0 | 53 => 153 | 37 => 32 | 5 => 5 | 173 => 186 | 212 => 195 | 51 => 129 | 20 => 20 | 213 => 196 | 46 => 154 | 232 => 204 | 233 => 205 | n => n, fun | 17 => 2 | 18 => 3 | 19 => 4 | n => n⟩
theorem Tryz.laysM171 : Go.Proofs.LaysM.n171 Tryz.prog Tryz.laysM171_ren := {
  mixed := by kernel_rfl
  f129 := Tryz.func111.trans (congrArg some (by kernel_rfl))
  f171 := Tryz.func88.trans (congrArg some (by kernel_rfl))
  f243 := Tryz.func94.trans (congrArg some (by kernel_rfl))
  f246 := Tryz.func97.trans (congrArg some (by kernel_rfl))
  f283 := Tryz.func103.trans (congrArg some (by kernel_rfl))
  f284 := Tryz.func104.trans (congrArg some (by kernel_rfl))
  f285 := Tryz.func105.trans (congrArg some (by kernel_rfl))
  f286 := Tryz.func106.trans (congrArg some (by kernel_rfl))
  f317 := Tryz.func110.trans (congrArg some (by kernel_rfl))
  f318 := Tryz.func112.trans (congrArg some (by kernel_rfl))
  f319 := Tryz.func113.trans (congrArg some (by kernel_rfl))
  f320 := Tryz.func114.trans (congrArg some (by kernel_rfl))
  f337 := Tryz.func117.trans (congrArg some (by kernel_rfl))
  f338 := Tryz.func118.trans (congrArg some (by kernel_rfl))
  t0 := Tryz.underlying0
  a0 := Tryz.isAgg0
  z0 := Tryz.sizeOf0
  v0 := Tryz.zeroValue0
  t2 := Tryz.underlying2
  a2 := Tryz.isAgg2
  z2 := Tryz.sizeOf2
  v2 := Tryz.zeroValue2
  t3 := Tryz.underlying3
  a3 := Tryz.isAgg3
  z3 := Tryz.sizeOf3
  v3 := Tryz.zeroValue3
  t4 := Tryz.underlying4
  a4 := Tryz.isAgg4
  z4 := Tryz.sizeOf4
  v4 := Tryz.zeroValue4
  t5 := Tryz.underlying5
  a5 := Tryz.isAgg5
  z5 := Tryz.sizeOf5
  v5 := Tryz.zeroValue5
  t9 := Tryz.underlying9
  a9 := Tryz.isAgg9
  z9 := Tryz.sizeOf9
  v9 := Tryz.zeroValue9
  t20 := Tryz.underlying20
  a20 := Tryz.isAgg20
  z20 := Tryz.sizeOf20
  v20 := Tryz.zeroValue20
  t37 := Tryz.underlying32
  a37 := Tryz.isAgg32
  z37 := Tryz.sizeOf32
  v37 := Tryz.zeroValue32
  t46 := Tryz.underlying154
  a46 := Tryz.isAgg154
  z46 := Tryz.sizeOf154
  v46 := Tryz.zeroValue154
  t51 := Tryz.underlying129
  a51 := Tryz.isAgg129
  z51 := Tryz.sizeOf129
  v51 := Tryz.zeroValue129
  t53 := Tryz.underlying153
  a53 := Tryz.isAgg153
  z53 := Tryz.sizeOf153
  v53 := Tryz.zeroValue153
  t171 := Tryz.underlying183
  a171 := Tryz.isAgg183
  z171 := Tryz.sizeOf183
  v171 := Tryz.zeroValue183
  t173 := Tryz.underlying186
  a173 := Tryz.isAgg186
  z173 := Tryz.sizeOf186
  v173 := Tryz.zeroValue186
  t212 := Tryz.underlying195
  a212 := Tryz.isAgg195
  z212 := Tryz.sizeOf195
  v212 := Tryz.zeroValue195
  t213 := Tryz.underlying196
  a213 := Tryz.isAgg196
  z213 := Tryz.sizeOf196
  t232 := Tryz.underlying204
  a232 := Tryz.isAgg204
  z232 := Tryz.sizeOf204
  v232 := Tryz.zeroValue204
  t233 := Tryz.underlying205
  a233 := Tryz.isAgg205
  z233 := Tryz.sizeOf205
  v233 := Tryz.zeroValue205
  g17 := by kernel_rfl
  g18 := by kernel_rfl
  g19 := by kernel_rfl
  i0 := by kernel_rfl
  i2 := by kernel_rfl
  i3 := by kernel_rfl
  i4 := by kernel_rfl
  i5 := by kernel_rfl
  i9 := by kernel_rfl
  i20 := by kernel_rfl
  i37 := by kernel_rfl
  i46 := by kernel_rfl
  i51 := by kernel_rfl
  i53 := by kernel_rfl
  i171 := by kernel_rfl
  i173 := by kernel_rfl
  i212 := by kernel_rfl
  i232 := by kernel_rfl
  i233 := by kernel_rfl
  m17 := by kernel_rfl
  m18 := by kernel_rfl
  m19 := by kernel_rfl }
open Go.RowKit Go.Sort Go.Lib in
theorem Tryz.strconv_Itoa (n : Int) (h0 : -9223372036854775808 ≤ n) (h1 : n ≤ 9223372036854775807) (w : World) (htab : Lib.TabIs Tryz.prog w "internal/strconv.uint64pow10" .u64 Lib.pow10Tab) :
    Calls Tryz.prog 88 #[.int .i64 n] w fun e w' => e = .returned (.string ⟨(Lib.itoa n).toArray⟩) ∧ ∃ k os, w' = grow (w.drewN k) os := Any.strconv_Itoa Tryz.laysM171 n h0 h1 w htab
def Tryz.laysC172_ren : Go.Shelf.Ren := ⟨fun | 172 => 91 | 244 => 95 | 245 => 96 | 247 => 98 | 279 => 99 | 280 => 100 | 281 => 101 | 282 => 102 | 287 => 107 | 316 => 108 | 171 => 88 | 205 => 109 | 321 => 115 | 322 => 116 | 243 => 94 | 246 => 97 | 283 => 103 | 284 => 104 | 285 => 105 | 286 => 106 | 129 => 111 | 317 => 110 | 318 => 112 | 319 => 113 | 320 => 114 | 337 => 117 | 338 => 118 | n => n, fun | 9 => 9 | 3 => 3 | 75 => 172 | 76 => 173 | 4 => 4 | 5 => 5 | 167 => 177 | 37 => 32 | 0 => 0 | 85 => 178 | 2 => 2 | 168 => 180 | 53 => 153 | 175 => 188 | 46 => 154 | 210 => 192 | 127 => 199 | 145 => 202 | 143 => 200 | 21 => 21 | 171 => 183 | 173 => 186 | 212 => 195 | 51 => 129 | 20 => 20 | 213 => 196 | 232 => 204 | 233 => 205 | 80 => 105 | n => n, fun | 15 => 0 | 16 => 1 | 17 => 2 | 18 => 3 | 19 => 4 | n => n⟩
theorem Tryz.laysC172 : Go.Proofs.LaysC.n172 Tryz.prog Tryz.laysC172_ren := {
  mixed := by kernel_rfl
  f129 := Tryz.func111.trans (congrArg some (by kernel_rfl))
  f171 := Tryz.func88.trans (congrArg some (by kernel_rfl))
  f172 := Tryz.func91.trans (congrArg some (by kernel_rfl))
  f205 := Tryz.func109.trans (congrArg some (by kernel_rfl))
  f243 := Tryz.func94.trans (congrArg some (by kernel_rfl))
  f244 := Tryz.func95.trans (congrArg some (by kernel_rfl))
  f245 := Tryz.func96.trans (congrArg some (by kernel_rfl))
  f246 := Tryz.func97.trans (congrArg some (by kernel_rfl))
  f247 := Tryz.func98.trans (congrArg some (by kernel_rfl))
  f279 := Tryz.func99.trans (congrArg some (by kernel_rfl))
  f280 := Tryz.func100.trans (congrArg some (by kernel_rfl))
  f281 := Tryz.func101.trans (congrArg some (by kernel_rfl))
  f282 := Tryz.func102.trans (congrArg some (by kernel_rfl))
  f283 := Tryz.func103.trans (congrArg some (by kernel_rfl))
  f284 := Tryz.func104.trans (congrArg some (by kernel_rfl))
  f285 := Tryz.func105.trans (congrArg some (by kernel_rfl))
  f286 := Tryz.func106.trans (congrArg some (by kernel_rfl))
  f287 := Tryz.func107.trans (congrArg some (by kernel_rfl))
  f316 := Tryz.func108.trans (congrArg some (by kernel_rfl))
  f317 := Tryz.func110.trans (congrArg some (by kernel_rfl))
  f318 := Tryz.func112.trans (congrArg some (by kernel_rfl))
  f319 := Tryz.func113.trans (congrArg some (by kernel_rfl))
  f320 := Tryz.func114.trans (congrArg some (by kernel_rfl))
  f321 := Tryz.func115.trans (congrArg some (by kernel_rfl))
  f322 := Tryz.func116.trans (congrArg some (by kernel_rfl))
  f337 := Tryz.func117.trans (congrArg some (by kernel_rfl))
  f338 := Tryz.func118.trans (congrArg some (by kernel_rfl))
  t0 := Tryz.underlying0
  a0 := Tryz.isAgg0
  z0 := Tryz.sizeOf0
  v0 := Tryz.zeroValue0
  t2 := Tryz.underlying2
  a2 := Tryz.isAgg2
  z2 := Tryz.sizeOf2
  v2 := Tryz.zeroValue2
  t3 := Tryz.underlying3
  a3 := Tryz.isAgg3
  z3 := Tryz.sizeOf3
  v3 := Tryz.zeroValue3
  t4 := Tryz.underlying4
  a4 := Tryz.isAgg4
  z4 := Tryz.sizeOf4
  v4 := Tryz.zeroValue4
  t5 := Tryz.underlying5
  a5 := Tryz.isAgg5
  z5 := Tryz.sizeOf5
  v5 := Tryz.zeroValue5
  t9 := Tryz.underlying9
  a9 := Tryz.isAgg9
  z9 := Tryz.sizeOf9
  v9 := Tryz.zeroValue9
  t20 := Tryz.underlying20
  a20 := Tryz.isAgg20
  z20 := Tryz.sizeOf20
  v20 := Tryz.zeroValue20
  t21 := Tryz.underlying21
  a21 := Tryz.isAgg21
  z21 := Tryz.sizeOf21
  v21 := Tryz.zeroValue21
  t37 := Tryz.underlying32
  a37 := Tryz.isAgg32
  z37 := Tryz.sizeOf32
  v37 := Tryz.zeroValue32
  t46 := Tryz.underlying154
  a46 := Tryz.isAgg154
  z46 := Tryz.sizeOf154
  v46 := Tryz.zeroValue154
  t51 := Tryz.underlying129
  a51 := Tryz.isAgg129
  z51 := Tryz.sizeOf129
  v51 := Tryz.zeroValue129
  t53 := Tryz.underlying153
  a53 := Tryz.isAgg153
  z53 := Tryz.sizeOf153
  v53 := Tryz.zeroValue153
  t75 := Tryz.underlying172
  a75 := Tryz.isAgg172
  z75 := Tryz.sizeOf172
  v75 := Tryz.zeroValue172
  t76 := Tryz.underlying173
  a76 := Tryz.isAgg173
  z76 := Tryz.sizeOf173
  v76 := Tryz.zeroValue173
  t85 := Tryz.underlying178
  a85 := Tryz.isAgg178
  z85 := Tryz.sizeOf178
  v85 := Tryz.zeroValue178
  t127 := Tryz.underlying199
  a127 := Tryz.isAgg199
  z127 := Tryz.sizeOf199
  v127 := Tryz.zeroValue199
  t143 := Tryz.underlying200
  a143 := Tryz.isAgg200
  z143 := Tryz.sizeOf200
  v143 := Tryz.zeroValue200
  t145 := Tryz.underlying202
  a145 := Tryz.isAgg202
  z145 := Tryz.sizeOf202
  v145 := Tryz.zeroValue202
  t167 := Tryz.underlying177
  a167 := Tryz.isAgg177
  z167 := Tryz.sizeOf177
  v167 := Tryz.zeroValue177
  t168 := Tryz.underlying180
  a168 := Tryz.isAgg180
  z168 := Tryz.sizeOf180
  v168 := Tryz.zeroValue180
  t171 := Tryz.underlying183
  a171 := Tryz.isAgg183
  z171 := Tryz.sizeOf183
  v171 := Tryz.zeroValue183
  t173 := Tryz.underlying186
  a173 := Tryz.isAgg186
  z173 := Tryz.sizeOf186
  v173 := Tryz.zeroValue186
  t175 := Tryz.underlying188
  a175 := Tryz.isAgg188
  z175 := Tryz.sizeOf188
  v175 := Tryz.zeroValue188
  t210 := Tryz.underlying192
  a210 := Tryz.isAgg192
  z210 := Tryz.sizeOf192
  v210 := Tryz.zeroValue192
  t212 := Tryz.underlying195
  a212 := Tryz.isAgg195
  z212 := Tryz.sizeOf195
  v212 := Tryz.zeroValue195
  t213 := Tryz.underlying196
  a213 := Tryz.isAgg196
  z213 := Tryz.sizeOf196
  t232 := Tryz.underlying204
  a232 := Tryz.isAgg204
  z232 := Tryz.sizeOf204
  v232 := Tryz.zeroValue204
  t233 := Tryz.underlying205
  a233 := Tryz.isAgg205
  z233 := Tryz.sizeOf205
  v233 := Tryz.zeroValue205
  g15 := by kernel_rfl
  g16 := by kernel_rfl
  g17 := by kernel_rfl
  g18 := by kernel_rfl
  g19 := by kernel_rfl
  t80 := Tryz.underlying105
  a80 := Tryz.isAgg105
  z80 := Tryz.sizeOf105
  v80 := Tryz.zeroValue105
  i0 := by kernel_rfl
  i2 := by kernel_rfl
  i3 := by kernel_rfl
  i4 := by kernel_rfl
  i5 := by kernel_rfl
  i9 := by kernel_rfl
  i20 := by kernel_rfl
  i21 := by kernel_rfl
  i37 := by kernel_rfl
  i46 := by kernel_rfl
  i51 := by kernel_rfl
  i53 := by kernel_rfl
  i75 := by kernel_rfl
  i76 := by kernel_rfl
  i80 := by kernel_rfl
  i85 := by kernel_rfl
  i127 := by kernel_rfl
  i143 := by kernel_rfl
  i145 := by kernel_rfl
  i167 := by kernel_rfl
  i168 := by kernel_rfl
  i171 := by kernel_rfl
  i173 := by kernel_rfl
  i175 := by kernel_rfl
  i210 := by kernel_rfl
  i212 := by kernel_rfl
  i232 := by kernel_rfl
  i233 := by kernel_rfl
  m15 := by kernel_rfl
  m16 := by kernel_rfl
  m17 := by kernel_rfl
  m18 := by kernel_rfl
  m19 := by kernel_rfl
  c0 := by kernel_rfl
  c2 := by kernel_rfl
  c3 := by kernel_rfl
  c4 := by kernel_rfl
  c5 := by kernel_rfl
  c9 := by kernel_rfl
  c20 := by kernel_rfl
  c21 := by kernel_rfl
  c37 := by kernel_rfl
  c46 := by kernel_rfl
  c51 := by kernel_rfl
  c53 := by kernel_rfl
  c75 := by kernel_rfl
  c76 := by kernel_rfl
  c80 := by kernel_rfl
  c85 := by kernel_rfl
  c127 := by kernel_rfl
  c143 := by kernel_rfl
  c145 := by kernel_rfl
  c167 := by kernel_rfl
  c168 := by kernel_rfl
  c171 := by kernel_rfl
  c173 := by kernel_rfl
  c175 := by kernel_rfl
  c210 := by kernel_rfl
  c212 := by kernel_rfl
  c213 := by kernel_rfl
  c232 := by kernel_rfl
  c233 := by kernel_rfl }
open Go.RowKit in
theorem Tryz.strconv_Atoi_ok (s : ByteArray) (hmax : s.size ≤ 9223372036854775806) (v : Int) (h : Lib.atoiAll s.data.toList = .ok v) (w : World) :
    Calls Tryz.prog 91 #[.string s] w fun e w' => e = .returned (.tuple #[.int .i64 v, .nilIface]) ∧ (w' = w ∨ ∃ t, w' = Lib.bytesWorld w 5 t) := Any.strconv_Atoi_ok Tryz.laysC172 s hmax v h w
open Go.RowKit in
theorem Tryz.strconv_Atoi_syntax_var (s : ByteArray) (hlim : s.size ≤ 281474976710656) (h : Lib.atoiAll s.data.toList = Lib.atoiAll []) (tp : TypeId) (p : Value) (w : World) (hvar : w.var? Tryz.prog "strconv.ErrSyntax" = some #[.iface tp p]) :
    Calls Tryz.prog 91 #[.string s] w fun e w' => ∃ N, e = .returned (.tuple #[.int .i64 0, .iface 180 (.pointer (some ⟨N, 0, none⟩))]) ∧ w.heap.size ≤ N ∧ w'.heap[N]? = some (.cells #[.string ⟨#[65, 116, 111, 105]⟩, .string s, .iface tp p] 192 (0, 0)) ∧ Below w.heap.size w w' := Any.strconv_Atoi_syntax_var Tryz.laysC172 s hlim h tp p w hvar
open Go.RowKit in
theorem Tryz.strconv_Atoi_range_var (s : ByteArray) (hlim : s.size ≤ 281474976710656) (h : Lib.atoiAll s.data.toList = .range) (tp : TypeId) (p : Value) (w : World) (hvar : w.var? Tryz.prog "strconv.ErrRange" = some #[.iface tp p]) :
    Calls Tryz.prog 91 #[.string s] w fun e w' => ∃ N, e = .returned (.tuple #[.int .i64 (Lib.atoiSat s.data.toList), .iface 180 (.pointer (some ⟨N, 0, none⟩))]) ∧ w.heap.size ≤ N ∧ w'.heap[N]? = some (.cells #[.string ⟨#[65, 116, 111, 105]⟩, .string s, .iface tp p] 192 (0, 0)) ∧ Below w.heap.size w w' := Any.strconv_Atoi_range_var Tryz.laysC172 s hlim h tp p w hvar
end Go.Proofs
set_option maxRecDepth 8000
namespace Go.Proofs.YtpbnaaoilgohkaaGreatDoor
open Go Go.RowKit
theorem Sim.below {A : Nat → Prop} {ρ : Nat → Loc} {H : Heap} {w w' : World} (s : Sim A ρ H w) (b : Below w.heap.size w w') : Sim A ρ H w' ∧ Fr A ρ H w A ρ H w' := by
  have hK : ∀ b' o, Kof ρ H w b' = some o → Kof ρ H w' b' = some o := fun b' o hb => by
    obtain ⟨h1, h2⟩ := zm.1 hb
    exact zm.2 ⟨h1, by rw [b.block b' (Array.getElem?_eq_some_iff.1 h2).1]; exact h2⟩
  refine ⟨⟨s.live, fun g o ho => ?_, s.inj, s.lay.mono hK⟩, ⟨fun _ h => ⟨rfl, h⟩, hK, b.os, b.tape, b.output, b.size⟩⟩
  exact (s.obj g o ho).mono (b.block _ (s.obj g o ho).block_lt) hK (fun _ h => ⟨rfl, h⟩)
theorem QC.of_calls {P : Program} {f : FuncId} {fn : Func} {c : Code} {args : List AV} {r : AV} (hf : P.funcs[f]? = some fn) (hb : fn.body = some c) (hname : (fn.name == "runtime.NumGoroutine") = false)
    (h : ∀ (K : zh) (ρ : Nat → Loc) (A : Nat → Prop) (w : World) (cargs : Array Value), LayK (fun b => w.heap[b]?) → LRel K ρ A args cargs.toList → Calls P f cargs w fun e w' => (∃ v, e = .returned v ∧ ∀ (K : zh) (ρ : Nat → Loc) (A : Nat → Prop), VRel K ρ A r v) ∧ Below w.heap.size w w') : QC P f args r := by
  intro H nx ρ w cargs s ha
  have hcall : (callFunc f cargs).run P w = .ok (.enter f cargs) w := by
    have hname' : ¬ fn.name = "runtime.NumGoroutine" := by simpa using hname
    simp [callFunc, program, Sem.run_bind, Sem.run, hf, hname', hb, pure]
  rw [hcall]
  simp only [zo]
  refine (h _ _ _ w cargs (s.lay.mono fun b o hb => (zm.1 hb).2) ha).mono fun e w' ⟨⟨v, he, hv⟩, hw⟩ => ?_
  obtain ⟨s', f'⟩ := s.below hw
  exact ⟨v, he, r, H, nx, ρ, ⟨rfl, rfl, rfl⟩, s', hv _ _ _, f'⟩
theorem zaet : (Tryz.prog.globalNamed "internal/strconv.uint64pow10").isSome = true := by kernel_rfl
theorem LayK.tab {w : World} (h : LayK (fun b => w.heap[b]?)) : Lib.TabIs Tryz.prog w "internal/strconv.uint64pow10" .u64 Lib.pow10Tab := by
  obtain ⟨g, hg⟩ := Option.isSome_iff_exists.1 zaet
  obtain ⟨e, m, hc⟩ := h.1 g hg
  unfold Lib.TabIs World.var?
  have hc' : w.heap[g]? = _ := hc
  rw [hg, Option.bind_some, hc']
set_option maxRecDepth 8000 in
theorem zaic (n : Int) (h0 : -9223372036854775808 ≤ n) (h1 : n ≤ 9223372036854775807) : QC Tryz.prog 88 [.int .i64 n] (.str (Lib.itoa n)) := by
  refine QC.of_calls (c := zp Tryz.f88) Tryz.func88 (by kernel_rfl) (by kernel_rfl) fun K ρ A w cargs hl ha => ?_
  have hc : cargs = #[.int .i64 n] := by
    obtain ⟨hlen, hg⟩ := ha
    have hlen' : cargs.toList.length = 1 := hlen
    match he : cargs.toList, hlen' with
    | [v], _ =>
      have := hg 0 (.int .i64 n) v rfl (by rw [he]; rfl)
      cases this
      exact Array.ext' (by rw [he])
  subst hc
  refine (Tryz.strconv_Itoa n h0 h1 w hl.tab).mono fun e w' ⟨he, k, os, hw⟩ => ?_
  subst he hw
  refine ⟨⟨_, rfl, fun K ρ A => .str _⟩, ⟨rfl, rfl, rfl, ?_, fun b hb => ?_⟩⟩
  · simp [Sort.grow, World.drewN]
  · simp only [Sort.grow, World.drewN]
    rw [Array.getElem?_append_left (by simpa using hb)]
end Go.Proofs.YtpbnaaoilgohkaaGreatDoor
set_option maxRecDepth 8000
namespace Go.Proofs.YtpbnaaoilgohkaaGreatDoor
open Go Go.RowKit
theorem zxm : (Tryz.prog.globalNamed "strconv.ErrSyntax").isSome = true := by kernel_rfl
theorem zaao : (Tryz.prog.globalNamed "strconv.ErrRange").isSome = true := by kernel_rfl
theorem LayE.var {n : String} {w : World} (h : LayE n (fun b => w.heap[b]?)) (hn : (Tryz.prog.globalNamed n).isSome = true) : ∃ t p, w.var? Tryz.prog n = some #[.iface t p] := by
  obtain ⟨g, hg⟩ := Option.isSome_iff_exists.1 hn
  obtain ⟨t, p, e, m, hc⟩ := h g hg
  have hc' : w.heap[g]? = _ := hc
  exact ⟨t, p, by unfold World.var?; rw [hg, Option.bind_some, hc']⟩
theorem zyi (w : World) (e : TypeId) (s : ByteArray) : Below w.heap.size w (Lib.bytesWorld w e s) := ⟨rfl, rfl, rfl, by rw [Lib.bytesWorld_size]; omega, fun k hk => Lib.bytesWorld_at_old w e s k hk⟩
def zsi (s : List UInt8) : AV := match Lib.atoiAll s with
  | .ok v => .tup [.int .i64 v, .inil]
  | .range => .tup [.int .i64 (Lib.atoiSat s), .ifc]
  | _ => .tup [.int .i64 0, .ifc]
theorem tup2 {n : Int} {x : AV} {c : Value} (h : ∀ K ρ A, VRel K ρ A x c) (K : zh) (ρ : Nat → Loc) (A : Nat → Prop) : VRel K ρ A (.tup [.int .i64 n, x]) (.tuple #[.int .i64 n, c]) :=
  .tup _ _ rfl fun j v c' hv hc => by
    match j with
    | 0 => cases hv; cases hc; exact .int _ _
    | 1 => cases hv; cases hc; exact h K ρ A
set_option maxRecDepth 8000 in
theorem zaii (s : List UInt8) (h : s.length ≤ 281474976710656) : QC Tryz.prog 91 [.str s] (zsi s) := by
  refine QC.of_calls (c := zp Tryz.f91) Tryz.func91 (by kernel_rfl) (by kernel_rfl) fun K ρ A w cargs hl ha => ?_
  have hc : cargs = #[.string ⟨s.toArray⟩] := by
    obtain ⟨hlen, hg⟩ := ha
    have hlen' : cargs.toList.length = 1 := hlen
    match he : cargs.toList, hlen' with
    | [v], _ =>
      have := hg 0 (.str s) v rfl (by rw [he]; rfl)
      cases this
      exact Array.ext' (by rw [he])
  subst hc
  have hs : (ByteArray.mk s.toArray).size = s.length := by show s.toArray.size = _; simp
  have hd : (ByteArray.mk s.toArray).data.toList = s := by simp
  unfold zsi
  cases hv : Lib.atoiAll s with
  | ok v =>
    refine (Tryz.strconv_Atoi_ok ⟨s.toArray⟩ (by omega) v (by rw [hd]; exact hv) w).mono fun e w' ⟨he, hw⟩ => ⟨⟨_, he, tup2 fun _ _ _ => .inil⟩, ?_⟩
    rcases hw with rfl | ⟨t, rfl⟩
    · exact .refl _ _
    · exact zyi w _ t
  | range =>
    obtain ⟨t, p, hvar⟩ := hl.2.2.1.var zaao
    have hx : Lib.atoiSat (ByteArray.mk s.toArray).data.toList = Lib.atoiSat s := by rw [hd]
    exact (Tryz.strconv_Atoi_range_var ⟨s.toArray⟩ (by omega) (by rw [hd]; exact hv) t p w hvar).mono fun e w' ⟨N, he, _, _, hw⟩ => ⟨⟨_, hx ▸ he, tup2 fun _ _ _ => .ifc _ ⟨_, _, rfl⟩⟩, hw⟩
  | _ =>
    obtain ⟨t, p, hvar⟩ := hl.2.1.var zxm
    exact (Tryz.strconv_Atoi_syntax_var ⟨s.toArray⟩ (by omega) (by rw [hd]; exact hv) t p w hvar).mono fun e w' ⟨N, he, _, _, hw⟩ => ⟨⟨_, he, tup2 fun _ _ _ => .ifc _ ⟨_, _, rfl⟩⟩, hw⟩
end Go.Proofs.YtpbnaaoilgohkaaGreatDoor
