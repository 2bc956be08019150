/- A region that draws its order, by what is known of each operation's value, whatever order is drawn: memory may grow on the way. -/
import Derived.WalkKit
import Derived.Orders
namespace Go.Proofs.Ytckhbfbbpdjmdaa
open Go Go.RowKit

def boolOf : Value → Option Bool
  | .bool b => some b
  | _ => none

def flowUpon (P : Program) (R : Value → World → Prop) : Result Next → Prop
  | .ok (.value v) w' => R v w'
  | .ok .skip w' => R undef w'
  | .ok (.enter f args) w' => Calls P f args w' fun e w'' => ∃ v, e = .returned v ∧ R v w''
  | _ => False

theorem wp_of_flow {P : Program} {o : Oper} {a : Act} {w : World} {K : Act → World → Prop} {Q : Exit → Act → World → Prop} {R : Value → World → Prop}
    (h : flowUpon P R ((execOp a.eval o).run P w)) (hK : ∀ v w', R v w' → K (a.put o.dst v) w') : o.wp P a w K Q := by
  unfold Oper.wp
  generalize (execOp a.eval o).run P w = r at *
  cases r with
  | ok n w' =>
    cases n <;> simp only [flowUpon] at h <;> simp only [Oper.upon]
    case value u => exact hK _ _ h
    case skip => exact hK _ _ h
    case enter f args => exact h.mono fun e w'' ⟨v, he, hr⟩ => by subst he; exact hK _ _ hr
  | halt x w' => simp only [flowUpon] at h

def predsOf (ops : Array Oper) (i : Nat) : List Nat :=
  match ops[i]? with
  | some o => o.after.toList.filterMap fun e => if Region.binds .any e then some e.on else none
  | none => []
def writerOf (ops : Array Oper) (t : Tmp) : Option Nat := (List.range ops.size).find? fun i => ((ops[i]?).bind (·.dst)) == some t
def flowOk (ops : Array Oper) (n : Nat) : Bool :=
  (List.range ops.size).all fun i => match ops[i]? with
    | none => false
    | some o => (predsOf ops i).all (fun j => decide (j < i)) && (match o.dst with | some t => writerOf ops t == some i && decide (t < n) | none => true) &&
      (match o.op with | .select .. => false | _ => true) &&
      (o.looksAt ops).all fun t => match writerOf ops t with
        | none => true
        | some j => (predsOf ops i).contains j || (predsOf ops j).contains i
/-- What an operation wants of its guard. -/
def guardOk (ops : Array Oper) (o : Oper) (ev : Operand → Value) : Bool :=
  match o.guard with
  | none => true
  | some (j, want) => match (ops[j]?).bind (·.dst) with
    | some t => boolOf (ev (.tmp t)) == some want
    | none => false
structure Ev (ev : Operand → Value) : Prop where
  const : ∀ v, ev (.const v) = v
  global : ∀ g, ev (.global g) = .pointer (some ⟨g, 0, none⟩)
  func : ∀ f, ev (.func f) = .func (.func f) #[] #[]

abbrev Know := Value → World → Prop

section
variable (P : Program) (ops : Array Oper) (le : World → World → Prop) (A : List Know) (a0 : Act) (w1 : World)

def knowAt (i : Nat) : Know := A.getD i fun _ _ => True
/-- What is known of a slot when operation i comes up. -/
def knownT (ev : Operand → Value) (W : World) (i : Nat) (t : Tmp) : Prop :=
  match writerOf ops t with
  | none => ev (.tmp t) = a0.tmps.getD t undef
  | some j => if (predsOf ops i).contains j then knowAt A j (ev (.tmp t)) W else ev (.tmp t) = a0.tmps.getD t undef
def knownAll (ev : Operand → Value) (W : World) (i : Nat) : List Tmp → Prop
  | [] => True
  | t :: r => knownT ops A a0 ev W i t ∧ knownAll ev W i r
def flowStep (i : Nat) (o : Oper) : Prop :=
  ∀ (ev : Operand → Value) (W : World), Ev ev → le w1 W → knownAll ops A a0 ev W i (o.looksAt ops) →
    if guardOk ops o ev = true then flowUpon P (fun v W' => le W W' ∧ knowAt A i v W') ((execOp ev o).run P W) else knowAt A i undef W
def flowSteps : List Oper → Nat → Prop
  | [], _ => True
  | o :: r, i => flowStep P ops le A a0 w1 i o ∧ flowSteps r (i + 1)
def flowEnd (Q' : Act → World → Prop) : List Know → List Oper → Act → World → Prop
  | p :: ps, o :: r, a, W => ∀ v, p v W → flowEnd Q' ps r (a.put o.dst v) W
  | _, _, a, W => Q' a W
def stableAll : List Know → Prop
  | [] => True
  | p :: r => (∀ v W W', p v W → le W W' → p v W') ∧ stableAll r
end

theorem knownAll_of {ops : Array Oper} {A : List Know} {a0 : Act} {ev : Operand → Value} {W : World} {i : Nat} : ∀ (l : List Tmp), (∀ t ∈ l, knownT ops A a0 ev W i t) → knownAll ops A a0 ev W i l
  | [], _ => trivial
  | t :: r, h => ⟨h t (by simp), knownAll_of r fun u hu => h u (by simp [hu])⟩
theorem flowSteps_get {P : Program} {ops : Array Oper} {le : World → World → Prop} {A : List Know} {a0 : Act} {w1 : World} : ∀ (l : List Oper) (k : Nat), flowSteps P ops le A a0 w1 l k →
    ∀ i o, l[i]? = some o → flowStep P ops le A a0 w1 (k + i) o
  | [], _, _, i, o, h => by simp at h
  | o' :: r, k, hs, 0, o, h => by simp at h; subst h; exact hs.1
  | o' :: r, k, hs, i + 1, o, h => by
    have := flowSteps_get r (k + 1) hs.2 i o (by simpa using h)
    rwa [show k + 1 + i = k + (i + 1) by omega] at this
theorem stable_at {le : World → World → Prop} : ∀ (A : List Know), stableAll le A → ∀ i v W W', knowAt A i v W → le W W' → knowAt A i v W'
  | [], _, i, v, W, W', _, _ => by simp [knowAt]
  | p :: r, hs, 0, v, W, W', h, hl => hs.1 v W W' h hl
  | p :: r, hs, i + 1, v, W, W', h, hl => by
    have := stable_at r hs.2 i v W W' (by simpa [knowAt] using h) hl
    simpa [knowAt] using this

theorem getD_put (a : Act) (t u : Nat) (v : Value) (ht : t < a.tmps.size) : (a.put (some t) v).tmps.getD u undef = if u = t then v else a.tmps.getD u undef := by
  simp only [Act.put]
  by_cases h : u = t
  · subst h; simp [Array.getD, ht]
  · rw [if_neg h]
    simp only [Array.getD_eq_getD_getElem?]
    rw [Array.getElem?_setIfInBounds_ne (Ne.symm h)]

/-- All values, put in turn. -/
def putsFrom (vs : Nat → Value) : List Oper → Nat → Act → Act
  | [], _, a => a
  | o :: r, i, a => putsFrom vs r (i + 1) (a.put o.dst (vs i))
theorem puts_size (vs : Nat → Value) : ∀ (l : List Oper) (i : Nat) (a : Act), (putsFrom vs l i a).tmps.size = a.tmps.size ∧ (putsFrom vs l i a).defers = a.defers
  | [], _, _ => ⟨rfl, rfl⟩
  | o :: r, i, a => by
    have := puts_size vs r (i + 1) (a.put o.dst (vs i))
    refine ⟨this.1.trans ?_, this.2.trans ?_⟩ <;> cases o.dst <;> simp [Act.put]
theorem puts_none (vs : Nat → Value) (u : Nat) : ∀ (l : List Oper) (i : Nat) (a : Act), (∀ o ∈ l, o.dst ≠ some u) → (putsFrom vs l i a).tmps.getD u undef = a.tmps.getD u undef
  | [], _, _, _ => rfl
  | o :: r, i, a, h => by
    rw [putsFrom, puts_none vs u r (i + 1) _ fun o ho => h o (by simp [ho])]
    have h0 := h o (by simp)
    cases hd : o.dst with
    | none => rfl
    | some d =>
      have hne : d ≠ u := fun e => h0 (by rw [hd, e])
      simp only [Act.put, Array.getD_eq_getD_getElem?]
      rw [Array.getElem?_setIfInBounds_ne hne]
theorem puts_some (vs : Nat → Value) (u : Nat) : ∀ (l : List Oper) (i : Nat) (a : Act), u < a.tmps.size → ∀ k o, l[k]? = some o → o.dst = some u → (∀ k' o', l[k']? = some o' → o'.dst = some u → k' = k) →
    (putsFrom vs l i a).tmps.getD u undef = vs (i + k)
  | [], _, _, _, k, o, h, _, _ => by simp at h
  | o' :: r, i, a, hu, 0, o, h, hd, huniq => by
    simp at h; subst h
    rw [putsFrom, puts_none vs u r (i + 1) _ fun o ho he => by
      obtain ⟨k, hk⟩ := List.getElem?_of_mem ho
      have := huniq (k + 1) o (by simpa using hk) he
      omega]
    rw [hd, getD_put _ _ _ _ hu, if_pos rfl]
    rfl
  | o' :: r, i, a, hu, k + 1, o, h, hd, huniq => by
    rw [putsFrom, puts_some vs u r (i + 1) _ (by cases o'.dst <;> simpa [Act.put] using hu) k o (by simpa using h) hd fun k' o'' h1 h2 => by
      have := huniq (k' + 1) o'' (by simpa using h1) h2
      omega]
    congr 1
    omega
theorem flowEnd_puts {Q' : Act → World → Prop} (vs : Nat → Value) {W : World} (A : List Know) : ∀ (l : List Oper) (i : Nat) (a : Act), A.length = l.length → flowEnd Q' A l a W →
    (∀ (k : Nat) (p : Know), A[k]? = some p → p (vs (i + k)) W) → Q' (putsFrom vs l i a) W := by
  induction A with
  | nil =>
    intro l i a hl h _
    cases l with
    | nil => exact h
    | cons _ _ => cases hl
  | cons p ps ih =>
    intro l i a hl h hA
    cases l with
    | nil => cases hl
    | cons o r =>
      refine ih r (i + 1) _ (by simpa using hl) (h (vs i) (hA 0 p rfl)) fun k q hk => ?_
      have := hA (k + 1) q (by simpa using hk)
      rwa [show i + 1 + k = i + (k + 1) by omega]

structure FlowInv (ops : Array Oper) (le : World → World → Prop) (A : List Know) (a0 : Act) (w1 : World) (listed : Array Bool) (a : Act) (W : World) : Prop where
  w : le w1 W
  sz : listed.size = ops.size
  closed : ∀ i, listed.getD i false = true → ∀ j ∈ predsOf ops i, listed.getD j false = true
  tsz : a.tmps.size = a0.tmps.size
  defers : a.defers = a0.defers
  tmp : ∀ t, match writerOf ops t with
    | none => a.tmps.getD t undef = a0.tmps.getD t undef
    | some j => if listed.getD j false = true then knowAt A j (a.tmps.getD t undef) W else a.tmps.getD t undef = a0.tmps.getD t undef
  mute : ∀ i o, ops[i]? = some o → o.dst = none → listed.getD i false = true → ∃ v, knowAt A i v W

theorem ready_iff {ops : Array Oper} {listed : Array Bool} (hs : listed.size = ops.size) {i : Nat} :
    i ∈ Region.ready .any ops listed ↔ ∃ o, ops[i]? = some o ∧ listed.getD i false = false ∧ ∀ j ∈ predsOf ops i, listed.getD j false = true := by
  unfold Region.ready
  rw [List.mem_filter, List.mem_range]
  constructor
  · rintro ⟨hi, hb⟩
    simp only [Bool.and_eq_true, Bool.not_eq_true'] at hb
    obtain ⟨h1, h2⟩ := hb
    have ho : ops[i]? = some ops[i] := Array.getElem?_eq_getElem hi
    refine ⟨ops[i], ho, ?_, fun j hj => ?_⟩
    · simpa [Array.getD, hs, hi] using h1
    · rw [ho] at h2
      simp only [Option.map_some, Option.getD_some, Array.all_eq_true_iff_forall_mem] at h2
      unfold predsOf at hj
      rw [ho] at hj
      simp only [List.mem_filterMap] at hj
      obtain ⟨e, he, hj⟩ := hj
      split at hj
      · rename_i hbd
        obtain rfl := Option.some.inj hj
        have := h2 e (by simpa using he)
        simpa [hbd] using this
      · cases hj
  · rintro ⟨o, ho, h1, h2⟩
    have hi : i < ops.size := (Array.getElem?_eq_some_iff.1 ho).1
    refine ⟨hi, ?_⟩
    simp only [Bool.and_eq_true, Bool.not_eq_true']
    refine ⟨by simpa [Array.getD, hs, hi] using h1, ?_⟩
    rw [ho]
    simp only [Option.map_some, Option.getD_some, Array.all_eq_true_iff_forall_mem]
    intro e he
    by_cases hbd : Region.binds .any e = true
    · simp only [hbd, Bool.not_true, Bool.false_or]
      refine h2 e.on ?_
      unfold predsOf
      rw [ho]
      simp only [List.mem_filterMap]
      exact ⟨e, by simpa using he, by simp [hbd]⟩
    · simp [hbd]

theorem getD_set {l : Array Bool} {i j : Nat} (hi : i < l.size) : (l.setIfInBounds i true).getD j false = if j = i then true else l.getD j false := by
  by_cases h : j = i
  · subst h; simp [Array.getD, hi]
  · rw [if_neg h]
    simp only [Array.getD_eq_getD_getElem?]
    rw [Array.getElem?_setIfInBounds_ne (Ne.symm h)]

theorem flowOk_at {ops : Array Oper} {n : Nat} (h : flowOk ops n = true) {i : Nat} {o : Oper} (ho : ops[i]? = some o) :
    (∀ j ∈ predsOf ops i, j < i) ∧ (∀ t, o.dst = some t → writerOf ops t = some i ∧ t < n) ∧ (∀ cs b, o.op ≠ .select cs b) ∧
      ∀ t ∈ o.looksAt ops, ∀ j, writerOf ops t = some j → j ∈ predsOf ops i ∨ i ∈ predsOf ops j := by
  have hi : i < ops.size := (Array.getElem?_eq_some_iff.1 ho).1
  unfold flowOk at h
  have := List.all_eq_true.1 h i (List.mem_range.2 hi)
  rw [ho] at this
  simp only [Bool.and_eq_true, List.all_eq_true] at this
  obtain ⟨⟨⟨h1, h2⟩, h3⟩, h4⟩ := this
  refine ⟨fun j hj => by simpa using h1 j hj, fun t ht => ?_, fun cs b hb => ?_, fun t ht j hj => ?_⟩
  · rw [ht] at h2
    simpa using h2
  · rw [hb] at h3; cases h3
  · have := h4 t ht
    rw [hj] at this
    simpa using this

theorem flow_wanted {ops : Array Oper} {o : Oper} {a : Act} {n : Nat} (hn : a.tmps.size = n) (h : flowOk ops n = true) : Region.wanted o (yielded ops a.tmps) = guardOk ops o a.eval := by
  unfold Region.wanted guardOk
  cases hg : o.guard with
  | none => rfl
  | some jw =>
    obtain ⟨j, want⟩ := jw
    simp only [yielded]
    cases hd : (ops[j]?).bind (·.dst) with
    | none => simp
    | some t =>
      have ht : t < a.tmps.size := by
        obtain ⟨o', ho', hd'⟩ := Option.bind_eq_some_iff.1 hd
        rw [hn]
        exact ((flowOk_at h ho').2.1 t hd').2
      have e1 : a.tmps[t]? = some (a.tmps.getD t undef) := by simp [Array.getD, ht]
      simp only [Option.bind_some, e1]
      show _ = (boolOf (a.tmps.getD t undef) == some want)
      cases a.tmps.getD t undef <;> rfl

theorem mem_preds_size {ops : Array Oper} {i j : Nat} (h : j ∈ predsOf ops i) : i < ops.size := by
  unfold predsOf at h
  split at h
  · rename_i o ho; exact (Array.getElem?_eq_some_iff.1 ho).1
  · cases h

theorem writer_spec {ops : Array Oper} {t j : Nat} (h : writerOf ops t = some j) : ∃ o, ops[j]? = some o ∧ o.dst = some t := by
  unfold writerOf at h
  have := List.find?_some h
  simp only [beq_iff_eq] at this
  obtain ⟨o, ho, hd⟩ := Option.bind_eq_some_iff.1 this
  exact ⟨o, ho, hd⟩

theorem wpAny_flow {P : Program} {ops : Array Oper} {le : World → World → Prop} {A : List Know} {a0 : Act} {w1 : World} {Q : Exit → Act → World → Prop}
    (hrefl : ∀ W, le W W) (htrans : ∀ W W' W'', le W W' → le W' W'' → le W W'') (hst : stableAll le A) (hok : flowOk ops a0.tmps.size = true)
    (hsteps : flowSteps P ops le A a0 w1 ops.toList 0) (hlen : A.length = ops.size)
    (hend : ∀ W, le w1 W → flowEnd (Q .normal) A ops.toList a0 W) :
    ∀ (fuel : Nat) (listed : Array Bool) (a : Act) (W : World), FlowInv ops le A a0 w1 listed a W → ((List.range ops.size).filter fun i => !listed.getD i false).length ≤ fuel → wpAny P .any ops Q fuel listed a W := by
  have fin : ∀ (listed : Array Bool) (a : Act) (W : World), FlowInv ops le A a0 w1 listed a W → Region.ready .any ops listed = [] → Q .normal a W := by
    intro listed a W inv hr
    have all : ∀ n i, i < n → i < ops.size → listed.getD i false = true := by
      intro n
      induction n with
      | zero => intro i hi; omega
      | succ n ih =>
        intro i hi hs
        by_cases hl : listed.getD i false = true
        · exact hl
        · exfalso
          have ho : ops[i]? = some ops[i] := Array.getElem?_eq_getElem hs
          have : i ∈ Region.ready .any ops listed := (ready_iff inv.sz).2 ⟨ops[i], ho, by simpa using hl, fun j hj => ih j (by have := (flowOk_at hok ho).1 j hj; omega) (by have := (flowOk_at hok ho).1 j hj; omega)⟩
          rw [hr] at this
          cases this
    have all' : ∀ i, i < ops.size → listed.getD i false = true := fun i hi => all (i + 1) i (by omega) hi
    have mutes : ∃ f : Nat → Value, ∀ i, i < ops.size → ∀ o, ops[i]? = some o → o.dst = none → knowAt A i (f i) W := by
      haveI : Inhabited Value := ⟨undef⟩
      classical
      refine ⟨fun i => if h : ∃ v, knowAt A i v W then Classical.choose h else undef, fun i hi o ho hd => ?_⟩
      have h := inv.mute i o ho hd (all' i hi)
      simp only [dif_pos h]
      exact Classical.choose_spec h
    obtain ⟨f, hf⟩ := mutes
    let vs : Nat → Value := fun i => match (ops[i]?).bind (·.dst) with | some t => a.tmps.getD t undef | none => f i
    have hputs := flowEnd_puts vs A ops.toList 0 a0 (by simpa using hlen) (hend W inv.w) (fun k p hk => by
      have hks : k < ops.size := by rw [← hlen]; exact (List.getElem?_eq_some_iff.1 hk).1
      have hp : knowAt A k = p := by simp [knowAt, List.getD, hk]
      have ho : ops[k]? = some ops[k] := Array.getElem?_eq_getElem hks
      rw [← hp, Nat.zero_add]
      show knowAt A k (match (ops[k]?).bind (·.dst) with | some t => a.tmps.getD t undef | none => f k) W
      rw [ho]
      cases hd : (ops[k]).dst with
      | none => simpa [hd] using hf k hks _ ho hd
      | some t =>
        have hw := ((flowOk_at hok ho).2.1 t hd).1
        have := inv.tmp t
        rw [hw] at this
        simp only [all' k hks, if_true] at this
        simpa [hd] using this)
    have heq : putsFrom vs ops.toList 0 a0 = a := by
      have hsz := puts_size vs ops.toList 0 a0
      have ht : (putsFrom vs ops.toList 0 a0).tmps = a.tmps := by
        apply Array.ext
        · rw [hsz.1, inv.tsz]
        · intro u h1 h2
          have e1 : (putsFrom vs ops.toList 0 a0).tmps.getD u undef = a.tmps.getD u undef := by
            cases hw : writerOf ops u with
            | none =>
              rw [puts_none vs u _ _ _ fun o ho hd => by
                obtain ⟨k, hk⟩ := List.getElem?_of_mem ho
                have ho' : ops[k]? = some o := by simpa using hk
                have := ((flowOk_at hok ho').2.1 u hd).1
                rw [hw] at this; cases this]
              have := inv.tmp u
              rw [hw] at this
              exact this.symm
            | some j =>
              obtain ⟨o, ho, hd⟩ := writer_spec hw
              rw [puts_some vs u _ _ _ (by rw [hsz.1] at h1; exact h1) j o (by simpa using ho) hd fun k' o' hk' hd' => by
                have ho' : ops[k']? = some o' := by simpa using hk'
                have := ((flowOk_at hok ho').2.1 u hd').1
                rw [hw] at this
                exact (Option.some.inj this).symm]
              show (match (ops[0 + j]?).bind (·.dst) with | some t => a.tmps.getD t undef | none => f (0 + j)) = _
              rw [Nat.zero_add, ho]
              simp [hd]
          simpa [Array.getD, h1, h2] using e1
      have hd : (putsFrom vs ops.toList 0 a0).defers = a.defers := hsz.2.trans inv.defers.symm
      cases a
      cases hp : putsFrom vs ops.toList 0 a0
      rw [hp] at ht hd
      simp at ht hd
      rw [ht, hd]
    rw [heq] at hputs
    exact hputs
  intro fuel
  induction fuel with
  | zero =>
    intro listed a W inv hf
    have hr : Region.ready .any ops listed = [] := by
      cases hr : Region.ready .any ops listed with
      | nil => rfl
      | cons i r =>
        exfalso
        obtain ⟨o, ho, hl, _⟩ := (ready_iff inv.sz).1 (show i ∈ Region.ready .any ops listed by rw [hr]; simp)
        have hi : i < ops.size := (Array.getElem?_eq_some_iff.1 ho).1
        have : i ∈ (List.range ops.size).filter fun i => !listed.getD i false := by simp [hi]; simpa using hl
        have := List.length_pos_of_mem this
        omega
    exact ⟨hr, fin listed a W inv hr⟩
  | succ fuel ih =>
    intro listed a W inv hf
    refine ⟨fun hr => fin listed a W inv hr, fun i hi => ?_⟩
    obtain ⟨o, ho, hl, hp⟩ := (ready_iff inv.sz).1 hi
    have his : i < ops.size := (Array.getElem?_eq_some_iff.1 ho).1
    obtain ⟨hok1, hok2, hok3, hok4⟩ := flowOk_at hok ho
    have hstep := flowSteps_get ops.toList 0 hsteps i o (by simpa using ho)
    rw [Nat.zero_add] at hstep
    have hknow : knownAll ops A a0 a.eval W i (o.looksAt ops) := knownAll_of _ fun t ht => by
      unfold knownT
      have hinv := inv.tmp t
      cases hw : writerOf ops t with
      | none => rw [hw] at hinv; exact hinv
      | some j =>
        rw [hw] at hinv
        simp only at hinv ⊢
        by_cases hj : (predsOf ops i).contains j = true
        · rw [if_pos hj]
          have hjm : j ∈ predsOf ops i := by simpa using hj
          rw [if_pos (hp j hjm)] at hinv
          exact hinv
        · rw [if_neg hj]
          have hij : i ∈ predsOf ops j := by
            rcases hok4 t ht j hw with h | h
            · exact absurd (by simpa using h) hj
            · exact h
          have hlj : ¬ listed.getD j false = true := fun h => by
            have := inv.closed j h i hij
            rw [hl] at this; cases this
          rw [if_neg hlj] at hinv
          exact hinv
    have hs := hstep a.eval W ⟨fun _ => rfl, fun _ => rfl, fun _ => rfl⟩ inv.w hknow
    have next : ∀ v W', le W W' → knowAt A i v W' → wpAny P .any ops Q fuel (listed.setIfInBounds i true) (a.put o.dst v) W' := by
      intro v W' hle hv
      refine ih _ _ _ ⟨htrans _ _ _ inv.w hle, by simp [inv.sz], ?_, ?_, ?_, ?_, ?_⟩ ?_
      · intro k hk j hj
        rw [getD_set (by rw [inv.sz]; exact his)] at hk ⊢
        split
        · rfl
        · split at hk
          · rename_i hki; subst hki; exact hp j hj
          · exact inv.closed k hk j hj
      · rw [← inv.tsz]; cases o.dst <;> simp [Act.put]
      · rw [← inv.defers]; cases o.dst <;> rfl
      · intro t
        have hinv := inv.tmp t
        cases hd : o.dst with
        | none =>
          show match writerOf ops t with
            | none => a.tmps.getD t undef = a0.tmps.getD t undef
            | some j => if (listed.setIfInBounds i true).getD j false = true then knowAt A j (a.tmps.getD t undef) W' else a.tmps.getD t undef = a0.tmps.getD t undef
          cases hw : writerOf ops t with
          | none => rw [hw] at hinv; exact hinv
          | some j =>
            rw [hw] at hinv
            simp only at hinv ⊢
            have hji : j ≠ i := fun e => by
              obtain ⟨o', ho', hd'⟩ := writer_spec hw
              rw [e, ho] at ho'
              obtain rfl := Option.some.inj ho'
              rw [hd] at hd'; cases hd'
            rw [getD_set (by rw [inv.sz]; exact his), if_neg hji]
            split
            · rename_i h; rw [if_pos h] at hinv; exact stable_at A hst j _ W W' hinv hle
            · rename_i h; rw [if_neg h] at hinv; exact hinv
        | some d =>
          have hd2 := hok2 d hd
          have hdl : d < a.tmps.size := by rw [inv.tsz]; exact hd2.2
          rw [getD_put _ _ _ _ hdl]
          by_cases htd : t = d
          · subst htd
            rw [if_pos rfl, hd2.1]
            simp only
            rw [getD_set (by rw [inv.sz]; exact his), if_pos rfl, if_pos rfl]
            exact hv
          · rw [if_neg htd]
            cases hw : writerOf ops t with
            | none => rw [hw] at hinv; exact hinv
            | some j =>
              rw [hw] at hinv
              simp only at hinv ⊢
              have hji : j ≠ i := fun e => by
                obtain ⟨o', ho', hd'⟩ := writer_spec hw
                rw [e, ho] at ho'
                obtain rfl := Option.some.inj ho'
                rw [hd] at hd'
                exact htd (Option.some.inj hd').symm
              rw [getD_set (by rw [inv.sz]; exact his), if_neg hji]
              split
              · rename_i h; rw [if_pos h] at hinv; exact stable_at A hst j _ W W' hinv hle
              · rename_i h; rw [if_neg h] at hinv; exact hinv
      · intro k o' ho' hd' hk
        rw [getD_set (by rw [inv.sz]; exact his)] at hk
        split at hk
        · rename_i hki; subst hki
          exact ⟨v, hv⟩
        · obtain ⟨u, hu⟩ := inv.mute k o' ho' hd' hk
          exact ⟨u, stable_at A hst k u W W' hu hle⟩
      · have : ((List.range ops.size).filter fun k => !(listed.setIfInBounds i true).getD k false).length < ((List.range ops.size).filter fun k => !listed.getD k false).length := by
          have hsub : ((List.range ops.size).filter fun k => !(listed.setIfInBounds i true).getD k false) = ((List.range ops.size).filter fun k => !listed.getD k false).filter fun k => k != i := by
            rw [List.filter_filter]
            apply List.filter_congr
            intro k _
            rw [getD_set (by rw [inv.sz]; exact his)]
            by_cases hki : k = i <;> simp [hki]
          rw [hsub]
          have hmem : i ∈ (List.range ops.size).filter fun k => !listed.getD k false := by simp [his]; simpa using hl
          exact List.length_filter_lt_length_iff_exists.2 ⟨i, hmem, by simp⟩
        omega
    unfold wpOp
    rw [ho]
    simp only
    rw [flow_wanted inv.tsz hok]
    split
    · rename_i hg
      rw [if_pos hg] at hs
      exact .inl (wp_of_flow hs fun v W' h => next v W' h.1 h.2)
    · rename_i hg
      rw [if_neg hg] at hs
      exact next undef W (hrefl W) hs

/-- A REGION THAT DRAWS ITS ORDER: one look at each operation, whatever has come before it. -/
theorem wp_region_flow {P : Program} {ops : List Oper} {id : Nat} {a0 : Act} {w : World} {Q : Exit → Act → World → Prop} (le : World → World → Prop) (A : List Know)
    (hm : P.follows .mixedOrders = true) (hok : flowOk ops.toArray a0.tmps.size = true) (hlen : A.length = ops.length)
    (hrefl : ∀ W, le W W) (htrans : ∀ W W' W'', le W W' → le W' W'' → le W W'') (hst : stableAll le A)
    (hsteps : flowSteps P ops.toArray le A a0 w.drew ops 0)
    (hend : ∀ W, le w.drew W → flowEnd (Q .normal) A ops a0 W) : (Code.region id ops.toArray true).wp P Q a0 w := by
  refine wp_region_any hm (wpAny_flow (w1 := w.drew) hrefl htrans hst hok (by simpa using hsteps) (by simpa using hlen) (by simpa using hend) _ _ _ _ ⟨hrefl _, by simp, ?_, rfl, rfl, ?_, ?_⟩ ?_)
  · intro i hi
    exfalso
    simp [Array.getD] at hi
  · intro t
    cases writerOf ops.toArray t with
    | none => rfl
    | some j => simp [Array.getD]
  · intro i o _ _ hi
    exfalso
    simp [Array.getD] at hi
  · exact Nat.le_trans (List.length_filter_le _ _) (by simp)


/-! ### By rows: what each operation looks at, written out. -/
abbrev Row := List (Tmp × Option Nat) × Option (Tmp × Bool)
def lookRow (ops : Array Oper) (i : Nat) (o : Oper) : List (Tmp × Option Nat) :=
  (o.looksAt ops).map fun t => (t, match writerOf ops t with | some j => if (predsOf ops i).contains j then some j else none | none => none)
def guardRow (ops : Array Oper) (o : Oper) : Option (Tmp × Bool) :=
  match o.guard with
  | none => none
  | some (j, want) => some (((ops[j]?).bind (·.dst)).getD 0, want)
def guardSure (ops : Array Oper) (o : Oper) : Bool :=
  match o.guard with
  | none => true
  | some (j, _) => ((ops[j]?).bind (·.dst)).isSome
def rowsFrom (ops : Array Oper) : List Oper → Nat → List Row
  | [], _ => []
  | o :: r, i => (lookRow ops i o, guardRow ops o) :: rowsFrom ops r (i + 1)
def rowsOf (ops : List Oper) : List Row := rowsFrom ops.toArray ops 0

section
variable (P : Program) (le : World → World → Prop) (A : List Know) (a0 : Act) (w1 : World)
def knownRow (ev : Operand → Value) (W : World) : List (Tmp × Option Nat) → Prop
  | [] => True
  | (t, none) :: r => ev (.tmp t) = a0.tmps.getD t undef ∧ knownRow ev W r
  | (t, some j) :: r => knowAt A j (ev (.tmp t)) W ∧ knownRow ev W r
def guardYes (ev : Operand → Value) : Option (Tmp × Bool) → Bool
  | none => true
  | some (t, want) => boolOf (ev (.tmp t)) == some want
def rowStep (i : Nat) (o : Oper) (row : Row) : Prop :=
  ∀ (ev : Operand → Value) (W : World), (∀ v, ev (.const v) = v) → (∀ g, ev (.global g) = .pointer (some ⟨g, 0, none⟩)) → (∀ f, ev (.func f) = .func (.func f) #[] #[]) → le w1 W → knownRow A a0 ev W row.1 →
    if guardYes ev row.2 = true then flowUpon P (fun v W' => le W W' ∧ knowAt A i v W') ((execOp ev o).run P W) else knowAt A i undef W
def rowSteps : List Oper → List Row → Nat → Prop
  | o :: r, row :: rows, i => rowStep P le A a0 w1 i o row ∧ rowSteps r rows (i + 1)
  | [], _, _ => True
  | _ :: _, [], _ => False
end

theorem knownRow_of {ops : Array Oper} {A : List Know} {a0 : Act} {ev : Operand → Value} {W : World} {i : Nat} : ∀ (l : List Tmp), knownAll ops A a0 ev W i l →
    knownRow A a0 ev W (l.map fun t => (t, match writerOf ops t with | some j => if (predsOf ops i).contains j then some j else none | none => none))
  | [], _ => trivial
  | t :: r, h => by
    have ih := knownRow_of r h.2
    have h1 := h.1
    unfold knownT at h1
    simp only [List.map_cons]
    cases hw : writerOf ops t with
    | none => rw [hw] at h1; exact ⟨h1, ih⟩
    | some j =>
      rw [hw] at h1
      simp only at h1 ⊢
      split
      · rename_i hc; rw [if_pos hc] at h1; exact ⟨h1, ih⟩
      · rename_i hc; rw [if_neg hc] at h1; exact ⟨h1, ih⟩

theorem steps_of_rows {P : Program} {ops : Array Oper} {le : World → World → Prop} {A : List Know} {a0 : Act} {w1 : World} : ∀ (l : List Oper) (i : Nat), (l.all (guardSure ops)) = true →
    rowSteps P le A a0 w1 l (rowsFrom ops l i) i → flowSteps P ops le A a0 w1 l i
  | [], _, _, _ => trivial
  | o :: r, i, hs, h => by
    simp only [List.all_cons, Bool.and_eq_true] at hs
    refine ⟨fun ev W hev hle hk => ?_, steps_of_rows r (i + 1) hs.2 h.2⟩
    have := h.1 ev W hev.const hev.global hev.func hle (knownRow_of _ hk)
    have hg : guardYes ev (guardRow ops o) = guardOk ops o ev := by
      have h0 := hs.1
      unfold guardSure at h0
      unfold guardRow guardOk
      cases ho : o.guard with
      | none => rfl
      | some jw =>
        obtain ⟨j, want⟩ := jw
        rw [ho] at h0
        simp only at h0 ⊢
        cases hd : (ops[j]?).bind (·.dst) with
        | none => rw [hd] at h0; cases h0
        | some t => rfl
    rw [← hg]
    exact this

/-- What was there has not turned; memory may have grown. -/
def leB (W W' : World) : Prop := Below W.heap.size W W'
theorem leB_refl (W : World) : leB W W := Below.refl _ _
theorem leB_trans {W W' W'' : World} (h : leB W W') (k : leB W' W'') : leB W W'' := Below.trans h (Below.mono k (Below.size h))

theorem leB_true (W : World) : leB W W = True := eq_true (leB_refl W)
attribute [go_sem] guardYes boolOf flowUpon knowAt leB_true

theorem wp_region_rows {P : Program} {ops : List Oper} {id : Nat} {a0 : Act} {w : World} {Q : Exit → Act → World → Prop} (le : World → World → Prop) (rows : List Row) (A : List Know)
    (hm : P.follows .mixedOrders = true) (hok : flowOk ops.toArray a0.tmps.size = true) (hrows : rowsOf ops = rows) (hsure : ops.all (guardSure ops.toArray) = true) (hlen : A.length = ops.length)
    (hrefl : ∀ W, le W W) (htrans : ∀ W W' W'', le W W' → le W' W'' → le W W'') (hst : stableAll le A)
    (hsteps : rowSteps P le A a0 w.drew ops rows 0)
    (hend : ∀ W, le w.drew W → flowEnd (Q .normal) A ops a0 W) : (Code.region id ops.toArray true).wp P Q a0 w :=
  wp_region_flow le A hm hok hlen hrefl htrans hst (steps_of_rows ops 0 hsure (by rw [show rowsFrom ops.toArray ops 0 = rows from hrows]; exact hsteps)) hend

theorem wp_region_grow {P : Program} {ops : List Oper} {id : Nat} {a0 : Act} {w : World} {Q : Exit → Act → World → Prop} (rows : List Row) (A : List Know)
    (hm : P.follows .mixedOrders = true) (hok : flowOk ops.toArray a0.tmps.size = true) (hrows : rowsOf ops = rows) (hsure : ops.all (guardSure ops.toArray) = true) (hlen : A.length = ops.length)
    (hst : stableAll leB A) (hsteps : rowSteps P leB A a0 w.drew ops rows 0)
    (hend : ∀ W, leB w.drew W → flowEnd (Q .normal) A ops a0 W) : (Code.region id ops.toArray true).wp P Q a0 w :=
  wp_region_rows leB rows A hm hok hrows hsure hlen leB_refl (fun _ _ _ h k => leB_trans h k) hst hsteps hend

end Go.Proofs.Ytckhbfbbpdjmdaa
