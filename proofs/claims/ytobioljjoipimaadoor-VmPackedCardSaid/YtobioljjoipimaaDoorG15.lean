/- What a run comes to is so: operations, and calls. What a run comes to is so: the text. What a run comes to is so: where the order is drawn. What a run comes to is so: a function. strconv.Atoi: a word's number, and whether it is one. What is known of functions of Go's library, and of slices.Clone of what is empty, for runs. The closed question of the laws of chapter 7: run. The laws of chapter 7: step by step as at once; nothing is free. Packed, it goes on the same: the law's function. The library's laid variables, where a row lists five of them: three tables, two errors. -/
import Derived.Test.YtobioljjoipimaaDoorG14
import Derived.LoopN
import Derived.Test.YtobioljjoipimaaDoorG6
import Derived.Test.YtobioljjoipimaaDoorG10
import Derived.Test.YtobioljjoipimaaDoorG5
import Derived.Test.YtobioljjoipimaaDoorG13
import Derived.Test.YtobioljjoipimaaDoorG1
import Derived.Stop.LaidErr
set_option linter.unusedSimpArgs false
set_option linter.unusedVariables false
set_option maxRecDepth 8000
namespace Go.Proofs.YtobioljjoipimaaDoor
open Go Go.RowKit
theorem zkh {H : HB} {g : Nat} : isH H g = true ↔ ∃ o, toH H g = some o := by
  unfold isH toH
  cases H.get g <;> simp
theorem zhf {H : HB} {g : Nat} (h : ¬ isH H g = true) : toH H g = none := by
  cases e : toH H g with
  | none => rfl
  | some o => exact absurd (zkh.2 ⟨o, e⟩) h
def Tk (X : HB) (n0 nE : Nat) (g : Nat) : Prop := isH X g = true ∨ (n0 ≤ g ∧ g < nE)
open Classical in
noncomputable def mix (Hm : Heap) (X : HB) (n0 nE : Nat) (H : HB) : Heap := fun g => if Tk X n0 nE g then toH H g else Hm g
theorem zcf {Hm : Heap} {X : HB} {n0 nE : Nat} {H : HB} {g : Nat} (h : Tk X n0 nE g) : mix Hm X n0 nE H g = toH H g := if_pos h
theorem zek {Hm : Heap} {X : HB} {n0 nE : Nat} {H : HB} {g : Nat} (h : ¬ Tk X n0 nE g) : mix Hm X n0 nE H g = Hm g := if_neg h
def zaju (A : Nat → Prop) (ρ : Nat → Loc) (Hm : Heap) (w : World) (H : HB) (nx : Nat) (v : AV) (H' : HB) (nx' : Nat) (cv : Value) (w' : World) : Prop :=
  ∃ ρ', Sim (fun g => A g ∨ nx ≤ g ∧ g < nx') ρ' (mix Hm H nx nx' H') w' ∧ VRel (Kof ρ' (mix Hm H nx nx' H') w') ρ' (fun g => A g ∨ nx ≤ g ∧ g < nx') v cv ∧ Fr A ρ Hm w (fun g => A g ∨ nx ≤ g ∧ g < nx') ρ' (mix Hm H nx nx' H') w'
structure Does (P : Program) (H : HB) (nx : Nat) (v : AV) (H' : HB) (nx' : Nat) (pre : zm → (Nat → Loc) → (Nat → Prop) → Prop) (run : World → Result Next) : Prop where
  le : nx ≤ nx'
  dom : ∀ g, isH H' g = true → isH H g = true ∨ nx ≤ g ∧ g < nx'
  run : ∀ (A : Nat → Prop) (ρ : Nat → Loc) (Hm : Heap) (w : World), Bdd A → Sim A ρ Hm w → pre (Kof ρ Hm w) ρ A → (∀ g, isH H g = true → Hm g = toH H g) → (∀ g, nx ≤ g → g < nx' → ¬ A g) → zu P (zaju A ρ Hm w H nx v H' nx') (run w)
theorem zadz {D : zg} : ∀ {H : Heap} {g : Nat} {o : AObj}, H.apply D g = some o → g ∈ domD D ∨ H g = some o := by
  intro H g o h
  by_cases hg : g ∈ domD D
  · exact .inl hg
  · rw [zbx D H g hg] at h; exact .inr h
theorem zws {H : HB} {rd fr : List Nat} {D : zg} (h : chkD H rd fr D = true) : (∀ g ∈ rd, isH H g = true) ∧ ∀ g ∈ domD D, isH H g = true ∨ g ∈ fr := by
  unfold chkD at h
  simp only [Bool.and_eq_true, List.all_eq_true, Bool.or_eq_true, List.any_eq_true, Nat.beq_eq] at h
  refine ⟨h.1, fun g hg => ?_⟩
  obtain ⟨p, hp, rfl⟩ := List.mem_map.1 hg
  rcases h.2 p hp with h | ⟨x, hx, e⟩
  · exact .inl h
  · exact .inr (e ▸ hx)
theorem Does.eff {P : Program} {o : Oper} {e : Operand → AV} {H : HB} {nx : Nat} {v : AV} {rd fr : List Nat} {D : zg} (he : EffB P o e (toH H) rd fr D v) (hfr : ∀ g, g ∈ fr ↔ nx ≤ g ∧ g < nx + fr.length) (hc : chkD H rd fr D = true) (ev : Operand → Value) :
    Does P H nx v (zgl D H) (nx + fr.length) (fun K ρ A => ∀ x ∈ o.op.operands.toList, VRel K ρ A (e x) (ev x)) fun w => (execOp ev o).run P w := by
  obtain ⟨c1, c2⟩ := zws hc
  refine ⟨by omega, fun g hg => ?_, fun A ρ Hm w hB s hx hag hfree => ?_⟩
  · obtain ⟨ob, h⟩ := zkh.1 hg
    rw [zna] at h
    rcases zadz h with h | h
    · rcases c2 g h with h | h
      · exact .inl h
      · exact .inr ((hfr g).1 h)
    · exact .inl (zkh.2 ⟨ob, h⟩)
  · refine zn (he A ρ Hm w ev hB s hx (fun g hg => hag g (c1 g hg)) fun g hg => hfree g ((hfr g).1 hg).1 ((hfr g).1 hg).2) fun cv w' ⟨ρ', q1, q2, q3⟩ => ?_
    have hA : (fun x => A x ∨ x ∈ fr) = (fun g => A g ∨ nx ≤ g ∧ g < nx + fr.length) := by funext g; rw [hfr]
    have hH : Hm.apply D = mix Hm H nx (nx + fr.length) (zgl D H) := by
      funext g
      by_cases ht : Tk H nx (nx + fr.length) g
      · rw [zcf ht, zna]
        refine zgr D _ _ g (.inl ?_)
        by_cases hi : isH H g = true
        · exact hag g hi
        · rw [zhf hi]
          rcases ht with h | h
          · exact absurd h hi
          · cases e : Hm g with
            | none => rfl
            | some o => exact absurd (s.live g o e) (hfree g h.1 h.2)
      · rw [zek ht]
        refine zbx D Hm g fun hg => ht ?_
        rcases c2 g hg with h | h
        · exact .inl h
        · exact .inr ((hfr g).1 h)
    rw [hA, hH] at q1 q2 q3
    exact ⟨ρ', q1, q2, q3⟩
theorem zafg {nx : Nat} {fr : List Nat} (h : fr = [] ∨ fr = [nx]) (g : Nat) : g ∈ fr ↔ nx ≤ g ∧ g < nx + fr.length := by
  rcases h with rfl | rfl
  · simp
  · simp; omega
theorem zfd {seen : List Nat} : ∀ {n i : Nat}, i ∈ zke seen n ↔ i < n ∧ i ∉ seen
  | 0, i => by simp [zke]
  | n + 1, i => by
    unfold zke
    cases h : seen.any (fun j => Nat.beq j n) with
    | true =>
      simp only [cond_true, zfd]
      simp only [List.any_eq_true, Nat.beq_eq] at h
      obtain ⟨j, hj, rfl⟩ := h
      constructor
      · rintro ⟨h1, h2⟩; exact ⟨by omega, h2⟩
      · rintro ⟨h1, h2⟩
        exact ⟨by rcases Nat.lt_or_ge i j with h | h
                  · exact h
                  · exact absurd hj (by rwa [show j = i by omega]), h2⟩
    | false =>
      simp only [cond_false, List.mem_cons, zfd]
      have hn : n ∉ seen := fun hn => by
        have : seen.any (fun j => Nat.beq j n) = true := List.any_eq_true.2 ⟨n, hn, by simp⟩
        rw [h] at this; cases this
      constructor
      · rintro (rfl | ⟨h1, h2⟩)
        · exact ⟨by omega, hn⟩
        · exact ⟨by omega, h2⟩
      · rintro ⟨h1, h2⟩
        rcases Nat.lt_or_ge i n with h | h
        · exact .inr ⟨h, h2⟩
        · exact .inl (by omega)
section
variable {P : Program} {T : Nat → Option AT} {eqs : Nat → Bool} (hT : TOk P T) (hE : EOk P T eqs)
include hT hE in
theorem zaky {o : Oper} {e : Operand → AV} {H : HB} {nx : Nat} {v : AV} {rd fr : List Nat} {D : zg} (h : xpl T eqs o e H nx = some (v, rd, fr, D)) : (fr = [] ∨ fr = [nx]) ∧ Eff P o e (toH H) rd fr D v := by
  unfold xpl at h
  split at h
  · rename_i t x hop
    rw [zkc] at h
    obtain ⟨hm, h⟩ := h
    split at h
    · rename_i g hx
      split at h
      · rename_i es hg
        cases h
        unfold zxk at hm
        split at hm
        · rename_i kt el s0 b0 z0 ht
          obtain ⟨i, d, z, hat⟩ := hT.at ht
          exact ⟨.inr rfl, zwk hx hg (znd hat) hop⟩
        · cases hm
      · cases h
    · cases h
  · rename_i x hop
    split at h
    · rename_i y hx
      split at h
      · rename_i g n seen hy
        split at h
        · rename_i es hg
          rw [zkc] at h
          obtain ⟨hn, h⟩ := h
          rw [Nat.beq_eq] at hn
          split at h
          · rename_i hu
            cases h
            refine ⟨.inl rfl, fun A ρ H1 w ev s hv hrd hfr => zn (ztj s (by rw [← hx]; exact hv x (by simp [Op.operands, hop])) ((hrd y (by simp)).trans hy) ((hrd g (by simp)).trans hg) hn hop) fun cv w' q => ?_⟩
            rcases q with ⟨_, q⟩ | ⟨i, e, hi, hs, q⟩
            · exact q
            · have := zfd (seen := seen) (n := n) (i := i) |>.2 ⟨by have := (List.getElem?_eq_some_iff.1 hi).1; omega, hs⟩
              rw [hu] at this; cases this
          · rename_i i hu
            split at h
            · rename_i u hu2
              cases h
              have hiu := zfd (seen := seen) (n := n) (i := i) |>.1 (by rw [hu]; simp)
              refine ⟨.inl rfl, fun A ρ H1 w ev s hv hrd hfr => zn (ztj s (by rw [← hx]; exact hv x (by simp [Op.operands, hop])) ((hrd y (by simp)).trans hy) ((hrd g (by simp)).trans hg) hn hop) fun cv w' q => ?_⟩
              rcases q with ⟨hall, q⟩ | ⟨j, e, hj, hs, q⟩
              · exact absurd (hall i hiu.1) hiu.2
              · have := zfd (seen := seen) (n := n) (i := j) |>.2 ⟨by have := (List.getElem?_eq_some_iff.1 hj).1; omega, hs⟩
                rw [hu, List.mem_singleton] at this
                subst this
                rw [hu2] at hj
                cases hj
                exact q
            · cases h
          · cases h
        · cases h
      · cases h
    · cases h
  · rename_i x hop
    split at h
    · rename_i y hx
      split at h
      · rename_i g n seen hy
        split at h
        · rename_i es hg
          rw [zkc] at h
          obtain ⟨hn, h⟩ := h
          rw [Nat.beq_eq] at hn
          split at h
          · rename_i i hl
            split at h
            · rename_i u hu
              cases h
              exact ⟨.inl rfl, zwn hx hy hg hn hl hu hop⟩
            · cases h
          · cases h
        · cases h
      · cases h
    · cases h
  · obtain ⟨v', rd', fr', D', h1, h2, h3⟩ := zxa hT hE (zaau T eqs _ _ _ _ h (fun v' rd' fr' D' => v' = v ∧ rd' = rd ∧ fr' = fr ∧ D' = D) ⟨rfl, rfl, rfl, rfl⟩)
    obtain ⟨rfl, rfl, rfl, rfl⟩ := h3
    exact ⟨h1, h2⟩
def zfi (P : Program) (call : XCl) : Prop := ∀ f args H nx v H' nx', call f args H nx = some (v, H', nx') → ∀ cargs : Array Value, Does P H nx v H' nx' (fun K ρ A => LRel K ρ A args cargs.toList) fun w => (callFunc f cargs).run P w
theorem zaef {o : Oper} {e : Operand → AV} {f : Nat} {args : List AV} (h : xcal o e = some (f, args)) (ev : Operand → Value) {K : zm} {ρ : Nat → Loc} {A : Nat → Prop} (hx : ∀ x ∈ o.op.operands.toList, VRel K ρ A (e x) (ev x)) :
    ∃ cargs : Array Value, LRel K ρ A args cargs.toList ∧ ∀ w, (execOp ev o).run P w = (callFunc f cargs).run P w := by
  unfold xcal at h
  split at h
  · rename_i c hop
    split at h
    · rename_i y hc
      split at h
      · rename_i fid cap hf
        cases h
        have hfv := hx y (by simp [hop, Op.operands, Call.operands, hc])
        rw [hf] at hfv
        generalize hcv : ev y = cv at hfv
        cases hfv with
        | clo _ _ cs hl hR =>
          refine ⟨c.args.map ev ++ cs, ?_, fun w => ?_⟩
          · rw [Array.toList_append]
            exact LRel.append (LRel.ops fun x hx' => hx x (by simp only [hop, Op.operands, Call.operands, hc]; simp; exact .inr (by simpa using hx'))) ⟨by simpa using hl, fun j v u hv hu => hR j v u hv (by simpa using hu)⟩
          · simp only [execOp, hop, resolve, hc, hcv, Deferred.ofValue, Sem.run_bind, Sem.run_pure, Result.andThen_ok, invoke, Array.empty_append]
      · cases h
    · cases h
  · cases h
theorem Does.call {call : XCl} (hcall : zfi P call) {o : Oper} {e : Operand → AV} {f : Nat} {args : List AV} (h : xcal o e = some (f, args)) {H : HB} {nx : Nat} {v : AV} {H' : HB} {nx' : Nat} (hc : call f args H nx = some (v, H', nx')) (ev : Operand → Value) :
    Does P H nx v H' nx' (fun K ρ A => ∀ x ∈ o.op.operands.toList, VRel K ρ A (e x) (ev x)) fun w => (execOp ev o).run P w := by
  have d := hcall f args H nx v H' nx' hc
  refine ⟨(d #[]).le, (d #[]).dom, fun A ρ Hm w hB s hx hag hfree => ?_⟩
  obtain ⟨cargs, h1, h2⟩ := zaef (P := P) h ev hx
  simp only [h2]
  exact (d cargs).run A ρ Hm w hB s h1 hag hfree
include hT hE in
theorem zagn {β : Type} {call : XCl} (hcall : zfi P call) {o : Oper} {E : EB} {H : HB} {nx : Nat} {c : AV → HB → Nat → Option β} {r : β} (h : zri T eqs call o E H nx c = some r) :
    ∃ v H' nx', c v H' nx' = some r ∧ ∀ ev, Does P H nx v H' nx' (fun K ρ A => ∀ x ∈ o.op.operands.toList, VRel K ρ A ((toE E).ev x) (ev x)) fun w => (execOp ev o).run P w := by
  unfold zri at h
  split at h
  · split at h
    · rename_i f args hx
      split at h
      · rename_i v H' nx' hc
        exact ⟨v, H', nx', h, fun ev => Does.call hcall hx hc ev⟩
      · cases h
    · cases h
  · split at h
    · rename_i v rd fr D hx
      split at h
      · rename_i hck
        rw [zui, zrm, zxl] at h
        obtain ⟨h1, h2⟩ := zaky hT hE hx
        exact ⟨v, _, _, h, fun ev => Does.eff (fun A ρ H w ev _ s hx hr hf => h2 A ρ H w ev s hx hr hf) (zafg h1) hck ev⟩
      · cases h
    · cases h
end
end Go.Proofs.YtobioljjoipimaaDoor
set_option maxRecDepth 8000
namespace Go.Proofs.YtobioljjoipimaaDoor
open Go Go.RowKit
section
variable {P : Program} {T : Nat → Option AT} {eqs : Nat → Bool} (hT : TOk P T) (hE : EOk P T eqs)
variable {A0 : Nat → Prop} {ρ0 : Nat → Loc} {Hi : Heap} {w0 : World} {X : HB} {n0 nE N : Nat}
abbrev AX (A0 : Nat → Prop) (n0 nx : Nat) : Nat → Prop := fun g => A0 g ∨ n0 ≤ g ∧ g < nx
structure SX (A0 : Nat → Prop) (ρ0 : Nat → Loc) (Hi : Heap) (w0 : World) (X : HB) (n0 nE N : Nat) (E : EB) (H : HB) (nx : Nat) (a : Act) (w : World) : Prop where
  ex : ∃ ρ, Sim (AX A0 n0 nx) ρ (mix Hi X n0 nE H) w ∧ (∀ t, VRel (Kof ρ (mix Hi X n0 nE H) w) ρ (AX A0 n0 nx) (toE E t) (a.tmps.getD t undef)) ∧ Fr A0 ρ0 Hi w0 (AX A0 n0 nx) ρ (mix Hi X n0 nE H) w
  size : a.tmps.size = N
  defers : a.defers = []
  le : n0 ≤ nx
  dom : ∀ g, isH H g = true → Tk X n0 nx g
structure FX (A0 : Nat → Prop) (n0 nE : Nat) : Prop where
  free : ∀ g, n0 ≤ g → g < nE → ¬ A0 g
  bdd : Bdd A0
theorem Tk.mono {g m n : Nat} (h : Tk X n0 m g) (hm : m ≤ n) : Tk X n0 n g := h.imp id fun ⟨a, b⟩ => ⟨a, by omega⟩
theorem zakh {H H' : HB} {nx nx' : Nat} (h0 : n0 ≤ nx) (h1 : nx' ≤ nE) (hle : nx ≤ nx') (hd : ∀ g, isH H g = true → Tk X n0 nx g) (hd' : ∀ g, isH H' g = true → isH H g = true ∨ nx ≤ g ∧ g < nx') :
    mix (mix Hi X n0 nE H) H nx nx' H' = mix Hi X n0 nE H' := by
  funext g
  by_cases ht : Tk H nx nx' g
  · rw [zcf ht, zcf]
    rcases ht with h | h
    · exact (hd g h).mono (by omega)
    · exact .inr ⟨by omega, by omega⟩
  · rw [zek ht]
    by_cases hk : Tk X n0 nE g
    · rw [zcf hk, zcf hk]
      rw [zhf fun h => ht (.inl h), zhf fun h => ht (hd' g h)]
    · rw [zek hk, zek hk]
theorem zajp {nx nx' : Nat} (h0 : n0 ≤ nx) (hle : nx ≤ nx') : (fun g => AX A0 n0 nx g ∨ nx ≤ g ∧ g < nx') = AX A0 n0 nx' := by
  funext g
  simp only [AX, eq_iff_iff]
  constructor
  · rintro ((h | h) | h)
    · exact .inl h
    · exact .inr ⟨h.1, by omega⟩
    · exact .inr ⟨by omega, h.2⟩
  · rintro (h | h)
    · exact .inl (.inl h)
    · rcases Nat.lt_or_ge g nx with h' | h'
      · exact .inl (.inr ⟨h.1, h'⟩)
      · exact .inr ⟨h', h.2⟩
theorem FX.bddX (fx : FX A0 n0 nE) {nx : Nat} : Bdd (AX A0 n0 nx) := by
  obtain ⟨M, hM⟩ := fx.bdd
  exact ⟨max M nx, fun g hg => by rcases hg with h | h
                                  · have := hM g h; omega
                                  · omega⟩
theorem zaaw {K : zm} {ρ : Nat → Loc} {A : Nat → Prop} {e : Env} {a : Act} (h : ∀ t, VRel K ρ A (e t) (a.tmps.getD t undef)) (x : Operand) : VRel K ρ A (e.ev x) (a.eval x) := by
  cases x with
  | tmp t => exact h t
  | const v => exact znu _ _ _ v
  | global g => exact .junk _
  | func f => exact .clo f [] #[] rfl fun j v c hv => by simp at hv
theorem SX.next (fx : FX A0 n0 nE) {E : EB} {H : HB} {nx : Nat} {a : Act} {w : World} (st : SX A0 ρ0 Hi w0 X n0 nE N E H nx a w) {v : AV} {H' : HB} {nx' : Nat} {pre : zm → (Nat → Loc) → (Nat → Prop) → Prop} {run : World → Result Next}
    (d : Does P H nx v H' nx' pre run) (hn : nx' ≤ nE) (hp : ∀ K ρ A, (∀ t, VRel K ρ A (toE E t) (a.tmps.getD t undef)) → pre K ρ A) {dd : Option Nat} (hd : ∀ t, dd = some t → t < N) :
    zu P (fun cv w' => SX A0 ρ0 Hi w0 X n0 nE N (zrl E dd v) H' nx' (a.put dd cv) w') (run w) := by
  obtain ⟨ρ, s, hv, f⟩ := st.ex
  have hle := d.le
  refine zn (d.run _ ρ _ w fx.bddX s (hp _ _ _ hv) (fun g hg => zcf ((st.dom g hg).mono (by omega))) fun g h1 h2 h3 => ?_) fun cv w' ⟨ρ', q1, q2, q3⟩ => ?_
  · rcases h3 with h | h
    · exact fx.free g (by have := st.le; omega) (by omega) h
    · omega
  · rw [zakh st.le hn hle st.dom d.dom, zajp st.le hle] at q1 q2 q3
    refine ⟨⟨ρ', q1, fun t => ?_, f.trans q3⟩, ?_, ?_, by have := st.le; omega, fun g hg => ?_⟩
    · rw [zeh, zdh, zmf a dd t cv (by rw [st.size]; exact hd)]
      split
      · exact q2
      · exact (hv t).fr q3
    · cases dd <;> simp [Act.put, st.size]
    · cases dd <;> simp [Act.put, st.defers]
    · rcases d.dom g hg with h | h
      · exact (st.dom g h).mono hle
      · exact .inr ⟨by have := st.le; omega, h.2⟩
theorem SX.skip {E : EB} {H : HB} {nx : Nat} {a : Act} {w : World} (st : SX A0 ρ0 Hi w0 X n0 nE N E H nx a w) {dd : Option Nat} (hd : ∀ t, dd = some t → t < N) : SX A0 ρ0 Hi w0 X n0 nE N (zrl E dd .und) H nx (a.put dd undef) w := by
  obtain ⟨ρ, s, hv, f⟩ := st.ex
  refine ⟨⟨ρ, s, fun t => ?_, f⟩, ?_, ?_, st.le, st.dom⟩
  · rw [zeh, zdh, zmf a dd t undef (by rw [st.size]; exact hd)]
    split
    · exact .und
    · exact hv t
  · cases dd <;> simp [Act.put, st.size]
  · cases dd <;> simp [Act.put, st.defers]
def zbb (H : HB) (nx : Nat) (H' : HB) (nx' : Nat) : Prop := nx ≤ nx' ∧ ∀ g, isH H' g = true → isH H g = true ∨ nx ≤ g ∧ g < nx'
theorem zbb.refl (H : HB) (nx : Nat) : zbb H nx H nx := ⟨Nat.le_refl _, fun _ h => .inl h⟩
theorem zbb.trans {H H' H'' : HB} {nx nx' nx'' : Nat} (h : zbb H nx H' nx') (k : zbb H' nx' H'' nx'') : zbb H nx H'' nx'' :=
  ⟨Nat.le_trans h.1 k.1, fun g hg => by
    have h1 := h.1
    have k1 := k.1
    rcases k.2 g hg with e | e
    · rcases h.2 g e with e | e
      · exact .inl e
      · exact .inr ⟨e.1, by omega⟩
    · exact .inr ⟨by omega, e.2⟩⟩
include hT hE in
theorem zut {β : Type} {call : XCl} (hcall : zfi P call) (fx : FX A0 n0 nE) {all : Array Oper} : ∀ (rest : List Oper) (kn : zax) (E : EB) (H : HB) (nx : Nat) (c : EB → HB → Nat → Option β) (r : β), xops T eqs call all.toList rest kn E H nx c = some r → zik N rest = true → (∀ t, (∃ o ∈ all.toList, o.dst = some t) → t < N) → KnOk kn (toE E) →
    ∃ E' H' nx', c E' H' nx' = some r ∧ zbb H nx H' nx' ∧ (nx' ≤ nE → ∀ a w, SX A0 ρ0 Hi w0 X n0 nE N E H nx a w → wpList P all (fun e a w => e = .normal ∧ SX A0 ρ0 Hi w0 X n0 nE N E' H' nx' a w) rest a w)
  | [], kn, E, H, nx, c, r, h, _, _, _ => ⟨E, H, nx, h, zbb.refl H nx, fun _ a w st => wpList_nil ⟨rfl, st⟩⟩
  | o :: rest, kn, E, H, nx, c, r, h, hd, hall, hkn => by
    simp only [zik, Bool.and_eq_true] at hd
    have hdo : ∀ t, o.dst = some t → t < N := fun t ht => by have := hd.1; rw [ht] at this; simpa using this
    have run : ∀ kn1, KnOk kn1 (toE E) → zri T eqs call o E H nx (fun v H nx => putE E o.dst v fun E => xops T eqs call all.toList rest (zbw o.dst kn1) E H nx c) = some r → (∀ (ρ : Nat → Loc) (Hm : Heap) (w : World) (A : Nat → Prop) (a : Act), a.tmps.size = N → (∀ t, VRel (Kof ρ Hm w) ρ A (toE E t) (a.tmps.getD t undef)) → Region.wanted o (yielded all a.tmps) = true) →
        ∃ E' H' nx', c E' H' nx' = some r ∧ zbb H nx H' nx' ∧ (nx' ≤ nE → ∀ a w, SX A0 ρ0 Hi w0 X n0 nE N E H nx a w → wpList P all (fun e a w => e = .normal ∧ SX A0 ρ0 Hi w0 X n0 nE N E' H' nx' a w) (o :: rest) a w) := by
      intro kn1 hk1 hs hw
      obtain ⟨v, H1, nx1, h1, hd1⟩ := zagn hT hE hcall hs
      rw [zrk] at h1
      obtain ⟨E', H', nx', h2, h3, h4⟩ := zut hcall fx rest _ _ _ _ c r h1 hd.2 hall (by rw [zeh]; exact hk1.drop o.dst v)
      have hd0 := hd1 fun _ => undef
      refine ⟨E', H', nx', h2, zbb.trans ⟨hd0.le, hd0.dom⟩ h3, fun hn a w st => ?_⟩
      refine wpList_step fun K hK => ?_
      obtain ⟨ρ, s, hv, f⟩ := st.ex
      rw [if_pos (hw ρ _ w _ a st.size hv)]
      exact zjp (st.next fx (hd1 a.eval) (by have := h3.1; omega) (fun K ρ A hv x _ => zaaw hv x) hdo) fun cv w' q => hK _ _ (h4 hn _ _ q)
    have skip : ∀ kn1, KnOk kn1 (toE E) → putE E o.dst .und (fun E => xops T eqs call all.toList rest (zcb o.dst kn1) E H nx c) = some r → (∀ (ρ : Nat → Loc) (Hm : Heap) (w : World) (A : Nat → Prop) (a : Act), a.tmps.size = N → (∀ t, VRel (Kof ρ Hm w) ρ A (toE E t) (a.tmps.getD t undef)) → Region.wanted o (yielded all a.tmps) = false) →
        ∃ E' H' nx', c E' H' nx' = some r ∧ zbb H nx H' nx' ∧ (nx' ≤ nE → ∀ a w, SX A0 ρ0 Hi w0 X n0 nE N E H nx a w → wpList P all (fun e a w => e = .normal ∧ SX A0 ρ0 Hi w0 X n0 nE N E' H' nx' a w) (o :: rest) a w) := by
      intro kn1 hk1 hs hw
      rw [zrk] at hs
      obtain ⟨E', H', nx', h2, h3, h4⟩ := zut hcall fx rest _ _ _ _ c r hs hd.2 hall (by rw [zeh]; exact hk1.skip o.dst)
      refine ⟨E', H', nx', h2, h3, fun hn a w st => ?_⟩
      refine wpList_step fun K hK => ?_
      obtain ⟨ρ, s, hv, f⟩ := st.ex
      rw [if_neg (by rw [hw ρ _ w _ a st.size hv]; simp)]
      exact hK _ _ (h4 hn _ _ (st.skip hdo))
    simp only [xops] at h
    split at h
    · rename_i hg
      exact run kn hkn h fun _ _ _ _ a _ _ => by simp [Region.wanted, hg]
    · rename_i j want hg
      split at h
      · cases h
      · rename_i t ht
        have htN : t < N := by
          obtain ⟨o', ho', hdst⟩ := Option.bind_eq_some_iff.1 ht
          exact hall t ⟨o', List.mem_of_getElem? ho', hdst⟩
        have hwant : ∀ (a : Act), a.tmps.size = N → Region.wanted o (yielded all a.tmps) = (match a.tmps.getD t undef with | .bool b => b == want | _ => false) := by
          intro a hsz
          have hy := znm ht a
          have hget : a.tmps[t]? = some (a.tmps.getD t undef) := by simp [Array.getD, hsz, htN]
          rw [hget] at hy
          have : Region.wanted o (yielded all a.tmps) = (yielded all a.tmps j == some want) := by simp [Region.wanted, hg]
          rw [this, hy]
          cases a.tmps.getD t undef <;> rfl
        have hbool : ∀ b, toE E t = .bool b → ∀ (ρ : Nat → Loc) (Hm : Heap) (w : World) (A : Nat → Prop) (a : Act), a.tmps.size = N → (∀ t, VRel (Kof ρ Hm w) ρ A (toE E t) (a.tmps.getD t undef)) → Region.wanted o (yielded all a.tmps) = (b == want) := by
          intro b hb ρ Hm w A a hsz hv
          have := hv t
          rw [hb] at this
          rw [hwant a hsz]
          generalize a.tmps.getD t undef = tv at this
          cases this
          rfl
        split at h
        · rename_i hk
          have hu := hkn t none (zcg hk)
          simp only at hu
          refine skip kn hkn h fun ρ Hm w A a hsz hv => ?_
          have := hv t
          rw [hu] at this
          rw [hwant a hsz]
          generalize a.tmps.getD t undef = tv at this
          cases this
          rfl
        · rename_i b hk
          have hb := hkn t (some b) (zcg hk)
          simp only at hb
          split at h
          · rename_i hbw
            exact run kn hkn h fun ρ Hm w A a hsz hv => by rw [hbool b hb ρ Hm w A a hsz hv, hbw]
          · rename_i hbw
            exact skip kn hkn h fun ρ Hm w A a hsz hv => by rw [hbool b hb ρ Hm w A a hsz hv, hbw]
        · split at h
          · rename_i b hb
            have hk2 : KnOk ((t, some b) :: kn) (toE E) := by
              have := hkn.know hb
              rwa [zkz hb] at this
            split at h
            · rename_i hbw
              exact run _ hk2 h fun ρ Hm w A a hsz hv => by rw [hbool b hb ρ Hm w A a hsz hv, hbw]
            · rename_i hbw
              exact skip _ hk2 h fun ρ Hm w A a hsz hv => by rw [hbool b hb ρ Hm w A a hsz hv, hbw]
          · cases h
end
end Go.Proofs.YtobioljjoipimaaDoor
set_option maxRecDepth 8000
namespace Go.Proofs.YtobioljjoipimaaDoor
open Go Go.RowKit
def zkt (r : Rec) : Rec := { r with env := fun _ => .junk, H := fun _ => none }
section
variable {P : Program} {T : Nat → Option AT} {eqs : Nat → Bool} (hT : TOk P T) (hE : EOk P T eqs)
variable {A0 : Nat → Prop} {ρ0 : Nat → Loc} {Hi : Heap} {w0 : World} {X : HB} {n0 nE N : Nat}
theorem EffB.at {o : Oper} {e : Operand → AV} {H H1 : Heap} {rd fr : List Nat} {D : zg} {v : AV} (h : EffB P o e H rd fr D v) (hr : ∀ g ∈ rd, H1 g = H g) : EffB P o e H1 rd fr D v :=
  fun A ρ Hm w ev hB s hx hrd hf => h A ρ Hm w ev hB s hx (fun g hg => (hrd g hg).trans (hr g hg)) hf
theorem zmk.at {o : Oper} {e : Operand → AV} {H H1 : Heap} {rd fr : List Nat} {D : zg} {v : AV} {pt : Option AV} (h : zmk P o e H rd fr D v pt) (hr : ∀ g ∈ rd, H1 g = H g) : zmk P o e H1 rd fr D v pt := by
  intro g q e
  obtain ⟨h1, h2, h3, h4, h5⟩ := h g q e
  exact ⟨h1, h2, h3, by rw [hr g (by rw [h1]; simp)]; exact h4, h5⟩
include hT hE in
theorem zajg {o : Oper} {env : Env} {H : Heap} {nx : Nat} {v : AV} {rd fr : List Nat} {D : zg} (h : xaop T eqs env.ev H nx o = some (v, rd, fr, D)) :
    (fr = [] ∨ fr = [nx]) ∧ EffB P o env.ev H rd fr D v ∧ (noW o = true → fr = [] ∧ D = []) ∧ zmk P o env.ev H rd fr D v (ptOf T env.ev o) := by
  obtain ⟨v', rd', fr', D', h1, h2, h3, h4⟩ := zow hT hE (zaau T eqs _ _ _ _ h (fun v' rd' fr' D' => v' = v ∧ rd' = rd ∧ fr' = fr ∧ D' = D) ⟨rfl, rfl, rfl, rfl⟩)
  obtain ⟨rfl, rfl, rfl, rfl⟩ := h3
  refine ⟨h1, fun A ρ H w ev _ s hx hr hf => h2 A ρ H w ev s hx hr hf, h4, fun g q hp => ?_⟩
  unfold ptOf at hp
  split at hp
  · rename_i t x hop
    split at hp
    · rename_i a hta
      split at hp
      · rename_i hag
        have hp := Option.some.inj hp
        obtain ⟨i, d, z, hat⟩ := hT.at hta
        have any : ∀ {H1 : Heap} {s : Nat} {cs : List AV} {v : AV}, H1 g = some (.row s cs) → cs[q]? = some v → EffB P o env.ev H1 [g] [] [] v := by
          intro H1 s cs v hg hv
          obtain ⟨v', rd', he, rfl, rfl⟩ := ztn (H0 := H1) (e := env.ev) (k := fun v' rd' _ _ => v' = v ∧ rd' = [g]) hat hop (by
            simp only [hp, LOAD, rdp, hg, ldv, hag, cond_false, hv, and_self])
          exact fun A ρ H w ev _ s hx hr hf => he A ρ H w ev s hx hr hf
        simp only [xaop, hop, hta, zrj, hp] at h
        cases hg : H g with
        | none => simp only [rdp, hg] at h; cases h
        | some ob =>
          cases ob with
          | mp es => simp only [rdp, hg] at h; cases h
          | it a b c => simp only [rdp, hg] at h; cases h
          | row s cs =>
            simp only [rdp, hg, ldv, hag, cond_false] at h
            cases hv : cs[q]? with
            | none => simp only [hv] at h; cases h
            | some u =>
              simp only [hv] at h
              cases h
              exact ⟨rfl, rfl, rfl, ⟨s, cs, by first | rfl | exact hg, hv⟩, fun H1 ⟨s', cs', h1, h2⟩ => any h1 h2⟩
      · cases hp
    · cases hp
  · cases hp
theorem zjt {H : HB} : ∀ {rs : List Nat} {g : Nat}, isH (zbn H rs) g = true → g ∈ rs ∧ toH (zbn H rs) g = toH H g
  | [], g, h => by simp [zbn, isH, Tr.get_nil] at h
  | x :: r, g, h => by
    unfold zbn at h ⊢
    cases hx : H.get x with
    | none =>
      rw [hx] at h
      obtain ⟨h1, h2⟩ := zjt h
      exact ⟨List.mem_cons_of_mem _ h1, h2⟩
    | some o =>
      simp only [hx] at h ⊢
      obtain ⟨ob, h'⟩ := zkh.1 h
      rw [zvb] at h' ⊢
      by_cases hg : g = x
      · subst hg
        exact ⟨by simp, by rw [Heap.put_at]; exact hx.symm⟩
      · rw [Heap.put_ne _ _ hg] at h' ⊢
        obtain ⟨h1, h2⟩ := zjt (zkh.2 ⟨ob, h'⟩)
        exact ⟨List.mem_cons_of_mem _ h1, h2⟩
theorem zwo {H H' : HB} : ∀ {rs : List Nat}, (∀ p ∈ zel H H' rs, p.2 = toH H' p.1) ∧ (∀ g ∈ domD (zel H H' rs), isH H g = true ∨ isH H' g = true) ∧ ∀ g ∈ rs, g ∉ domD (zel H H' rs) → toH H g = toH H' g
  | [] => ⟨fun p hp => (by cases hp), fun g hg => (by simp [zel, domD] at hg), fun g hg => (by cases hg)⟩
  | x :: r => by
    obtain ⟨h1, h2, h3⟩ := zwo (H := H) (H' := H') (rs := r)
    unfold zel
    simp only
    cases he : obEq (H.get x) (H'.get x) with
    | true =>
      refine ⟨h1, h2, fun g hg hn => ?_⟩
      rcases List.mem_cons.1 hg with rfl | hg
      · exact zakg he
      · exact h3 g hg hn
    | false =>
      refine ⟨fun p hp => ?_, fun g hg => ?_, fun g hg hn => ?_⟩
      · rcases List.mem_cons.1 hp with rfl | hp
        · rfl
        · exact h1 p hp
      · simp only [domD, List.map_cons, List.mem_cons] at hg
        rcases hg with rfl | hg
        · by_cases ha : isH H g = true
          · exact .inl ha
          · by_cases hb : isH H' g = true
            · exact .inr hb
            · have e1 : H.get g = none := zhf ha
              have e2 : H'.get g = none := zhf hb
              rw [e1, e2] at he
              cases he
        · exact h2 g hg
      · simp only [domD, List.map_cons, List.mem_cons, not_or] at hn
        rcases List.mem_cons.1 hg with rfl | hg
        · exact absurd rfl hn.1
        · exact h3 g hg hn.2
theorem zom : ∀ {n nx g : Nat}, g ∈ zcu nx n ↔ nx ≤ g ∧ g < nx + n
  | 0, nx, g => by simp [zcu]
  | n + 1, nx, g => by
    simp only [zcu, List.mem_cons, zom]
    omega
theorem zug : ∀ (n nx : Nat), (zcu nx n).length = n
  | 0, _ => rfl
  | n + 1, nx => by simp [zcu, zug n]
theorem zady {D : zg} {f : Heap} (h : ∀ p ∈ D, p.2 = f p.1) : ∀ {H : Heap} {g : Nat}, g ∈ domD D → H.apply D g = f g := by
  induction D with
  | nil => intro H g hg; cases hg
  | cons p r ih =>
    intro H g hg
    obtain ⟨x, o⟩ := p
    simp only [domD, List.map_cons, List.mem_cons] at hg
    show ((H.put x o).apply r) g = f g
    by_cases hr : g ∈ domD r
    · exact ih (fun p hp => h p (List.mem_cons_of_mem _ hp)) hr
    · rw [zbx r _ g hr]
      rcases hg with rfl | hg
      · rw [Heap.put_at]; exact h (g, o) (by simp)
      · exact absurd hg hr
theorem zaee {call : XCl} (hcall : zfi P call) {o : Oper} {e : Operand → AV} {f : Nat} {args : List AV} (hx : xcal o e = some (f, args)) {H : HB} {nx : Nat} {v : AV} {rd fr : List Nat} {D : zg} (h : zxs call f args H nx = some (v, rd, fr, D)) :
    (∀ g, g ∈ fr ↔ nx ≤ g ∧ g < nx + fr.length) ∧ EffB P o e (toH H) rd fr D v := by
  unfold zxs at h
  simp only at h
  split at h
  · rename_i v1 H1 nx1 hc
    simp only [Option.some.injEq, Prod.mk.injEq] at h
    obtain ⟨rfl, rfl, rfl, rfl⟩ := h
    generalize hrs : znc H 1000 (args.foldl (fun l v => zqp 3 v l) []) [] = rs at hc ⊢
    have d := fun ev => Does.call hcall hx hc ev
    have hle := (d fun _ => undef).le
    have hdom := (d fun _ => undef).dom
    have e1 : ∀ g, g ∈ zcu nx (nx1 - nx) ↔ nx ≤ g ∧ g < nx1 := fun g => by rw [zom]; omega
    refine ⟨fun g => by rw [zug]; rw [zom], fun A ρ Hm w ev hB s hxx hrd hfr => ?_⟩
    have hag : ∀ g, isH (zbn H rs) g = true → Hm g = toH (zbn H rs) g := fun g hg => by
      obtain ⟨h1, h2⟩ := zjt hg
      rw [hrd g h1, h2]
    refine zn ((d ev).run A ρ Hm w hB s hxx hag fun g h1 h2 => hfr g ((e1 g).2 ⟨h1, h2⟩)) fun cv w' ⟨ρ', q1, q2, q3⟩ => ?_
    have hA : (fun g => A g ∨ nx ≤ g ∧ g < nx1) = (fun x => A x ∨ x ∈ zcu nx (nx1 - nx)) := by funext g; rw [e1]
    obtain ⟨m1, m2, m3⟩ := zwo (H := zbn H rs) (H' := H1) (rs := rs)
    have hH : mix Hm (zbn H rs) nx nx1 H1 = Hm.apply (zel (zbn H rs) H1 rs ++ (zcu nx (nx1 - nx)).map fun g => (g, H1.get g)) := by
      funext g
      have told : ∀ p ∈ zel (zbn H rs) H1 rs ++ (zcu nx (nx1 - nx)).map fun g => (g, H1.get g), p.2 = toH H1 p.1 := fun p hp => by
        rcases List.mem_append.1 hp with hp | hp
        · exact m1 p hp
        · obtain ⟨x, _, rfl⟩ := List.mem_map.1 hp; rfl
      have hdm : ∀ g, g ∈ domD (zel (zbn H rs) H1 rs ++ (zcu nx (nx1 - nx)).map fun g => (g, H1.get g)) ↔ g ∈ domD (zel (zbn H rs) H1 rs) ∨ (nx ≤ g ∧ g < nx1) := fun g => by
        rw [← e1]
        simp [domD]
      by_cases hg : g ∈ domD (zel (zbn H rs) H1 rs ++ (zcu nx (nx1 - nx)).map fun g => (g, H1.get g))
      · rw [zady (f := toH H1) told hg, zcf]
        rcases (hdm g).1 hg with h | h
        · rcases m2 g h with h | h
          · exact .inl h
          · exact hdom g h
        · exact .inr h
      · rw [zbx _ _ _ hg]
        rw [hdm, not_or] at hg
        by_cases ht : Tk (zbn H rs) nx nx1 g
        · rw [zcf ht]
          rcases ht with ht | ht
          · rw [hag g ht]
            exact (m3 g (zjt ht).1 hg.1).symm
          · exact absurd ht hg.2
        · rw [zek ht]
    rw [hA, hH] at q1 q2 q3
    exact ⟨ρ', q1, q2, q3⟩
  · cases h
include hT hE in
theorem zaed {call : XCl} (hcall : zfi P call) {o : Oper} {E : EB} {H : HB} {nx : Nat} {v : AV} {rd fr : List Nat} {D : zg} (h : ztu T eqs call o E H nx = some (v, rd, fr, D)) :
    FrOk nx fr ∧ (∀ g, g ∈ fr ↔ nx ≤ g ∧ g < nx + fr.length) ∧ EffB P o (toE E).ev (toH H) rd fr D v ∧ (noW o = true → fr = [] ∧ D = []) ∧ zmk P o (toE E).ev (toH H) rd fr D v (ptOf T (toE E).ev o) := by
  unfold ztu at h
  split at h
  · rename_i hcl
    split at h
    · rename_i f args hx
      obtain ⟨h1, h2⟩ := zaee hcall hx h
      have hop : ∃ c, o.op = .call c := by
        unfold isCl at hcl
        split at hcl
        · exact ⟨_, by assumption⟩
        · cases hcl
      obtain ⟨c, hop⟩ := hop
      exact ⟨.inr (.inr fun g hg => (h1 g).1 hg), h1, h2, fun hn => by simp [noW, hop] at hn, fun g q e => by simp [ptOf, hop] at e⟩
    · cases h
  · obtain ⟨h1, h2, h3, h4⟩ := zajg hT hE h
    exact ⟨.of h1, zafg h1, h2, h3, h4⟩
theorem zafc {H : HB} {D : zg} (hD : ∀ g ∈ domD D, Tk X n0 nE g) : (mix Hi X n0 nE H).apply D = mix Hi X n0 nE (zgl D H) := by
  funext g
  by_cases ht : Tk X n0 nE g
  · rw [zcf ht, zna]
    exact zgr D _ _ g (.inl (zcf ht))
  · rw [zek ht, zbx D _ g fun h => ht (hD g h), zek ht]
include hT hE in
theorem zsw {β : Type} {call : XCl} (hcall : zfi P call) {all : List Oper} : ∀ (rest : List Oper) (kn : zax) (E : EB) (H : HB) (nx : Nat) (log : List Rec) (c : EB → HB → Nat → List Rec → Option β) (r : β), znn T eqs call all rest kn E H nx log c = some r → KnOk kn (toE E) →
    ∃ L E' H' nx', c E' H' nx' (log ++ L.map zkt) = some r ∧ zbb H nx H' nx' ∧ (nx' ≤ nE → n0 ≤ nx → (∀ g, isH H g = true → Tk X n0 nx g) → zgu P all rest L (toE E) (mix Hi X n0 nE H) nx (toE E') (mix Hi X n0 nE H') nx')
  | [], kn, E, H, nx, log, c, r, h, _ => ⟨[], E, H, nx, by rw [List.map_nil, List.append_nil]; exact h, zbb.refl H nx, fun _ _ _ => ⟨rfl, rfl, rfl⟩⟩
  | o :: rest, kn, E, H, nx, log, c, r, h, hkn => by
    have run : ∀ kn1, KnOk kn1 (toE E) → (o.guard = none ∨ ∃ j want t, o.guard = some (j, want) ∧ gdst all j = some t ∧ toE E t = .bool want) →
        (match ztu T eqs call o E H nx with
          | some (v, rd, fr, D) => match chkD H rd fr D with
            | true => fV v fun v => putD D H fun H' => fN (nx + fr.length) fun nx' => putE E o.dst v fun E' => znn T eqs call all rest (zbw o.dst kn1) E' H' nx' (log ++ [⟨v, rd, fr, D, false, fun _ => .junk, fun _ => none, ptOf T (toE E).ev o, isCl o⟩]) c
            | false => none
          | none => none) = some r →
        ∃ L E' H' nx', c E' H' nx' (log ++ L.map zkt) = some r ∧ zbb H nx H' nx' ∧ (nx' ≤ nE → n0 ≤ nx → (∀ g, isH H g = true → Tk X n0 nx g) → zgu P all (o :: rest) L (toE E) (mix Hi X n0 nE H) nx (toE E') (mix Hi X n0 nE H') nx') := by
      intro kn1 hk1 hg hs
      split at hs
      · rename_i v rd fr D hx
        split at hs
        · rename_i hck
          rw [zui, zrm, zxl, zrk] at hs
          obtain ⟨h1, h2, h3, h4, h5⟩ := zaed hT hE hcall hx
          obtain ⟨c1, c2⟩ := zws hck
          obtain ⟨L, E', H', nx', q1, q2, q3⟩ := zsw hcall rest _ _ _ _ _ c r hs (by rw [zeh]; exact hk1.drop o.dst v)
          have d := (Does.eff h3 h2 hck fun _ => undef)
          refine ⟨⟨v, rd, fr, D, false, toE E, mix Hi X n0 nE H, ptOf T (toE E).ev o, isCl o⟩ :: L, E', H', nx', by simpa [zkt] using q1, zbb.trans ⟨d.le, d.dom⟩ q2, fun hn hn0 hdm => ?_⟩
          have hle2 := q2.1
          have hrd : ∀ g ∈ rd, mix Hi X n0 nE H g = toH H g := fun g hg => zcf ((hdm g (c1 g hg)).mono (by omega))
          have hDk : ∀ g ∈ domD D, Tk X n0 nE g := fun g hg => by
            rcases c2 g hg with h | h
            · exact (hdm g h).mono (by omega)
            · have := (h2 g).1 h
              exact .inr ⟨by omega, by omega⟩
          refine ⟨rfl, rfl, ⟨h1, h4, ?_⟩, ?_⟩
          · simp only [Bool.false_eq_true, if_false]
            exact ⟨h3.at hrd, h5.at hrd, hg⟩
          · have := q3 hn (by omega) fun g hg => ?_
            · rw [zeh, ← zafc hDk] at this
              exact this
            · rcases d.dom g hg with h | h
              · exact (hdm g h).mono (by omega)
              · exact .inr ⟨by omega, h.2⟩
        · cases hs
      · cases hs
    have skip : ∀ kn1, KnOk kn1 (toE E) → (∃ j want t, o.guard = some (j, want) ∧ gdst all j = some t ∧ (toE E t = .und ∨ toE E t = .bool (!want))) →
        (putE E o.dst .und fun E' => znn T eqs call all rest (zcb o.dst kn1) E' H nx (log ++ [⟨.und, [], [], [], true, fun _ => .junk, fun _ => none, none, false⟩]) c) = some r →
        ∃ L E' H' nx', c E' H' nx' (log ++ L.map zkt) = some r ∧ zbb H nx H' nx' ∧ (nx' ≤ nE → n0 ≤ nx → (∀ g, isH H g = true → Tk X n0 nx g) → zgu P all (o :: rest) L (toE E) (mix Hi X n0 nE H) nx (toE E') (mix Hi X n0 nE H') nx') := by
      intro kn1 hk1 hg hs
      rw [zrk] at hs
      obtain ⟨L, E', H', nx', q1, q2, q3⟩ := zsw hcall rest _ _ _ _ _ c r hs (by rw [zeh]; exact hk1.skip o.dst)
      refine ⟨⟨.und, [], [], [], true, toE E, mix Hi X n0 nE H, none, false⟩ :: L, E', H', nx', by simpa [zkt] using q1, q2, fun hn hn0 hdm => ⟨rfl, rfl, ⟨.inl rfl, fun _ => ⟨rfl, rfl⟩, (if_pos rfl).mpr ⟨rfl, rfl, rfl, rfl, rfl, hg⟩⟩, ?_⟩⟩
      have := q3 hn hn0 hdm
      rw [zeh] at this
      exact this
    simp only [znn] at h
    split at h
    · rename_i hg
      exact run kn hkn (.inl hg) h
    · rename_i j want hg
      split at h
      · cases h
      · rename_i t ht
        split at h
        · rename_i hk
          have hu := hkn t none (zcg hk)
          exact skip kn hkn ⟨j, want, t, hg, ht, .inl hu⟩ h
        · rename_i b hk
          have hb := hkn t (some b) (zcg hk)
          simp only at hb
          split at h
          · rename_i hbw
            have : b = want := by simpa using hbw
            subst this
            exact run kn hkn (.inr ⟨j, b, t, hg, ht, hb⟩) h
          · rename_i hbw
            have : b = !want := by cases b <;> cases want <;> simp_all
            subst this
            exact skip kn hkn ⟨j, want, t, hg, ht, .inr hb⟩ h
        · split at h
          · rename_i b hb
            have hk2 : KnOk ((t, some b) :: kn) (toE E) := by
              have := hkn.know hb
              rwa [zkz hb] at this
            split at h
            · rename_i hbw
              have : b = want := by simpa using hbw
              subst this
              exact run _ hk2 (.inr ⟨j, b, t, hg, ht, hb⟩) h
            · rename_i hbw
              have : b = !want := by cases b <;> cases want <;> simp_all
              subst this
              exact skip _ hk2 ⟨j, want, t, hg, ht, .inr hb⟩ h
          · cases h
/-! The conditions. -/
theorem zjv {l m : List Nat} (h : zxm l m = true) : disj l m := by
  rw [zea]
  intro g hg hm
  have := List.all_eq_true.1 h g hg
  simp only [Bool.not_eq_true', List.any_eq_false, Nat.beq_eq] at this
  exact this g hm rfl
theorem zacw {L : List Rec} {p : Nat × Nat} (h : zacx (L.map zkt) p = true) : zie L p := by
  unfold zacx at h
  unfold zie
  simp only [List.getElem?_map] at h
  cases ha : L[p.1]? with
  | none => simp [ha] at h
  | some a =>
    cases hb : L[p.2]? with
    | none => simp [ha, hb] at h
    | some b =>
      simp only [ha, hb, Option.map_some, Bool.and_eq_true] at h
      obtain ⟨⟨h1, h2⟩, h3⟩ := h
      have d1 := zjv h1
      have d2 := zjv h2
      refine ⟨?_, ?_⟩
      · rw [zea] at d1 d2 ⊢
        intro g hg
        rw [List.mem_append, not_or]
        exact ⟨d1 g hg, d2 g hg⟩
      · unfold zajj at h3
        unfold zqg
        simp only [zkt] at h3
        cases hc : b.cl with
        | false => simp only [hc] at h3; exact zjv h3
        | true =>
          simp only [hc] at h3
          split at h3
          · rename_i g q _ hpt
            rw [hpt]
            intro x hx e
            have := List.all_eq_true.1 h3 x hx
            simp only [e, Bool.or_eq_true, Bool.not_eq_true'] at this
            rcases this with h | h
            · simp at h
            · split at h
              · rename_i s cs hrow
                split at h
                · rename_i u hu
                  exact ⟨s, cs, hrow, by rw [hu, znh 40 _ _ h]⟩
                · cases h
              · cases h
          · rename_i hne
            have := zjv h3
            cases hpt : a.pt with
            | none => exact this
            | some q =>
              cases q <;> first | exact this | skip
              exact absurd hpt (hne _ _ rfl)
end
end Go.Proofs.YtobioljjoipimaaDoor
set_option maxRecDepth 8000
namespace Go.Proofs.YtobioljjoipimaaDoor
open Go Go.RowKit
def ExOk : XO → Exit → Prop
  | .nrm, e => e = .normal
  | .exi i, e => e = .exit i
  | .ret, e => e = .ret
section
variable {P : Program} {T : Nat → Option AT} {eqs : Nat → Bool} (hT : TOk P T) (hE : EOk P T eqs)
variable {A0 : Nat → Prop} {ρ0 : Nat → Loc} {Hi : Heap} {w0 : World} {X : HB} {n0 nE N : Nat}
abbrev QX (A0 : Nat → Prop) (ρ0 : Nat → Loc) (Hi : Heap) (w0 : World) (X : HB) (n0 nE N : Nat) (x : XO) (E : EB) (H : HB) (nx : Nat) : Exit → Act → World → Prop := fun e a w => ExOk x e ∧ SX A0 ρ0 Hi w0 X n0 nE N E H nx a w
def zvp (P : Program) (A0 : Nat → Prop) (ρ0 : Nat → Loc) (Hi : Heap) (w0 : World) (X : HB) (n0 nE N : Nat) (c : Code) (E : EB) (H : HB) (nx : Nat) (x : XO) (E' : EB) (H' : HB) (nx' : Nat) : Prop :=
  zbb H nx H' nx' ∧ (nx' ≤ nE → ∀ a w, SX A0 ρ0 Hi w0 X n0 nE N E H nx a w → c.wp P (QX A0 ρ0 Hi w0 X n0 nE N x E' H' nx') a w)
theorem zxr {c : Code} {body : EB → HB → Nat → Option (XO × EB × HB × Nat)} (hb : ∀ E H nx x E' H' nx', body E H nx = some (x, E', H', nx') → zvp P A0 ρ0 Hi w0 X n0 nE N c E H nx x E' H' nx') :
    ∀ (n : Nat) (E : EB) (H : HB) (nx : Nat) (x : XO) (E' : EB) (H' : HB) (nx' : Nat), ztt body n E H nx = some (x, E', H', nx') → zbb H nx H' nx' ∧ (nx' ≤ nE → ∀ a w, SX A0 ρ0 Hi w0 X n0 nE N E H nx a w → Code.rounds P c (QX A0 ρ0 Hi w0 X n0 nE N x E' H' nx') n a w)
  | 0, E, H, nx, x, E', H', nx', h => by simp [ztt] at h
  | n + 1, E, H, nx, x, E', H', nx', h => by
    unfold ztt at h
    split at h
    · rename_i x1 E1 H1 nx1 h1
      obtain ⟨g1, p1⟩ := hb _ _ _ _ _ _ _ h1
      cases x1 with
      | nrm =>
        simp only at h
        obtain ⟨g2, p2⟩ := zxr hb n _ _ _ _ _ _ _ h
        refine ⟨g1.trans g2, fun hn a w st => ?_⟩
        have := g2.1
        refine Code.wp_mono (fun e a w q => ?_) (p1 (by omega) a w st)
        obtain ⟨rfl, q⟩ := q
        exact p2 hn a w q
      | exi i =>
        simp only [Option.some.injEq, Prod.mk.injEq] at h
        obtain ⟨rfl, rfl, rfl, rfl⟩ := h
        refine ⟨g1, fun hn a w st => Code.wp_mono (fun e a w q => ?_) (p1 hn a w st)⟩
        obtain ⟨h1, q⟩ := q
        have h1' : e = .exit i := h1
        subst h1'
        exact ⟨rfl, q⟩
      | ret =>
        simp only [Option.some.injEq, Prod.mk.injEq] at h
        obtain ⟨rfl, rfl, rfl, rfl⟩ := h
        refine ⟨g1, fun hn a w st => Code.wp_mono (fun e a w q => ?_) (p1 hn a w st)⟩
        obtain ⟨h1, q⟩ := q
        have h1' : e = .ret := h1
        subst h1'
        exact ⟨rfl, q⟩
    · cases h
include hT hE in
theorem zds (hM : P.follows .mixedOrders = true) {call : XCl} (hcall : zfi P call) (fx : FX A0 n0 nE) : ∀ (c : Code) (E : EB) (H : HB) (nx : Nat) (x : XO) (E' : EB) (H' : HB) (nx' : Nat), wfC N c = true → zbs T eqs call c E H nx = some (x, E', H', nx') → zvp P A0 ρ0 Hi w0 X n0 nE N c E H nx x E' H' nx'
  | .skip, E, H, nx, x, E', H', nx', _, h => by
    simp only [zbs, Option.some.injEq, Prod.mk.injEq] at h
    obtain ⟨rfl, rfl, rfl, rfl⟩ := h
    exact ⟨zbb.refl _ _, fun _ a w st => wp_skip ⟨rfl, st⟩⟩
  | .label _, E, H, nx, x, E', H', nx', _, h => by
    simp only [zbs, Option.some.injEq, Prod.mk.injEq] at h
    obtain ⟨rfl, rfl, rfl, rfl⟩ := h
    exact ⟨zbb.refl _ _, fun _ a w st => wp_label ⟨rfl, st⟩⟩
  | .exit i, E, H, nx, x, E', H', nx', _, h => by
    simp only [zbs, Option.some.injEq, Prod.mk.injEq] at h
    obtain ⟨rfl, rfl, rfl, rfl⟩ := h
    exact ⟨zbb.refl _ _, fun _ a w st => wp_exit ⟨rfl, st⟩⟩
  | .ret, E, H, nx, x, E', H', nx', _, h => by
    simp only [zbs, Option.some.injEq, Prod.mk.injEq] at h
    obtain ⟨rfl, rfl, rfl, rfl⟩ := h
    exact ⟨zbb.refl _ _, fun _ a w st => wp_ret ⟨rfl, st⟩⟩
  | .scope c, E, H, nx, x, E', H', nx', hwf, h => by
    simp only [zbs] at h
    obtain ⟨g1, p1⟩ := zds hM hcall fx c _ _ _ _ _ _ _ hwf h
    refine ⟨g1, fun hn a w st => wp_scope_straight (Code.wp_mono (fun e a w q => ?_) (p1 hn a w st))⟩
    obtain ⟨h1, q⟩ := q
    cases x <;> (have h1' := h1; unfold ExOk at h1'; subst h1'; exact ⟨rfl, q⟩)
  | .region id ops false, E, H, nx, x, E', H', nx', hwf, h => by
    simp only [zbs] at h
    simp only [wfC, Bool.not_false, Bool.true_or, Bool.and_true] at hwf
    obtain ⟨E1, H1, nx1, h1, h2, h3⟩ := zut (ρ0 := ρ0) (Hi := Hi) (w0 := w0) (X := X) hT hE hcall fx ops.toList [] E H nx _ _ h hwf (ztp hwf) (fun t b hm => by cases hm)
    simp only [Option.some.injEq, Prod.mk.injEq] at h1
    obtain ⟨rfl, rfl, rfl, rfl⟩ := h1
    exact ⟨h2, fun hn a w st => wp_region_list (h3 hn a w st)⟩
  | .region id ops true, E, H, nx, x, E', H', nx', hwf, h => by
    simp only [zbs] at h
    simp only [wfC, Bool.not_true, Bool.false_or, Bool.and_eq_true] at hwf
    obtain ⟨L, E1, H1, nx1, h1, h2, h3⟩ := zsw (Hi := Hi) (X := X) (n0 := n0) (nE := nE) hT hE hcall ops.toList [] E H nx [] _ _ h (fun t b hm => by cases hm)
    rw [List.nil_append] at h1
    split at h1
    · rename_i hck
      simp only [Option.some.injEq, Prod.mk.injEq] at h1
      obtain ⟨rfl, rfl, rfl, rfl⟩ := h1
      refine ⟨h2, fun hn a w st => ?_⟩
      have hch := h3 hn st.le st.dom
      have hco : zjw L (zne ops) := (zim L _).2 fun p hp => zacw (List.all_eq_true.1 hck p hp)
      obtain ⟨ρ, s, hv, f⟩ := st.ex
      have hle := h2.1
      have hfalse : ∀ i, (Array.replicate ops.size false).getD i false = false := fun i => by
        simp only [Array.getD]
        split <;> simp
      have hls : lsOf (Array.replicate ops.size false) = fun _ => false := funext hfalse
      have hA : AD (AX A0 n0 nx) L (fun _ => false) = AX A0 n0 nx := by
        funext g; simp [AD]
      have hA2 := zajp (A0 := A0) st.le hle
      refine wp_region_any hM (zsg (B := AX A0 n0 nx) (ρ0 := ρ) (w0 := w) hwf.2 hch hco (fun g h1 h2 h3 => ?_) fx.bddX (fun a' w' ρ' s' v' t' d' f' => ?_) _ _ _ _ ⟨by simp, (fun i hi => by rw [hfalse] at hi; cases hi), st.size, st.defers, ρ, ?_, ?_, ?_⟩ ?_)
      · rcases h3 with h3 | h3
        · exact fx.free g (by have := st.le; omega) (by omega) h3
        · omega
      · rw [hA2] at s' v' f'
        refine ⟨rfl, ⟨ρ', s', v', f.trans f'⟩, t', d', by have := st.le; omega, fun g hg => ?_⟩
        rcases h2.2 g hg with h | h
        · exact (st.dom g h).mono hle
        · exact .inr ⟨by have := st.le; omega, h.2⟩
      · have e : ({ w with drawn := w.drawn + 1 } : World).heap = w.heap := rfl
        rw [hls, hA, zld.hD_none]
        exact s.heap e
      · have e : ({ w with drawn := w.drawn + 1 } : World).heap = w.heap := rfl
        rw [hls, hA, zld.hD_none]
        exact ⟨fun g hg => ⟨rfl, hg⟩, fun b o hb => by rw [zee e]; exact hb, rfl, rfl, rfl, Nat.le_refl _⟩
      · intro t
        have e : ({ w with drawn := w.drawn + 1 } : World).heap = w.heap := rfl
        rw [hls, hA, zld.hD_none, zee e]
        have : eD (fun _ => false) ops.toList L 0 (toE E) t = toE E t := by
          rw [zor.eD_off _ _ _ _ fun _ _ => rfl]
        rw [this]
        exact hv t
      · exact Nat.le_trans (List.length_filter_le _ _) (by simp)
    · cases h1
  | .seq c d, E, H, nx, x, E', H', nx', hwf, h => by
    simp only [wfC, Bool.and_eq_true] at hwf
    simp only [zbs] at h
    split at h
    · rename_i x1 E1 H1 nx1 h1
      obtain ⟨g1, p1⟩ := zds hM hcall fx c _ _ _ _ _ _ _ hwf.1 h1
      cases x1 with
      | nrm =>
        simp only at h
        obtain ⟨g2, p2⟩ := zds hM hcall fx d _ _ _ _ _ _ _ hwf.2 h
        refine ⟨g1.trans g2, fun hn a w st => wp_seq (Code.wp_mono (fun e a w q => ?_) (p1 (by have := g2.1; omega) a w st))⟩
        obtain ⟨rfl, q⟩ := q
        exact p2 hn a w q
      | exi i =>
        simp only [Option.some.injEq, Prod.mk.injEq] at h
        obtain ⟨rfl, rfl, rfl, rfl⟩ := h
        refine ⟨g1, fun hn a w st => wp_seq (Code.wp_mono (fun e a w q => ?_) (p1 hn a w st))⟩
        obtain ⟨h1, q⟩ := q
        have h1' : e = .exit i := h1
        subst h1'
        exact ⟨rfl, q⟩
      | ret =>
        simp only [Option.some.injEq, Prod.mk.injEq] at h
        obtain ⟨rfl, rfl, rfl, rfl⟩ := h
        refine ⟨g1, fun hn a w st => wp_seq (Code.wp_mono (fun e a w q => ?_) (p1 hn a w st))⟩
        obtain ⟨h1, q⟩ := q
        have h1' : e = .ret := h1
        subst h1'
        exact ⟨rfl, q⟩
    · cases h
  | .cond y c d, E, H, nx, x, E', H', nx', hwf, h => by
    simp only [wfC, Bool.and_eq_true] at hwf
    simp only [zbs] at h
    split at h
    · rename_i t ht
      have hev : ∀ a w, SX A0 ρ0 Hi w0 X n0 nE N E H nx a w → a.eval y = .bool t := fun a w st => by
        obtain ⟨ρ, s, hv, f⟩ := st.ex
        have := zaaw hv y
        rw [ht] at this
        generalize a.eval y = cv at this
        cases this
        rfl
      cases t with
      | true =>
        simp only at h
        obtain ⟨g1, p1⟩ := zds hM hcall fx c _ _ _ _ _ _ _ hwf.1 h
        exact ⟨g1, fun hn a w st => wp_cond (hev a w st) (p1 hn a w st)⟩
      | false =>
        simp only at h
        obtain ⟨g1, p1⟩ := zds hM hcall fx d _ _ _ _ _ _ _ hwf.2 h
        exact ⟨g1, fun hn a w st => wp_cond (hev a w st) (p1 hn a w st)⟩
    · cases h
  | .block id c, E, H, nx, x, E', H', nx', hwf, h => by
    simp only [zbs] at h
    split at h
    · rename_i x1 E1 H1 nx1 h1
      obtain ⟨g1, p1⟩ := zds hM hcall fx c _ _ _ _ _ _ _ hwf h1
      cases x1 with
      | nrm =>
        simp only [Option.some.injEq, Prod.mk.injEq] at h
        obtain ⟨rfl, rfl, rfl, rfl⟩ := h
        refine ⟨g1, fun hn a w st => wp_block (Code.wp_mono (fun e a w q => ?_) (p1 hn a w st))⟩
        obtain ⟨rfl, q⟩ := q
        exact ⟨rfl, q⟩
      | ret =>
        simp only [Option.some.injEq, Prod.mk.injEq] at h
        obtain ⟨rfl, rfl, rfl, rfl⟩ := h
        refine ⟨g1, fun hn a w st => wp_block (Code.wp_mono (fun e a w q => ?_) (p1 hn a w st))⟩
        obtain ⟨h1, q⟩ := q
        have h1' : e = .ret := h1
        subst h1'
        exact ⟨rfl, q⟩
      | exi i =>
        simp only at h
        split at h
        · rename_i hi
          rw [Nat.beq_eq] at hi
          subst hi
          simp only [Option.some.injEq, Prod.mk.injEq] at h
          obtain ⟨rfl, rfl, rfl, rfl⟩ := h
          refine ⟨g1, fun hn a w st => wp_block (Code.wp_mono (fun e a w q => ?_) (p1 hn a w st))⟩
          obtain ⟨h1, q⟩ := q
          have h1' : e = .exit i := h1
          subst h1'
          simp only [Exit.inBlock, if_true]
          exact ⟨rfl, q⟩
        · rename_i hi
          simp only [Option.some.injEq, Prod.mk.injEq] at h
          obtain ⟨rfl, rfl, rfl, rfl⟩ := h
          refine ⟨g1, fun hn a w st => wp_block (Code.wp_mono (fun e a w q => ?_) (p1 hn a w st))⟩
          obtain ⟨h1, q⟩ := q
          have h1' : e = .exit i := h1
          subst h1'
          simp only [Exit.inBlock]
          rw [if_neg (by intro e; subst e; simp at hi)]
          exact ⟨rfl, q⟩
    · cases h
  | .loop c, E, H, nx, x, E', H', nx', hwf, h => by
    simp only [zbs] at h
    obtain ⟨g1, p1⟩ := zxr (c := c) (fun E H nx x E' H' nx' h => zds hM hcall fx c E H nx x E' H' nx' hwf h) 3000 E H nx x E' H' nx' h
    exact ⟨g1, fun hn a w st => wp_loop_rounds 3000 (p1 hn a w st)⟩
theorem zus {β : Type} (hT : TOk P T) {Hm : Heap} {A : Nat → Prop} {ρ : Nat → Loc} {w : World} {a : Act} {E : EB} {H : HB} (s : Sim A ρ Hm w) (hv : ∀ t, VRel (Kof ρ Hm w) ρ A (toE E t) (a.tmps.getD t undef)) (hag : ∀ g, isH H g = true → Hm g = toH H g) :
    ∀ (rs : List ResultVar) (c : List AV → Option β) (r : β), xret T rs E H c = some r → ∃ vs, c vs = some r ∧ ∃ cs, LRel (Kof ρ Hm w) ρ A vs cs ∧ cs.length = rs.length ∧
      ∀ acc : Array Value, (List.foldlM (fun (acc : Array Value) (r : ResultVar) => acc.push <$> zcd a.tmps r) acc rs).run P w = .ok (acc ++ cs.toArray) w
  | [], c, r, h => ⟨[], h, [], LRel.nil, rfl, fun acc => by simp [Sem.run_pure]⟩
  | .tmp t :: rs, c, r, h => by
    simp only [xret, zuj] at h
    obtain ⟨vs, h1, cs, h2, h3, h4⟩ := zus hT s hv hag rs _ r h
    refine ⟨_, h1, a.tmps.getD t undef :: cs, LRel.cons (hv t) h2, by simp [h3], fun acc => ?_⟩
    have hr : (zcd a.tmps (.tmp t)).run P w = .ok (a.tmps.getD t undef) w := rfl
    simp only [List.foldlM_cons, Sem.run_bind, zof hr, Result.andThen_ok, h4]
    congr 1
    apply Array.ext'
    simp
  | .cell b t :: rs, c, r, h => by
    simp only [xret] at h
    split at h
    · rename_i at_ ht
      obtain ⟨i, d, z, ha⟩ := hT.at ht
      split at h
      · rename_i v rd _ _ hx
        rw [zui] at h
        obtain ⟨vs, h1, cs, h2, h3, h4⟩ := zus hT s hv hag rs _ r h
        unfold zrj at hx
        split at hx
        · rename_i cells off rd' hrd
          split at hx
          · rename_i v' hl
            simp only [Option.some.injEq, Prod.mk.injEq] at hx
            obtain ⟨rfl, rfl, _, _⟩ := hx
            have hrds : ∀ g ∈ rd', Hm g = toH H g := fun g hg => by
              unfold rdp at hrd
              split at hrd
              · rename_i g' _ _
                split at hrd
                · rename_i hgg
                  cases hrd
                  simp at hg
                  subst hg
                  exact hag _ (zkh.2 ⟨_, hgg⟩)
                · cases hrd
              · cases hrd; cases hg
              · cases hrd
            obtain ⟨bb, q, he, hc⟩ := zti s (hv b) hrd hrds
            obtain ⟨cv, hr, hR⟩ := zhd (P := P) ha hc hl
            refine ⟨_, h1, cv :: cs, LRel.cons hR h2, by simp [h3], fun acc => ?_⟩
            have hr' : (zcd a.tmps (.cell b t)).run P w = .ok cv w := by
              simp only [zcd, Sem.run_bind, he, asAddr, Sem.run_pure, Result.andThen_ok, hr]
            simp only [List.foldlM_cons, Sem.run_bind, zof hr', Result.andThen_ok, h4]
            congr 1
            apply Array.ext'
            simp
          · cases hx
        · cases hx
      · cases h
    · cases h
theorem zzp {β : Type} : ∀ (args : List AV) (t : Nat) (E : EB) (c : EB → Option β) (r : β), zxn args t E c = some r → ∃ E', c E' = some r ∧ ∀ u, toE E' u = if t ≤ u ∧ u < t + args.length then nth args (u - t) else toE E u
  | [], t, E, c, r, h => ⟨E, h, fun u => by rw [if_neg (by simp only [List.length_nil]; omega)]⟩
  | v :: rs, t, E, c, r, h => by
    simp only [zxn, zui] at h
    rw [Tr.setK_eq] at h
    obtain ⟨E', h1, h2⟩ := zzp rs (t + 1) _ c r h
    refine ⟨E', h1, fun u => ?_⟩
    rw [h2]
    have hs : toE (Tr.setK (t + 1) E t (some v) id) u = if u = t then v else toE E u := by
      have := congrFun (zeh E (some t) v) u
      rw [show zrl E (some t) v = Tr.setK (t + 1) E t (some v) id from rfl] at this
      rw [this, zdh]
      by_cases h : u = t
      · subst h; simp
      · rw [if_neg (by simpa using Ne.symm h), if_neg h]
    rw [hs]
    simp only [List.length_cons]
    by_cases h1 : t + 1 ≤ u ∧ u < t + 1 + rs.length
    · rw [if_pos h1, if_pos (by omega)]
      have : u - t = (u - (t + 1)) + 1 := by omega
      rw [this]
      simp [nth]
    · rw [if_neg h1]
      by_cases h3 : u = t
      · subst h3
        rw [if_pos rfl, if_pos (by omega)]
        simp [nth]
      · rw [if_neg h3, if_neg (by omega)]
def zajr (P : Program) (orc : Nat → List AV → Option AV) : Prop := ∀ f args v, orc f args = some v → ∀ H : Heap, LC P f args H [] [] [] v
def FnOk (P : Program) (ok : Nat → Bool) : Prop := ∀ f fn c, ok f = true → P.funcs[f]? = some fn → fn.body = some c → wfC fn.ntmps c = true ∧ (fn.name == "runtime.NumGoroutine") = false
include hT hE in
theorem zaat (hM : P.follows .mixedOrders = true) {ok : Nat → Bool} {orc : Nat → List AV → Option AV} (ho : zajr P orc) (hf : FnOk P ok) : ∀ n, zfi P (xfun T eqs P ok orc n)
  | 0, f, args, H, nx, v, H', nx', h, cargs => by simp [xfun] at h
  | n + 1, f, args, H, nx, v, H', nx', h, cargs => by
    have ih := zaat hM ho hf n
    unfold xfun at h
    split at h
    · rename_i u hu
      simp only [Option.some.injEq, Prod.mk.injEq] at h
      obtain ⟨rfl, rfl, rfl⟩ := h
      refine ⟨Nat.le_refl _, fun g hg => .inl hg, fun A ρ Hm w hB s ha hag hfree => ?_⟩
      refine zn (ho f args u hu (fun _ => none) A ρ Hm w cargs hB s ha (fun g hg => by cases hg) (fun g hg => by cases hg)) fun cv w' ⟨ρ', q1, q2, q3⟩ => ?_
      have hA : (fun x => A x ∨ x ∈ ([] : List Nat)) = (fun g => A g ∨ nx ≤ g ∧ g < nx) := by funext g; simp; omega
      have hH : Hm.apply [] = mix Hm H nx nx H := by
        funext g
        show Hm g = _
        by_cases ht : Tk H nx nx g
        · rw [zcf ht]
          rcases ht with h | h
          · exact hag g h
          · omega
        · rw [zek ht]
      rw [hA, hH] at q1 q2 q3
      exact ⟨ρ', q1, q2, q3⟩
    · split at h
      · cases h
      · rename_i hok
        split at h
        · rename_i fn hfn
          split at h
          · rename_i c hc
            split at h
            · rename_i hlen
              obtain ⟨hwf, hname⟩ := hf f fn c hok hfn hc
              have hlen := Nat.le_of_ble_eq_true hlen
              obtain ⟨E0, h1, h2⟩ := zzp _ _ _ _ _ h
              split at h1
              · rename_i x E1 H1 nx1 hx
                have key : ∀ (A : Nat → Prop) (ρ : Nat → Loc) (Hm : Heap) (w : World), FX A nx nx1 → zvp P A ρ Hm w H nx nx1 fn.ntmps c E0 H nx x E1 H1 nx1 := fun A ρ Hm w fx => zds hT hE hM ih fx c E0 H nx x E1 H1 nx1 hwf hx
                have hg : zbb H nx H1 nx1 := (key (fun _ => False) (fun _ => default) (fun _ => none) default ⟨fun _ _ _ h => h, ⟨0, fun _ h => h.elim⟩⟩).1
                have fin : ∀ (h1 : xret T fn.results.toList E1 H1 (fun vs => some (match vs with | [v] => v | vs => .tup vs, H1, nx1)) = some (v, H', nx')) (hx2 : ∀ e, ExOk x e → e = .normal ∨ e = .ret),
                    Does P H nx v H' nx' (fun K ρ A => LRel K ρ A args cargs.toList) fun w => (callFunc f cargs).run P w := by
                  intro h1 hx2
                  have hout : H' = H1 ∧ nx' = nx1 := by
                    have : ∀ (rs : List ResultVar) (cc : List AV → AV), xret T rs E1 H1 (fun vs => some (cc vs, H1, nx1)) = some (v, H', nx') → H' = H1 ∧ nx' = nx1 := by
                      intro rs
                      induction rs with
                      | nil => intro cc h; simp only [xret, Option.some.injEq, Prod.mk.injEq] at h; exact ⟨h.2.1.symm, h.2.2.symm⟩
                      | cons r rs ih =>
                        intro cc h
                        cases r with
                        | tmp t => simp only [xret, zuj] at h; exact ih (fun vs => cc (toE E1 t :: vs)) h
                        | cell b t =>
                          simp only [xret] at h
                          split at h
                          · split at h
                            · rename_i v' _ _ _ _
                              rw [zui] at h
                              exact ih (fun vs => cc (v' :: vs)) h
                            · cases h
                          · cases h
                    exact this _ (fun vs => match vs with | [v] => v | vs => .tup vs) h1
                  obtain ⟨rfl, rfl⟩ := hout
                  refine ⟨hg.1, hg.2, fun A ρ Hm w hB s ha hag hfree => ?_⟩
                  have fx : FX A nx nx' := ⟨hfree, hB⟩
                  have hp := (key A ρ Hm w fx).2 (Nat.le_refl _)
                  have hcl : cargs.size = args.length := by simpa using ha.1
                  have hcall : (callFunc f cargs).run P w = .ok (.enter f cargs) w := by
                    have hname' : ¬ fn.name = "runtime.NumGoroutine" := by simpa using hname
                    simp [callFunc, program, Sem.run_bind, Sem.run, hfn, hname', hc, pure]
                  rw [hcall]
                  simp only [zu]
                  have hA0 : AX A nx nx = A := by funext g; simp [AX]; omega
                  have hH0 : mix Hm H nx nx' H = Hm := by
                    funext g
                    by_cases ht : Tk H nx nx' g
                    · rw [zcf ht]
                      by_cases hi : isH H g = true
                      · exact (hag g hi).symm
                      · rw [zhf hi]
                        rcases ht with h | h
                        · exact absurd h hi
                        · cases e : Hm g with
                          | none => rfl
                          | some o => exact absurd (s.live g o e) (hfree g h.1 h.2)
                    · rw [zek ht]
                  refine calls_of_wp hfn hc (Code.wp_mono (fun e a w' q => ?_) (hp _ w ⟨⟨ρ, ?_, fun t => ?_, ?_⟩, by simp; omega, rfl, Nat.le_refl _, fun g hg => .inl hg⟩))
                  · obtain ⟨he, st⟩ := q
                    have done : a.defers = [] ∧ ∃ v', (results fn a.tmps).run P w' = .ok v' w' ∧ ∃ u, Ending.returned v' = .returned u ∧ zaju A ρ Hm w H nx v H' nx' u w' := by
                      obtain ⟨ρ', s', hv', f'⟩ := st.ex
                      obtain ⟨vs, q1, cs, q2, q3, q4⟩ := zus (P := P) hT s' hv' (fun g hg => zcf (st.dom g hg)) fn.results.toList _ _ h1
                      refine ⟨st.defers, ?_⟩
                      have hm : (fn.results.mapM (zcd a.tmps)).run P w' = .ok cs.toArray w' := by
                        rw [Array.mapM_eq_foldlM]
                        have := q4 #[]
                        rw [Array.foldlM_toList] at this
                        simpa using this
                      have hrun : ∀ v, (if h : cs.toArray.size = 1 then cs.toArray[0] else Value.tuple cs.toArray) = v → (results fn a.tmps).run P w' = .ok v w' := by
                        intro v hv
                        have e : results fn a.tmps = (do let vs ← fn.results.mapM (zcd a.tmps); pure (if h : vs.size = 1 then vs[0] else .tuple vs)) := by
                          unfold results zcd
                          rfl
                        rw [e]
                        simp only [Sem.run_bind, hm, Result.andThen_ok, Sem.run_pure, hv]
                      simp only [Option.some.injEq, Prod.mk.injEq, and_true] at q1
                      split at q1
                      · rename_i u
                        subst q1
                        obtain ⟨cv, hcv, hR⟩ := q2.get (j := 0) (v := u) rfl
                        have hc1 : cs = [cv] := by
                          have hl := q2.1
                          match cs, hl, hcv with
                          | [x], _, h => simp at h; rw [h]
                        subst hc1
                        exact ⟨cv, hrun cv (by simp), cv, rfl, ρ', s', hR, f'⟩
                      · rename_i hne
                        have hc1 : cs.length ≠ 1 := by
                          intro hl
                          have := q2.1
                          rw [hl] at this
                          match vs, this with
                          | [x], _ => exact hne x rfl
                        subst q1
                        exact ⟨.tuple cs.toArray, hrun _ (by simp [hc1]), _, rfl, ρ', s', .tup _ _ (by simpa using q2.1) fun j v c hv hc => q2.2 j v c hv (by simpa using hc), f'⟩
                    rcases hx2 e he with rfl | rfl
                    · exact done
                    · exact done
                  · rw [hA0, hH0]; exact s
                  · rw [hA0, hH0, h2]
                    show VRel _ _ _ _ ((cargs ++ Array.replicate (fn.ntmps - cargs.size) undef).getD t undef)
                    by_cases ht : t < args.length
                    · rw [if_pos (by omega)]
                      obtain ⟨cv, h1, h2⟩ := ha.get (List.getElem?_eq_getElem ht)
                      have : (cargs ++ Array.replicate (fn.ntmps - cargs.size) undef).getD t undef = cv := by
                        rw [Array.getD_eq_getD_getElem?, Array.getElem?_append_left (by omega)]
                        simp only [Array.getElem?_toList] at h1
                        rw [h1]; rfl
                      rw [this, Nat.sub_zero, nth, List.getD_eq_getElem?_getD, List.getElem?_eq_getElem ht]
                      exact h2
                    · rw [if_neg (by omega)]
                      exact .junk _
                  · rw [hA0, hH0]; exact Fr.refl _ _ _ _
                split at h1
                · cases h1
                · exact fin h1 fun e he => .inl he
                · exact fin h1 fun e he => .inr he
              · cases h1
            · cases h
          · cases h
        · cases h
theorem QC.closed {call : XCl} (hc : zfi P call) {f : FuncId} {v : AV} {H' : HB} {nx' : Nat} (h : call f [] .nil 0 = some (v, H', nx')) (hf : flat v = true) : QC P f [] v := by
  intro H nx ρ w cargs s ha
  have s0 : Sim (fun _ => False) ρ (fun _ => none) w := by
    have := (s.drop (H' := fun _ => none) (fun g o ho => by cases ho)).1
    exact ⟨fun g o ho => (by cases ho), fun g o ho => (by cases ho), fun g g' hg _ _ => (by cases hg), this.lay⟩
  have d := hc f [] .nil 0 v H' nx' h cargs
  have ha0 : LRel (Kof ρ (fun _ => none) w) ρ (fun _ => False) [] cargs.toList := ⟨ha.1, fun j v c hv => by simp at hv⟩
  refine zn (d.run (fun _ => False) ρ (fun _ => none) w ⟨0, fun _ h => h.elim⟩ s0 ha0 (fun g hg => by simp [isH, Tr.get_nil] at hg) (fun _ _ _ h => h)) fun cv w' ⟨ρ', q3, q4, q5⟩ => ?_
  have keep : ∀ b o, w.heap[b]? = some o → w'.heap[b]? = some o := fun b o hb =>
    (zq.1 (q5.k b o (zq.2 ⟨fun g hg => by simp at hg, hb⟩))).2
  have hK : ∀ b o, Kof ρ H w b = some o → Kof ρ H w' b = some o := fun b o hb => by
    obtain ⟨h1, h2⟩ := zq.1 hb
    exact zq.2 ⟨h1, keep b o h2⟩
  refine ⟨v, H, nx, ρ, ⟨rfl, rfl, rfl⟩, ⟨s.live, fun g o ho => ?_, s.inj, s.lay.mono hK⟩, q4.flat hf, ⟨fun g hg => ⟨rfl, hg⟩, hK, q5.os, q5.tape, q5.output, q5.size⟩⟩
  have ho' := s.obj g o ho
  obtain ⟨ob, hob⟩ : ∃ ob, w.heap[(ρ g).block]? = some ob := ⟨_, Array.getElem?_eq_getElem ho'.block_lt⟩
  exact ho'.mono (by rw [keep _ _ hob, hob]) hK fun g hg => ⟨rfl, hg⟩
end
end Go.Proofs.YtobioljjoipimaaDoor
namespace Go.Proofs.YtobioljjoipimaaDoor
open Go Go.RowKit
theorem zzw : (Tryd.prog.globalNamed "strconv.ErrSyntax").isSome = true := by kernel_rfl
theorem zact : (Tryd.prog.globalNamed "strconv.ErrRange").isSome = true := by kernel_rfl
theorem LayE.var {n : String} {w : World} (h : LayE n (fun b => w.heap[b]?)) (hn : (Tryd.prog.globalNamed n).isSome = true) : ∃ t p, w.var? Tryd.prog n = some #[.iface t p] := by
  obtain ⟨g, hg⟩ := Option.isSome_iff_exists.1 hn
  obtain ⟨t, p, e, m, hc⟩ := h g hg
  have hc' : w.heap[g]? = _ := hc
  exact ⟨t, p, by unfold World.var?; rw [hg, Option.bind_some, hc']⟩
theorem zaan (w : World) (e : TypeId) (s : ByteArray) : Below w.heap.size w (Lib.bytesWorld w e s) := ⟨rfl, rfl, rfl, by rw [Lib.bytesWorld_size]; omega, fun k hk => Lib.bytesWorld_at_old w e s k hk⟩
def zuo (s : List UInt8) : AV := match Lib.atoiAll s with
  | .ok v => .tup [.int .i64 v, .inil]
  | .range => .tup [.int .i64 (Lib.atoiSat s), .ifc]
  | _ => .tup [.int .i64 0, .ifc]
theorem tup2 {n : Int} {x : AV} {c : Value} (h : ∀ K ρ A, VRel K ρ A x c) (K : zm) (ρ : Nat → Loc) (A : Nat → Prop) : VRel K ρ A (.tup [.int .i64 n, x]) (.tuple #[.int .i64 n, c]) :=
  .tup _ _ rfl fun j v c' hv hc => by
    match j with
    | 0 => cases hv; cases hc; exact .int _ _
    | 1 => cases hv; cases hc; exact h K ρ A
set_option maxRecDepth 8000 in
theorem zakx (s : List UInt8) (h : s.length ≤ 281474976710656) : QC Tryd.prog 106 [.str s] (zuo s) := by
  refine QC.of_calls (c := zp Tryd.f106) Tryd.func106 (by kernel_rfl) (by kernel_rfl) fun K ρ A w cargs hl ha => ?_
  have hc : cargs = #[.string ⟨s.toArray⟩] := by
    obtain ⟨hlen, hg⟩ := ha
    have hlen' : cargs.toList.length = 1 := hlen
    match he : cargs.toList, hlen' with
    | [v], _ =>
      have := hg 0 (.str s) v rfl (by rw [he]; rfl)
      cases this
      exact Array.ext' (by rw [he])
  subst hc
  have hs : (ByteArray.mk s.toArray).size = s.length := by show s.toArray.size = _; simp
  have hd : (ByteArray.mk s.toArray).data.toList = s := by simp
  unfold zuo
  cases hv : Lib.atoiAll s with
  | ok v =>
    refine (Tryd.strconv_Atoi_ok ⟨s.toArray⟩ (by omega) v (by rw [hd]; exact hv) w).mono fun e w' ⟨he, hw⟩ => ⟨⟨_, he, tup2 fun _ _ _ => .inil⟩, ?_⟩
    rcases hw with rfl | ⟨t, rfl⟩
    · exact .refl _ _
    · exact zaan w _ t
  | range =>
    obtain ⟨t, p, hvar⟩ := hl.2.2.1.var zact
    have hx : Lib.atoiSat (ByteArray.mk s.toArray).data.toList = Lib.atoiSat s := by rw [hd]
    exact (Tryd.strconv_Atoi_range_var ⟨s.toArray⟩ (by omega) (by rw [hd]; exact hv) t p w hvar).mono fun e w' ⟨N, he, _, _, hw⟩ => ⟨⟨_, hx ▸ he, tup2 fun _ _ _ => .ifc _ ⟨_, _, rfl⟩⟩, hw⟩
  | _ =>
    obtain ⟨t, p, hvar⟩ := hl.2.1.var zzw
    exact (Tryd.strconv_Atoi_syntax_var ⟨s.toArray⟩ (by omega) (by rw [hd]; exact hv) t p w hvar).mono fun e w' ⟨N, he, _, _, hw⟩ => ⟨⟨_, he, tup2 fun _ _ _ => .ifc _ ⟨_, _, rfl⟩⟩, hw⟩
end Go.Proofs.YtobioljjoipimaaDoor
set_option maxRecDepth 8000
namespace Go.Proofs.YtobioljjoipimaaDoor
open Go Go.RowKit
theorem QC.nz {P : Program} {f : FuncId} {args : List AV} (h : ∀ H nx, za P f args H nx fun v H' _ => (v = .nils ∨ v = .zs) ∧ Keep nx H' H) : QC P f args .zs := by
  intro H nx
  have h1 : za P f args H nx fun v H' nx' => (v = .nils ∨ v = .zs) ∧ H' = H ∧ nx' = nx := by
    refine za.tidy fun hlive => ?_
    refine (za.gc (R := fun v H' => (v = .nils ∨ v = .zs) ∧ H' = H) (h H nx) fun v H' nx' ⟨h1, h2⟩ => ⟨v, H, ⟨h1, rfl⟩, .same v (by rcases h1 with rfl | rfl; exact .nils; exact .zs), fun g o ho => ⟨hlive g o ho, by rw [h2 g (hlive g o ho)]; exact ho, .inl ho⟩⟩).mono fun v H' nx' ⟨⟨a, b⟩, c⟩ => ⟨a, b, c⟩
  intro ρ w cargs s ha
  refine zn (h1 ρ w cargs s ha) fun cv w' ⟨v, H', nx', ρ', ⟨q1, q2, q3⟩, q4, q5, q6⟩ => ⟨.zs, H', nx', ρ', ⟨rfl, q2, q3⟩, q4, ?_, q6⟩
  rcases q1 with rfl | rfl
  · cases q5; exact .zs none
  · exact q5
def zeb (sz by_ : Nat) (a0 : AV) (H : Heap) (nx : Nat) (Q : QT) : Prop :=
 BL BinOp.eql a0 AV.nils fun v1 =>
 CNDC v1
 (Q AV.nils H nx)
 (PUTH H nx (AObj.row sz []) fun H2 =>
 APP sz by_ AV.zs a0 H2 (nx + 1) fun v3 H4 nx5 =>
 Q v3 H4 nx5)
theorem zafy {f sz by_ : Nat} (h : ∀ (a0 : AV) (H : Heap) (nx : Nat) (Q : QT), zeb sz by_ a0 H nx Q → za Tryd.prog f [a0] H nx Q) : QC Tryd.prog f [.ro []] .zs := by
  refine QC.nz fun H nx => h _ H nx _ ?_
  unfold zeb BL BINL
  simp only [zao, CNDC, qk, PURE]
  refine ⟨fun _ => ⟨⟨.inl (by trivial), by simp [Keep]⟩, ?_⟩, fun h => absurd rfl h⟩
  simp only [PUTH, APP, zad, zi, List.all_nil, if_true, List.length_nil, List.flatten_nil, true_and]
  exact ⟨fun _ => ⟨.inr (by trivial), fun g hg => Heap.put_ne _ _ (by omega)⟩, fun h => absurd rfl h⟩
theorem zmi {f sz by_ : Nat} (h : ∀ (a0 : AV) (H : Heap) (nx : Nat) (Q : QT), zeb sz by_ a0 H nx Q → za Tryd.prog f [a0] H nx Q) {a : AV} (ha : (∃ g o, a = .slc g o 0) ∨ a = .zs ∨ a = .ro []) (H : Heap) : LC Tryd.prog f [a] H [] [] [] .zs := by
  have hl := LC.of_qc (zafy h) .zs H
  intro A ρ Hm w cargs hB s hr hrd hfr
  refine hl A ρ Hm w cargs hB s ⟨hr.1, fun j v c hv hc => ?_⟩ hrd hfr
  cases j with
  | succ j => simp at hv
  | zero =>
    simp at hv
    subst hv
    have := hr.2 0 a c rfl hc
    rcases ha with ⟨g, o, rfl⟩ | rfl | rfl
    · cases this with
      | slc _ _ _ cap ad h1 h2 h3 => exact .ro [] ad 0 cap 0 0 0 (fun _ _ => undef) rfl (Nat.zero_le _) (fun h => absurd rfl h) (fun x hx => by cases hx) (fun i x j v hx => by simp at hx) (fun i x j v hx => by simp at hx)
    · cases this with
      | zs ad => exact .ro [] ad 0 0 0 0 0 (fun _ _ => undef) rfl (Nat.le_refl _) (fun h => absurd rfl h) (fun x hx => by cases hx) (fun i x j v hx => by simp at hx) (fun i x j v hx => by simp at hx)
    · exact this
def zabl : List Nat := [80, 81, 78, 79]
theorem zalo (a0 : AV) (H : Heap) (nx : Nat) (Q : QT) : zeb 3 32 a0 H nx Q → za Tryd.prog 80 [a0] H nx Q :=
  zj (lv := lvOf []) (c := zp Tryd.f80) zqe zqv mixed Tryd.func80 (by kernel_rfl) (by kernel_rfl) (by kernel_rfl) (by kernel_rfl) (by kernel_rfl)
theorem zaln (a0 : AV) (H : Heap) (nx : Nat) (Q : QT) : zeb 6 64 a0 H nx Q → za Tryd.prog 81 [a0] H nx Q :=
  zj (lv := lvOf []) (c := zp Tryd.f81) zqe zqv mixed Tryd.func81 (by kernel_rfl) (by kernel_rfl) (by kernel_rfl) (by kernel_rfl) (by kernel_rfl)
theorem zalm (a0 : AV) (H : Heap) (nx : Nat) (Q : QT) : zeb 3 24 a0 H nx Q → za Tryd.prog 78 [a0] H nx Q :=
  zj (lv := lvOf []) (c := zp Tryd.f78) zqe zqv mixed Tryd.func78 (by kernel_rfl) (by kernel_rfl) (by kernel_rfl) (by kernel_rfl) (by kernel_rfl)
theorem zall (a0 : AV) (H : Heap) (nx : Nat) (Q : QT) : zeb 1 16 a0 H nx Q → za Tryd.prog 79 [a0] H nx Q :=
  zj (lv := lvOf []) (c := zp Tryd.f79) zqe zqv mixed Tryd.func79 (by kernel_rfl) (by kernel_rfl) (by kernel_rfl) (by kernel_rfl) (by kernel_rfl)
noncomputable def orcX (f : Nat) (args : List AV) : Option AV := match Nat.beq f 106 with
  | true => match args with
    | [.str s] => match Nat.ble s.length 100000 with | true => some (zuo s) | false => none
    | _ => none
  | false => match Nat.beq f 76 with
    | true => match args with
      | [.int .i64 n] => match !iLt n (-9223372036854775808) && !iLt 9223372036854775807 n with | true => some (.str (Lib.itoa n)) | false => none
      | _ => none
    | false => match zabl.any (Nat.beq f) with
      | true => match args with
        | [.slc _ _ 0] | [.zs] | [.ro []] => some .zs
        | _ => none
      | false => none
theorem zajd (s : List UInt8) : Bel (fun _ => False) (zuo s) := by
  unfold zuo
  split
  · exact .tup _ fun j v hv => by match j with
                                  | 0 => simp at hv; subst hv; exact .int _ _
                                  | 1 => simp at hv; subst hv; exact .inil
                                  | j + 2 => simp at hv
  · exact .tup _ fun j v hv => by match j with
                                  | 0 => simp at hv; subst hv; exact .int _ _
                                  | 1 => simp at hv; subst hv; exact .ifc
                                  | j + 2 => simp at hv
  · exact .tup _ fun j v hv => by match j with
                                  | 0 => simp at hv; subst hv; exact .int _ _
                                  | 1 => simp at hv; subst hv; exact .ifc
                                  | j + 2 => simp at hv
theorem zakc : zajr Tryd.prog orcX := by
  intro f args v h H
  unfold orcX at h
  split at h
  · rename_i hf
    rw [Nat.beq_eq] at hf
    subst hf
    split at h
    · split at h
      · rename_i hl
        cases h
        exact LC.of_qc (zakx _ (by have := Nat.le_of_ble_eq_true hl; omega)) (zajd _) H
      · cases h
    · cases h
  · split at h
    · rename_i hf
      rw [Nat.beq_eq] at hf
      subst hf
      split at h
      · split at h
        · rename_i hl
          cases h
          simp only [zyu, Bool.and_eq_true, Bool.not_eq_true', decide_eq_false_iff_not] at hl
          exact LC.of_qc (zabe _ (by omega) (by omega)) (.str _) H
        · cases h
      · cases h
    · split at h
      · rename_i hf
        simp only [zabl, List.any_cons, List.any_nil, Bool.or_false, Bool.or_eq_true, Nat.beq_eq] at hf
        have fin : ∀ a : AV, (∃ g o, a = .slc g o 0) ∨ a = .zs ∨ a = .ro [] → LC Tryd.prog f [a] H [] [] [] .zs := fun a ha => by
          rcases hf with rfl | rfl | rfl | rfl
          · exact zmi zalo ha H
          · exact zmi zaln ha H
          · exact zmi zalm ha H
          · exact zmi zall ha H
        split at h
        · cases h; exact fin _ (.inl ⟨_, _, rfl⟩)
        · cases h; exact fin _ (.inr (.inl rfl))
        · cases h; exact fin _ (.inr (.inr rfl))
        · cases h
      · cases h
def wfF (P : Program) (f : Nat) : Bool := match P.funcs[f]? with
  | some fn => match fn.body with
    | some c => wfC fn.ntmps c && !(fn.name == "runtime.NumGoroutine")
    | none => true
  | none => true
def okX (f : Nat) : Bool := Nat.blt f 120
theorem zalz : (List.range 120).all (wfF Tryd.prog) = true := by kernel_rfl
theorem zald : FnOk Tryd.prog okX := by
  intro f fn c h hf hc
  have := List.all_eq_true.1 zalz f (List.mem_range.2 (by simpa [okX] using h))
  unfold wfF at this
  rw [hf] at this
  simp only [hc, Bool.and_eq_true, Bool.not_eq_true'] at this
  exact this
noncomputable def zadv (n : Nat) : XCl := xfun tab eqsT Tryd.prog okX orcX n
theorem zajc (n : Nat) : zfi Tryd.prog (zadv n) := zaat zy zz mixed zakc zald n
def zvg (x : Option (AV × HB × Nat)) : Bool := match x with
  | some (.bool b, _, _) => b
  | _ => false
theorem QC.runs {n : Nat} {f : FuncId} (h : zvg (zadv n f [] .nil 0) = true) : QC Tryd.prog f [] (.bool true) := by
  unfold zvg at h
  split at h
  · rename_i b H' nx' e
    subst h
    exact QC.closed (zajc n) e (by simp)
  · cases h
end Go.Proofs.YtobioljjoipimaaDoor
set_option maxRecDepth 100000
namespace Go.Proofs.YtobioljjoipimaaDoor
open Go Go.RowKit
theorem zaar : zvg (zadv 60 21 [] .nil 0) = true := by kernel_rfl
theorem zagl : QC Tryd.prog 21 [] (.bool true) := QC.runs zaar
end Go.Proofs.YtobioljjoipimaaDoor
set_option maxRecDepth 8000
namespace Go.Proofs.YtobioljjoipimaaDoor
open Go Go.RowKit
namespace VM
end VM
namespace VM
end VM
end Go.Proofs.YtobioljjoipimaaDoor
set_option maxRecDepth 8000
namespace Go.Proofs.YtobioljjoipimaaDoor
open Go Go.RowKit
set_option maxRecDepth 20000 in
set_option maxHeartbeats 1000000 in
theorem zahq {a : Agt} (sz : zup a) (hfr : a.frames = []) (hr : VM.right a.heap [] = true) : QC Tryd.prog 25 [.agg a.avs] (.agg (VM.pack a).avs) := by
  refine QC.of' fun H nx => ?_
  refine zpa _ H nx _ ?_
  have av : (AV.agg a.avs).cells = a.avs := by simp
  have al : a.avs.length = 9 := rfl
  have hsu : (AV.agg a.avs).sure = true := by simp [Agt.avs]
  have at9 : a.avs.take 9 = a.avs := by rw [← al, List.take_length]
  unfold zoc
  rw [av, al]
  refine ⟨hsu, ?_⟩
  simp [al, at9]
  refine zyo sz fun H1 n1 ss fa ha hn1 k1 ow => ?_
  generalize hHH : Heap.put _ (nx + 1) _ = HH at *
  have q2 : ∃ z, HH (nx + 1) = some (.row 9 z) ∧ z.length = 9 := ⟨_, by rw [← hHH, Heap.put_at], rfl⟩
  have q4 : Keep nx HH H := fun g hg => by rw [← hHH, Heap.put_ne _ _ (by omega), Heap.put_ne _ _ (by omega)]
  have h1 := ow.hp.one
  have h2 := ow.row.one
  have hlen : ∀ (kk : AV → Prop), kk (.int .i64 0) → LNL fa kk := fun kk h => by
    rcases ow.row with ⟨_, rfl | rfl⟩ | ⟨gf, cs, rfl, _⟩
    · simpa using h
    · simpa using h
    · rw [hfr]; simpa using h
  have bh : ∀ g ∈ own ha, nx + 2 ≤ g ∧ g < n1 := fun g hg => ow.bd g (by simp [hg])
  simp [zod, zag, h1.2.1, h2.2.1]
  refine hlen _ ?_
  generalize hX : Heap.put H1 n1 _ = HX
  have x1 : HX n1 = some (.row 9 (zag a.id a.trip a.prog fa ha a.permit)) := by rw [← hX, Heap.put_at]; rfl
  have xk : ∀ g, g < n1 → HX g = H1 g := fun g hg => by rw [← hX, Heap.put_ne _ _ (by omega)]
  refine LP.mk (fun _ xs H' n' => xs = [.ptr (nx + 1) 0, .ptr n1 0, .nils, fa, .int .i64 0, .int .i64 0] ∧ H' = HX ∧ n' = n1 + 1) 0 ⟨rfl, rfl, rfl⟩ ?_
  rintro k xs H' n' ⟨rfl, rfl, rfl⟩
  simp [zef, x1, zag]
  let G : Nat → Prop := fun g => g ∈ own ha
  let H0 : Heap := fun g => if g ∈ own ha then none else H' g
  have h0 : ∀ g o, H0 g = some o → ¬ G g ∧ H' g = some o := fun g o hg => by
    by_cases h : g ∈ own ha
    · simp only [H0, if_pos h] at hg; cases hg
    · simp only [H0, if_neg h] at hg; exact ⟨h, hg⟩
  have up : ∀ g, g ∉ own ha → H0 g = H' g := fun g h1 => by simp only [H0]; rw [if_neg h1]
  refine QC.thaw (zzj a.heap [] hr sz.b5 (by simp)) (G := G) (H0 := H0) (zgt.cons (Slot.frzP (sz := 6) ?_ (fun g hg => hg) (zbg _)) (zgt.cons .nils .nil)) h0 ?_
  · have := ow.hp.keep (H' := H') fun g hg => by have := bh g hg; rw [xk g (by omega)]
    simpa [rowC] using this
  have y1 : H0 n1 = some (.row 9 (zag a.id a.trip a.prog fa ha a.permit)) := by
    rw [up n1 (fun h => by have := bh _ h; omega)]; exact x1
  have lowk : ∀ g, g < nx + 2 → H0 g = HH g := fun g hg => by
    rw [up g (fun h => by have := bh _ h; omega), xk g (by omega), k1 g (by omega)]
  simp [zjq, y1, zag]
  refine hlen _ ?_
  obtain ⟨z, z1, z2⟩ := q2
  have hz := (lowk (nx + 1) (by omega)).trans z1
  refine LP.mk (fun _ xs H'' n' => xs = [.ptr (nx + 1) 0, .ptr n1 0, .ro ((VM.canonV a.heap []).map Val.avs), .ro ((VM.canonC a.heap []).map Cl.avs), .int .i64 0, .int .i64 0] ∧ H'' = H0 ∧ n' = n1 + 1) 0 ⟨rfl, rfl, rfl⟩ ?_
  rintro k xs H'' n' ⟨rfl, rfl, rfl⟩
  have g3 : nx + 1 ≠ n1 := by omega
  simp [zeg, y1, hz, zag, z2, g3]
  generalize hZ : Heap.put _ (nx + 1) _ = Z
  have zk : ∀ g, g ≠ n1 → g ≠ nx + 1 → Z g = H0 g := fun g h1 h2 => by rw [← hZ, Heap.put_ne _ _ h2, Heap.put_ne _ _ h1]
  refine ⟨h2.2.1, ?_, fun g hg => ?_⟩
  · have hp : VM.pack a = ⟨a.id, a.trip, a.prog, [], VM.canonC a.heap [], a.permit⟩ := by unfold VM.pack VM.roots; rw [hfr]; rfl
    rw [hp]
    refine zmg ?_ (.same _ (zgp (zcy _)))
    have rw0 := ow.row
    have nd := ow.nd
    have frs := ow.frs
    have bd := ow.bd
    rw [hfr] at rw0 frs
    rcases rw0 with ⟨_, rfl | rfl⟩ | ⟨gf, cs, rfl, c1, c2, c3⟩
    · exact .nils
    · exact .zs
    · have hg := bd gf (by simp [own])
      have e0 : own (AV.slc gf 0 0) = [gf] := rfl
      simp only [List.length_nil] at nd
      rw [e0, List.singleton_append, List.nodup_cons] at nd
      have hn := nd.1
      simp only [List.mem_append, not_or] at hn
      have hs0 : ss = [] := List.eq_nil_of_length_eq_zero frs.1
      subst hs0
      refine Frz.slc gf 0 0 4 cs [] (by omega) ?_ (by simp) rfl (by simp) (fun _ _ => .nils) (by simp) (by simp)
      rw [zk gf (by omega) (by omega), up gf hn.1, xk gf hg.2]; exact c1
  · rw [Heap.put_ne _ _ (by omega), lowk g (by omega)]
    exact q4 g hg
theorem zyn {a : Agt} {fs : List Frm} {f : Frm} (l : VM.Live a fs f) {x : Agt} (fx : Fits a.prog x) (gx : VM.GoodA x) (sx : VM.SmallA x) : QC Tryd.prog 25 [.agg x.avs] (.agg (VM.pack x).avs) := by
  obtain ⟨h1, h2, h3, h4⟩ := fx
  have sz : zup x := by
    obtain ⟨q1, q2, q3⟩ := Live.codes l
    exact ⟨by rw [h1]; omega, fun c hc => by rw [h1] at hc; have := (q3 c hc).1; omega, by rw [h1]; omega, by omega, by omega, fun g hg => by have := h4 g hg; omega⟩
  have gr := gx.right
  rcases List.eq_nil_or_concat x.frames with h | ⟨gs, g, h⟩
  · rw [h] at gr
    exact zahq sz h gr
  · exact zabb sz (h.trans (List.concat_eq_append)) h2 sx.roots gr
theorem zaff {p : Prg} {x : Agt} (fx : Fits p x) (gx : VM.GoodA x) : Fits p (VM.pack x) := by
  obtain ⟨h1, h2, h3, h4⟩ := fx
  obtain ⟨_, c1, _⟩ := VM.canon_law gx.right
  refine ⟨h1, by simp [VM.pack]; omega, ?_, fun g hg => ?_⟩
  · show (VM.canonC x.heap (ze x.frames)).length ≤ 4096
    omega
  · simp [VM.pack] at hg
    obtain ⟨g', hg', rfl⟩ := hg
    have := h4 g' hg'
    simp
    omega
theorem zakt {A : Nat → Prop} {a b : AV} (h1 : Bel A a) (h2 : Bel A b) : Bel A (.tup [a, b]) := by
  refine .tup _ fun j v hv => ?_
  match j, hv with
  | 0, hv => cases hv; exact h1
  | 1, hv => cases hv; exact h2
  | j + 2, hv => simp at hv
set_option maxRecDepth 20000 in
set_option maxHeartbeats 2000000 in
theorem zzv (a : Agt) (s : Spt) (n : Int) (ha : a.prog.ok) (hhl : a.heap.length ≤ 4611686018427387904) (hname : s.name.length ≤ maxLen) (hf : s.facts.length ≤ 4611686018427387903) : QC Tryd.prog 7 [.agg a.avs, .agg s.avs, .int .i64 n] (.bool true) := by
  refine QC.of' fun H nx => ?_
  suffices main : ∀ Q : AV → Heap → Nat → Prop, (∀ H' n', Keep nx H' H → Q (.bool true) H' n') → za Tryd.prog 7 [.agg a.avs, .agg s.avs, .int .i64 n] H nx Q from main _ fun H' n' h => ⟨zol, h⟩
  intro Q hQ
  refine zmy _ _ _ H nx _ ?_
  obtain ⟨ad, at9, al⟩ := zrg a
  have sl : s.avs.length = 4 := rfl
  have st4 : s.avs.take 4 = s.avs := rfl
  have hsu : (AV.agg a.avs).sure = true := by simp [Agt.avs]
  have hss : (AV.agg s.avs).sure = true := by simp [Spt.avs]
  unfold zhp
  refine ⟨hsu, hss, ?_⟩
  generalize hX : Heap.put _ (nx + 1) _ = X
  have x0 : X nx = some (.row 9 a.avs) := by rw [← hX, Heap.put_ne _ _ (by omega), Heap.put_at]; rfl
  have x1 : X (nx + 1) = some (.row 4 s.avs) := by rw [← hX, Heap.put_at]; rfl
  have xk : Keep nx X H := fun g hg => by rw [← hX, Heap.put_ne _ _ (by omega), Heap.put_ne _ _ (by omega)]
  clear hX
  refine QC.call zagl ?_
  simp [zhq, x0, x1, al, at9, sl, st4]
  refine QC.call (zaeu a s ha hhl hf) ?_
  by_cases hr : zej a s = true
  case neg =>
    have hr' : zej a s = false := by simpa using hr
    simp [zbm, hr']
    exact hQ _ _ xk
  have hr0 := hr
  unfold zej at hr0
  simp only [Bool.and_eq_true, List.all_eq_true, decide_eq_true_eq] at hr0
  obtain ⟨r1, r2, r3⟩ := hr0
  obtain ⟨fs, f, l⟩ := VM.agent_live r3
  have hw : ∀ x ∈ s.facts, VM.WrongOk x.val (0 : Int) := fun x hx => VM.wrong_ok (r1 x hx)
  by_cases hn0 : n < 0
  · simp [zbm, hr, hn0]
    exact hQ _ _ xk
  by_cases hn1 : 500 < n
  · simp [zbm, hr, hn0, hn1]
    exact hQ _ _ xk
  simp [zbm, hr, hn0, hn1, x0, x1, al, at9, sl, st4]
  refine QC.call (zaeq l hname hf hw (by omega)) ?_
  obtain ⟨gs, g, lp, ev, pk, ga, gb⟩ := VM.packed_law l hw n.toNat
  have sa := VM.run_small hw n.toNat l
  have sb0 := VM.run_small hw n.toNat lp
  have fb := zth s hw n.toNat l
  have fd : Fits a.prog (VM.run s n.toNat (VM.pack a)).1 := zth s hw n.toNat lp
  have rq := zaeq (most := n) lp hname hf hw (by omega)
  generalize hb : (VM.run s n.toNat a) = b at ev pk ga sa fb ⊢
  generalize hd : (VM.run s n.toNat (VM.pack a)) = d at ev pk gb sb0 fd rq ⊢
  obtain ⟨bd, bt, bl⟩ := zrg b.1
  obtain ⟨dd, dt, dl⟩ := zrg d.1
  have ob := zabc b.1
  have od := zabc d.1
  have sb : ((AV.agg b.1.avs).sure = true) := by simp [Agt.avs]
  have sd : ((AV.agg d.1.avs).sure = true) := by simp [Agt.avs]
  have lr := zadd l
  have lo := zadc l
  have fl : a.frames.length ≤ 12 := by rw [l.fr]; simp; have := l.flen; omega
  have ne_0 : nx ≠ nx + 1 ∧ nx + 1 ≠ nx ∧ nx ≠ nx + 2 ∧ nx + 2 ≠ nx ∧ nx ≠ nx + 3 ∧ nx + 3 ≠ nx ∧ nx ≠ nx + 2 + 1 ∧ nx + 2 + 1 ≠ nx ∧ nx + 1 ≠ nx + 2 ∧ nx + 2 ≠ nx + 1 ∧ nx + 1 ≠ nx + 3 ∧ nx + 3 ≠ nx + 1 ∧ nx + 1 ≠ nx + 2 + 1 ∧ nx + 2 + 1 ≠ nx + 1 := ⟨by omega, by omega, by omega, by omega, by omega, by omega, by omega, by omega, by omega, by omega, by omega, by omega, by omega, by omega⟩
  simp [zhr, x0, al, at9, bl, sb, eavs, ne_0]
  refine ⟨ob, ?_⟩
  generalize hY : Heap.put _ (nx + 2 + 1) _ = Y
  have y1 : Y (nx + 1) = some (.row 4 s.avs) := by
    rw [← hY, Heap.put_ne _ _ (by omega), Heap.put_ne _ _ (by omega), Heap.put_ne _ _ (by omega), Heap.put_ne _ _ (by omega)]; exact x1
  have y2 : Y (nx + 2) = some (.row 9 b.1.avs) := by
    rw [← hY, Heap.put_ne _ _ (by omega), Heap.put_at]
  have y3 : Y (nx + 2 + 1) = some (.row 3 [.int .i64 b.2.kind, .str b.2.text, .int .i64 b.2.err]) := by
    rw [← hY, Heap.put_at]
  have yk : Keep nx Y H := fun g hg => by
    rw [← hY, Heap.put_ne _ _ (by omega), Heap.put_ne _ _ (by omega), Heap.put_ne _ _ (by omega), Heap.put_ne _ _ (by omega)]; exact xk g hg
  clear hY
  refine zo.of_qc (zabb (Live.sized l) l.fr (by omega) lo lr) (zrr _) ?_
  simp [zhs, y1, sl, st4]
  refine zo.of_qc rq (zakt (zrr _) (zzq _)) ?_
  simp [zht, y2, y3, bl, dl, bt, sd, eavs, zakp, ev]
  refine ⟨od, by omega, ?_⟩
  refine zo.of_qc (zyn l fb ga sa) (zrr _) ?_
  simp [zhu, dl, dt]
  refine zo.of_qc (zyn l fd gb sb0) (zrr _) ?_
  rw [pk]
  simp [zhv]
  refine zo.of_qc (zaep l (zaff fb ga)) (.bool _) ?_
  simp [zhw]
  refine hQ _ _ fun g hg => ?_
  rw [Heap.put_ne _ _ (by omega), Heap.put_ne _ _ (by omega), Heap.put_ne _ _ (by omega), Heap.put_ne _ _ (by omega)]
  exact yk g hg
end Go.Proofs.YtobioljjoipimaaDoor
namespace Go.Proofs.YtobioljjoipimaaDoor
open Go Go.RowKit
theorem LayE.of_var {n : String} {w : World} {t : TypeId} {p : Value} (h : w.var? Tryd.prog n = some #[.iface t p]) : LayE n (fun b => w.heap[b]?) := fun g hg => by
  unfold World.var? at h
  rw [hg, Option.bind_some] at h
  split at h
  · rename_i cs e m hc
    cases h
    exact ⟨_, _, e, m, hc⟩
  · cases h
theorem zzb : "*" ++ "errors.errorString" = "*errors.errorString" := by decide
theorem zabj (u : TypeId) (h : Tryd.prog.typeName? 3 u = some "*errors.errorString") : u = 216 :=
  typeName_ptr_named (nm := "errors.errorString") (by rw [zzb]; kernel_rfl) (by kernel_rfl) (by decide) u (by rw [zzb]; exact h)
theorem zadf {r : List (String × DataW Unit)} {text : List UInt8} {W : World} (h : laidMet Tryd.prog (("strconv.ErrRange", .iface "*errors.errorString" (.ptr (.agg [.lit (.string text)]))) :: r) W) : LayE "strconv.ErrRange" (fun b => W.heap[b]?) := by
  obtain ⟨a, s, h1, _⟩ := laid_sentinel (g := 2) (ti := 180) (tp := 216) (te := 218) (ts := 9) h (by kernel_rfl) (by kernel_rfl) Tryd.underlying180 zabj Tryd.underlying216 Tryd.underlying218 rfl rfl Tryd.underlying9 (by kernel_rfl) (by kernel_rfl)
  exact .of_var h1
theorem zaai {r : List (String × DataW Unit)} {text : List UInt8} {W : World} (h : laidMet Tryd.prog (("strconv.ErrSyntax", .iface "*errors.errorString" (.ptr (.agg [.lit (.string text)]))) :: r) W) : LayE "strconv.ErrSyntax" (fun b => W.heap[b]?) := by
  obtain ⟨a, s, h1, _⟩ := laid_sentinel (g := 1) (ti := 180) (tp := 216) (te := 218) (ts := 9) h (by kernel_rfl) (by kernel_rfl) Tryd.underlying180 zabj Tryd.underlying216 Tryd.underlying218 rfl rfl Tryd.underlying9 (by kernel_rfl) (by kernel_rfl)
  exact .of_var h1
end Go.Proofs.YtobioljjoipimaaDoor
