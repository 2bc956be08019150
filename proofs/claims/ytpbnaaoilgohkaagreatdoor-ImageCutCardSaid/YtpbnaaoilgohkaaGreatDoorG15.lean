/- What a run comes to is so: the text. What a run comes to is so: where the order is drawn. What a run comes to is so: a function. DERIVED: THE SHELF's CONTRACTS AT THIS DUMP, IN PLAIN WORDS (tools/lay-plain.mjs out of 'YtpbnaaoilgohkaaGreatDoorShelf0.lean', which tools/lay-shelf.mjs wrote): THE SAME DECLARATIONS UNDER THE SAME NAMES: 'import', 'namespace', 'open', 'def', 'theorem' AND NOTHING ELSE: no command of the shelf's: FOR A HAND-IN. Each laying: the table of numbers ('.._ren') and one theorem, a field a fact of the dump's own or the kernel's comparison; each contract: ONE APPLICATION. strconv.Itoa: a number's digits. strconv.Atoi: a word's number, and whether it is one. What is known of functions of Go's library, and of slices.Clone of what is empty, for runs. The closed question of the laws of chapter 8: run. The laws of chapter 8: there, and back. The laws of chapter 8: a part is nothing. The library's laid variables, where a row lists five of them: three tables, two errors. -/
import Derived.Test.YtpbnaaoilgohkaaGreatDoorG14
import Derived.LoopN
import Derived.Test.YtpbnaaoilgohkaaGreatDoorG6
import Derived.Shelf.Strconv.Atoi
import Derived.Shelf.Strconv.Itoa0
import Derived.Shelf.Strconv.Itoa1
import Derived.Shelf.LaysM
import Derived.Shelf.Strconv.Itoa2
import Derived.Shelf.Strconv.Itoa3
import Derived.Shelf.Strconv.AtoiErrFast
import Derived.Shelf.Strconv.ParseIntEmpty
import Derived.Shelf.Strconv.AtoiFail
import Derived.Shelf.Strconv.Clone
import Derived.Shelf.Strconv.SyntaxError
import Derived.Shelf.LaysC
import Derived.Shelf.Strconv.ToError
import Derived.Shelf.Strconv.Lower
import Derived.Shelf.Strconv.ParseUint10
import Derived.Shelf.Strconv.ParseUint10Empty
import Derived.Shelf.Strconv.ParseUint10Any
import Derived.Shelf.Strconv.ParseInt10
import Derived.Shelf.Strconv.AtoiLong
import Derived.Shelf.Strconv.AtoiInnerAll
import Derived.Shelf.Strconv.RangeError
import Derived.Shelf.Strconv.ToErrorRange
import Derived.Shelf.Strconv.AtoiAll
import Derived.Shelf.Strconv.ErrVarAll
import Derived.Ground.Names2Prog
import Derived.Test.YtpbnaaoilgohkaaGreatDoorProg
import Derived.Test.YtpbnaaoilgohkaaGreatDoorG5
import Derived.Lib.ItoaLen
import Derived.Test.YtpbnaaoilgohkaaGreatDoorG13
import Derived.Test.YtpbnaaoilgohkaaGreatDoorG1
import Derived.Stop.LaidErr
set_option linter.unusedSimpArgs false
set_option linter.unusedVariables false
set_option maxRecDepth 8000
namespace Go.Proofs.YtpbnaaoilgohkaaGreatDoor
open Go Go.RowKit
section
variable {P : Program} {T : Nat → Option AT} {eqs : Nat → Bool} (hT : TOk P T) (hE : EOk P T eqs)
variable {A0 : Nat → Prop} {ρ0 : Nat → Loc} {Hi : Heap} {w0 : World} {X : HB} {n0 nE N : Nat}
abbrev AX (A0 : Nat → Prop) (n0 nx : Nat) : Nat → Prop := fun g => A0 g ∨ n0 ≤ g ∧ g < nx
structure SX (A0 : Nat → Prop) (ρ0 : Nat → Loc) (Hi : Heap) (w0 : World) (X : HB) (n0 nE N : Nat) (E : EB) (H : HB) (nx : Nat) (a : Act) (w : World) : Prop where
  ex : ∃ ρ, Sim (AX A0 n0 nx) ρ (mix Hi X n0 nE H) w ∧ (∀ t, VRel (Kof ρ (mix Hi X n0 nE H) w) ρ (AX A0 n0 nx) (toE E t) (a.tmps.getD t undef)) ∧ Fr A0 ρ0 Hi w0 (AX A0 n0 nx) ρ (mix Hi X n0 nE H) w
  size : a.tmps.size = N
  defers : a.defers = []
  le : n0 ≤ nx
  dom : ∀ g, isH H g = true → Tk X n0 nx g
structure FX (A0 : Nat → Prop) (n0 nE : Nat) : Prop where
  free : ∀ g, n0 ≤ g → g < nE → ¬ A0 g
  bdd : Bdd A0
theorem Tk.mono {g m n : Nat} (h : Tk X n0 m g) (hm : m ≤ n) : Tk X n0 n g := h.imp id fun ⟨a, b⟩ => ⟨a, by omega⟩
theorem zaol {H H' : HB} {nx nx' : Nat} (h0 : n0 ≤ nx) (h1 : nx' ≤ nE) (hle : nx ≤ nx') (hd : ∀ g, isH H g = true → Tk X n0 nx g) (hd' : ∀ g, isH H' g = true → isH H g = true ∨ nx ≤ g ∧ g < nx') :
    mix (mix Hi X n0 nE H) H nx nx' H' = mix Hi X n0 nE H' := by
  funext g
  by_cases ht : Tk H nx nx' g
  · rw [zde ht, zde]
    rcases ht with h | h
    · exact (hd g h).mono (by omega)
    · exact .inr ⟨by omega, by omega⟩
  · rw [zfi ht]
    by_cases hk : Tk X n0 nE g
    · rw [zde hk, zde hk]
      rw [zjr fun h => ht (.inl h), zjr fun h => ht (hd' g h)]
    · rw [zfi hk, zfi hk]
theorem zanp {nx nx' : Nat} (h0 : n0 ≤ nx) (hle : nx ≤ nx') : (fun g => AX A0 n0 nx g ∨ nx ≤ g ∧ g < nx') = AX A0 n0 nx' := by
  funext g
  simp only [AX, eq_iff_iff]
  constructor
  · rintro ((h | h) | h)
    · exact .inl h
    · exact .inr ⟨h.1, by omega⟩
    · exact .inr ⟨by omega, h.2⟩
  · rintro (h | h)
    · exact .inl (.inl h)
    · rcases Nat.lt_or_ge g nx with h' | h'
      · exact .inl (.inr ⟨h.1, h'⟩)
      · exact .inr ⟨h', h.2⟩
theorem FX.bddX (fx : FX A0 n0 nE) {nx : Nat} : Bdd (AX A0 n0 nx) := by
  obtain ⟨M, hM⟩ := fx.bdd
  exact ⟨max M nx, fun g hg => by rcases hg with h | h
                                  · have := hM g h; omega
                                  · omega⟩
theorem zaee {K : zh} {ρ : Nat → Loc} {A : Nat → Prop} {e : Env} {a : Act} (h : ∀ t, VRel K ρ A (e t) (a.tmps.getD t undef)) (x : Operand) : VRel K ρ A (e.ev x) (a.eval x) := by
  cases x with
  | tmp t => exact h t
  | const v => exact zrd _ _ _ v
  | global g => exact .junk _
  | func f => exact .clo f [] #[] rfl fun j v c hv => by simp at hv
theorem SX.next (fx : FX A0 n0 nE) {E : EB} {H : HB} {nx : Nat} {a : Act} {w : World} (st : SX A0 ρ0 Hi w0 X n0 nE N E H nx a w) {v : AV} {H' : HB} {nx' : Nat} {pre : zh → (Nat → Loc) → (Nat → Prop) → Prop} {run : World → Result Next}
    (d : Does P H nx v H' nx' pre run) (hn : nx' ≤ nE) (hp : ∀ K ρ A, (∀ t, VRel K ρ A (toE E t) (a.tmps.getD t undef)) → pre K ρ A) {dd : Option Nat} (hd : ∀ t, dd = some t → t < N) :
    zu P (fun cv w' => SX A0 ρ0 Hi w0 X n0 nE N (zun E dd v) H' nx' (a.put dd cv) w') (run w) := by
  obtain ⟨ρ, s, hv, f⟩ := st.ex
  have hle := d.le
  refine zj (d.run _ ρ _ w fx.bddX s (hp _ _ _ hv) (fun g hg => zde ((st.dom g hg).mono (by omega))) fun g h1 h2 h3 => ?_) fun cv w' ⟨ρ', q1, q2, q3⟩ => ?_
  · rcases h3 with h | h
    · exact fx.free g (by have := st.le; omega) (by omega) h
    · omega
  · rw [zaol st.le hn hle st.dom d.dom, zanp st.le hle] at q1 q2 q3
    refine ⟨⟨ρ', q1, fun t => ?_, f.trans q3⟩, ?_, ?_, by have := st.le; omega, fun g hg => ?_⟩
    · rw [zfg, zef, zos a dd t cv (by rw [st.size]; exact hd)]
      split
      · exact q2
      · exact (hv t).fr q3
    · cases dd <;> simp [Act.put, st.size]
    · cases dd <;> simp [Act.put, st.defers]
    · rcases d.dom g hg with h | h
      · exact (st.dom g h).mono hle
      · exact .inr ⟨by have := st.le; omega, h.2⟩
theorem SX.skip {E : EB} {H : HB} {nx : Nat} {a : Act} {w : World} (st : SX A0 ρ0 Hi w0 X n0 nE N E H nx a w) {dd : Option Nat} (hd : ∀ t, dd = some t → t < N) : SX A0 ρ0 Hi w0 X n0 nE N (zun E dd .und) H nx (a.put dd undef) w := by
  obtain ⟨ρ, s, hv, f⟩ := st.ex
  refine ⟨⟨ρ, s, fun t => ?_, f⟩, ?_, ?_, st.le, st.dom⟩
  · rw [zfg, zef, zos a dd t undef (by rw [st.size]; exact hd)]
    split
    · exact .und
    · exact hv t
  · cases dd <;> simp [Act.put, st.size]
  · cases dd <;> simp [Act.put, st.defers]
def zbj (H : HB) (nx : Nat) (H' : HB) (nx' : Nat) : Prop := nx ≤ nx' ∧ ∀ g, isH H' g = true → isH H g = true ∨ nx ≤ g ∧ g < nx'
theorem zbj.refl (H : HB) (nx : Nat) : zbj H nx H nx := ⟨Nat.le_refl _, fun _ h => .inl h⟩
theorem zbj.trans {H H' H'' : HB} {nx nx' nx'' : Nat} (h : zbj H nx H' nx') (k : zbj H' nx' H'' nx'') : zbj H nx H'' nx'' :=
  ⟨Nat.le_trans h.1 k.1, fun g hg => by
    have h1 := h.1
    have k1 := k.1
    rcases k.2 g hg with e | e
    · rcases h.2 g e with e | e
      · exact .inl e
      · exact .inr ⟨e.1, by omega⟩
    · exact .inr ⟨by omega, e.2⟩⟩
include hT hE in
theorem zxo {β : Type} {call : XCl} (hcall : zhi P call) (fx : FX A0 n0 nE) {all : Array Oper} : ∀ (rest : List Oper) (kn : zbe) (E : EB) (H : HB) (nx : Nat) (c : EB → HB → Nat → Option β) (r : β), xops T eqs call all.toList rest kn E H nx c = some r → zkm N rest = true → (∀ t, (∃ o ∈ all.toList, o.dst = some t) → t < N) → KnOk kn (toE E) →
    ∃ E' H' nx', c E' H' nx' = some r ∧ zbj H nx H' nx' ∧ (nx' ≤ nE → ∀ a w, SX A0 ρ0 Hi w0 X n0 nE N E H nx a w → wpList P all (fun e a w => e = .normal ∧ SX A0 ρ0 Hi w0 X n0 nE N E' H' nx' a w) rest a w)
  | [], kn, E, H, nx, c, r, h, _, _, _ => ⟨E, H, nx, h, zbj.refl H nx, fun _ a w st => wpList_nil ⟨rfl, st⟩⟩
  | o :: rest, kn, E, H, nx, c, r, h, hd, hall, hkn => by
    simp only [zkm, Bool.and_eq_true] at hd
    have hdo : ∀ t, o.dst = some t → t < N := fun t ht => by have := hd.1; rw [ht] at this; simpa using this
    have run : ∀ kn1, KnOk kn1 (toE E) → zuk T eqs call o E H nx (fun v H nx => putE E o.dst v fun E => xops T eqs call all.toList rest (zcr o.dst kn1) E H nx c) = some r → (∀ (ρ : Nat → Loc) (Hm : Heap) (w : World) (A : Nat → Prop) (a : Act), a.tmps.size = N → (∀ t, VRel (Kof ρ Hm w) ρ A (toE E t) (a.tmps.getD t undef)) → Region.wanted o (yielded all a.tmps) = true) →
        ∃ E' H' nx', c E' H' nx' = some r ∧ zbj H nx H' nx' ∧ (nx' ≤ nE → ∀ a w, SX A0 ρ0 Hi w0 X n0 nE N E H nx a w → wpList P all (fun e a w => e = .normal ∧ SX A0 ρ0 Hi w0 X n0 nE N E' H' nx' a w) (o :: rest) a w) := by
      intro kn1 hk1 hs hw
      obtain ⟨v, H1, nx1, h1, hd1⟩ := zakb hT hE hcall hs
      rw [zum] at h1
      obtain ⟨E', H', nx', h2, h3, h4⟩ := zxo hcall fx rest _ _ _ _ c r h1 hd.2 hall (by rw [zfg]; exact hk1.drop o.dst v)
      have hd0 := hd1 fun _ => undef
      refine ⟨E', H', nx', h2, zbj.trans ⟨hd0.le, hd0.dom⟩ h3, fun hn a w st => ?_⟩
      refine wpList_step fun K hK => ?_
      obtain ⟨ρ, s, hv, f⟩ := st.ex
      rw [if_pos (hw ρ _ w _ a st.size hv)]
      exact zlr (st.next fx (hd1 a.eval) (by have := h3.1; omega) (fun K ρ A hv x _ => zaee hv x) hdo) fun cv w' q => hK _ _ (h4 hn _ _ q)
    have skip : ∀ kn1, KnOk kn1 (toE E) → putE E o.dst .und (fun E => xops T eqs call all.toList rest (zcz o.dst kn1) E H nx c) = some r → (∀ (ρ : Nat → Loc) (Hm : Heap) (w : World) (A : Nat → Prop) (a : Act), a.tmps.size = N → (∀ t, VRel (Kof ρ Hm w) ρ A (toE E t) (a.tmps.getD t undef)) → Region.wanted o (yielded all a.tmps) = false) →
        ∃ E' H' nx', c E' H' nx' = some r ∧ zbj H nx H' nx' ∧ (nx' ≤ nE → ∀ a w, SX A0 ρ0 Hi w0 X n0 nE N E H nx a w → wpList P all (fun e a w => e = .normal ∧ SX A0 ρ0 Hi w0 X n0 nE N E' H' nx' a w) (o :: rest) a w) := by
      intro kn1 hk1 hs hw
      rw [zum] at hs
      obtain ⟨E', H', nx', h2, h3, h4⟩ := zxo hcall fx rest _ _ _ _ c r hs hd.2 hall (by rw [zfg]; exact hk1.skip o.dst)
      refine ⟨E', H', nx', h2, h3, fun hn a w st => ?_⟩
      refine wpList_step fun K hK => ?_
      obtain ⟨ρ, s, hv, f⟩ := st.ex
      rw [if_neg (by rw [hw ρ _ w _ a st.size hv]; simp)]
      exact hK _ _ (h4 hn _ _ (st.skip hdo))
    simp only [xops] at h
    split at h
    · rename_i hg
      exact run kn hkn h fun _ _ _ _ a _ _ => by simp [Region.wanted, hg]
    · rename_i j want hg
      split at h
      · cases h
      · rename_i t ht
        have htN : t < N := by
          obtain ⟨o', ho', hdst⟩ := Option.bind_eq_some_iff.1 ht
          exact hall t ⟨o', List.mem_of_getElem? ho', hdst⟩
        have hwant : ∀ (a : Act), a.tmps.size = N → Region.wanted o (yielded all a.tmps) = (match a.tmps.getD t undef with | .bool b => b == want | _ => false) := by
          intro a hsz
          have hy := zqv ht a
          have hget : a.tmps[t]? = some (a.tmps.getD t undef) := by simp [Array.getD, hsz, htN]
          rw [hget] at hy
          have : Region.wanted o (yielded all a.tmps) = (yielded all a.tmps j == some want) := by simp [Region.wanted, hg]
          rw [this, hy]
          cases a.tmps.getD t undef <;> rfl
        have hbool : ∀ b, toE E t = .bool b → ∀ (ρ : Nat → Loc) (Hm : Heap) (w : World) (A : Nat → Prop) (a : Act), a.tmps.size = N → (∀ t, VRel (Kof ρ Hm w) ρ A (toE E t) (a.tmps.getD t undef)) → Region.wanted o (yielded all a.tmps) = (b == want) := by
          intro b hb ρ Hm w A a hsz hv
          have := hv t
          rw [hb] at this
          rw [hwant a hsz]
          generalize a.tmps.getD t undef = tv at this
          cases this
          rfl
        split at h
        · rename_i hk
          have hu := hkn t none (zdf hk)
          simp only at hu
          refine skip kn hkn h fun ρ Hm w A a hsz hv => ?_
          have := hv t
          rw [hu] at this
          rw [hwant a hsz]
          generalize a.tmps.getD t undef = tv at this
          cases this
          rfl
        · rename_i b hk
          have hb := hkn t (some b) (zdf hk)
          simp only at hb
          split at h
          · rename_i hbw
            exact run kn hkn h fun ρ Hm w A a hsz hv => by rw [hbool b hb ρ Hm w A a hsz hv, hbw]
          · rename_i hbw
            exact skip kn hkn h fun ρ Hm w A a hsz hv => by rw [hbool b hb ρ Hm w A a hsz hv, hbw]
        · split at h
          · rename_i b hb
            have hk2 : KnOk ((t, some b) :: kn) (toE E) := by
              have := hkn.know hb
              rwa [zmq hb] at this
            split at h
            · rename_i hbw
              exact run _ hk2 h fun ρ Hm w A a hsz hv => by rw [hbool b hb ρ Hm w A a hsz hv, hbw]
            · rename_i hbw
              exact skip _ hk2 h fun ρ Hm w A a hsz hv => by rw [hbool b hb ρ Hm w A a hsz hv, hbw]
          · cases h
end
end Go.Proofs.YtpbnaaoilgohkaaGreatDoor
set_option maxRecDepth 8000
namespace Go.Proofs.YtpbnaaoilgohkaaGreatDoor
open Go Go.RowKit
def zml (r : Rec) : Rec := { r with env := fun _ => .junk, H := fun _ => none }
section
variable {P : Program} {T : Nat → Option AT} {eqs : Nat → Bool} (hT : TOk P T) (hE : EOk P T eqs)
variable {A0 : Nat → Prop} {ρ0 : Nat → Loc} {Hi : Heap} {w0 : World} {X : HB} {n0 nE N : Nat}
theorem EffB.at {o : Oper} {e : Operand → AV} {H H1 : Heap} {rd fr : List Nat} {D : zg} {v : AV} (h : EffB P o e H rd fr D v) (hr : ∀ g ∈ rd, H1 g = H g) : EffB P o e H1 rd fr D v :=
  fun A ρ Hm w ev hB s hx hrd hf => h A ρ Hm w ev hB s hx (fun g hg => (hrd g hg).trans (hr g hg)) hf
theorem zow.at {o : Oper} {e : Operand → AV} {H H1 : Heap} {rd fr : List Nat} {D : zg} {v : AV} {pt : Option AV} (h : zow P o e H rd fr D v pt) (hr : ∀ g ∈ rd, H1 g = H g) : zow P o e H1 rd fr D v pt := by
  intro g q e
  obtain ⟨h1, h2, h3, h4, h5⟩ := h g q e
  exact ⟨h1, h2, h3, by rw [hr g (by rw [h1]; simp)]; exact h4, h5⟩
include hT hE in
theorem zanf {o : Oper} {env : Env} {H : Heap} {nx : Nat} {v : AV} {rd fr : List Nat} {D : zg} (h : xaop T eqs env.ev H nx o = some (v, rd, fr, D)) :
    (fr = [] ∨ fr = [nx]) ∧ EffB P o env.ev H rd fr D v ∧ (noW o = true → fr = [] ∧ D = []) ∧ zow P o env.ev H rd fr D v (ptOf T env.ev o) := by
  obtain ⟨v', rd', fr', D', h1, h2, h3, h4⟩ := zsa hT hE (zaea T eqs _ _ _ _ h (fun v' rd' fr' D' => v' = v ∧ rd' = rd ∧ fr' = fr ∧ D' = D) ⟨rfl, rfl, rfl, rfl⟩)
  obtain ⟨rfl, rfl, rfl, rfl⟩ := h3
  refine ⟨h1, fun A ρ H w ev _ s hx hr hf => h2 A ρ H w ev s hx hr hf, h4, fun g q hp => ?_⟩
  unfold ptOf at hp
  split at hp
  · rename_i t x hop
    split at hp
    · rename_i a hta
      split at hp
      · rename_i hag
        have hp := Option.some.inj hp
        obtain ⟨i, d, z, hat⟩ := hT.at hta
        have any : ∀ {H1 : Heap} {s : Nat} {cs : List AV} {v : AV}, H1 g = some (.row s cs) → cs[q]? = some v → EffB P o env.ev H1 [g] [] [] v := by
          intro H1 s cs v hg hv
          obtain ⟨v', rd', he, rfl, rfl⟩ := zvz (H0 := H1) (e := env.ev) (k := fun v' rd' _ _ => v' = v ∧ rd' = [g]) hat hop (by
            simp only [hp, LOAD, rdp, hg, ldv, hag, cond_false, hv, and_self])
          exact fun A ρ H w ev _ s hx hr hf => he A ρ H w ev s hx hr hf
        simp only [xaop, hop, hta, zul, hp] at h
        cases hg : H g with
        | none => simp only [rdp, hg] at h; cases h
        | some ob =>
          cases ob with
          | mp es => simp only [rdp, hg] at h; cases h
          | it a b c => simp only [rdp, hg] at h; cases h
          | row s cs =>
            simp only [rdp, hg, ldv, hag, cond_false] at h
            cases hv : cs[q]? with
            | none => simp only [hv] at h; cases h
            | some u =>
              simp only [hv] at h
              cases h
              exact ⟨rfl, rfl, rfl, ⟨s, cs, by first | rfl | exact hg, hv⟩, fun H1 ⟨s', cs', h1, h2⟩ => any h1 h2⟩
      · cases hp
    · cases hp
  · cases hp
theorem zlt {H : HB} : ∀ {rs : List Nat} {g : Nat}, isH (zcg H rs) g = true → g ∈ rs ∧ toH (zcg H rs) g = toH H g
  | [], g, h => by simp [zcg, isH, Tr.get_nil] at h
  | x :: r, g, h => by
    unfold zcg at h ⊢
    cases hx : H.get x with
    | none =>
      rw [hx] at h
      obtain ⟨h1, h2⟩ := zlt h
      exact ⟨List.mem_cons_of_mem _ h1, h2⟩
    | some o =>
      simp only [hx] at h ⊢
      obtain ⟨ob, h'⟩ := zmj.1 h
      rw [zxy] at h' ⊢
      by_cases hg : g = x
      · subst hg
        exact ⟨by simp, by rw [Heap.put_at]; exact hx.symm⟩
      · rw [Heap.put_ne _ _ hg] at h' ⊢
        obtain ⟨h1, h2⟩ := zlt (zmj.2 ⟨ob, h'⟩)
        exact ⟨List.mem_cons_of_mem _ h1, h2⟩
theorem zzh {H H' : HB} : ∀ {rs : List Nat}, (∀ p ∈ zfp H H' rs, p.2 = toH H' p.1) ∧ (∀ g ∈ domD (zfp H H' rs), isH H g = true ∨ isH H' g = true) ∧ ∀ g ∈ rs, g ∉ domD (zfp H H' rs) → toH H g = toH H' g
  | [] => ⟨fun p hp => (by cases hp), fun g hg => (by simp [zfp, domD] at hg), fun g hg => (by cases hg)⟩
  | x :: r => by
    obtain ⟨h1, h2, h3⟩ := zzh (H := H) (H' := H') (rs := r)
    unfold zfp
    simp only
    cases he : obEq (H.get x) (H'.get x) with
    | true =>
      refine ⟨h1, h2, fun g hg hn => ?_⟩
      rcases List.mem_cons.1 hg with rfl | hg
      · exact zaok he
      · exact h3 g hg hn
    | false =>
      refine ⟨fun p hp => ?_, fun g hg => ?_, fun g hg hn => ?_⟩
      · rcases List.mem_cons.1 hp with rfl | hp
        · rfl
        · exact h1 p hp
      · simp only [domD, List.map_cons, List.mem_cons] at hg
        rcases hg with rfl | hg
        · by_cases ha : isH H g = true
          · exact .inl ha
          · by_cases hb : isH H' g = true
            · exact .inr hb
            · have e1 : H.get g = none := zjr ha
              have e2 : H'.get g = none := zjr hb
              rw [e1, e2] at he
              cases he
        · exact h2 g hg
      · simp only [domD, List.map_cons, List.mem_cons, not_or] at hn
        rcases List.mem_cons.1 hg with rfl | hg
        · exact absurd rfl hn.1
        · exact h3 g hg hn.2
theorem zrq : ∀ {n nx g : Nat}, g ∈ zds nx n ↔ nx ≤ g ∧ g < nx + n
  | 0, nx, g => by simp [zds]
  | n + 1, nx, g => by
    simp only [zds, List.mem_cons, zrq]
    omega
theorem zxd : ∀ (n nx : Nat), (zds nx n).length = n
  | 0, _ => rfl
  | n + 1, nx => by simp [zds, zxd n]
theorem zahi {D : zg} {f : Heap} (h : ∀ p ∈ D, p.2 = f p.1) : ∀ {H : Heap} {g : Nat}, g ∈ domD D → H.apply D g = f g := by
  induction D with
  | nil => intro H g hg; cases hg
  | cons p r ih =>
    intro H g hg
    obtain ⟨x, o⟩ := p
    simp only [domD, List.map_cons, List.mem_cons] at hg
    show ((H.put x o).apply r) g = f g
    by_cases hr : g ∈ domD r
    · exact ih (fun p hp => h p (List.mem_cons_of_mem _ hp)) hr
    · rw [zcu r _ g hr]
      rcases hg with rfl | hg
      · rw [Heap.put_at]; exact h (g, o) (by simp)
      · exact absurd hg hr
theorem zaho {call : XCl} (hcall : zhi P call) {o : Oper} {e : Operand → AV} {f : Nat} {args : List AV} (hx : xcal o e = some (f, args)) {H : HB} {nx : Nat} {v : AV} {rd fr : List Nat} {D : zg} (h : zaao call f args H nx = some (v, rd, fr, D)) :
    (∀ g, g ∈ fr ↔ nx ≤ g ∧ g < nx + fr.length) ∧ EffB P o e (toH H) rd fr D v := by
  unfold zaao at h
  simp only at h
  split at h
  · rename_i v1 H1 nx1 hc
    simp only [Option.some.injEq, Prod.mk.injEq] at h
    obtain ⟨rfl, rfl, rfl, rfl⟩ := h
    generalize hrs : zpr H 1000 (args.foldl (fun l v => ztv 3 v l) []) [] = rs at hc ⊢
    have d := fun ev => Does.call hcall hx hc ev
    have hle := (d fun _ => undef).le
    have hdom := (d fun _ => undef).dom
    have e1 : ∀ g, g ∈ zds nx (nx1 - nx) ↔ nx ≤ g ∧ g < nx1 := fun g => by rw [zrq]; omega
    refine ⟨fun g => by rw [zxd]; rw [zrq], fun A ρ Hm w ev hB s hxx hrd hfr => ?_⟩
    have hag : ∀ g, isH (zcg H rs) g = true → Hm g = toH (zcg H rs) g := fun g hg => by
      obtain ⟨h1, h2⟩ := zlt hg
      rw [hrd g h1, h2]
    refine zj ((d ev).run A ρ Hm w hB s hxx hag fun g h1 h2 => hfr g ((e1 g).2 ⟨h1, h2⟩)) fun cv w' ⟨ρ', q1, q2, q3⟩ => ?_
    have hA : (fun g => A g ∨ nx ≤ g ∧ g < nx1) = (fun x => A x ∨ x ∈ zds nx (nx1 - nx)) := by funext g; rw [e1]
    obtain ⟨m1, m2, m3⟩ := zzh (H := zcg H rs) (H' := H1) (rs := rs)
    have hH : mix Hm (zcg H rs) nx nx1 H1 = Hm.apply (zfp (zcg H rs) H1 rs ++ (zds nx (nx1 - nx)).map fun g => (g, H1.get g)) := by
      funext g
      have told : ∀ p ∈ zfp (zcg H rs) H1 rs ++ (zds nx (nx1 - nx)).map fun g => (g, H1.get g), p.2 = toH H1 p.1 := fun p hp => by
        rcases List.mem_append.1 hp with hp | hp
        · exact m1 p hp
        · obtain ⟨x, _, rfl⟩ := List.mem_map.1 hp; rfl
      have hdm : ∀ g, g ∈ domD (zfp (zcg H rs) H1 rs ++ (zds nx (nx1 - nx)).map fun g => (g, H1.get g)) ↔ g ∈ domD (zfp (zcg H rs) H1 rs) ∨ (nx ≤ g ∧ g < nx1) := fun g => by
        rw [← e1]
        simp [domD]
      by_cases hg : g ∈ domD (zfp (zcg H rs) H1 rs ++ (zds nx (nx1 - nx)).map fun g => (g, H1.get g))
      · rw [zahi (f := toH H1) told hg, zde]
        rcases (hdm g).1 hg with h | h
        · rcases m2 g h with h | h
          · exact .inl h
          · exact hdom g h
        · exact .inr h
      · rw [zcu _ _ _ hg]
        rw [hdm, not_or] at hg
        by_cases ht : Tk (zcg H rs) nx nx1 g
        · rw [zde ht]
          rcases ht with ht | ht
          · rw [hag g ht]
            exact (m3 g (zlt ht).1 hg.1).symm
          · exact absurd ht hg.2
        · rw [zfi ht]
    rw [hA, hH] at q1 q2 q3
    exact ⟨ρ', q1, q2, q3⟩
  · cases h
include hT hE in
theorem zahn {call : XCl} (hcall : zhi P call) {o : Oper} {E : EB} {H : HB} {nx : Nat} {v : AV} {rd fr : List Nat} {D : zg} (h : zwh T eqs call o E H nx = some (v, rd, fr, D)) :
    FrOk nx fr ∧ (∀ g, g ∈ fr ↔ nx ≤ g ∧ g < nx + fr.length) ∧ EffB P o (toE E).ev (toH H) rd fr D v ∧ (noW o = true → fr = [] ∧ D = []) ∧ zow P o (toE E).ev (toH H) rd fr D v (ptOf T (toE E).ev o) := by
  unfold zwh at h
  split at h
  · rename_i hcl
    split at h
    · rename_i f args hx
      obtain ⟨h1, h2⟩ := zaho hcall hx h
      have hop : ∃ c, o.op = .call c := by
        unfold isCl at hcl
        split at hcl
        · exact ⟨_, by assumption⟩
        · cases hcl
      obtain ⟨c, hop⟩ := hop
      exact ⟨.inr (.inr fun g hg => (h1 g).1 hg), h1, h2, fun hn => by simp [noW, hop] at hn, fun g q e => by simp [ptOf, hop] at e⟩
    · cases h
  · obtain ⟨h1, h2, h3, h4⟩ := zanf hT hE h
    exact ⟨.of h1, zaip h1, h2, h3, h4⟩
theorem zaim {H : HB} {D : zg} (hD : ∀ g ∈ domD D, Tk X n0 nE g) : (mix Hi X n0 nE H).apply D = mix Hi X n0 nE (ziz D H) := by
  funext g
  by_cases ht : Tk X n0 nE g
  · rw [zde ht, zpp]
    exact zjg D _ _ g (.inl (zde ht))
  · rw [zfi ht, zcu D _ g fun h => ht (hD g h), zfi ht]
include hT hE in
theorem zvm {β : Type} {call : XCl} (hcall : zhi P call) {all : List Oper} : ∀ (rest : List Oper) (kn : zbe) (E : EB) (H : HB) (nx : Nat) (log : List Rec) (c : EB → HB → Nat → List Rec → Option β) (r : β), zqw T eqs call all rest kn E H nx log c = some r → KnOk kn (toE E) →
    ∃ L E' H' nx', c E' H' nx' (log ++ L.map zml) = some r ∧ zbj H nx H' nx' ∧ (nx' ≤ nE → n0 ≤ nx → (∀ g, isH H g = true → Tk X n0 nx g) → zjh P all rest L (toE E) (mix Hi X n0 nE H) nx (toE E') (mix Hi X n0 nE H') nx')
  | [], kn, E, H, nx, log, c, r, h, _ => ⟨[], E, H, nx, by rw [List.map_nil, List.append_nil]; exact h, zbj.refl H nx, fun _ _ _ => ⟨rfl, rfl, rfl⟩⟩
  | o :: rest, kn, E, H, nx, log, c, r, h, hkn => by
    have run : ∀ kn1, KnOk kn1 (toE E) → (o.guard = none ∨ ∃ j want t, o.guard = some (j, want) ∧ gdst all j = some t ∧ toE E t = .bool want) →
        (match zwh T eqs call o E H nx with
          | some (v, rd, fr, D) => match chkD H rd fr D with
            | true => fV v fun v => putD D H fun H' => fN (nx + fr.length) fun nx' => putE E o.dst v fun E' => zqw T eqs call all rest (zcr o.dst kn1) E' H' nx' (log ++ [⟨v, rd, fr, D, false, fun _ => .junk, fun _ => none, ptOf T (toE E).ev o, isCl o⟩]) c
            | false => none
          | none => none) = some r →
        ∃ L E' H' nx', c E' H' nx' (log ++ L.map zml) = some r ∧ zbj H nx H' nx' ∧ (nx' ≤ nE → n0 ≤ nx → (∀ g, isH H g = true → Tk X n0 nx g) → zjh P all (o :: rest) L (toE E) (mix Hi X n0 nE H) nx (toE E') (mix Hi X n0 nE H') nx') := by
      intro kn1 hk1 hg hs
      split at hs
      · rename_i v rd fr D hx
        split at hs
        · rename_i hck
          rw [zxg, zuo, zaag, zum] at hs
          obtain ⟨h1, h2, h3, h4, h5⟩ := zahn hT hE hcall hx
          obtain ⟨c1, c2⟩ := zzn hck
          obtain ⟨L, E', H', nx', q1, q2, q3⟩ := zvm hcall rest _ _ _ _ _ c r hs (by rw [zfg]; exact hk1.drop o.dst v)
          have d := (Does.eff h3 h2 hck fun _ => undef)
          refine ⟨⟨v, rd, fr, D, false, toE E, mix Hi X n0 nE H, ptOf T (toE E).ev o, isCl o⟩ :: L, E', H', nx', by simpa [zml] using q1, zbj.trans ⟨d.le, d.dom⟩ q2, fun hn hn0 hdm => ?_⟩
          have hle2 := q2.1
          have hrd : ∀ g ∈ rd, mix Hi X n0 nE H g = toH H g := fun g hg => zde ((hdm g (c1 g hg)).mono (by omega))
          have hDk : ∀ g ∈ domD D, Tk X n0 nE g := fun g hg => by
            rcases c2 g hg with h | h
            · exact (hdm g h).mono (by omega)
            · have := (h2 g).1 h
              exact .inr ⟨by omega, by omega⟩
          refine ⟨rfl, rfl, ⟨h1, h4, ?_⟩, ?_⟩
          · simp only [Bool.false_eq_true, if_false]
            exact ⟨h3.at hrd, h5.at hrd, hg⟩
          · have := q3 hn (by omega) fun g hg => ?_
            · rw [zfg, ← zaim hDk] at this
              exact this
            · rcases d.dom g hg with h | h
              · exact (hdm g h).mono (by omega)
              · exact .inr ⟨by omega, h.2⟩
        · cases hs
      · cases hs
    have skip : ∀ kn1, KnOk kn1 (toE E) → (∃ j want t, o.guard = some (j, want) ∧ gdst all j = some t ∧ (toE E t = .und ∨ toE E t = .bool (!want))) →
        (putE E o.dst .und fun E' => zqw T eqs call all rest (zcz o.dst kn1) E' H nx (log ++ [⟨.und, [], [], [], true, fun _ => .junk, fun _ => none, none, false⟩]) c) = some r →
        ∃ L E' H' nx', c E' H' nx' (log ++ L.map zml) = some r ∧ zbj H nx H' nx' ∧ (nx' ≤ nE → n0 ≤ nx → (∀ g, isH H g = true → Tk X n0 nx g) → zjh P all (o :: rest) L (toE E) (mix Hi X n0 nE H) nx (toE E') (mix Hi X n0 nE H') nx') := by
      intro kn1 hk1 hg hs
      rw [zum] at hs
      obtain ⟨L, E', H', nx', q1, q2, q3⟩ := zvm hcall rest _ _ _ _ _ c r hs (by rw [zfg]; exact hk1.skip o.dst)
      refine ⟨⟨.und, [], [], [], true, toE E, mix Hi X n0 nE H, none, false⟩ :: L, E', H', nx', by simpa [zml] using q1, q2, fun hn hn0 hdm => ⟨rfl, rfl, ⟨.inl rfl, fun _ => ⟨rfl, rfl⟩, (if_pos rfl).mpr ⟨rfl, rfl, rfl, rfl, rfl, hg⟩⟩, ?_⟩⟩
      have := q3 hn hn0 hdm
      rw [zfg] at this
      exact this
    simp only [zqw] at h
    split at h
    · rename_i hg
      exact run kn hkn (.inl hg) h
    · rename_i j want hg
      split at h
      · cases h
      · rename_i t ht
        split at h
        · rename_i hk
          have hu := hkn t none (zdf hk)
          exact skip kn hkn ⟨j, want, t, hg, ht, .inl hu⟩ h
        · rename_i b hk
          have hb := hkn t (some b) (zdf hk)
          simp only at hb
          split at h
          · rename_i hbw
            have : b = want := by simpa using hbw
            subst this
            exact run kn hkn (.inr ⟨j, b, t, hg, ht, hb⟩) h
          · rename_i hbw
            have : b = !want := by cases b <;> cases want <;> simp_all
            subst this
            exact skip kn hkn ⟨j, want, t, hg, ht, .inr hb⟩ h
        · split at h
          · rename_i b hb
            have hk2 : KnOk ((t, some b) :: kn) (toE E) := by
              have := hkn.know hb
              rwa [zmq hb] at this
            split at h
            · rename_i hbw
              have : b = want := by simpa using hbw
              subst this
              exact run _ hk2 (.inr ⟨j, b, t, hg, ht, hb⟩) h
            · rename_i hbw
              have : b = !want := by cases b <;> cases want <;> simp_all
              subst this
              exact skip _ hk2 ⟨j, want, t, hg, ht, .inr hb⟩ h
          · cases h
/-! The conditions. -/
theorem zlx {l m : List Nat} (h : zaah l m = true) : disj l m := by
  rw [zfc]
  intro g hg hm
  have := List.all_eq_true.1 h g hg
  simp only [Bool.not_eq_true', List.any_eq_false, Nat.beq_eq] at this
  exact this g hm rfl
theorem zagd {L : List Rec} {p : Nat × Nat} (h : zage (L.map zml) p = true) : zkg L p := by
  unfold zage at h
  unfold zkg
  simp only [List.getElem?_map] at h
  cases ha : L[p.1]? with
  | none => simp [ha] at h
  | some a =>
    cases hb : L[p.2]? with
    | none => simp [ha, hb] at h
    | some b =>
      simp only [ha, hb, Option.map_some, Bool.and_eq_true] at h
      obtain ⟨⟨h1, h2⟩, h3⟩ := h
      have d1 := zlx h1
      have d2 := zlx h2
      refine ⟨?_, ?_⟩
      · rw [zfc] at d1 d2 ⊢
        intro g hg
        rw [List.mem_append, not_or]
        exact ⟨d1 g hg, d2 g hg⟩
      · unfold zani at h3
        unfold ztk
        simp only [zml] at h3
        cases hc : b.cl with
        | false => simp only [hc] at h3; exact zlx h3
        | true =>
          simp only [hc] at h3
          split at h3
          · rename_i g q _ hpt
            rw [hpt]
            intro x hx e
            have := List.all_eq_true.1 h3 x hx
            simp only [e, Bool.or_eq_true, Bool.not_eq_true'] at this
            rcases this with h | h
            · simp at h
            · split at h
              · rename_i s cs hrow
                split at h
                · rename_i u hu
                  exact ⟨s, cs, hrow, by rw [hu, zqp 40 _ _ h]⟩
                · cases h
              · cases h
          · rename_i hne
            have := zlx h3
            cases hpt : a.pt with
            | none => exact this
            | some q =>
              cases q <;> first | exact this | skip
              exact absurd hpt (hne _ _ rfl)
end
end Go.Proofs.YtpbnaaoilgohkaaGreatDoor
set_option maxRecDepth 8000
namespace Go.Proofs.YtpbnaaoilgohkaaGreatDoor
open Go Go.RowKit
def ExOk : XO → Exit → Prop
  | .nrm, e => e = .normal
  | .exi i, e => e = .exit i
  | .ret, e => e = .ret
section
variable {P : Program} {T : Nat → Option AT} {eqs : Nat → Bool} (hT : TOk P T) (hE : EOk P T eqs)
variable {A0 : Nat → Prop} {ρ0 : Nat → Loc} {Hi : Heap} {w0 : World} {X : HB} {n0 nE N : Nat}
abbrev QX (A0 : Nat → Prop) (ρ0 : Nat → Loc) (Hi : Heap) (w0 : World) (X : HB) (n0 nE N : Nat) (x : XO) (E : EB) (H : HB) (nx : Nat) : Exit → Act → World → Prop := fun e a w => ExOk x e ∧ SX A0 ρ0 Hi w0 X n0 nE N E H nx a w
def zyh (P : Program) (A0 : Nat → Prop) (ρ0 : Nat → Loc) (Hi : Heap) (w0 : World) (X : HB) (n0 nE N : Nat) (c : Code) (E : EB) (H : HB) (nx : Nat) (x : XO) (E' : EB) (H' : HB) (nx' : Nat) : Prop :=
  zbj H nx H' nx' ∧ (nx' ≤ nE → ∀ a w, SX A0 ρ0 Hi w0 X n0 nE N E H nx a w → c.wp P (QX A0 ρ0 Hi w0 X n0 nE N x E' H' nx') a w)
theorem zaan {c : Code} {body : EB → HB → Nat → Option (XO × EB × HB × Nat)} (hb : ∀ E H nx x E' H' nx', body E H nx = some (x, E', H', nx') → zyh P A0 ρ0 Hi w0 X n0 nE N c E H nx x E' H' nx') :
    ∀ (n : Nat) (E : EB) (H : HB) (nx : Nat) (x : XO) (E' : EB) (H' : HB) (nx' : Nat), zwg body n E H nx = some (x, E', H', nx') → zbj H nx H' nx' ∧ (nx' ≤ nE → ∀ a w, SX A0 ρ0 Hi w0 X n0 nE N E H nx a w → Code.rounds P c (QX A0 ρ0 Hi w0 X n0 nE N x E' H' nx') n a w)
  | 0, E, H, nx, x, E', H', nx', h => by simp [zwg] at h
  | n + 1, E, H, nx, x, E', H', nx', h => by
    unfold zwg at h
    split at h
    · rename_i x1 E1 H1 nx1 h1
      obtain ⟨g1, p1⟩ := hb _ _ _ _ _ _ _ h1
      cases x1 with
      | nrm =>
        simp only at h
        obtain ⟨g2, p2⟩ := zaan hb n _ _ _ _ _ _ _ h
        refine ⟨g1.trans g2, fun hn a w st => ?_⟩
        have := g2.1
        refine Code.wp_mono (fun e a w q => ?_) (p1 (by omega) a w st)
        obtain ⟨rfl, q⟩ := q
        exact p2 hn a w q
      | exi i =>
        simp only [Option.some.injEq, Prod.mk.injEq] at h
        obtain ⟨rfl, rfl, rfl, rfl⟩ := h
        refine ⟨g1, fun hn a w st => Code.wp_mono (fun e a w q => ?_) (p1 hn a w st)⟩
        obtain ⟨h1, q⟩ := q
        have h1' : e = .exit i := h1
        subst h1'
        exact ⟨rfl, q⟩
      | ret =>
        simp only [Option.some.injEq, Prod.mk.injEq] at h
        obtain ⟨rfl, rfl, rfl, rfl⟩ := h
        refine ⟨g1, fun hn a w st => Code.wp_mono (fun e a w q => ?_) (p1 hn a w st)⟩
        obtain ⟨h1, q⟩ := q
        have h1' : e = .ret := h1
        subst h1'
        exact ⟨rfl, q⟩
    · cases h
include hT hE in
theorem zew (hM : P.follows .mixedOrders = true) {call : XCl} (hcall : zhi P call) (fx : FX A0 n0 nE) : ∀ (c : Code) (E : EB) (H : HB) (nx : Nat) (x : XO) (E' : EB) (H' : HB) (nx' : Nat), wfC N c = true → zcj T eqs call c E H nx = some (x, E', H', nx') → zyh P A0 ρ0 Hi w0 X n0 nE N c E H nx x E' H' nx'
  | .skip, E, H, nx, x, E', H', nx', _, h => by
    simp only [zcj, Option.some.injEq, Prod.mk.injEq] at h
    obtain ⟨rfl, rfl, rfl, rfl⟩ := h
    exact ⟨zbj.refl _ _, fun _ a w st => wp_skip ⟨rfl, st⟩⟩
  | .label _, E, H, nx, x, E', H', nx', _, h => by
    simp only [zcj, Option.some.injEq, Prod.mk.injEq] at h
    obtain ⟨rfl, rfl, rfl, rfl⟩ := h
    exact ⟨zbj.refl _ _, fun _ a w st => wp_label ⟨rfl, st⟩⟩
  | .exit i, E, H, nx, x, E', H', nx', _, h => by
    simp only [zcj, Option.some.injEq, Prod.mk.injEq] at h
    obtain ⟨rfl, rfl, rfl, rfl⟩ := h
    exact ⟨zbj.refl _ _, fun _ a w st => wp_exit ⟨rfl, st⟩⟩
  | .ret, E, H, nx, x, E', H', nx', _, h => by
    simp only [zcj, Option.some.injEq, Prod.mk.injEq] at h
    obtain ⟨rfl, rfl, rfl, rfl⟩ := h
    exact ⟨zbj.refl _ _, fun _ a w st => wp_ret ⟨rfl, st⟩⟩
  | .scope c, E, H, nx, x, E', H', nx', hwf, h => by
    simp only [zcj] at h
    obtain ⟨g1, p1⟩ := zew hM hcall fx c _ _ _ _ _ _ _ hwf h
    refine ⟨g1, fun hn a w st => wp_scope_straight (Code.wp_mono (fun e a w q => ?_) (p1 hn a w st))⟩
    obtain ⟨h1, q⟩ := q
    cases x <;> (have h1' := h1; unfold ExOk at h1'; subst h1'; exact ⟨rfl, q⟩)
  | .region id ops false, E, H, nx, x, E', H', nx', hwf, h => by
    simp only [zcj] at h
    simp only [wfC, Bool.not_false, Bool.true_or, Bool.and_true] at hwf
    obtain ⟨E1, H1, nx1, h1, h2, h3⟩ := zxo (ρ0 := ρ0) (Hi := Hi) (w0 := w0) (X := X) hT hE hcall fx ops.toList [] E H nx _ _ h hwf (zwb hwf) (fun t b hm => by cases hm)
    simp only [Option.some.injEq, Prod.mk.injEq] at h1
    obtain ⟨rfl, rfl, rfl, rfl⟩ := h1
    exact ⟨h2, fun hn a w st => wp_region_list (h3 hn a w st)⟩
  | .region id ops true, E, H, nx, x, E', H', nx', hwf, h => by
    simp only [zcj] at h
    simp only [wfC, Bool.not_true, Bool.false_or, Bool.and_eq_true] at hwf
    obtain ⟨L, E1, H1, nx1, h1, h2, h3⟩ := zvm (Hi := Hi) (X := X) (n0 := n0) (nE := nE) hT hE hcall ops.toList [] E H nx [] _ _ h (fun t b hm => by cases hm)
    rw [List.nil_append] at h1
    split at h1
    · rename_i hck
      simp only [Option.some.injEq, Prod.mk.injEq] at h1
      obtain ⟨rfl, rfl, rfl, rfl⟩ := h1
      refine ⟨h2, fun hn a w st => ?_⟩
      have hch := h3 hn st.le st.dom
      have hco : zly L (zqm ops) := (zko L _).2 fun p hp => zagd (List.all_eq_true.1 hck p hp)
      obtain ⟨ρ, s, hv, f⟩ := st.ex
      have hle := h2.1
      have hfalse : ∀ i, (Array.replicate ops.size false).getD i false = false := fun i => by
        simp only [Array.getD]
        split <;> simp
      have hls : lsOf (Array.replicate ops.size false) = fun _ => false := funext hfalse
      have hA : AD (AX A0 n0 nx) L (fun _ => false) = AX A0 n0 nx := by
        funext g; simp [AD]
      have hA2 := zanp (A0 := A0) st.le hle
      refine wp_region_any hM (zva (B := AX A0 n0 nx) (ρ0 := ρ) (w0 := w) hwf.2 hch hco (fun g h1 h2 h3 => ?_) fx.bddX (fun a' w' ρ' s' v' t' d' f' => ?_) _ _ _ _ ⟨by simp, (fun i hi => by rw [hfalse] at hi; cases hi), st.size, st.defers, ρ, ?_, ?_, ?_⟩ ?_)
      · rcases h3 with h3 | h3
        · exact fx.free g (by have := st.le; omega) (by omega) h3
        · omega
      · rw [hA2] at s' v' f'
        refine ⟨rfl, ⟨ρ', s', v', f.trans f'⟩, t', d', by have := st.le; omega, fun g hg => ?_⟩
        rcases h2.2 g hg with h | h
        · exact (st.dom g h).mono hle
        · exact .inr ⟨by have := st.le; omega, h.2⟩
      · have e : ({ w with drawn := w.drawn + 1 } : World).heap = w.heap := rfl
        rw [hls, hA, zmw.hD_none]
        exact s.heap e
      · have e : ({ w with drawn := w.drawn + 1 } : World).heap = w.heap := rfl
        rw [hls, hA, zmw.hD_none]
        exact ⟨fun g hg => ⟨rfl, hg⟩, fun b o hb => by rw [zff e]; exact hb, rfl, rfl, rfl, Nat.le_refl _⟩
      · intro t
        have e : ({ w with drawn := w.drawn + 1 } : World).heap = w.heap := rfl
        rw [hls, hA, zmw.hD_none, zff e]
        have : eD (fun _ => false) ops.toList L 0 (toE E) t = toE E t := by
          rw [zrv.eD_off _ _ _ _ fun _ _ => rfl]
        rw [this]
        exact hv t
      · exact Nat.le_trans (List.length_filter_le _ _) (by simp)
    · cases h1
  | .seq c d, E, H, nx, x, E', H', nx', hwf, h => by
    simp only [wfC, Bool.and_eq_true] at hwf
    simp only [zcj] at h
    split at h
    · rename_i x1 E1 H1 nx1 h1
      obtain ⟨g1, p1⟩ := zew hM hcall fx c _ _ _ _ _ _ _ hwf.1 h1
      cases x1 with
      | nrm =>
        simp only at h
        obtain ⟨g2, p2⟩ := zew hM hcall fx d _ _ _ _ _ _ _ hwf.2 h
        refine ⟨g1.trans g2, fun hn a w st => wp_seq (Code.wp_mono (fun e a w q => ?_) (p1 (by have := g2.1; omega) a w st))⟩
        obtain ⟨rfl, q⟩ := q
        exact p2 hn a w q
      | exi i =>
        simp only [Option.some.injEq, Prod.mk.injEq] at h
        obtain ⟨rfl, rfl, rfl, rfl⟩ := h
        refine ⟨g1, fun hn a w st => wp_seq (Code.wp_mono (fun e a w q => ?_) (p1 hn a w st))⟩
        obtain ⟨h1, q⟩ := q
        have h1' : e = .exit i := h1
        subst h1'
        exact ⟨rfl, q⟩
      | ret =>
        simp only [Option.some.injEq, Prod.mk.injEq] at h
        obtain ⟨rfl, rfl, rfl, rfl⟩ := h
        refine ⟨g1, fun hn a w st => wp_seq (Code.wp_mono (fun e a w q => ?_) (p1 hn a w st))⟩
        obtain ⟨h1, q⟩ := q
        have h1' : e = .ret := h1
        subst h1'
        exact ⟨rfl, q⟩
    · cases h
  | .cond y c d, E, H, nx, x, E', H', nx', hwf, h => by
    simp only [wfC, Bool.and_eq_true] at hwf
    simp only [zcj] at h
    split at h
    · rename_i t ht
      have hev : ∀ a w, SX A0 ρ0 Hi w0 X n0 nE N E H nx a w → a.eval y = .bool t := fun a w st => by
        obtain ⟨ρ, s, hv, f⟩ := st.ex
        have := zaee hv y
        rw [ht] at this
        generalize a.eval y = cv at this
        cases this
        rfl
      cases t with
      | true =>
        simp only at h
        obtain ⟨g1, p1⟩ := zew hM hcall fx c _ _ _ _ _ _ _ hwf.1 h
        exact ⟨g1, fun hn a w st => wp_cond (hev a w st) (p1 hn a w st)⟩
      | false =>
        simp only at h
        obtain ⟨g1, p1⟩ := zew hM hcall fx d _ _ _ _ _ _ _ hwf.2 h
        exact ⟨g1, fun hn a w st => wp_cond (hev a w st) (p1 hn a w st)⟩
    · cases h
  | .block id c, E, H, nx, x, E', H', nx', hwf, h => by
    simp only [zcj] at h
    split at h
    · rename_i x1 E1 H1 nx1 h1
      obtain ⟨g1, p1⟩ := zew hM hcall fx c _ _ _ _ _ _ _ hwf h1
      cases x1 with
      | nrm =>
        simp only [Option.some.injEq, Prod.mk.injEq] at h
        obtain ⟨rfl, rfl, rfl, rfl⟩ := h
        refine ⟨g1, fun hn a w st => wp_block (Code.wp_mono (fun e a w q => ?_) (p1 hn a w st))⟩
        obtain ⟨rfl, q⟩ := q
        exact ⟨rfl, q⟩
      | ret =>
        simp only [Option.some.injEq, Prod.mk.injEq] at h
        obtain ⟨rfl, rfl, rfl, rfl⟩ := h
        refine ⟨g1, fun hn a w st => wp_block (Code.wp_mono (fun e a w q => ?_) (p1 hn a w st))⟩
        obtain ⟨h1, q⟩ := q
        have h1' : e = .ret := h1
        subst h1'
        exact ⟨rfl, q⟩
      | exi i =>
        simp only at h
        split at h
        · rename_i hi
          rw [Nat.beq_eq] at hi
          subst hi
          simp only [Option.some.injEq, Prod.mk.injEq] at h
          obtain ⟨rfl, rfl, rfl, rfl⟩ := h
          refine ⟨g1, fun hn a w st => wp_block (Code.wp_mono (fun e a w q => ?_) (p1 hn a w st))⟩
          obtain ⟨h1, q⟩ := q
          have h1' : e = .exit i := h1
          subst h1'
          simp only [Exit.inBlock, if_true]
          exact ⟨rfl, q⟩
        · rename_i hi
          simp only [Option.some.injEq, Prod.mk.injEq] at h
          obtain ⟨rfl, rfl, rfl, rfl⟩ := h
          refine ⟨g1, fun hn a w st => wp_block (Code.wp_mono (fun e a w q => ?_) (p1 hn a w st))⟩
          obtain ⟨h1, q⟩ := q
          have h1' : e = .exit i := h1
          subst h1'
          simp only [Exit.inBlock]
          rw [if_neg (by intro e; subst e; simp at hi)]
          exact ⟨rfl, q⟩
    · cases h
  | .loop c, E, H, nx, x, E', H', nx', hwf, h => by
    simp only [zcj] at h
    obtain ⟨g1, p1⟩ := zaan (c := c) (fun E H nx x E' H' nx' h => zew hM hcall fx c E H nx x E' H' nx' hwf h) 3000 E H nx x E' H' nx' h
    exact ⟨g1, fun hn a w st => wp_loop_rounds 3000 (p1 hn a w st)⟩
theorem zxn {β : Type} (hT : TOk P T) {Hm : Heap} {A : Nat → Prop} {ρ : Nat → Loc} {w : World} {a : Act} {E : EB} {H : HB} (s : Sim A ρ Hm w) (hv : ∀ t, VRel (Kof ρ Hm w) ρ A (toE E t) (a.tmps.getD t undef)) (hag : ∀ g, isH H g = true → Hm g = toH H g) :
    ∀ (rs : List ResultVar) (c : List AV → Option β) (r : β), xret T rs E H c = some r → ∃ vs, c vs = some r ∧ ∃ cs, LRel (Kof ρ Hm w) ρ A vs cs ∧ cs.length = rs.length ∧
      ∀ acc : Array Value, (List.foldlM (fun (acc : Array Value) (r : ResultVar) => acc.push <$> zdd a.tmps r) acc rs).run P w = .ok (acc ++ cs.toArray) w
  | [], c, r, h => ⟨[], h, [], LRel.nil, rfl, fun acc => by simp [Sem.run_pure]⟩
  | .tmp t :: rs, c, r, h => by
    simp only [xret, zxh] at h
    obtain ⟨vs, h1, cs, h2, h3, h4⟩ := zxn hT s hv hag rs _ r h
    refine ⟨_, h1, a.tmps.getD t undef :: cs, LRel.cons (hv t) h2, by simp [h3], fun acc => ?_⟩
    have hr : (zdd a.tmps (.tmp t)).run P w = .ok (a.tmps.getD t undef) w := rfl
    simp only [List.foldlM_cons, Sem.run_bind, zrk hr, Result.andThen_ok, h4]
    congr 1
    apply Array.ext'
    simp
  | .cell b t :: rs, c, r, h => by
    simp only [xret] at h
    split at h
    · rename_i at_ ht
      obtain ⟨i, d, z, ha⟩ := hT.at ht
      split at h
      · rename_i v rd _ _ hx
        rw [zxg] at h
        obtain ⟨vs, h1, cs, h2, h3, h4⟩ := zxn hT s hv hag rs _ r h
        unfold zul at hx
        split at hx
        · rename_i cells off rd' hrd
          split at hx
          · rename_i v' hl
            simp only [Option.some.injEq, Prod.mk.injEq] at hx
            obtain ⟨rfl, rfl, _, _⟩ := hx
            have hrds : ∀ g ∈ rd', Hm g = toH H g := fun g hg => by
              unfold rdp at hrd
              split at hrd
              · rename_i g' _ _
                split at hrd
                · rename_i hgg
                  cases hrd
                  simp at hg
                  subst hg
                  exact hag _ (zmj.2 ⟨_, hgg⟩)
                · cases hrd
              · cases hrd; cases hg
              · cases hrd
            obtain ⟨bb, q, he, hc⟩ := zvv s (hv b) hrd hrds
            obtain ⟨cv, hr, hR⟩ := zjn (P := P) ha hc hl
            refine ⟨_, h1, cv :: cs, LRel.cons hR h2, by simp [h3], fun acc => ?_⟩
            have hr' : (zdd a.tmps (.cell b t)).run P w = .ok cv w := by
              simp only [zdd, Sem.run_bind, he, asAddr, Sem.run_pure, Result.andThen_ok, hr]
            simp only [List.foldlM_cons, Sem.run_bind, zrk hr', Result.andThen_ok, h4]
            congr 1
            apply Array.ext'
            simp
          · cases hx
        · cases hx
      · cases h
    · cases h
theorem zacl {β : Type} : ∀ (args : List AV) (t : Nat) (E : EB) (c : EB → Option β) (r : β), zaai args t E c = some r → ∃ E', c E' = some r ∧ ∀ u, toE E' u = if t ≤ u ∧ u < t + args.length then nth args (u - t) else toE E u
  | [], t, E, c, r, h => ⟨E, h, fun u => by rw [if_neg (by simp only [List.length_nil]; omega)]⟩
  | v :: rs, t, E, c, r, h => by
    simp only [zaai, zxg] at h
    rw [Tr.setK_eq] at h
    obtain ⟨E', h1, h2⟩ := zacl rs (t + 1) _ c r h
    refine ⟨E', h1, fun u => ?_⟩
    rw [h2]
    have hs : toE (Tr.setK (t + 1) E t (some v) id) u = if u = t then v else toE E u := by
      have := congrFun (zfg E (some t) v) u
      rw [show zun E (some t) v = Tr.setK (t + 1) E t (some v) id from rfl] at this
      rw [this, zef]
      by_cases h : u = t
      · subst h; simp
      · rw [if_neg (by simpa using Ne.symm h), if_neg h]
    rw [hs]
    simp only [List.length_cons]
    by_cases h1 : t + 1 ≤ u ∧ u < t + 1 + rs.length
    · rw [if_pos h1, if_pos (by omega)]
      have : u - t = (u - (t + 1)) + 1 := by omega
      rw [this]
      simp [nth]
    · rw [if_neg h1]
      by_cases h3 : u = t
      · subst h3
        rw [if_pos rfl, if_pos (by omega)]
        simp [nth]
      · rw [if_neg h3, if_neg (by omega)]
def zanr (P : Program) (orc : Nat → List AV → Option AV) : Prop := ∀ f args v, orc f args = some v → ∀ H : Heap, LC P f args H [] [] [] v
def FnOk (P : Program) (ok : Nat → Bool) : Prop := ∀ f fn c, ok f = true → P.funcs[f]? = some fn → fn.body = some c → wfC fn.ntmps c = true ∧ (fn.name == "runtime.NumGoroutine") = false
include hT hE in
theorem zadz (hM : P.follows .mixedOrders = true) {ok : Nat → Bool} {orc : Nat → List AV → Option AV} (ho : zanr P orc) (hf : FnOk P ok) : ∀ n, zhi P (xfun T eqs P ok orc n)
  | 0, f, args, H, nx, v, H', nx', h, cargs => by simp [xfun] at h
  | n + 1, f, args, H, nx, v, H', nx', h, cargs => by
    have ih := zadz hM ho hf n
    unfold xfun at h
    split at h
    · rename_i u hu
      simp only [Option.some.injEq, Prod.mk.injEq] at h
      obtain ⟨rfl, rfl, rfl⟩ := h
      refine ⟨Nat.le_refl _, fun g hg => .inl hg, fun A ρ Hm w hB s ha hag hfree => ?_⟩
      refine zj (ho f args u hu (fun _ => none) A ρ Hm w cargs hB s ha (fun g hg => by cases hg) (fun g hg => by cases hg)) fun cv w' ⟨ρ', q1, q2, q3⟩ => ?_
      have hA : (fun x => A x ∨ x ∈ ([] : List Nat)) = (fun g => A g ∨ nx ≤ g ∧ g < nx) := by funext g; simp; omega
      have hH : Hm.apply [] = mix Hm H nx nx H := by
        funext g
        show Hm g = _
        by_cases ht : Tk H nx nx g
        · rw [zde ht]
          rcases ht with h | h
          · exact hag g h
          · omega
        · rw [zfi ht]
      rw [hA, hH] at q1 q2 q3
      exact ⟨ρ', q1, q2, q3⟩
    · split at h
      · cases h
      · rename_i hok
        split at h
        · rename_i fn hfn
          split at h
          · rename_i c hc
            split at h
            · rename_i hlen
              obtain ⟨hwf, hname⟩ := hf f fn c hok hfn hc
              have hlen := Nat.le_of_ble_eq_true hlen
              obtain ⟨E0, h1, h2⟩ := zacl _ _ _ _ _ h
              split at h1
              · rename_i x E1 H1 nx1 hx
                have key : ∀ (A : Nat → Prop) (ρ : Nat → Loc) (Hm : Heap) (w : World), FX A nx nx1 → zyh P A ρ Hm w H nx nx1 fn.ntmps c E0 H nx x E1 H1 nx1 := fun A ρ Hm w fx => zew hT hE hM ih fx c E0 H nx x E1 H1 nx1 hwf hx
                have hg : zbj H nx H1 nx1 := (key (fun _ => False) (fun _ => default) (fun _ => none) default ⟨fun _ _ _ h => h, ⟨0, fun _ h => h.elim⟩⟩).1
                have fin : ∀ (h1 : xret T fn.results.toList E1 H1 (fun vs => some (match vs with | [v] => v | vs => .tup vs, H1, nx1)) = some (v, H', nx')) (hx2 : ∀ e, ExOk x e → e = .normal ∨ e = .ret),
                    Does P H nx v H' nx' (fun K ρ A => LRel K ρ A args cargs.toList) fun w => (callFunc f cargs).run P w := by
                  intro h1 hx2
                  have hout : H' = H1 ∧ nx' = nx1 := by
                    have : ∀ (rs : List ResultVar) (cc : List AV → AV), xret T rs E1 H1 (fun vs => some (cc vs, H1, nx1)) = some (v, H', nx') → H' = H1 ∧ nx' = nx1 := by
                      intro rs
                      induction rs with
                      | nil => intro cc h; simp only [xret, Option.some.injEq, Prod.mk.injEq] at h; exact ⟨h.2.1.symm, h.2.2.symm⟩
                      | cons r rs ih =>
                        intro cc h
                        cases r with
                        | tmp t => simp only [xret, zxh] at h; exact ih (fun vs => cc (toE E1 t :: vs)) h
                        | cell b t =>
                          simp only [xret] at h
                          split at h
                          · split at h
                            · rename_i v' _ _ _ _
                              rw [zxg] at h
                              exact ih (fun vs => cc (v' :: vs)) h
                            · cases h
                          · cases h
                    exact this _ (fun vs => match vs with | [v] => v | vs => .tup vs) h1
                  obtain ⟨rfl, rfl⟩ := hout
                  refine ⟨hg.1, hg.2, fun A ρ Hm w hB s ha hag hfree => ?_⟩
                  have fx : FX A nx nx' := ⟨hfree, hB⟩
                  have hp := (key A ρ Hm w fx).2 (Nat.le_refl _)
                  have hcl : cargs.size = args.length := by simpa using ha.1
                  have hcall : (callFunc f cargs).run P w = .ok (.enter f cargs) w := by
                    have hname' : ¬ fn.name = "runtime.NumGoroutine" := by simpa using hname
                    simp [callFunc, program, Sem.run_bind, Sem.run, hfn, hname', hc, pure]
                  rw [hcall]
                  simp only [zu]
                  have hA0 : AX A nx nx = A := by funext g; simp [AX]; omega
                  have hH0 : mix Hm H nx nx' H = Hm := by
                    funext g
                    by_cases ht : Tk H nx nx' g
                    · rw [zde ht]
                      by_cases hi : isH H g = true
                      · exact (hag g hi).symm
                      · rw [zjr hi]
                        rcases ht with h | h
                        · exact absurd h hi
                        · cases e : Hm g with
                          | none => rfl
                          | some o => exact absurd (s.live g o e) (hfree g h.1 h.2)
                    · rw [zfi ht]
                  refine calls_of_wp hfn hc (Code.wp_mono (fun e a w' q => ?_) (hp _ w ⟨⟨ρ, ?_, fun t => ?_, ?_⟩, by simp; omega, rfl, Nat.le_refl _, fun g hg => .inl hg⟩))
                  · obtain ⟨he, st⟩ := q
                    have done : a.defers = [] ∧ ∃ v', (results fn a.tmps).run P w' = .ok v' w' ∧ ∃ u, Ending.returned v' = .returned u ∧ zant A ρ Hm w H nx v H' nx' u w' := by
                      obtain ⟨ρ', s', hv', f'⟩ := st.ex
                      obtain ⟨vs, q1, cs, q2, q3, q4⟩ := zxn (P := P) hT s' hv' (fun g hg => zde (st.dom g hg)) fn.results.toList _ _ h1
                      refine ⟨st.defers, ?_⟩
                      have hm : (fn.results.mapM (zdd a.tmps)).run P w' = .ok cs.toArray w' := by
                        rw [Array.mapM_eq_foldlM]
                        have := q4 #[]
                        rw [Array.foldlM_toList] at this
                        simpa using this
                      have hrun : ∀ v, (if h : cs.toArray.size = 1 then cs.toArray[0] else Value.tuple cs.toArray) = v → (results fn a.tmps).run P w' = .ok v w' := by
                        intro v hv
                        have e : results fn a.tmps = (do let vs ← fn.results.mapM (zdd a.tmps); pure (if h : vs.size = 1 then vs[0] else .tuple vs)) := by
                          unfold results zdd
                          rfl
                        rw [e]
                        simp only [Sem.run_bind, hm, Result.andThen_ok, Sem.run_pure, hv]
                      simp only [Option.some.injEq, Prod.mk.injEq, and_true] at q1
                      split at q1
                      · rename_i u
                        subst q1
                        obtain ⟨cv, hcv, hR⟩ := q2.get (j := 0) (v := u) rfl
                        have hc1 : cs = [cv] := by
                          have hl := q2.1
                          match cs, hl, hcv with
                          | [x], _, h => simp at h; rw [h]
                        subst hc1
                        exact ⟨cv, hrun cv (by simp), cv, rfl, ρ', s', hR, f'⟩
                      · rename_i hne
                        have hc1 : cs.length ≠ 1 := by
                          intro hl
                          have := q2.1
                          rw [hl] at this
                          match vs, this with
                          | [x], _ => exact hne x rfl
                        subst q1
                        exact ⟨.tuple cs.toArray, hrun _ (by simp [hc1]), _, rfl, ρ', s', .tup _ _ (by simpa using q2.1) fun j v c hv hc => q2.2 j v c hv (by simpa using hc), f'⟩
                    rcases hx2 e he with rfl | rfl
                    · exact done
                    · exact done
                  · rw [hA0, hH0]; exact s
                  · rw [hA0, hH0, h2]
                    show VRel _ _ _ _ ((cargs ++ Array.replicate (fn.ntmps - cargs.size) undef).getD t undef)
                    by_cases ht : t < args.length
                    · rw [if_pos (by omega)]
                      obtain ⟨cv, h1, h2⟩ := ha.get (List.getElem?_eq_getElem ht)
                      have : (cargs ++ Array.replicate (fn.ntmps - cargs.size) undef).getD t undef = cv := by
                        rw [Array.getD_eq_getD_getElem?, Array.getElem?_append_left (by omega)]
                        simp only [Array.getElem?_toList] at h1
                        rw [h1]; rfl
                      rw [this, Nat.sub_zero, nth, List.getD_eq_getElem?_getD, List.getElem?_eq_getElem ht]
                      exact h2
                    · rw [if_neg (by omega)]
                      exact .junk _
                  · rw [hA0, hH0]; exact Fr.refl _ _ _ _
                split at h1
                · cases h1
                · exact fin h1 fun e he => .inl he
                · exact fin h1 fun e he => .inr he
              · cases h1
            · cases h
          · cases h
        · cases h
theorem QC.closed {call : XCl} (hc : zhi P call) {f : FuncId} {v : AV} {H' : HB} {nx' : Nat} (h : call f [] .nil 0 = some (v, H', nx')) (hf : flat v = true) : QC P f [] v := by
  intro H nx ρ w cargs s ha
  have s0 : Sim (fun _ => False) ρ (fun _ => none) w := by
    have := (s.drop (H' := fun _ => none) (fun g o ho => by cases ho)).1
    exact ⟨fun g o ho => (by cases ho), fun g o ho => (by cases ho), fun g g' hg _ _ => (by cases hg), this.lay⟩
  have d := hc f [] .nil 0 v H' nx' h cargs
  have ha0 : LRel (Kof ρ (fun _ => none) w) ρ (fun _ => False) [] cargs.toList := ⟨ha.1, fun j v c hv => by simp at hv⟩
  refine zj (d.run (fun _ => False) ρ (fun _ => none) w ⟨0, fun _ h => h.elim⟩ s0 ha0 (fun g hg => by simp [isH, Tr.get_nil] at hg) (fun _ _ _ h => h)) fun cv w' ⟨ρ', q3, q4, q5⟩ => ?_
  have keep : ∀ b o, w.heap[b]? = some o → w'.heap[b]? = some o := fun b o hb =>
    (zo.1 (q5.k b o (zo.2 ⟨fun g hg => by simp at hg, hb⟩))).2
  have hK : ∀ b o, Kof ρ H w b = some o → Kof ρ H w' b = some o := fun b o hb => by
    obtain ⟨h1, h2⟩ := zo.1 hb
    exact zo.2 ⟨h1, keep b o h2⟩
  refine ⟨v, H, nx, ρ, ⟨rfl, rfl, rfl⟩, ⟨s.live, fun g o ho => ?_, s.inj, s.lay.mono hK⟩, q4.flat hf, ⟨fun g hg => ⟨rfl, hg⟩, hK, q5.os, q5.tape, q5.output, q5.size⟩⟩
  have ho' := s.obj g o ho
  obtain ⟨ob, hob⟩ : ∃ ob, w.heap[(ρ g).block]? = some ob := ⟨_, Array.getElem?_eq_getElem ho'.block_lt⟩
  exact ho'.mono (by rw [keep _ _ hob, hob]) hK fun g hg => ⟨rfl, hg⟩
end
end Go.Proofs.YtpbnaaoilgohkaaGreatDoor
namespace Go.Proofs
open Go.Shelf
def Tryz.laysM171_ren : Go.Shelf.Ren := ⟨fun | 171 => 88 | 243 => 94 | 246 => 97 | 283 => 103 | 284 => 104 | 285 => 105 | 286 => 106 | 129 => 111 | 317 => 110 | 318 => 112 | 319 => 113 | 320 => 114 | 337 => 117 | 338 => 118 | n => n, fun | 3 => 3 | 9 => 9 | 2 => 2 | 4 => 4 | 171 => 183 | 0 => 0 | 53 => 153 | 37 => 32 | 5 => 5 | 173 => 186 | 212 => 195 | 51 => 129 | 20 => 20 | 213 => 196 | 46 => 154 | 232 => 204 | 233 => 205 | n => n, fun | 17 => 2 | 18 => 3 | 19 => 4 | n => n⟩
theorem Tryz.laysM171 : Go.Proofs.LaysM.n171 Tryz.prog Tryz.laysM171_ren := {
  mixed := by kernel_rfl
  f129 := Tryz.func111.trans (congrArg some (by kernel_rfl))
  f171 := Tryz.func88.trans (congrArg some (by kernel_rfl))
  f243 := Tryz.func94.trans (congrArg some (by kernel_rfl))
  f246 := Tryz.func97.trans (congrArg some (by kernel_rfl))
  f283 := Tryz.func103.trans (congrArg some (by kernel_rfl))
  f284 := Tryz.func104.trans (congrArg some (by kernel_rfl))
  f285 := Tryz.func105.trans (congrArg some (by kernel_rfl))
  f286 := Tryz.func106.trans (congrArg some (by kernel_rfl))
  f317 := Tryz.func110.trans (congrArg some (by kernel_rfl))
  f318 := Tryz.func112.trans (congrArg some (by kernel_rfl))
  f319 := Tryz.func113.trans (congrArg some (by kernel_rfl))
  f320 := Tryz.func114.trans (congrArg some (by kernel_rfl))
  f337 := Tryz.func117.trans (congrArg some (by kernel_rfl))
  f338 := Tryz.func118.trans (congrArg some (by kernel_rfl))
  t0 := Tryz.underlying0
  a0 := Tryz.isAgg0
  z0 := Tryz.sizeOf0
  v0 := Tryz.zeroValue0
  t2 := Tryz.underlying2
  a2 := Tryz.isAgg2
  z2 := Tryz.sizeOf2
  v2 := Tryz.zeroValue2
  t3 := Tryz.underlying3
  a3 := Tryz.isAgg3
  z3 := Tryz.sizeOf3
  v3 := Tryz.zeroValue3
  t4 := Tryz.underlying4
  a4 := Tryz.isAgg4
  z4 := Tryz.sizeOf4
  v4 := Tryz.zeroValue4
  t5 := Tryz.underlying5
  a5 := Tryz.isAgg5
  z5 := Tryz.sizeOf5
  v5 := Tryz.zeroValue5
  t9 := Tryz.underlying9
  a9 := Tryz.isAgg9
  z9 := Tryz.sizeOf9
  v9 := Tryz.zeroValue9
  t20 := Tryz.underlying20
  a20 := Tryz.isAgg20
  z20 := Tryz.sizeOf20
  v20 := Tryz.zeroValue20
  t37 := Tryz.underlying32
  a37 := Tryz.isAgg32
  z37 := Tryz.sizeOf32
  v37 := Tryz.zeroValue32
  t46 := Tryz.underlying154
  a46 := Tryz.isAgg154
  z46 := Tryz.sizeOf154
  v46 := Tryz.zeroValue154
  t51 := Tryz.underlying129
  a51 := Tryz.isAgg129
  z51 := Tryz.sizeOf129
  v51 := Tryz.zeroValue129
  t53 := Tryz.underlying153
  a53 := Tryz.isAgg153
  z53 := Tryz.sizeOf153
  v53 := Tryz.zeroValue153
  t171 := Tryz.underlying183
  a171 := Tryz.isAgg183
  z171 := Tryz.sizeOf183
  v171 := Tryz.zeroValue183
  t173 := Tryz.underlying186
  a173 := Tryz.isAgg186
  z173 := Tryz.sizeOf186
  v173 := Tryz.zeroValue186
  t212 := Tryz.underlying195
  a212 := Tryz.isAgg195
  z212 := Tryz.sizeOf195
  v212 := Tryz.zeroValue195
  t213 := Tryz.underlying196
  a213 := Tryz.isAgg196
  z213 := Tryz.sizeOf196
  t232 := Tryz.underlying204
  a232 := Tryz.isAgg204
  z232 := Tryz.sizeOf204
  v232 := Tryz.zeroValue204
  t233 := Tryz.underlying205
  a233 := Tryz.isAgg205
  z233 := Tryz.sizeOf205
  v233 := Tryz.zeroValue205
  g17 := by kernel_rfl
  g18 := by kernel_rfl
  g19 := by kernel_rfl
  i0 := by kernel_rfl
  i2 := by kernel_rfl
  i3 := by kernel_rfl
  i4 := by kernel_rfl
  i5 := by kernel_rfl
  i9 := by kernel_rfl
  i20 := by kernel_rfl
  i37 := by kernel_rfl
  i46 := by kernel_rfl
  i51 := by kernel_rfl
  i53 := by kernel_rfl
  i171 := by kernel_rfl
  i173 := by kernel_rfl
  i212 := by kernel_rfl
  i232 := by kernel_rfl
  i233 := by kernel_rfl
  m17 := by kernel_rfl
  m18 := by kernel_rfl
  m19 := by kernel_rfl }
open Go.RowKit Go.Sort Go.Lib in
theorem Tryz.strconv_Itoa (n : Int) (h0 : -9223372036854775808 ≤ n) (h1 : n ≤ 9223372036854775807) (w : World) (htab : Lib.TabIs Tryz.prog w "internal/strconv.uint64pow10" .u64 Lib.pow10Tab) :
    Calls Tryz.prog 88 #[.int .i64 n] w fun e w' => e = .returned (.string ⟨(Lib.itoa n).toArray⟩) ∧ ∃ k os, w' = grow (w.drewN k) os := Any.strconv_Itoa Tryz.laysM171 n h0 h1 w htab
def Tryz.laysC172_ren : Go.Shelf.Ren := ⟨fun | 172 => 91 | 244 => 95 | 245 => 96 | 247 => 98 | 279 => 99 | 280 => 100 | 281 => 101 | 282 => 102 | 287 => 107 | 316 => 108 | 171 => 88 | 205 => 109 | 321 => 115 | 322 => 116 | 243 => 94 | 246 => 97 | 283 => 103 | 284 => 104 | 285 => 105 | 286 => 106 | 129 => 111 | 317 => 110 | 318 => 112 | 319 => 113 | 320 => 114 | 337 => 117 | 338 => 118 | n => n, fun | 9 => 9 | 3 => 3 | 75 => 172 | 76 => 173 | 4 => 4 | 5 => 5 | 167 => 177 | 37 => 32 | 0 => 0 | 85 => 178 | 2 => 2 | 168 => 180 | 53 => 153 | 175 => 188 | 46 => 154 | 210 => 192 | 127 => 199 | 145 => 202 | 143 => 200 | 21 => 21 | 171 => 183 | 173 => 186 | 212 => 195 | 51 => 129 | 20 => 20 | 213 => 196 | 232 => 204 | 233 => 205 | 80 => 105 | n => n, fun | 15 => 0 | 16 => 1 | 17 => 2 | 18 => 3 | 19 => 4 | n => n⟩
theorem Tryz.laysC172 : Go.Proofs.LaysC.n172 Tryz.prog Tryz.laysC172_ren := {
  mixed := by kernel_rfl
  f129 := Tryz.func111.trans (congrArg some (by kernel_rfl))
  f171 := Tryz.func88.trans (congrArg some (by kernel_rfl))
  f172 := Tryz.func91.trans (congrArg some (by kernel_rfl))
  f205 := Tryz.func109.trans (congrArg some (by kernel_rfl))
  f243 := Tryz.func94.trans (congrArg some (by kernel_rfl))
  f244 := Tryz.func95.trans (congrArg some (by kernel_rfl))
  f245 := Tryz.func96.trans (congrArg some (by kernel_rfl))
  f246 := Tryz.func97.trans (congrArg some (by kernel_rfl))
  f247 := Tryz.func98.trans (congrArg some (by kernel_rfl))
  f279 := Tryz.func99.trans (congrArg some (by kernel_rfl))
  f280 := Tryz.func100.trans (congrArg some (by kernel_rfl))
  f281 := Tryz.func101.trans (congrArg some (by kernel_rfl))
  f282 := Tryz.func102.trans (congrArg some (by kernel_rfl))
  f283 := Tryz.func103.trans (congrArg some (by kernel_rfl))
  f284 := Tryz.func104.trans (congrArg some (by kernel_rfl))
  f285 := Tryz.func105.trans (congrArg some (by kernel_rfl))
  f286 := Tryz.func106.trans (congrArg some (by kernel_rfl))
  f287 := Tryz.func107.trans (congrArg some (by kernel_rfl))
  f316 := Tryz.func108.trans (congrArg some (by kernel_rfl))
  f317 := Tryz.func110.trans (congrArg some (by kernel_rfl))
  f318 := Tryz.func112.trans (congrArg some (by kernel_rfl))
  f319 := Tryz.func113.trans (congrArg some (by kernel_rfl))
  f320 := Tryz.func114.trans (congrArg some (by kernel_rfl))
  f321 := Tryz.func115.trans (congrArg some (by kernel_rfl))
  f322 := Tryz.func116.trans (congrArg some (by kernel_rfl))
  f337 := Tryz.func117.trans (congrArg some (by kernel_rfl))
  f338 := Tryz.func118.trans (congrArg some (by kernel_rfl))
  t0 := Tryz.underlying0
  a0 := Tryz.isAgg0
  z0 := Tryz.sizeOf0
  v0 := Tryz.zeroValue0
  t2 := Tryz.underlying2
  a2 := Tryz.isAgg2
  z2 := Tryz.sizeOf2
  v2 := Tryz.zeroValue2
  t3 := Tryz.underlying3
  a3 := Tryz.isAgg3
  z3 := Tryz.sizeOf3
  v3 := Tryz.zeroValue3
  t4 := Tryz.underlying4
  a4 := Tryz.isAgg4
  z4 := Tryz.sizeOf4
  v4 := Tryz.zeroValue4
  t5 := Tryz.underlying5
  a5 := Tryz.isAgg5
  z5 := Tryz.sizeOf5
  v5 := Tryz.zeroValue5
  t9 := Tryz.underlying9
  a9 := Tryz.isAgg9
  z9 := Tryz.sizeOf9
  v9 := Tryz.zeroValue9
  t20 := Tryz.underlying20
  a20 := Tryz.isAgg20
  z20 := Tryz.sizeOf20
  v20 := Tryz.zeroValue20
  t21 := Tryz.underlying21
  a21 := Tryz.isAgg21
  z21 := Tryz.sizeOf21
  v21 := Tryz.zeroValue21
  t37 := Tryz.underlying32
  a37 := Tryz.isAgg32
  z37 := Tryz.sizeOf32
  v37 := Tryz.zeroValue32
  t46 := Tryz.underlying154
  a46 := Tryz.isAgg154
  z46 := Tryz.sizeOf154
  v46 := Tryz.zeroValue154
  t51 := Tryz.underlying129
  a51 := Tryz.isAgg129
  z51 := Tryz.sizeOf129
  v51 := Tryz.zeroValue129
  t53 := Tryz.underlying153
  a53 := Tryz.isAgg153
  z53 := Tryz.sizeOf153
  v53 := Tryz.zeroValue153
  t75 := Tryz.underlying172
  a75 := Tryz.isAgg172
  z75 := Tryz.sizeOf172
  v75 := Tryz.zeroValue172
  t76 := Tryz.underlying173
  a76 := Tryz.isAgg173
  z76 := Tryz.sizeOf173
  v76 := Tryz.zeroValue173
  t85 := Tryz.underlying178
  a85 := Tryz.isAgg178
  z85 := Tryz.sizeOf178
  v85 := Tryz.zeroValue178
  t127 := Tryz.underlying199
  a127 := Tryz.isAgg199
  z127 := Tryz.sizeOf199
  v127 := Tryz.zeroValue199
  t143 := Tryz.underlying200
  a143 := Tryz.isAgg200
  z143 := Tryz.sizeOf200
  v143 := Tryz.zeroValue200
  t145 := Tryz.underlying202
  a145 := Tryz.isAgg202
  z145 := Tryz.sizeOf202
  v145 := Tryz.zeroValue202
  t167 := Tryz.underlying177
  a167 := Tryz.isAgg177
  z167 := Tryz.sizeOf177
  v167 := Tryz.zeroValue177
  t168 := Tryz.underlying180
  a168 := Tryz.isAgg180
  z168 := Tryz.sizeOf180
  v168 := Tryz.zeroValue180
  t171 := Tryz.underlying183
  a171 := Tryz.isAgg183
  z171 := Tryz.sizeOf183
  v171 := Tryz.zeroValue183
  t173 := Tryz.underlying186
  a173 := Tryz.isAgg186
  z173 := Tryz.sizeOf186
  v173 := Tryz.zeroValue186
  t175 := Tryz.underlying188
  a175 := Tryz.isAgg188
  z175 := Tryz.sizeOf188
  v175 := Tryz.zeroValue188
  t210 := Tryz.underlying192
  a210 := Tryz.isAgg192
  z210 := Tryz.sizeOf192
  v210 := Tryz.zeroValue192
  t212 := Tryz.underlying195
  a212 := Tryz.isAgg195
  z212 := Tryz.sizeOf195
  v212 := Tryz.zeroValue195
  t213 := Tryz.underlying196
  a213 := Tryz.isAgg196
  z213 := Tryz.sizeOf196
  t232 := Tryz.underlying204
  a232 := Tryz.isAgg204
  z232 := Tryz.sizeOf204
  v232 := Tryz.zeroValue204
  t233 := Tryz.underlying205
  a233 := Tryz.isAgg205
  z233 := Tryz.sizeOf205
  v233 := Tryz.zeroValue205
  g15 := by kernel_rfl
  g16 := by kernel_rfl
  g17 := by kernel_rfl
  g18 := by kernel_rfl
  g19 := by kernel_rfl
  t80 := Tryz.underlying105
  a80 := Tryz.isAgg105
  z80 := Tryz.sizeOf105
  v80 := Tryz.zeroValue105
  i0 := by kernel_rfl
  i2 := by kernel_rfl
  i3 := by kernel_rfl
  i4 := by kernel_rfl
  i5 := by kernel_rfl
  i9 := by kernel_rfl
  i20 := by kernel_rfl
  i21 := by kernel_rfl
  i37 := by kernel_rfl
  i46 := by kernel_rfl
  i51 := by kernel_rfl
  i53 := by kernel_rfl
  i75 := by kernel_rfl
  i76 := by kernel_rfl
  i80 := by kernel_rfl
  i85 := by kernel_rfl
  i127 := by kernel_rfl
  i143 := by kernel_rfl
  i145 := by kernel_rfl
  i167 := by kernel_rfl
  i168 := by kernel_rfl
  i171 := by kernel_rfl
  i173 := by kernel_rfl
  i175 := by kernel_rfl
  i210 := by kernel_rfl
  i212 := by kernel_rfl
  i232 := by kernel_rfl
  i233 := by kernel_rfl
  m15 := by kernel_rfl
  m16 := by kernel_rfl
  m17 := by kernel_rfl
  m18 := by kernel_rfl
  m19 := by kernel_rfl
  c0 := by kernel_rfl
  c2 := by kernel_rfl
  c3 := by kernel_rfl
  c4 := by kernel_rfl
  c5 := by kernel_rfl
  c9 := by kernel_rfl
  c20 := by kernel_rfl
  c21 := by kernel_rfl
  c37 := by kernel_rfl
  c46 := by kernel_rfl
  c51 := by kernel_rfl
  c53 := by kernel_rfl
  c75 := by kernel_rfl
  c76 := by kernel_rfl
  c80 := by kernel_rfl
  c85 := by kernel_rfl
  c127 := by kernel_rfl
  c143 := by kernel_rfl
  c145 := by kernel_rfl
  c167 := by kernel_rfl
  c168 := by kernel_rfl
  c171 := by kernel_rfl
  c173 := by kernel_rfl
  c175 := by kernel_rfl
  c210 := by kernel_rfl
  c212 := by kernel_rfl
  c213 := by kernel_rfl
  c232 := by kernel_rfl
  c233 := by kernel_rfl }
open Go.RowKit in
theorem Tryz.strconv_Atoi_ok (s : ByteArray) (hmax : s.size ≤ 9223372036854775806) (v : Int) (h : Lib.atoiAll s.data.toList = .ok v) (w : World) :
    Calls Tryz.prog 91 #[.string s] w fun e w' => e = .returned (.tuple #[.int .i64 v, .nilIface]) ∧ (w' = w ∨ ∃ t, w' = Lib.bytesWorld w 5 t) := Any.strconv_Atoi_ok Tryz.laysC172 s hmax v h w
open Go.RowKit in
theorem Tryz.strconv_Atoi_syntax_var (s : ByteArray) (hlim : s.size ≤ 281474976710656) (h : Lib.atoiAll s.data.toList = Lib.atoiAll []) (tp : TypeId) (p : Value) (w : World) (hvar : w.var? Tryz.prog "strconv.ErrSyntax" = some #[.iface tp p]) :
    Calls Tryz.prog 91 #[.string s] w fun e w' => ∃ N, e = .returned (.tuple #[.int .i64 0, .iface 180 (.pointer (some ⟨N, 0, none⟩))]) ∧ w.heap.size ≤ N ∧ w'.heap[N]? = some (.cells #[.string ⟨#[65, 116, 111, 105]⟩, .string s, .iface tp p] 192 (0, 0)) ∧ Below w.heap.size w w' := Any.strconv_Atoi_syntax_var Tryz.laysC172 s hlim h tp p w hvar
open Go.RowKit in
theorem Tryz.strconv_Atoi_range_var (s : ByteArray) (hlim : s.size ≤ 281474976710656) (h : Lib.atoiAll s.data.toList = .range) (tp : TypeId) (p : Value) (w : World) (hvar : w.var? Tryz.prog "strconv.ErrRange" = some #[.iface tp p]) :
    Calls Tryz.prog 91 #[.string s] w fun e w' => ∃ N, e = .returned (.tuple #[.int .i64 (Lib.atoiSat s.data.toList), .iface 180 (.pointer (some ⟨N, 0, none⟩))]) ∧ w.heap.size ≤ N ∧ w'.heap[N]? = some (.cells #[.string ⟨#[65, 116, 111, 105]⟩, .string s, .iface tp p] 192 (0, 0)) ∧ Below w.heap.size w w' := Any.strconv_Atoi_range_var Tryz.laysC172 s hlim h tp p w hvar
end Go.Proofs
set_option maxRecDepth 8000
namespace Go.Proofs.YtpbnaaoilgohkaaGreatDoor
open Go Go.RowKit
theorem Sim.below {A : Nat → Prop} {ρ : Nat → Loc} {H : Heap} {w w' : World} (s : Sim A ρ H w) (b : Below w.heap.size w w') : Sim A ρ H w' ∧ Fr A ρ H w A ρ H w' := by
  have hK : ∀ b' o, Kof ρ H w b' = some o → Kof ρ H w' b' = some o := fun b' o hb => by
    obtain ⟨h1, h2⟩ := zo.1 hb
    exact zo.2 ⟨h1, by rw [b.block b' (Array.getElem?_eq_some_iff.1 h2).1]; exact h2⟩
  refine ⟨⟨s.live, fun g o ho => ?_, s.inj, s.lay.mono hK⟩, ⟨fun _ h => ⟨rfl, h⟩, hK, b.os, b.tape, b.output, b.size⟩⟩
  exact (s.obj g o ho).mono (b.block _ (s.obj g o ho).block_lt) hK (fun _ h => ⟨rfl, h⟩)
theorem QC.of_calls {P : Program} {f : FuncId} {fn : Func} {c : Code} {args : List AV} {r : AV} (hf : P.funcs[f]? = some fn) (hb : fn.body = some c) (hname : (fn.name == "runtime.NumGoroutine") = false)
    (h : ∀ (K : zh) (ρ : Nat → Loc) (A : Nat → Prop) (w : World) (cargs : Array Value), LayK (fun b => w.heap[b]?) → LRel K ρ A args cargs.toList → Calls P f cargs w fun e w' => (∃ v, e = .returned v ∧ ∀ (K : zh) (ρ : Nat → Loc) (A : Nat → Prop), VRel K ρ A r v) ∧ Below w.heap.size w w') : QC P f args r := by
  intro H nx ρ w cargs s ha
  have hcall : (callFunc f cargs).run P w = .ok (.enter f cargs) w := by
    have hname' : ¬ fn.name = "runtime.NumGoroutine" := by simpa using hname
    simp [callFunc, program, Sem.run_bind, Sem.run, hf, hname', hb, pure]
  rw [hcall]
  simp only [zu]
  refine (h _ _ _ w cargs (s.lay.mono fun b o hb => (zo.1 hb).2) ha).mono fun e w' ⟨⟨v, he, hv⟩, hw⟩ => ?_
  obtain ⟨s', f'⟩ := s.below hw
  exact ⟨v, he, r, H, nx, ρ, ⟨rfl, rfl, rfl⟩, s', hv _ _ _, f'⟩
theorem zaku : (Tryz.prog.globalNamed "internal/strconv.uint64pow10").isSome = true := by kernel_rfl
theorem LayK.tab {w : World} (h : LayK (fun b => w.heap[b]?)) : Lib.TabIs Tryz.prog w "internal/strconv.uint64pow10" .u64 Lib.pow10Tab := by
  obtain ⟨g, hg⟩ := Option.isSome_iff_exists.1 zaku
  obtain ⟨e, m, hc⟩ := h.1 g hg
  unfold Lib.TabIs World.var?
  have hc' : w.heap[g]? = _ := hc
  rw [hg, Option.bind_some, hc']
set_option maxRecDepth 8000 in
theorem zaop (n : Int) (h0 : -9223372036854775808 ≤ n) (h1 : n ≤ 9223372036854775807) : QC Tryz.prog 88 [.int .i64 n] (.str (Lib.itoa n)) := by
  refine QC.of_calls (c := zl Tryz.f88) Tryz.func88 (by kernel_rfl) (by kernel_rfl) fun K ρ A w cargs hl ha => ?_
  have hc : cargs = #[.int .i64 n] := by
    obtain ⟨hlen, hg⟩ := ha
    have hlen' : cargs.toList.length = 1 := hlen
    match he : cargs.toList, hlen' with
    | [v], _ =>
      have := hg 0 (.int .i64 n) v rfl (by rw [he]; rfl)
      cases this
      exact Array.ext' (by rw [he])
  subst hc
  refine (Tryz.strconv_Itoa n h0 h1 w hl.tab).mono fun e w' ⟨he, k, os, hw⟩ => ?_
  subst he hw
  refine ⟨⟨_, rfl, fun K ρ A => .str _⟩, ⟨rfl, rfl, rfl, ?_, fun b hb => ?_⟩⟩
  · simp [Sort.grow, World.drewN]
  · simp only [Sort.grow, World.drewN]
    rw [Array.getElem?_append_left (by simpa using hb)]
end Go.Proofs.YtpbnaaoilgohkaaGreatDoor
set_option maxRecDepth 8000
namespace Go.Proofs.YtpbnaaoilgohkaaGreatDoor
open Go Go.RowKit
theorem zacw : (Tryz.prog.globalNamed "strconv.ErrSyntax").isSome = true := by kernel_rfl
theorem zaga : (Tryz.prog.globalNamed "strconv.ErrRange").isSome = true := by kernel_rfl
theorem LayE.var {n : String} {w : World} (h : LayE n (fun b => w.heap[b]?)) (hn : (Tryz.prog.globalNamed n).isSome = true) : ∃ t p, w.var? Tryz.prog n = some #[.iface t p] := by
  obtain ⟨g, hg⟩ := Option.isSome_iff_exists.1 hn
  obtain ⟨t, p, e, m, hc⟩ := h g hg
  have hc' : w.heap[g]? = _ := hc
  exact ⟨t, p, by unfold World.var?; rw [hg, Option.bind_some, hc']⟩
theorem zadu (w : World) (e : TypeId) (s : ByteArray) : Below w.heap.size w (Lib.bytesWorld w e s) := ⟨rfl, rfl, rfl, by rw [Lib.bytesWorld_size]; omega, fun k hk => Lib.bytesWorld_at_old w e s k hk⟩
def zxl (s : List UInt8) : AV := match Lib.atoiAll s with
  | .ok v => .tup [.int .i64 v, .inil]
  | .range => .tup [.int .i64 (Lib.atoiSat s), .ifc]
  | _ => .tup [.int .i64 0, .ifc]
theorem tup2 {n : Int} {x : AV} {c : Value} (h : ∀ K ρ A, VRel K ρ A x c) (K : zh) (ρ : Nat → Loc) (A : Nat → Prop) : VRel K ρ A (.tup [.int .i64 n, x]) (.tuple #[.int .i64 n, c]) :=
  .tup _ _ rfl fun j v c' hv hc => by
    match j with
    | 0 => cases hv; cases hc; exact .int _ _
    | 1 => cases hv; cases hc; exact h K ρ A
set_option maxRecDepth 8000 in
theorem zaow (s : List UInt8) (h : s.length ≤ 281474976710656) : QC Tryz.prog 91 [.str s] (zxl s) := by
  refine QC.of_calls (c := zl Tryz.f91) Tryz.func91 (by kernel_rfl) (by kernel_rfl) fun K ρ A w cargs hl ha => ?_
  have hc : cargs = #[.string ⟨s.toArray⟩] := by
    obtain ⟨hlen, hg⟩ := ha
    have hlen' : cargs.toList.length = 1 := hlen
    match he : cargs.toList, hlen' with
    | [v], _ =>
      have := hg 0 (.str s) v rfl (by rw [he]; rfl)
      cases this
      exact Array.ext' (by rw [he])
  subst hc
  have hs : (ByteArray.mk s.toArray).size = s.length := by show s.toArray.size = _; simp
  have hd : (ByteArray.mk s.toArray).data.toList = s := by simp
  unfold zxl
  cases hv : Lib.atoiAll s with
  | ok v =>
    refine (Tryz.strconv_Atoi_ok ⟨s.toArray⟩ (by omega) v (by rw [hd]; exact hv) w).mono fun e w' ⟨he, hw⟩ => ⟨⟨_, he, tup2 fun _ _ _ => .inil⟩, ?_⟩
    rcases hw with rfl | ⟨t, rfl⟩
    · exact .refl _ _
    · exact zadu w _ t
  | range =>
    obtain ⟨t, p, hvar⟩ := hl.2.2.1.var zaga
    have hx : Lib.atoiSat (ByteArray.mk s.toArray).data.toList = Lib.atoiSat s := by rw [hd]
    exact (Tryz.strconv_Atoi_range_var ⟨s.toArray⟩ (by omega) (by rw [hd]; exact hv) t p w hvar).mono fun e w' ⟨N, he, _, _, hw⟩ => ⟨⟨_, hx ▸ he, tup2 fun _ _ _ => .ifc _ ⟨_, _, rfl⟩⟩, hw⟩
  | _ =>
    obtain ⟨t, p, hvar⟩ := hl.2.1.var zacw
    exact (Tryz.strconv_Atoi_syntax_var ⟨s.toArray⟩ (by omega) (by rw [hd]; exact hv) t p w hvar).mono fun e w' ⟨N, he, _, _, hw⟩ => ⟨⟨_, he, tup2 fun _ _ _ => .ifc _ ⟨_, _, rfl⟩⟩, hw⟩
end Go.Proofs.YtpbnaaoilgohkaaGreatDoor
set_option maxRecDepth 8000
namespace Go.Proofs.YtpbnaaoilgohkaaGreatDoor
open Go Go.RowKit
theorem QC.nz {P : Program} {f : FuncId} {args : List AV} (h : ∀ H nx, za P f args H nx fun v H' _ => (v = .nils ∨ v = .zs) ∧ Keep nx H' H) : QC P f args .zs := by
  intro H nx
  have h1 : za P f args H nx fun v H' nx' => (v = .nils ∨ v = .zs) ∧ H' = H ∧ nx' = nx := by
    refine za.tidy fun hlive => ?_
    refine (za.gc (R := fun v H' => (v = .nils ∨ v = .zs) ∧ H' = H) (h H nx) fun v H' nx' ⟨h1, h2⟩ => ⟨v, H, ⟨h1, rfl⟩, .same v (by rcases h1 with rfl | rfl; exact .nils; exact .zs), fun g o ho => ⟨hlive g o ho, by rw [h2 g (hlive g o ho)]; exact ho, .inl ho⟩⟩).mono fun v H' nx' ⟨⟨a, b⟩, c⟩ => ⟨a, b, c⟩
  intro ρ w cargs s ha
  refine zj (h1 ρ w cargs s ha) fun cv w' ⟨v, H', nx', ρ', ⟨q1, q2, q3⟩, q4, q5, q6⟩ => ⟨.zs, H', nx', ρ', ⟨rfl, q2, q3⟩, q4, ?_, q6⟩
  rcases q1 with rfl | rfl
  · cases q5; exact .zs none
  · exact q5
def zfd (sz by_ : Nat) (a0 : AV) (H : Heap) (nx : Nat) (Q : QT) : Prop :=
 BL .eql a0 .nils fun v1 =>
 CNDC v1
 (Q .nils H nx)
 (PUTH H nx (.row sz []) fun H2 =>
 APP sz by_ .zs a0 H2 (nx + 1) fun v3 H4 nx5 =>
 Q v3 H4 nx5)
theorem zajh {f sz by_ : Nat} (h : ∀ (a0 : AV) (H : Heap) (nx : Nat) (Q : QT), zfd sz by_ a0 H nx Q → za Tryz.prog f [a0] H nx Q) : QC Tryz.prog f [.ro []] .zs := by
  refine QC.nz fun H nx => h _ H nx _ ?_
  unfold zfd BL BINL
  simp only [zal, CNDC, qk, PURE]
  refine ⟨fun _ => ⟨⟨.inl (by trivial), by simp [Keep]⟩, ?_⟩, fun h => absurd rfl h⟩
  simp only [PUTH, APP, zx, ze, List.all_nil, if_true, List.length_nil, List.flatten_nil, true_and]
  exact ⟨fun _ => ⟨.inr (by trivial), fun g hg => Heap.put_ne _ _ (by omega)⟩, fun h => absurd rfl h⟩
theorem zou {f sz by_ : Nat} (h : ∀ (a0 : AV) (H : Heap) (nx : Nat) (Q : QT), zfd sz by_ a0 H nx Q → za Tryz.prog f [a0] H nx Q) {a : AV} (ha : (∃ g o, a = .slc g o 0) ∨ a = .zs ∨ a = .ro []) (H : Heap) : LC Tryz.prog f [a] H [] [] [] .zs := by
  have hl := LC.of_qc (zajh h) .zs H
  intro A ρ Hm w cargs hB s hr hrd hfr
  refine hl A ρ Hm w cargs hB s ⟨hr.1, fun j v c hv hc => ?_⟩ hrd hfr
  cases j with
  | succ j => simp at hv
  | zero =>
    simp at hv
    subst hv
    have := hr.2 0 a c rfl hc
    rcases ha with ⟨g, o, rfl⟩ | rfl | rfl
    · cases this with
      | slc _ _ _ cap ad h1 h2 h3 => exact .ro [] ad 0 cap 0 0 0 (fun _ _ => undef) rfl (Nat.zero_le _) (fun h => absurd rfl h) (fun x hx => by cases hx) (fun i x j v hx => by simp at hx) (fun i x j v hx => by simp at hx)
    · cases this with
      | zs ad => exact .ro [] ad 0 0 0 0 0 (fun _ _ => undef) rfl (Nat.le_refl _) (fun h => absurd rfl h) (fun x hx => by cases hx) (fun i x j v hx => by simp at hx) (fun i x j v hx => by simp at hx)
    · exact this
def zaeq : List Nat := [81, 82, 79, 80]
theorem zapp (a0 : AV) (H : Heap) (nx : Nat) (Q : QT) : zfd 3 32 a0 H nx Q → za Tryz.prog 81 [a0] H nx Q :=
  zd (lv := lvOf []) (c := zl Tryz.f81) zti zuc mixed Tryz.func81 (by kernel_rfl) (by kernel_rfl) (by kernel_rfl) (by kernel_rfl) (by kernel_rfl)
theorem zapo (a0 : AV) (H : Heap) (nx : Nat) (Q : QT) : zfd 6 64 a0 H nx Q → za Tryz.prog 82 [a0] H nx Q :=
  zd (lv := lvOf []) (c := zl Tryz.f82) zti zuc mixed Tryz.func82 (by kernel_rfl) (by kernel_rfl) (by kernel_rfl) (by kernel_rfl) (by kernel_rfl)
theorem zapn (a0 : AV) (H : Heap) (nx : Nat) (Q : QT) : zfd 3 24 a0 H nx Q → za Tryz.prog 79 [a0] H nx Q :=
  zd (lv := lvOf []) (c := zl Tryz.f79) zti zuc mixed Tryz.func79 (by kernel_rfl) (by kernel_rfl) (by kernel_rfl) (by kernel_rfl) (by kernel_rfl)
theorem zapm (a0 : AV) (H : Heap) (nx : Nat) (Q : QT) : zfd 1 16 a0 H nx Q → za Tryz.prog 80 [a0] H nx Q :=
  zd (lv := lvOf []) (c := zl Tryz.f80) zti zuc mixed Tryz.func80 (by kernel_rfl) (by kernel_rfl) (by kernel_rfl) (by kernel_rfl) (by kernel_rfl)
noncomputable def orcX (f : Nat) (args : List AV) : Option AV := match Nat.beq f 91 with
  | true => match args with
    | [.str s] => match Nat.ble s.length 100000 with | true => some (zxl s) | false => none
    | _ => none
  | false => match Nat.beq f 88 with
    | true => match args with
      | [.int .i64 n] => match !iLt n (-9223372036854775808) && !iLt 9223372036854775807 n with | true => some (.str (Lib.itoa n)) | false => none
      | _ => none
    | false => match zaeq.any (Nat.beq f) with
      | true => match args with
        | [.slc _ _ 0] | [.zs] | [.ro []] => some .zs
        | _ => none
      | false => none
theorem zanc (s : List UInt8) : Bel (fun _ => False) (zxl s) := by
  unfold zxl
  split
  · exact .tup _ fun j v hv => by match j with
                                  | 0 => simp at hv; subst hv; exact .int _ _
                                  | 1 => simp at hv; subst hv; exact .inil
                                  | j + 2 => simp at hv
  · exact .tup _ fun j v hv => by match j with
                                  | 0 => simp at hv; subst hv; exact .int _ _
                                  | 1 => simp at hv; subst hv; exact .ifc
                                  | j + 2 => simp at hv
  · exact .tup _ fun j v hv => by match j with
                                  | 0 => simp at hv; subst hv; exact .int _ _
                                  | 1 => simp at hv; subst hv; exact .ifc
                                  | j + 2 => simp at hv
theorem zaoh : zanr Tryz.prog orcX := by
  intro f args v h H
  unfold orcX at h
  split at h
  · rename_i hf
    rw [Nat.beq_eq] at hf
    subst hf
    split at h
    · split at h
      · rename_i hl
        cases h
        exact LC.of_qc (zaow _ (by have := Nat.le_of_ble_eq_true hl; omega)) (zanc _) H
      · cases h
    · cases h
  · split at h
    · rename_i hf
      rw [Nat.beq_eq] at hf
      subst hf
      split at h
      · split at h
        · rename_i hl
          cases h
          simp only [zabo, Bool.and_eq_true, Bool.not_eq_true', decide_eq_false_iff_not] at hl
          exact LC.of_qc (zaop _ (by omega) (by omega)) (.str _) H
        · cases h
      · cases h
    · split at h
      · rename_i hf
        simp only [zaeq, List.any_cons, List.any_nil, Bool.or_false, Bool.or_eq_true, Nat.beq_eq] at hf
        have fin : ∀ a : AV, (∃ g o, a = .slc g o 0) ∨ a = .zs ∨ a = .ro [] → LC Tryz.prog f [a] H [] [] [] .zs := fun a ha => by
          rcases hf with rfl | rfl | rfl | rfl
          · exact zou zapp ha H
          · exact zou zapo ha H
          · exact zou zapn ha H
          · exact zou zapm ha H
        split at h
        · cases h; exact fin _ (.inl ⟨_, _, rfl⟩)
        · cases h; exact fin _ (.inr (.inl rfl))
        · cases h; exact fin _ (.inr (.inr rfl))
        · cases h
      · cases h
def wfF (P : Program) (f : Nat) : Bool := match P.funcs[f]? with
  | some fn => match fn.body with
    | some c => wfC fn.ntmps c && !(fn.name == "runtime.NumGoroutine")
    | none => true
  | none => true
def okX (f : Nat) : Bool := Nat.blt f 120
theorem zaqb : (List.range 120).all (wfF Tryz.prog) = true := by kernel_rfl
theorem zapd : FnOk Tryz.prog okX := by
  intro f fn c h hf hc
  have := List.all_eq_true.1 zaqb f (List.mem_range.2 (by simpa [okX] using h))
  unfold wfF at this
  rw [hf] at this
  simp only [hc, Bool.and_eq_true, Bool.not_eq_true'] at this
  exact this
noncomputable def zahg (n : Nat) : XCl := xfun tab eqsT Tryz.prog okX orcX n
theorem zamy (n : Nat) : zhi Tryz.prog (zahg n) := zadz zp zq mixed zaoh zapd n
def zya (x : Option (AV × HB × Nat)) : Bool := match x with
  | some (.bool b, _, _) => b
  | _ => false
theorem QC.runs {n : Nat} {f : FuncId} (h : zya (zahg n f [] .nil 0) = true) : QC Tryz.prog f [] (.bool true) := by
  unfold zya at h
  split at h
  · rename_i b H' nx' e
    subst h
    exact QC.closed (zamy n) e (by simp)
  · cases h
end Go.Proofs.YtpbnaaoilgohkaaGreatDoor
set_option maxRecDepth 100000
namespace Go.Proofs.YtpbnaaoilgohkaaGreatDoor
open Go Go.RowKit
theorem zadx : zya (zahg 60 6 [] .nil 0) = true := by kernel_rfl
theorem zajx : QC Tryz.prog 6 [] (.bool true) := QC.runs zadx
end Go.Proofs.YtpbnaaoilgohkaaGreatDoor
set_option maxRecDepth 8000
namespace Go.Proofs.YtpbnaaoilgohkaaGreatDoor
open Go Go.RowKit
end Go.Proofs.YtpbnaaoilgohkaaGreatDoor
set_option maxRecDepth 8000
namespace Go.Proofs.YtpbnaaoilgohkaaGreatDoor
open Go Go.RowKit
theorem zalr {a : Agt} {fs : List Frm} {f : Frm} (l : VM.Gone a fs f) : (VM.withSum (VM.agtB a)).length ≤ 100000000 := by
  have po := VM.prg_ok l.prog
  have st := VM.gone_stk l
  have hl := l.hlen
  have hr := l.room
  have fl : a.frames.length ≤ 12 := by rw [l.fr]; simp; have := l.flen; omega
  obtain ⟨sp, s1, s2, ⟨s3, s4, s5⟩, ⟨f1, f2⟩, ⟨h1, h2⟩⟩ := zws l
  have p1 := zad a.prog.words.length
  have p2 := zad a.prog.codes.length
  have p3 := zct (l := a.prog.words) (f := VM.textB) (k := 4106) fun w hw => by have := zod w; have := sp.words.2 w hw; omega
  have p4 := zct (l := a.prog.codes) (f := VM.codB) (k := 200000) fun c hc => zwc (sp.codes.2 c hc).1
  have pw := po.words
  have pc := po.codes
  have hv : ∀ vs : List Val, I64l vs → vs.length ≤ 16 → (VM.valsB vs).length ≤ 66000 := fun vs q1 q2 => by
    unfold VM.valsB
    have e1 := zad vs.length
    have e2 := zct (l := vs) (f := VM.valB) (k := 4116) fun v hv => by have := zjl v; have := (q1 v hv).2; omega
    rw [List.length_append]
    omega
  have hfl := zct (l := a.frames) (f := VM.frmB) (k := 140000) fun g hg => by
    have e0 := f2 g hg
    have e1 := hv g.vars e0.2.2.1.1 (by have := (st g hg).1; omega)
    have e2 := hv g.stack e0.2.2.2.1 (st g hg).2
    have e3 := zcs [g.fn, g.at_]
    rw [ztx, List.length_append, List.length_append]
    simp only [List.length_cons, List.length_nil] at e3
    omega
  have hcl := zct (l := a.heap) (f := VM.clB) (k := 10000) fun c hc => zaer (h2 c hc).1.2 (h2 c hc).2.2
  have n1 := zad a.id
  have n2 := zad a.trip
  have n3 := zad a.permit.fuel
  have n4 := zad a.permit.room
  have n5 := zad a.permit.hops
  have n6 := zad a.frames.length
  have n7 := zad a.heap.length
  have n8 := zad (WM.sum (VM.agtB a))
  unfold VM.withSum
  rw [List.length_append]
  generalize (WM.num (WM.sum (VM.agtB a))).length = q at *
  unfold VM.agtB VM.prgB
  simp only [List.length_append]
  omega
theorem zaoa (b : Str) (H : Heap) : ze 1 H (.ro (bsR b)) = some (b.length, bsV b, []) := by
  simp only [ze, zbb, zrw]
  rw [if_pos]
  simpa using zjz b
set_option maxRecDepth 20000 in
set_option maxHeartbeats 2000000 in
theorem zapk {c : Str} {H : Heap} {nx : Nat} {Q : QT} (hc : (VM.parse c).2 ≠ 0) (hl : c.length ≤ 4611686018427387904) (hq : ∀ H' n', (∀ y, y < nx → H' y = H y) → Q (.bool true) H' n') :
    za Tryz.prog 8 [.ro (bsR c)] H nx (zce Q) := by
  refine QC.call (zyy c hl) ?_
  have ht : (VM.parse c).1.avs.take 9 = (VM.parse c).1.avs ∧ (VM.parse c).1.avs.length = 9 ∧ (VM.parse c).1.avs.drop 9 = [] := ⟨rfl, rfl, rfl⟩
  have so : ∀ y ∈ (VM.parse c).1.avs, y.one = true := fun y hy => by
    simp [Agt.avs] at hy
    rcases hy with rfl | rfl | rfl | rfl | rfl | rfl | rfl | rfl | rfl <;> rfl
  simp [zce, ht, hc]
  exact ⟨so, hq _ _ fun y hy => by rw [Heap.put_ne _ _ (by omega)]⟩
theorem zaoz {b : Str} {j : Nat} {H : Heap} {kk : AV → Prop} {ki : IntKind} (h : j ≤ b.length) (hk : kk (.ro (bsR (b.take j)))) : SL 1 (.ro (bsR b)) none (some (.int ki (j : Int))) H kk := by
  simp only [SL, zby, lohi, PURE, qk, Int.toNat_natCast]
  refine ⟨by omega, by omega, by rw [zbb]; omega, zjz b, ?_⟩
  have e : (bsR b).take j = bsR (b.take j) := by simp [bsR]
  rw [e]
  simpa using hk
set_option maxRecDepth 20000 in
set_option maxHeartbeats 2000000 in
theorem zado (a : Agt) (n : Int) (more : Str) (ha : a.prog.ok) (hhl : a.heap.length ≤ 4611686018427387904) (hm : more.length ≤ 140737488355328) : QC Tryz.prog 5 [.agg a.avs, .int .i64 n, .ro (bsR more)] (.bool true) := by
  refine QC.of' fun H nx => ?_
  suffices main : ∀ Q : AV → Heap → Nat → Prop, (∀ H' n', Keep nx H' H → Q (.bool true) H' n') → za Tryz.prog 5 [.agg a.avs, .int .i64 n, .ro (bsR more)] H nx Q from main _ fun H' n' h => ⟨zalv, h⟩
  intro Q hQ
  refine zpm _ _ _ H nx _ ?_
  have ht : a.avs.take 9 = a.avs ∧ a.avs.length = 9 ∧ a.avs.drop 9 = [] := ⟨rfl, rfl, rfl⟩
  have hsu : (AV.agg a.avs).sure = true := by simp [Agt.avs]
  unfold zkb
  refine ⟨hsu, ?_⟩
  have hX : (H.put nx (some (.row 9 a.avs))) nx = some (.row 9 a.avs) := Heap.put_at _ _ _
  have xk : Keep nx (H.put nx (some (.row 9 a.avs))) H := fun g hg => by rw [Heap.put_ne _ _ (by omega)]
  show za _ _ _ (H.put nx (some (.row 9 a.avs))) _ _
  generalize (H.put nx (some (.row 9 a.avs))) = X at *
  refine QC.call zajx ?_
  simp [zkc, hX, ht, hsu]
  refine QC.call (zajy a true ha hhl) ?_
  by_cases hg : VM.agent a true = 0
  case neg =>
    simp [zeu, hg]
    exact hQ _ _ xk
  obtain ⟨fs, f, l⟩ := VM.agent_gone hg
  simp [zeu, hg, hX, ht, hsu]
  refine QC.call (zzb l) ?_
  have il : (VM.image a).length ≤ 100000000 := zalr (VM.pack_gone l)
  have cutl := fun m (hm : m < (VM.image a).length) => VM.parse_cut l hm
  have morel := fun (hm : more ≠ []) => VM.parse_more l hm
  generalize hi : VM.image a = img at *
  have fin : ∀ (X2 : Heap) (n2 : Nat), nx + 1 ≤ n2 → Keep nx X2 H → ¬ n < 0 → n < img.length → SL 1 (.ro (bsR img)) none (some (.int .i64 n)) X2 fun v => za Tryz.prog 8 [v] X2 n2 (zce Q) := fun X2 n2 h1 h2 h3 h4 => by
    obtain ⟨j, rfl⟩ := Int.eq_ofNat_of_zero_le (show 0 ≤ n by omega)
    refine zaoz (by omega) (zapk (cutl j (by omega)) (by rw [List.length_take]; omega) fun H' n' hk => hQ _ _ fun y hy => ?_)
    exact (hk y (by omega)).trans (h2 y hy)
  by_cases hmo : more = []
  · subst hmo
    simp [zev, zbb]
    refine ⟨fun _ => hQ _ _ xk, fun h1 => ⟨fun _ => hQ _ _ xk, fun h2 => ?_⟩⟩
    exact fin X (nx + 1) (Nat.le_refl _) xk (by omega) h2
  have hpos : 0 < more.length := List.length_pos_iff.2 hmo
  simp [zev, zbb, hpos, zaoa]
  refine ⟨List.all_eq_true.1 (zus _), by omega, List.all_eq_true.1 (zus _), by rw [zfq]; exact Nat.le_refl _, by omega, ?_⟩
  generalize hY : Heap.put _ (nx + 1 + 1 + 1) _ = Y
  have y1 : Y (nx + 1 + 1 + 1) = some (.row 1 (bsV (img ++ more))) := by
    rw [← hY, Heap.put_at, zyg, List.take_of_length_le (by rw [zfq]; exact Nat.le_refl _)]
  have yk : ∀ y, y < nx + 1 → Y y = X y := fun y hy => by rw [← hY]; repeat' first | rw [Heap.put_ne _ _ (by omega)] | rfl
  clear hY
  let G : Nat → Prop := fun y => y = nx + 1 + 1 + 1
  let Z : Heap := fun y => if y < nx + 1 then Y y else none
  have z0 : ∀ g o, Z g = some o → ¬ G g ∧ Y g = some o := fun g o hg => by
    by_cases h : g < nx + 1
    · simp only [Z, if_pos h] at hg
      exact ⟨by simp only [G]; omega, hg⟩
    · simp only [Z, if_neg h] at hg; cases hg
  have zk : Keep nx Z H := fun y hy => by simp only [Z, if_pos (show y < nx + 1 by omega)]; rw [yk y (by omega)]; exact xk y hy
  have fz : FrzP Y G (.slc (nx + 1 + 1 + 1) 0 (img.length + more.length)) (.ro (bsR (img ++ more))) := by
    refine Slot.frzP (sz := 1) ?_ (fun g hg => by simp [own] at hg; simp only [G]; omega) (zjz _)
    rw [zbb, zrw, List.length_append]
    exact Slot.full y1 (by rw [zfq, List.length_append, Nat.mul_one])
  refine za.thaw (args := [.ro (bsR (img ++ more))]) (H0 := Z) (G := G) ?_ (zes.cons fz .nil) z0
  clear_value Z G
  refine QC.call (zyy _ (by rw [List.length_append]; omega)) ?_
  have pt : (VM.parse (img ++ more)).1.avs.take 9 = (VM.parse (img ++ more)).1.avs ∧ (VM.parse (img ++ more)).1.avs.length = 9 ∧ (VM.parse (img ++ more)).1.avs.drop 9 = [] := ⟨rfl, rfl, rfl⟩
  have so : ∀ y ∈ (VM.parse (img ++ more)).1.avs, y.one = true := fun y hy => by
    simp [Agt.avs] at hy
    rcases hy with rfl | rfl | rfl | rfl | rfl | rfl | rfl | rfl | rfl <;> rfl
  have sk : ∀ o, Keep nx (Z.put (nx + 4) o) H := fun o y hy => by rw [Heap.put_ne _ _ (by omega)]; exact zk y hy
  simp [zkd, pt, morel hmo, zbb]
  refine ⟨so, fun _ => hQ _ _ (sk _), fun h1 => ⟨fun _ => hQ _ _ (sk _), fun h2 => ?_⟩⟩
  exact fin _ _ (by omega) (sk _) (by omega) h2
end Go.Proofs.YtpbnaaoilgohkaaGreatDoor
set_option maxRecDepth 8000
namespace Go.Proofs.YtpbnaaoilgohkaaGreatDoor
open Go Go.RowKit
theorem LayE.of_var {n : String} {w : World} {t : TypeId} {p : Value} (h : w.var? Tryz.prog n = some #[.iface t p]) : LayE n (fun b => w.heap[b]?) := fun g hg => by
  unfold World.var? at h
  rw [hg, Option.bind_some] at h
  split at h
  · rename_i cs e m hc
    cases h
    exact ⟨_, _, e, m, hc⟩
  · cases h
theorem zabw : "*" ++ "errors.errorString" = "*errors.errorString" := by decide
theorem zaen (u : TypeId) (h : Tryz.prog.typeName? 3 u = some "*errors.errorString") : u = 200 :=
  typeName_ptr_named (nm := "errors.errorString") (by rw [zabw]; kernel_rfl) (by kernel_rfl) (by decide) u (by rw [zabw]; exact h)
theorem zagm {r : List (String × DataW Unit)} {text : List UInt8} {W : World} (h : laidMet Tryz.prog (("strconv.ErrRange", .iface "*errors.errorString" (.ptr (.agg [.lit (.string text)]))) :: r) W) : LayE "strconv.ErrRange" (fun b => W.heap[b]?) := by
  obtain ⟨a, s, h1, _⟩ := laid_sentinel (g := 1) (ti := 172) (tp := 200) (te := 202) (ts := 9) h (by kernel_rfl) (by kernel_rfl) Tryz.underlying172 zaen Tryz.underlying200 Tryz.underlying202 rfl rfl Tryz.underlying9 (by kernel_rfl) (by kernel_rfl)
  exact .of_var h1
theorem zadn {r : List (String × DataW Unit)} {text : List UInt8} {W : World} (h : laidMet Tryz.prog (("strconv.ErrSyntax", .iface "*errors.errorString" (.ptr (.agg [.lit (.string text)]))) :: r) W) : LayE "strconv.ErrSyntax" (fun b => W.heap[b]?) := by
  obtain ⟨a, s, h1, _⟩ := laid_sentinel (g := 0) (ti := 172) (tp := 200) (te := 202) (ts := 9) h (by kernel_rfl) (by kernel_rfl) Tryz.underlying172 zaen Tryz.underlying200 Tryz.underlying202 rfl rfl Tryz.underlying9 (by kernel_rfl) (by kernel_rfl)
  exact .of_var h1
end Go.Proofs.YtpbnaaoilgohkaaGreatDoor
