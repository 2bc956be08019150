/- The heights of what is made: a plain law. The heights of statements' code; Heights tells nothing wrong. What is made: its numbers are right; its texts and variables are those that were looked at. What is made: statements' numbers. What is made is right: the plain law. What is made of a right text's functions is a right program. What is to be shown of each function, written out. What is to be shown of each function, written out. -/
import Derived.Test.YtpllgpgdcbgalaaDoorG9
import Derived.Test.YtpllgpgdcbgalaaDoorG6
import Derived.Test.YtpllgpgdcbgalaaDoorG5
set_option linter.unusedSimpArgs false
set_option linter.unusedVariables false
set_option maxRecDepth 8000
namespace Go.Proofs.YtpllgpgdcbgalaaDoor
open Go Go.RowKit
namespace VM
def HFit (at_ : Nat → Nat → Prop) (p : Nat) (i : Ins) (h : Nat) : Prop :=
  (effect i).1 ≤ (h : Int) ∧ (i.op = 18 → h = 1) ∧ ∃ h' : Nat, (h : Int) + (effect i).2 - (effect i).1 = h' ∧ h' ≤ 16 ∧ (i.op ≠ 15 → i.op ≠ 18 → at_ (p + 1) h') ∧ (i.op = 15 ∨ i.op = 16 → ∃ q : Nat, i.a = q ∧ at_ q h')
theorem HFit.mono {A B : Nat → Nat → Prop} {p : Nat} {i : Ins} {h : Nat} (f : HFit A p i h) (hm : ∀ q k, A q k → B q k) : HFit B p i h := by
  obtain ⟨a, b, h', c, d, e, g⟩ := f
  exact ⟨a, b, h', c, d, fun x y => hm _ _ (e x y), fun x => by obtain ⟨q, q1, q2⟩ := g x; exact ⟨q, q1, hm _ _ q2⟩⟩
def At (b : Nat) (T : List Nat) (x : Nat) (p h : Nat) : Prop := b ≤ p ∧ (T ++ [x])[p - b]? = some h
structure Hts (b : Nat) (I : List Ins) (T : List Nat) (x : Nat) : Prop where
  len : T.length = I.length
  fit : ∀ k i h, I[k]? = some i → T[k]? = some h → HFit (At b T x) (b + k) i h
theorem Hts.nil (b x : Nat) : Hts b [] [] x := ⟨rfl, fun k i h hi _ => by simp at hi⟩
theorem Hts.app {b m x : Nat} {I J : List Ins} {T U : List Nat} (g1 : Hts b I T m) (g2 : Hts (b + I.length) J U x) (hm : (U ++ [x])[0]? = some m) : Hts b (I ++ J) (T ++ U) x := by
  have l1 := g1.len
  have l2 := g2.len
  have m1 : ∀ q h, At b T m q h → At b (T ++ U) x q h := by
    rintro q h ⟨a, c⟩
    refine ⟨a, ?_⟩
    rw [List.append_assoc]
    by_cases hq : q - b < T.length
    · rw [List.getElem?_append_left hq] at c ⊢; exact c
    · rw [List.getElem?_append_right (by omega)] at c ⊢
      have h0 : q - b - T.length = 0 := by
        have := (List.getElem?_eq_some_iff.1 c).1
        simp at this
        omega
      rw [h0] at c ⊢
      simp at c
      rw [hm, c]
  have m2 : ∀ q h, At (b + I.length) U x q h → At b (T ++ U) x q h := by
    rintro q h ⟨a, c⟩
    refine ⟨by omega, ?_⟩
    rw [List.append_assoc, List.getElem?_append_right (by omega), show q - b - T.length = q - (b + I.length) from by omega]
    exact c
  refine ⟨by simp [l1, l2], fun k i h hi ht => ?_⟩
  by_cases hk : k < I.length
  · rw [List.getElem?_append_left hk] at hi
    rw [List.getElem?_append_left (by omega)] at ht
    exact (g1.fit k i h hi ht).mono m1
  · rw [List.getElem?_append_right (by omega)] at hi ht
    rw [l1] at ht
    have := (g2.fit _ i h hi ht).mono m2
    rw [show b + I.length + (k - I.length) = b + k from by omega] at this
    exact this
theorem Hts.one {b h x : Nat} {i : Ins} (h1 : (effect i).1 ≤ (h : Int)) (h2 : (h : Int) + (effect i).2 - (effect i).1 = x) (h3 : x ≤ 16) (n15 : i.op ≠ 15) (n16 : i.op ≠ 16) (n18 : i.op = 18 → h = 1) : Hts b [i] [h] x := by
  refine ⟨rfl, fun k j h' hi ht => ?_⟩
  cases k with
  | succ k => simp at hi
  | zero =>
    simp at hi ht
    subst hi; subst ht
    refine ⟨h1, n18, x, h2, h3, fun _ _ => ⟨by omega, ?_⟩, fun h => h.elim (fun h => absurd h n15) fun h => absurd h n16⟩
    rw [show b + 0 + 1 - b = 1 from by omega]
    rfl
mutual
def exT : Ex → Nat → List Nat
  | .mk _ _ _ ar, a => exTL ar a ++ [a + ar.length]
def exTL : List Ex → Nat → List Nat
  | [], _ => []
  | x :: r, a => exT x a ++ exTL r (a + 1)
end
mutual
theorem exT_head : ∀ (x : Ex) (a : Nat), (exT x a)[0]? = some a
  | .mk _ _ _ ar, a => by
    unfold exT
    exact exTL_head ar a
theorem exTL_head : ∀ (l : List Ex) (a : Nat), (exTL l a ++ [a + l.length])[0]? = some a
  | [], a => by simp [exTL]
  | x :: r, a => by
    unfold exTL
    have h := exT_head x a
    have hp : 0 < (exT x a).length := (List.getElem?_eq_some_iff.1 h).1
    rw [List.append_assoc, List.getElem?_append_left hp]
    exact h
end
theorem dpA_shift : ∀ (l : List Ex) (i a : Nat), dpA l (i + a) ≤ dpA l i + a
  | [], i, a => by simp [dpA]
  | x :: r, i, a => by
    have := dpA_shift r (i + 1) a
    unfold dpA
    rw [show i + a + 1 = i + 1 + a from by omega]
    omega
mutual
theorem good_ex (names : List Str) (env : Env) : ∀ (x : Ex) (ws : List Str) (b a : Nat), okEx x → a + dpE x ≤ 16 → Hts b (exI names env x ws).2 (exT x a) (a + 1)
  | .mk k z t ar, ws, b, a, ho, hd => by
    unfold okEx at ho
    unfold dpE at hd
    unfold exI exT
    have h1 := good_exL names env ar ws b a ho.2 (by have := dpA_shift ar 0 a; rw [Nat.zero_add] at this; omega)
    have hok := ho.1
    have ht := exTL_head ([] : List Ex) (a + ar.length)
    refine Hts.app h1 ?_ (m := a + ar.length) rfl
    generalize (exIL names env ar ws).1 = ws1
    unfold hdOk at hok
    unfold hdI
    rcases hok with ⟨rfl, h, _⟩ | ⟨rfl, h, _⟩ | ⟨rfl, h⟩ | ⟨rfl, h, _⟩ | ⟨rfl, h⟩ | ⟨rfl, h⟩ | ⟨rfl, h⟩ | ⟨rfl, h⟩ | ⟨rfl, h⟩ | ⟨rfl, h⟩ | ⟨rfl, h⟩ <;>
      simp only [Int.reduceEq, if_true, if_false, opE] <;> refine Hts.one ?_ ?_ (by omega) ?_ ?_ ?_ <;> simp [effect] <;> omega
theorem good_exL (names : List Str) (env : Env) : ∀ (l : List Ex) (ws : List Str) (b a : Nat), okExL l → dpA l a ≤ 16 → Hts b (exIL names env l ws).2 (exTL l a) (a + l.length)
  | [], ws, b, a, _, _ => by unfold exIL exTL; exact Hts.nil _ _
  | x :: r, ws, b, a, ho, hd => by
    unfold okExL at ho
    unfold dpA at hd
    unfold exIL exTL
    have h1 := good_ex names env x ws b a ho.1 (by omega)
    have h2 := good_exL names env r (exI names env x ws).1 (b + (exI names env x ws).2.length) (a + 1) ho.2 (by omega)
    have e : a + (x :: r).length = a + 1 + r.length := by simp; omega
    rw [e]
    exact Hts.app h1 h2 (exTL_head r (a + 1))
end
end VM
end Go.Proofs.YtpllgpgdcbgalaaDoor
set_option maxRecDepth 8000
namespace Go.Proofs.YtpllgpgdcbgalaaDoor
open Go Go.RowKit
namespace VM
def HtsG (A : Nat → Nat → Prop) (b : Nat) (I : List Ins) (T : List Nat) : Prop := ∀ k i h, I[k]? = some i → T[k]? = some h → HFit A (b + k) i h
theorem HtsG.nil {A : Nat → Nat → Prop} {b : Nat} {T : List Nat} : HtsG A b [] T := fun k i h hi _ => by simp at hi
theorem HtsG.cons {A : Nat → Nat → Prop} {b h : Nat} {i : Ins} {I : List Ins} {T : List Nat} (h1 : HFit A b i h) (h2 : HtsG A (b + 1) I T) : HtsG A b (i :: I) (h :: T) := fun k j h' hi ht => by
  cases k with
  | zero => simp at hi ht; subst hi; subst ht; exact h1
  | succ k =>
    simp at hi ht
    have := h2 k j h' hi ht
    rwa [show b + 1 + k = b + (k + 1) from by omega] at this
theorem HtsG.app {A : Nat → Nat → Prop} {b : Nat} {I J : List Ins} {T U : List Nat} (hl : T.length = I.length) (h1 : HtsG A b I T) (h2 : HtsG A (b + I.length) J U) : HtsG A b (I ++ J) (T ++ U) := fun k i h hi ht => by
  by_cases hk : k < I.length
  · rw [List.getElem?_append_left hk] at hi
    rw [List.getElem?_append_left (by omega)] at ht
    exact h1 k i h hi ht
  · rw [List.getElem?_append_right (by omega)] at hi ht
    rw [hl] at ht
    have := h2 _ i h hi ht
    rwa [show b + I.length + (k - I.length) = b + k from by omega] at this
theorem Hts.to {A : Nat → Nat → Prop} {b x : Nat} {I : List Ins} {T : List Nat} (g : Hts b I T x) (hA : ∀ q h, At b T x q h → A q h) : HtsG A b I T := fun k i h hi ht => (g.fit k i h hi ht).mono hA
theorem at_sub {b x m : Nat} {X U R : List Nat} (hm : (R ++ [x])[0]? = some m) {q h : Nat} (ha : At (b + X.length) U m q h) : At b (X ++ (U ++ R)) x q h := by
  obtain ⟨a, c⟩ := ha
  refine ⟨by omega, ?_⟩
  rw [List.append_assoc, List.append_assoc, List.getElem?_append_right (by omega), show q - b - X.length = q - (b + X.length) from by omega]
  by_cases hq : q - (b + X.length) < U.length
  · rw [List.getElem?_append_left hq] at c ⊢; exact c
  · rw [List.getElem?_append_right (by omega)] at c ⊢
    have h0 : q - (b + X.length) - U.length = 0 := by
      have := (List.getElem?_eq_some_iff.1 c).1
      simp at this
      omega
    rw [h0] at c ⊢
    simp at c
    rw [hm, c]
mutual
def stT : Sm → List Nat
  | .mk k _ ar t e => exTL ar 0 ++ (ar.length :: (if k = 3 then stTL t ++ 0 :: stTL e else if k = 4 then stTL t ++ [0] else []))
def stTL : List Sm → List Nat
  | [] => []
  | x :: r => stT x ++ stTL r
end
theorem stT_head (x : Sm) : (stT x)[0]? = some 0 := by
  obtain ⟨k, nm, ar, t, e⟩ := x
  unfold stT
  have h := exTL_head ar 0
  rw [Nat.zero_add] at h
  generalize (if k = 3 then stTL t ++ 0 :: stTL e else if k = 4 then stTL t ++ [0] else []) = R
  rw [show exTL ar 0 ++ (ar.length :: R) = (exTL ar 0 ++ [ar.length]) ++ R from by simp, List.getElem?_append_left (by simp)]
  exact h
theorem stTL_head (l : List Sm) : (stTL l ++ [0])[0]? = some 0 := by
  cases l with
  | nil => rfl
  | cons x r =>
    unfold stTL
    have h := stT_head x
    have hp : 0 < (stT x).length := (List.getElem?_eq_some_iff.1 h).1
    rw [List.append_assoc, List.getElem?_append_left hp]
    exact h
theorem stTL_head' (l : List Sm) (R : List Nat) : (stTL l ++ 0 :: R)[0]? = some 0 := by
  rw [show stTL l ++ 0 :: R = (stTL l ++ [0]) ++ R from by simp, List.getElem?_append_left (by simp)]
  exact stTL_head l
set_option maxHeartbeats 2000000 in
mutual
theorem good_st (names : List Str) : ∀ (x : Sm) (env : Env) (b : Nat) (s : MkS), okSm x → hiS x ≤ 16 → Hts b (stI names env b x s).2.2 (stT x) 0
  | .mk k nm ar t e, env, b, s, ho, hh => by
    unfold okSm at ho
    obtain ⟨⟨ok1, ok9⟩, oar, oe, ot, oa, oT, oE⟩ := ho
    unfold hiS at hh
    have ga := good_exL names env ar s.1 b 0 oa (by omega)
    rw [Nat.zero_add] at ga
    have gt := fun (b : Nat) (s : MkS) (h : hiL t ≤ 16) => good_stL names t env b s oT h
    have ge := fun (b : Nat) (s : MkS) (h : hiL e ≤ 16) => good_stL names e env b s oE h
    have la := ga.len
    have two : ∀ i : Ins, (effect i).1 ≤ (ar.length : Int) → (ar.length : Int) + (effect i).2 - (effect i).1 = (0 : Nat) → i.op ≠ 15 → i.op ≠ 16 → (i.op = 18 → ar.length = 1) → Hts b ((exIL names env ar s.1).2 ++ [i]) (exTL ar 0 ++ [ar.length]) 0 := fun i h1 h2 h3 h4 h5 =>
      Hts.app ga (Hts.one h1 h2 (by omega) h3 h4 h5) rfl
    unfold stI stT
    simp only
    have oar' := oar
    unfold argsOf at oar'
    by_cases k1 : k = 1
    · subst k1
      simp only [Int.reduceEq, if_true, if_false, or_self] at oar' ⊢
      refine two _ ?_ ?_ ?_ ?_ ?_ <;> simp [effect] <;> omega
    by_cases k2 : k = 2
    · subst k2
      simp only [Int.reduceEq, if_true, if_false, or_self] at oar' ⊢
      refine two _ ?_ ?_ ?_ ?_ ?_ <;> simp [effect] <;> omega
    by_cases k3 : k = 3
    · subst k3
      have l1 : ar.length = 1 := by simpa using oar'
      simp only [Int.reduceEq, if_true, if_false] at hh ⊢
      have g1 := gt (b + (exIL names env ar s.1).2.length + 1) ((exIL names env ar s.1).1, s.2) (by omega)
      generalize stIL names env (b + (exIL names env ar s.1).2.length + 1) t ((exIL names env ar s.1).1, s.2) = t' at *
      have g2 := ge (b + (exIL names env ar s.1).2.length + 1 + t'.2.length + 1) t'.1 (by omega)
      generalize stIL names env (b + (exIL names env ar s.1).2.length + 1 + t'.2.length + 1) e t'.1 = e' at *
      generalize (exIL names env ar s.1).2 = I at *
      generalize exTL ar 0 = X at *
      have lt := g1.len
      have le := g2.len
      have ht := stTL_head t
      have he := stTL_head e
      have ht' := stTL_head' t (stTL e ++ [0])
      generalize stTL t = U at *
      generalize stTL e = V at *
      rw [l1] at ga ⊢
      refine ⟨by simp [la, lt, le], ?_⟩
      show HtsG (At b (X ++ 1 :: (U ++ 0 :: V)) 0) b _ _
      refine HtsG.app la (ga.to fun q h ha => ?_) (HtsG.cons ?_ (HtsG.app lt (g1.to fun q h ha => ?_) (HtsG.cons ?_ ?_)))
      · have := at_sub (b := b) (x := 0) (X := []) (U := X) (R := 1 :: (U ++ 0 :: V)) (m := 1) rfl (by simpa using ha)
        simpa using this
      · refine ⟨by simp [effect], by simp, 0, by simp [effect], by omega, fun _ _ => ⟨by omega, ?_⟩, fun _ => ⟨_, rfl, by omega, ?_⟩⟩
        · rw [show b + I.length + 1 - b = I.length + 1 from by omega, List.append_assoc, List.getElem?_append_right (by omega), la, show I.length + 1 - I.length = 1 from by omega]
          simpa using ht'
        · rw [show b + I.length + 1 + t'.2.length + 1 - b = I.length + (1 + (t'.2.length + 1)) from by omega, List.append_assoc, List.getElem?_append_right (by omega), la, show I.length + (1 + (t'.2.length + 1)) - I.length = t'.2.length + 1 + 1 from by omega]
          simp only [List.cons_append, List.getElem?_cons_succ, List.append_assoc]
          rw [List.getElem?_append_right (by omega), lt, show t'.2.length + 1 - t'.2.length = 1 from by omega]
          simpa using he
      · have := at_sub (b := b) (x := 0) (X := X ++ [1]) (U := U) (R := 0 :: V) (m := 0) rfl (q := q) (h := h) (by rw [List.length_append, la]; exact ha)
        simpa using this
      · refine ⟨by simp [effect], by simp, 0, by simp [effect], by omega, fun h => absurd rfl h, fun _ => ⟨_, rfl, by omega, ?_⟩⟩
        rw [List.getElem?_append_right (by simp [la, lt, le]; omega)]
        have : b + I.length + 1 + t'.2.length + 1 + e'.2.length - b - (X ++ 1 :: (U ++ 0 :: V)).length = 0 := by simp [la, lt, le]; omega
        rw [this]; rfl
      · have g2' := g2.to (A := At b (X ++ 1 :: (U ++ 0 :: V)) 0) fun q h ha => by
          have := at_sub (b := b) (x := 0) (X := X ++ 1 :: (U ++ [0])) (U := V) (R := []) (m := 0) rfl (q := q) (h := h) (by
            have e0 : (X ++ 1 :: (U ++ [0])).length = I.length + 1 + t'.2.length + 1 := by simp [la, lt]; omega
            rw [e0, ← Nat.add_assoc, ← Nat.add_assoc, ← Nat.add_assoc]; exact ha)
          simpa using this
        exact g2'
    by_cases k4 : k = 4
    · subst k4
      have l1 : ar.length = 1 := by simpa using oar'
      simp only [Int.reduceEq, if_true, if_false] at hh ⊢
      have g1 := gt (b + (exIL names env ar s.1).2.length + 1) ((exIL names env ar s.1).1, s.2) (by omega)
      generalize stIL names env (b + (exIL names env ar s.1).2.length + 1) t ((exIL names env ar s.1).1, s.2) = t' at *
      have hx := exTL_head ar 0
      rw [Nat.zero_add] at hx
      generalize (exIL names env ar s.1).2 = I at *
      generalize exTL ar 0 = X at *
      have lt := g1.len
      have ht := stTL_head t
      have ht' := stTL_head' t [0]
      generalize stTL t = U at *
      rw [l1] at ga hx ⊢
      refine ⟨by simp [la, lt], ?_⟩
      show HtsG (At b (X ++ 1 :: (U ++ [0])) 0) b _ _
      refine HtsG.app la (ga.to fun q h ha => ?_) (HtsG.cons ?_ (HtsG.app lt (g1.to fun q h ha => ?_) (HtsG.cons ?_ .nil)))
      · have := at_sub (b := b) (x := 0) (X := []) (U := X) (R := 1 :: (U ++ [0])) (m := 1) rfl (by simpa using ha)
        simpa using this
      · refine ⟨by simp [effect], by simp, 0, by simp [effect], by omega, fun _ _ => ⟨by omega, ?_⟩, fun _ => ⟨_, rfl, by omega, ?_⟩⟩
        · rw [show b + I.length + 1 - b = I.length + 1 from by omega, List.append_assoc, List.getElem?_append_right (by omega), la, show I.length + 1 - I.length = 1 from by omega]
          simpa using ht'
        · rw [List.getElem?_append_right (by simp [la, lt]; omega)]
          have : b + I.length + 1 + t'.2.length + 1 - b - (X ++ 1 :: (U ++ [0])).length = 0 := by simp [la, lt]; omega
          rw [this]; rfl
      · have := at_sub (b := b) (x := 0) (X := X ++ [1]) (U := U) (R := [0]) (m := 0) rfl (q := q) (h := h) (by rw [List.length_append, la]; exact ha)
        simpa using this
      · refine ⟨by simp [effect], by simp, 0, by simp [effect], by omega, fun h => absurd rfl h, fun _ => ⟨b, rfl, by omega, ?_⟩⟩
        rw [Nat.sub_self, show (X ++ 1 :: (U ++ [0])) ++ [0] = (X ++ [1]) ++ (U ++ [0, 0]) from by simp, List.getElem?_append_left (by simp)]
        exact hx
    rw [if_neg k1, if_neg k2, if_neg k3, if_neg k4, if_neg k3, if_neg k4]
    rcases (by omega : k = 5 ∨ k = 6 ∨ k = 7 ∨ k = 8 ∨ k = 9) with rfl | rfl | rfl | rfl | rfl
    all_goals
      simp only [opS, Int.reduceEq, if_true, if_false, or_self, or_true, true_or] at oar' ⊢
      refine two _ ?_ ?_ ?_ ?_ ?_ <;> simp [effect] <;> omega
theorem good_stL (names : List Str) : ∀ (l : List Sm) (env : Env) (b : Nat) (s : MkS), okSmL l → hiL l ≤ 16 → Hts b (stIL names env b l s).2 (stTL l) 0
  | [], env, b, s, _, _ => by unfold stIL stTL; exact Hts.nil _ _
  | x :: r, env, b, s, ho, hh => by
    unfold okSmL at ho
    unfold hiL at hh
    unfold stIL stTL
    exact Hts.app (good_st names x env b s ho.1 (by omega)) (good_stL names r _ _ _ ho.2 (by omega)) (stTL_head r)
end
theorem go_ok {A : Nat → Nat → Prop} {ins : List Ins} (hf : ∀ p h, A p h → ∃ i, ins[p]? = some i ∧ HFit A p i h) (hu : ∀ p h k, A p h → A p k → h = k) : ∀ (fuel : Nat) (q : List (Int × Int)) (out : List Int), (∀ x ∈ q, ∃ p h : Nat, x = ((p : Int), (h : Int)) ∧ A p h) → out.length = ins.length → (∀ p h, A p h → 0 ≤ out.getD p 0 → out.getD p 0 = (h : Int)) → (heightsGo ins fuel q out).2 = 0
  | 0, q, out, _, _, _ => rfl
  | f + 1, [], out, _, _, _ => rfl
  | f + 1, (at_, h) :: q, out, hq, hl, ho => by
    obtain ⟨p, h', e, ha⟩ := hq (at_, h) (by simp)
    cases e
    obtain ⟨i, hi, f1, f2, g, f3, f4, f5, f6⟩ := hf p h' ha
    unfold heightsGo
    have hp0 : (0 : Int) ≤ (p : Int) := by omega
    rw [if_pos hp0, Int.toNat_natCast, hi]
    simp only
    by_cases h0 : 0 ≤ out.getD p 0
    · rw [if_pos h0, if_neg (by rw [ho p h' ha h0]; simp)]
      exact go_ok hf hu f q out (fun x hx => hq x (by simp [hx])) hl ho
    · rw [if_neg h0, if_neg (fun hc => hc.elim (fun h => absurd h (by omega)) fun ⟨h, h2⟩ => h2 (by rw [f2 h]; rfl)), if_neg (by omega), f3]
      refine go_ok hf hu f _ _ (fun x hx => ?_) (by rw [List.length_set]; exact hl) (fun p2 h2 ha2 h02 => ?_)
      · rcases List.mem_append.1 hx with hx | hx
        · rcases List.mem_append.1 hx with hx | hx
          · exact hq x (by simp [hx])
          · split at hx
            · rename_i hc
              rw [List.mem_singleton.1 hx]
              exact ⟨p + 1, g, by simp, f5 hc.1 hc.2⟩
            · simp at hx
        · split at hx
          · rename_i hc
            obtain ⟨t, t1, t2⟩ := f6 hc
            rw [List.mem_singleton.1 hx, t1]
            exact ⟨t, g, rfl, t2⟩
          · simp at hx
      · have hpl : p < out.length := by rw [hl]; exact (List.getElem?_eq_some_iff.1 hi).1
        by_cases hpp : p2 = p
        · subst hpp
          have := hu _ _ _ ha ha2
          subst this
          simp [List.getD_eq_getElem?_getD, List.getElem?_set, hpl]
        · have e : (out.set p (h' : Int)).getD p2 0 = out.getD p2 0 := by
            simp only [List.getD_eq_getElem?_getD]
            rw [List.getElem?_set_ne (by omega)]
          rw [e] at h02 ⊢
          exact ho p2 h2 ha2 h02
theorem heights_ok (names : List Str) (l : List Sm) (env : Env) (s : MkS) (ho : okSmL l) (hh : hiL l ≤ 16) : (heights ((stIL names env 0 l s).2 ++ [⟨1, 0, 0⟩, ⟨18, 0, 0⟩])).2 = 0 := by
  have g := good_stL names l env 0 s ho hh
  have hd := stTL_head l
  have hd' := stTL_head' l [1]
  generalize (stIL names env 0 l s).2 = I at *
  generalize stTL l = T at *
  have hl := g.len
  have hA : HtsG (fun p h => (T ++ [0, 1])[p]? = some h) 0 (I ++ [⟨1, 0, 0⟩, ⟨18, 0, 0⟩]) (T ++ [0, 1]) := by
    refine HtsG.app hl (g.to fun q h ha => ?_) (HtsG.cons ?_ (HtsG.cons ?_ .nil))
    · obtain ⟨_, a⟩ := ha
      rw [Nat.sub_zero] at a
      show (T ++ [0, 1])[q]? = some h
      rw [show T ++ [0, 1] = (T ++ [0]) ++ [1] from by simp, List.getElem?_append_left (List.getElem?_eq_some_iff.1 a).1]
      exact a
    · refine ⟨by simp [effect], by simp, 1, by simp [effect], by omega, fun _ _ => ?_, fun h => by simp at h⟩
      show (T ++ [0, 1])[_]? = some 1
      rw [List.getElem?_append_right (by omega), hl, show 0 + I.length + 1 - I.length = 1 from by omega]
      rfl
    · exact ⟨by simp [effect], by simp, 0, by simp [effect], by omega, fun _ h => by simp at h, fun h => by simp at h⟩
  unfold heights
  refine go_ok (A := fun p h => (T ++ [0, 1])[p]? = some h) (fun p h ha => ?_) (fun p h k h1 h2 => by rw [h1] at h2; exact Option.some.inj h2) _ _ _ (fun x hx => ?_) (by simp) (fun p h ha h0 => ?_)
  · have hlt := (List.getElem?_eq_some_iff.1 ha).1
    have hlt' : p < (I ++ [(⟨1, 0, 0⟩ : Ins), ⟨18, 0, 0⟩]).length := by simp at hlt ⊢; omega
    have := hA p _ h (List.getElem?_eq_getElem hlt') ha
    rw [Nat.zero_add] at this
    exact ⟨_, List.getElem?_eq_getElem hlt', this⟩
  · rw [List.mem_singleton.1 hx]
    exact ⟨0, 0, rfl, hd'⟩
  · have hlt := (List.getElem?_eq_some_iff.1 ha).1
    have hlt' : p < (I ++ [(⟨1, 0, 0⟩ : Ins), ⟨18, 0, 0⟩]).length := by simp at hlt ⊢; omega
    rw [List.getD_eq_getElem?_getD, List.getElem?_replicate, if_pos hlt'] at h0
    simp at h0
end VM
end Go.Proofs.YtpllgpgdcbgalaaDoor
set_option maxRecDepth 8000
namespace Go.Proofs.YtpllgpgdcbgalaaDoor
open Go Go.RowKit
namespace VM
def InsOk (fns : List (Str × Nat)) (W V : Nat) (i : Ins) : Prop :=
  1 ≤ i.op ∧ i.op ≤ 19 ∧ (i.op ≠ 17 → i.b = 0) ∧ (i.op = 1 → -1073741824 ≤ i.a ∧ i.a ≤ 1073741824) ∧ (i.op = 2 → 0 ≤ i.a ∧ i.a < W) ∧ (i.op = 3 ∨ i.op = 4 → 0 ≤ i.a ∧ i.a < V) ∧ (i.op = 5 → 1 ≤ i.a ∧ i.a ≤ 5) ∧ (i.op = 17 → ∃ (q m : Nat) (nm : Str), i.a = q ∧ fns[q]? = some (nm, m) ∧ i.b = m) ∧ (5 < i.op → i.op ≠ 15 → i.op ≠ 16 → i.op ≠ 17 → i.a = 0)
theorem InsOk.mono {fns : List (Str × Nat)} {W V W' V' : Nat} {i : Ins} (h : InsOk fns W V i) (hw : W ≤ W') (hv : V ≤ V') : InsOk fns W' V' i := by
  obtain ⟨a, b, c, d, e, f, g⟩ := h
  exact ⟨a, b, c, d, fun h => by have := e h; omega, fun h => by have := f h; omega, g⟩
theorem idx_lookup : ∀ {fns : List (Str × Nat)} {t : Str} {m : Nat}, fns.lookup t = some m → ∃ q : Nat, idx (fns.map (·.1)) t = q ∧ fns[q]? = some (t, m)
  | [], t, m, h => by simp at h
  | (u, k) :: r, t, m, h => by
    rw [List.lookup_cons] at h
    by_cases e : t = u
    · subst e
      simp at h
      subst h
      exact ⟨0, by simp [idx], rfl⟩
    · have hb : (t == u) = false := by simpa using e
      rw [hb] at h
      obtain ⟨q, h1, h2⟩ := idx_lookup (fns := r) h
      refine ⟨q + 1, ?_, by simpa using h2⟩
      unfold idx at h1 ⊢
      by_cases hm : t ∈ r.map (·.1)
      · rw [if_pos hm] at h1
        have hb' : (u == t) = false := by simpa using fun h => e h.symm
        rw [List.map_cons, if_pos (by simp only [List.mem_cons]; exact .inr hm), List.idxOf_cons, hb']
        simp only [cond_false]
        omega
      · rw [if_neg hm] at h1
        omega
def EnvOk (env : Env) (nms : List Str) (V : Nat) : Prop := ∀ t ∈ nms, look env t < V
theorem idxOf_add (ws : List Str) (t : Str) : ws.idxOf t < (addW ws t).length := by
  unfold addW
  split
  · rename_i h; exact List.idxOf_lt_length_of_mem h
  · rename_i h
    have := List.idxOf_le_length (a := t) (l := ws)
    rw [List.length_append]
    simp
    omega
theorem addW_ge (ws : List Str) (t : Str) : ws.length ≤ (addW ws t).length := by
  unfold addW
  split
  · omega
  · rw [List.length_append]; omega
mutual
theorem ex_link {fns : List (Str × Nat)} {nms : List Str} {env : Env} {V : Nat} (hv : EnvOk env nms V) : ∀ (x : Ex) (ws : List Str), okEx x → (exC fns nms x ws).2 = 0 → (exI (fns.map (·.1)) env x ws).1 = (exC fns nms x ws).1 ∧ ws.length ≤ (exC fns nms x ws).1.length ∧ ∀ i ∈ (exI (fns.map (·.1)) env x ws).2, InsOk fns (exC fns nms x ws).1.length V i
  | .mk k z t ar, ws, ho, he => by
    unfold okEx at ho
    obtain ⟨ok, oa⟩ := ho
    unfold exC at he ⊢
    unfold exI
    have hh : headE fns nms k t ar.length = 0 := by
      by_cases h : headE fns nms k t ar.length = 0
      · exact h
      · rw [if_pos h] at he; exact absurd he h
    rw [if_neg (by rw [hh]; simp)] at he ⊢
    by_cases k2 : k = 2
    · subst k2
      have h0 : ar = [] := by
        unfold hdOk at ok
        rcases ok with ⟨h, _⟩ | ⟨_, h, _⟩ | ⟨h, _⟩ | ⟨h, _⟩ | ⟨h, _⟩ | ⟨h, _⟩ | ⟨h, _⟩ | ⟨h, _⟩ | ⟨h, _⟩ | ⟨h, _⟩ | ⟨h, _⟩ <;> first | exact List.eq_nil_of_length_eq_zero h | exact absurd h (by decide)
      subst h0
      have h1 := addW_ge ws t
      have h2 := idxOf_add ws t
      simp only [exIL, exCL, hdI, Int.reduceEq, if_true, if_false, List.nil_append]
      refine ⟨trivial, h1, fun i hi => ?_⟩
      rw [List.mem_singleton.1 hi]
      unfold InsOk
      simp
      omega
    · rw [if_neg k2] at he ⊢
      obtain ⟨a1, a2, a3⟩ := exL_link hv ar ws oa he
      have hd : (hdI (fns.map (·.1)) env k z t ar.length (exIL (fns.map (·.1)) env ar ws).1).1 = (exIL (fns.map (·.1)) env ar ws).1 := by
        unfold hdI
        rw [if_neg k2]
        (repeat' split) <;> rfl
      refine ⟨by rw [hd, a1], a2, fun i hi => ?_⟩
      rcases List.mem_append.1 hi with hi | hi
      · exact a3 i hi
      · unfold hdOk at ok
        unfold hdI at hi
        by_cases k3 : k = 3
        · subst k3
          have hin : t ∈ nms := by
            unfold headE at hh
            rw [if_pos rfl] at hh
            by_cases hin : t ∈ nms
            · exact hin
            · rw [if_neg hin] at hh; exact absurd hh (by decide)
          have := hv t hin
          simp only [Int.reduceEq, if_true, if_false] at hi
          rw [List.mem_singleton.1 hi]
          unfold InsOk
          simp
          omega
        by_cases k11 : k = 11
        · subst k11
          have hlk : fns.lookup t = some ar.length := by
            unfold headE at hh
            simp at hh
            cases hq : fns.lookup t with
            | none => rw [hq] at hh; simp at hh
            | some m => rw [hq] at hh; simp at hh; rw [hh]
          obtain ⟨q, q1, q2⟩ := idx_lookup hlk
          simp only [Int.reduceEq, if_true, if_false] at hi
          rw [List.mem_singleton.1 hi]
          unfold InsOk
          refine ⟨by simp, by simp, fun h => absurd rfl h, by simp, by simp, by simp, by simp, fun _ => ⟨q, ar.length, t, q1, q2, rfl⟩, by simp⟩
        rcases ok with ⟨rfl, h, h', h''⟩ | ⟨rfl, h, _⟩ | ⟨rfl, h⟩ | ⟨rfl, h, h', h''⟩ | ⟨rfl, h⟩ | ⟨rfl, h⟩ | ⟨rfl, h⟩ | ⟨rfl, h⟩ | ⟨rfl, h⟩ | ⟨rfl, h⟩ | ⟨rfl, h⟩ <;> first
          | exact absurd rfl k2
          | exact absurd rfl k3
          | exact absurd rfl k11
          | (simp only [Int.reduceEq, Int.reduceLE, and_self, if_true, if_false, opE] at hi
             rw [List.mem_singleton.1 hi]
             unfold InsOk
             simp
             try omega)
theorem exL_link {fns : List (Str × Nat)} {nms : List Str} {env : Env} {V : Nat} (hv : EnvOk env nms V) : ∀ (l : List Ex) (ws : List Str), okExL l → (exCL fns nms l ws).2 = 0 → (exIL (fns.map (·.1)) env l ws).1 = (exCL fns nms l ws).1 ∧ ws.length ≤ (exCL fns nms l ws).1.length ∧ ∀ i ∈ (exIL (fns.map (·.1)) env l ws).2, InsOk fns (exCL fns nms l ws).1.length V i
  | [], ws, _, _ => by unfold exIL exCL; simp
  | x :: r, ws, ho, he => by
    unfold okExL at ho
    unfold exCL at he ⊢
    unfold exIL
    have h0 : (exC fns nms x ws).2 = 0 := by
      by_cases h : (exC fns nms x ws).2 = 0
      · exact h
      · rw [if_pos h] at he; exact absurd he h
    rw [if_neg (by rw [h0]; simp)] at he ⊢
    obtain ⟨a1, a2, a3⟩ := ex_link hv x ws ho.1 h0
    rw [a1]
    obtain ⟨b1, b2, b3⟩ := exL_link hv r (exC fns nms x ws).1 ho.2 he
    refine ⟨b1, by omega, fun i hi => ?_⟩
    rcases List.mem_append.1 hi with hi | hi
    · exact (a3 i hi).mono b2 (Nat.le_refl _)
    · exact b3 i hi
end
end VM
end Go.Proofs.YtpllgpgdcbgalaaDoor
set_option maxRecDepth 8000
namespace Go.Proofs.YtpllgpgdcbgalaaDoor
open Go Go.RowKit
namespace VM
def InsJ (fns : List (Str × Nat)) (W V : Nat) (i : Ins) : Prop := ((i.op = 15 ∨ i.op = 16) ∧ i.b = 0) ∨ InsOk fns W V i
theorem InsJ.mono {fns : List (Str × Nat)} {W V W' V' : Nat} {i : Ins} (h : InsJ fns W V i) (hw : W ≤ W') (hv : V ≤ V') : InsJ fns W' V' i := h.imp id fun h => h.mono hw hv
structure Link (fns : List (Str × Nat)) (s : MkS) (s' : MkS) (c : ScS) (I : List Ins) : Prop where
  ws : s'.1 = c.2
  vs : (s'.2 : Int) = c.1
  wl : s.1.length ≤ s'.1.length
  vl : s.2 ≤ s'.2
  v8 : s.2 ≤ 8 → s'.2 ≤ 8
  ins : ∀ i ∈ I, InsJ fns s'.1.length s'.2 i
theorem EnvOk.mono {env : Env} {nms : List Str} {V V' : Nat} (h : EnvOk env nms V) (hv : V ≤ V') : EnvOk env nms V' := fun t ht => by have := h t ht; omega
theorem env_let {env : Env} {nms : List Str} {V : Nat} {nm : Str} (h : EnvOk env nms V) : EnvOk ((nm, V) :: env) (nms ++ [nm]) (V + 1) := fun t ht => by
  unfold look
  rw [List.lookup_cons]
  by_cases e : t = nm
  · subst e; simp
  · have hb : (t == nm) = false := by simpa using e
    rw [hb]
    rcases List.mem_append.1 ht with ht | ht
    · have := h t ht
      unfold look at this
      simp only
      omega
    · exact absurd (List.mem_singleton.1 ht) e
set_option maxHeartbeats 2000000 in
mutual
theorem st_link {fns : List (Str × Nat)} : ∀ (x : Sm) (nms : List Str) (env : Env) (b : Nat) (s : MkS), okSm x → EnvOk env nms s.2 → (smC fns nms x ((s.2 : Int), s.1)).2.1 = 0 →
    Link fns s (stI (fns.map (·.1)) env b x s).1 (smC fns nms x ((s.2 : Int), s.1)).1 (stI (fns.map (·.1)) env b x s).2.2 ∧ EnvOk (stI (fns.map (·.1)) env b x s).2.1 (smC fns nms x ((s.2 : Int), s.1)).2.2 (stI (fns.map (·.1)) env b x s).1.2
  | .mk k nm ar t e, nms, env, b, s, ho, hv, he => by
    unfold okSm at ho
    obtain ⟨⟨ok1, ok9⟩, oar, oe, ot, oa, oT, oE⟩ := ho
    unfold smC at he ⊢
    unfold stI
    simp only at he ⊢
    have ha : (exCL fns nms ar s.1).2 = 0 := by
      by_cases h : (exCL fns nms ar s.1).2 = 0
      · exact h
      · rw [if_pos h] at he; exact absurd he h
    obtain ⟨a1, a2, a3⟩ := exL_link hv ar s.1 oa ha
    have ha' : ¬ (exCL fns nms ar s.1).2 ≠ 0 := by rw [ha]; simp
    rw [if_neg ha'] at he ⊢
    by_cases c1 : k = 1 ∧ nm ∈ nms
    · rw [if_pos c1] at he; exact absurd he (by simp)
    rw [if_neg c1] at he ⊢
    by_cases c2 : k = 1 ∧ 8 < (s.2 : Int) + 1
    · rw [if_pos c2] at he; exact absurd he (by simp)
    rw [if_neg c2] at he ⊢
    by_cases c3 : k = 2 ∧ nm ∉ nms
    · rw [if_pos c3] at he; exact absurd he (by simp)
    rw [if_neg c3] at he ⊢
    generalize hA : (exIL (fns.map (·.1)) env ar s.1) = a at *
    rw [← a1] at he ⊢ a2 a3
    by_cases k1 : k = 1
    · subst k1
      have t0 := ot (by decide) (by decide)
      have e0 := oe (by decide)
      subst t0; subst e0
      simp only [Int.reduceEq, if_true, if_false, smCL, ne_eq, not_true_eq_false]
      refine ⟨⟨rfl, by simp, a2, by simp, fun _ => by simp at c2; simp; omega, fun i hi => ?_⟩, env_let hv⟩
      rcases List.mem_append.1 hi with hi | hi
      · exact .inr ((a3 i hi).mono (Nat.le_refl _) (by simp))
      · rw [List.mem_singleton.1 hi]
        refine .inr ?_
        unfold InsOk
        simp
        omega
    by_cases k2 : k = 2
    · subst k2
      have t0 := ot (by decide) (by decide)
      have e0 := oe (by decide)
      subst t0; subst e0
      simp only [Int.reduceEq, if_true, if_false, smCL, ne_eq, not_true_eq_false]
      have hin : nm ∈ nms := by
        by_cases h : nm ∈ nms
        · exact h
        · exact absurd ⟨rfl, h⟩ c3
      have hvn := hv nm hin
      refine ⟨⟨rfl, rfl, a2, Nat.le_refl _, id, fun i hi => ?_⟩, hv⟩
      rcases List.mem_append.1 hi with hi | hi
      · exact .inr (a3 i hi)
      · rw [List.mem_singleton.1 hi]
        refine .inr ?_
        unfold InsOk
        simp
        omega
    by_cases k3 : k = 3
    · subst k3
      simp only [Int.reduceEq, if_true, if_false] at he ⊢
      have ht : (smCL fns nms t ((s.2 : Int), a.1)).2 = 0 := by
        by_cases h : (smCL fns nms t ((s.2 : Int), a.1)).2 = 0
        · exact h
        · rw [if_pos h] at he; exact absurd he h
      have ht' : ¬ (smCL fns nms t ((s.2 : Int), a.1)).2 ≠ 0 := by rw [ht]; simp
      rw [if_neg ht'] at he ⊢
      have g1 := stL_link t nms env (b + a.2.length + 1) (a.1, s.2) oT hv ht
      generalize stIL (fns.map (·.1)) env (b + a.2.length + 1) t (a.1, s.2) = t' at *
      simp only at g1
      have hs : (smCL fns nms t ((s.2 : Int), a.1)).1 = ((t'.1.2 : Int), t'.1.1) := by rw [g1.ws, g1.vs]
      rw [hs] at he ⊢
      have g2 := stL_link e nms env (b + a.2.length + 1 + t'.2.length + 1) t'.1 oE (hv.mono g1.vl) he
      generalize stIL (fns.map (·.1)) env (b + a.2.length + 1 + t'.2.length + 1) e t'.1 = e' at *
      have w1 := g1.wl
      have w2 := g2.wl
      have v1 := g1.vl
      have v2 := g2.vl
      simp only at w1 w2 v1 v2
      refine ⟨⟨g2.ws, g2.vs, by omega, by omega, fun h => g2.v8 (g1.v8 h), fun i hi => ?_⟩, hv.mono (by omega)⟩
      rcases List.mem_append.1 hi with hi | hi
      · exact .inr ((a3 i hi).mono (by omega) (by omega))
      · rcases List.mem_cons.1 hi with rfl | hi
        · exact .inl ⟨.inr rfl, rfl⟩
        · rcases List.mem_append.1 hi with hi | hi
          · exact (g1.ins i hi).mono w2 v2
          · rcases List.mem_cons.1 hi with rfl | hi
            · exact .inl ⟨.inl rfl, rfl⟩
            · exact g2.ins i hi
    have e0 := oe k3
    subst e0
    by_cases k4 : k = 4
    · subst k4
      simp only [Int.reduceEq, if_true, if_false, smCL] at he ⊢
      have ht : (smCL fns nms t ((s.2 : Int), a.1)).2 = 0 := by
        by_cases h : (smCL fns nms t ((s.2 : Int), a.1)).2 = 0
        · exact h
        · rw [if_pos h] at he; exact absurd he h
      have ht' : ¬ (smCL fns nms t ((s.2 : Int), a.1)).2 ≠ 0 := by rw [ht]; simp
      rw [if_neg ht']
      have g1 := stL_link t nms env (b + a.2.length + 1) (a.1, s.2) oT hv ht
      generalize stIL (fns.map (·.1)) env (b + a.2.length + 1) t (a.1, s.2) = t' at *
      simp only at g1
      have w1 := g1.wl
      have v1 := g1.vl
      simp only at w1 v1
      refine ⟨⟨g1.ws, g1.vs, by omega, by omega, fun h => g1.v8 h, fun i hi => ?_⟩, hv.mono (by omega)⟩
      rcases List.mem_append.1 hi with hi | hi
      · exact .inr ((a3 i hi).mono (by omega) (by omega))
      · rcases List.mem_cons.1 hi with rfl | hi
        · exact .inl ⟨.inr rfl, rfl⟩
        · rcases List.mem_append.1 hi with hi | hi
          · exact g1.ins i hi
          · rw [List.mem_singleton.1 hi]
            exact .inl ⟨.inl rfl, rfl⟩
    have t0 := ot k3 k4
    subst t0
    simp only [if_neg k1, if_neg k2, if_neg k3, if_neg k4, smCL, ne_eq, not_true_eq_false, if_false]
    refine ⟨⟨rfl, rfl, a2, Nat.le_refl _, id, fun i hi => ?_⟩, hv⟩
    rcases List.mem_append.1 hi with hi | hi
    · exact .inr (a3 i hi)
    · refine .inr ?_
      rcases (by omega : k = 5 ∨ k = 6 ∨ k = 7 ∨ k = 8 ∨ k = 9) with rfl | rfl | rfl | rfl | rfl
      all_goals
        simp only [opS, Int.reduceEq, if_true, if_false] at hi
        rw [List.mem_singleton.1 hi]
        unfold InsOk
        simp
theorem stL_link {fns : List (Str × Nat)} : ∀ (l : List Sm) (nms : List Str) (env : Env) (b : Nat) (s : MkS), okSmL l → EnvOk env nms s.2 → (smCL fns nms l ((s.2 : Int), s.1)).2 = 0 →
    Link fns s (stIL (fns.map (·.1)) env b l s).1 (smCL fns nms l ((s.2 : Int), s.1)).1 (stIL (fns.map (·.1)) env b l s).2
  | [], nms, env, b, s, _, _, _ => by
    unfold stIL smCL
    exact ⟨rfl, rfl, Nat.le_refl _, Nat.le_refl _, id, fun i hi => by simp at hi⟩
  | x :: r, nms, env, b, s, ho, hv, he => by
    unfold okSmL at ho
    unfold smCL at he ⊢
    unfold stIL
    simp only
    have h0 : (smC fns nms x ((s.2 : Int), s.1)).2.1 = 0 := by
      by_cases h : (smC fns nms x ((s.2 : Int), s.1)).2.1 = 0
      · exact h
      · rw [if_pos h] at he; exact absurd he h
    have h0' : ¬ (smC fns nms x ((s.2 : Int), s.1)).2.1 ≠ 0 := by rw [h0]; simp
    rw [if_neg h0'] at he ⊢
    obtain ⟨g1, g2⟩ := st_link x nms env b s ho.1 hv h0
    generalize stI (fns.map (·.1)) env b x s = x' at *
    have hs : (smC fns nms x ((s.2 : Int), s.1)).1 = ((x'.1.2 : Int), x'.1.1) := by rw [g1.ws, g1.vs]
    rw [hs] at he ⊢
    have g3 := stL_link r _ x'.2.1 (b + x'.2.2.length) x'.1 ho.2 g2 he
    have w1 := g1.wl
    have w2 := g3.wl
    have v1 := g1.vl
    have v2 := g3.vl
    refine ⟨g3.ws, g3.vs, by omega, by omega, fun h => g3.v8 (g1.v8 h), fun i hi => ?_⟩
    rcases List.mem_append.1 hi with hi | hi
    · exact (g1.ins i hi).mono w2 v2
    · exact g3.ins i hi
end
end VM
end Go.Proofs.YtpllgpgdcbgalaaDoor
set_option maxRecDepth 8000
namespace Go.Proofs.YtpllgpgdcbgalaaDoor
open Go Go.RowKit
namespace VM
theorem jumps_ok (names : List Str) (l : List Sm) (env : Env) (s : MkS) (ho : okSmL l) (hh : hiL l ≤ 16) : ∀ i ∈ (stIL names env 0 l s).2, i.op = 15 ∨ i.op = 16 → 0 ≤ i.a ∧ i.a < ((stIL names env 0 l s).2.length : Int) + 2 := by
  have g := good_stL names l env 0 s ho hh
  generalize (stIL names env 0 l s).2 = I at *
  generalize stTL l = T at *
  have hl := g.len
  intro i hi hj
  obtain ⟨k, hk, e⟩ := List.getElem_of_mem hi
  have hk' : k < T.length := by omega
  obtain ⟨_, _, h', _, _, _, f6⟩ := g.fit k i T[k] (by rw [← e]; exact List.getElem?_eq_getElem hk) (List.getElem?_eq_getElem hk')
  obtain ⟨q, q1, _, q3⟩ := f6 hj
  have := (List.getElem?_eq_some_iff.1 q3).1
  simp at this
  omega
theorem word_add {ws : List Str} {t : Str} (h : ∀ w ∈ ws, word w = true) (ht : word t = true) : ∀ w ∈ addW ws t, word w = true := by
  unfold addW
  split
  · exact h
  · intro w hw
    rcases List.mem_append.1 hw with hw | hw
    · exact h w hw
    · rw [List.mem_singleton.1 hw]; exact ht
mutual
theorem ex_words (names : List Str) (env : Env) : ∀ (x : Ex) (ws : List Str), okEx x → (∀ w ∈ ws, word w = true) → ∀ w ∈ (exI names env x ws).1, word w = true
  | .mk k z t ar, ws, ho, h => by
    unfold okEx at ho
    have h1 := exL_words names env ar ws ho.2 h
    have hk := ho.1
    unfold exI hdI
    by_cases k2 : k = 2
    · subst k2
      have ht : word t = true := by
        unfold hdOk at hk
        rcases hk with ⟨h, _⟩ | ⟨_, _, h⟩ | ⟨h, _⟩ | ⟨h, _⟩ | ⟨h, _⟩ | ⟨h, _⟩ | ⟨h, _⟩ | ⟨h, _⟩ | ⟨h, _⟩ | ⟨h, _⟩ | ⟨h, _⟩ <;> first | exact h | exact absurd h (by decide)
      simp only [Int.reduceEq, if_true, if_false]
      exact word_add h1 ht
    · rw [if_neg k2]
      (repeat' split) <;> exact h1
theorem exL_words (names : List Str) (env : Env) : ∀ (l : List Ex) (ws : List Str), okExL l → (∀ w ∈ ws, word w = true) → ∀ w ∈ (exIL names env l ws).1, word w = true
  | [], ws, _, h => by unfold exIL; exact h
  | x :: r, ws, ho, h => by
    unfold okExL at ho
    unfold exIL
    exact exL_words names env r _ ho.2 (ex_words names env x ws ho.1 h)
end
mutual
theorem st_words (names : List Str) : ∀ (x : Sm) (env : Env) (b : Nat) (s : MkS), okSm x → (∀ w ∈ s.1, word w = true) → ∀ w ∈ (stI names env b x s).1.1, word w = true
  | .mk k nm ar t e, env, b, s, ho, h => by
    unfold okSm at ho
    obtain ⟨_, _, _, _, oa, oT, oE⟩ := ho
    have h1 := exL_words names env ar s.1 oa h
    have h2 := stL_words names t env (b + (exIL names env ar s.1).2.length + 1) ((exIL names env ar s.1).1, s.2) oT h1
    have h3 := stL_words names e env (b + (exIL names env ar s.1).2.length + 1 + (stIL names env (b + (exIL names env ar s.1).2.length + 1) t ((exIL names env ar s.1).1, s.2)).2.length + 1) _ oE h2
    unfold stI
    simp only
    (repeat' split) <;> first | exact h1 | exact h2 | exact h3
theorem stL_words (names : List Str) : ∀ (l : List Sm) (env : Env) (b : Nat) (s : MkS), okSmL l → (∀ w ∈ s.1, word w = true) → ∀ w ∈ (stIL names env b l s).1.1, word w = true
  | [], env, b, s, _, h => by unfold stIL; exact h
  | x :: r, env, b, s, ho, h => by
    unfold okSmL at ho
    unfold stIL
    exact stL_words names r _ _ _ ho.2 (st_words names x env b s ho.1 h)
end
theorem penv_look : ∀ (ps : List Str) (i : Nat) (env : Env) (t : Str), (t ∈ ps → look (penv ps i env) t < i + ps.length) ∧ (t ∉ ps → look (penv ps i env) t = look env t)
  | [], i, env, t => ⟨fun h => by simp at h, fun _ => rfl⟩
  | n :: r, i, env, t => by
    obtain ⟨h1, h2⟩ := penv_look r (i + 1) ((n, i) :: env) t
    unfold penv
    simp only [List.length_cons]
    refine ⟨fun h => ?_, fun h => ?_⟩
    · by_cases hr : t ∈ r
      · have := h1 hr; omega
      · have e : t = n := (List.mem_cons.1 h).resolve_right hr
        rw [h2 hr, e]
        unfold look
        rw [List.lookup_cons]
        simp
    · rw [List.mem_cons, not_or] at h
      rw [h2 h.2]
      unfold look
      have hb : (t == n) = false := by simpa using h.1
      rw [List.lookup_cons, hb]
theorem fnsC_ok : ∀ (l : List Fnc) (m : List (Str × Nat)), (fnsC m l).2 = 0 → (fnsC m l).1 = m ++ l.map (fun f => (f.name, f.params.length)) ∧ ∀ f ∈ l, f.params.length ≤ 4
  | [], m, _ => by simp [fnsC]
  | f :: r, m, h => by
    unfold fnsC at h ⊢
    by_cases c1 : (m.lookup f.name).isSome ∨ unlike f.params = false
    · rw [if_pos c1] at h; exact absurd h (by simp)
    · rw [if_neg c1] at h ⊢
      by_cases c2 : 4 < f.params.length
      · rw [if_pos c2] at h; exact absurd h (by simp)
      · rw [if_neg c2] at h ⊢
        obtain ⟨h1, h2⟩ := fnsC_ok r _ h
        refine ⟨by rw [h1]; simp, fun g hg => ?_⟩
        rcases List.mem_cons.1 hg with rfl | hg
        · omega
        · exact h2 g hg
structure CodOk (fns : List (Str × Nat)) (W : Nat) (f : Fnc) (c : Cod) : Prop where
  par : c.params = (f.params.length : Int)
  rng : codeRange c = false
  two : 2 ≤ c.ins.length
  ret : (c.ins.getD (c.ins.length - 1) ⟨0, 0, 0⟩).op = 18
  hts : (heights c.ins).2 = 0
  ins : ∀ i ∈ c.ins, ((i.op = 15 ∨ i.op = 16) ∧ i.b = 0 ∧ 0 ≤ i.a ∧ i.a < (c.ins.length : Int)) ∨ (¬ (i.op = 15 ∨ i.op = 16) ∧ ∃ V : Nat, (V : Int) = c.vars ∧ InsOk fns W V i)
theorem fn_ok {fns : List (Str × Nat)} {f : Fnc} {ws : List Str} (ho : okSmL f.body) (hp : f.params.length ≤ 4) (hh : hiL f.body ≤ 16) (hl : (fnI (fns.map (·.1)) f ws).2.ins.length ≤ 200) (he : (smCL fns f.params f.body ((f.params.length : Int), ws)).2 = 0) :
    (fnI (fns.map (·.1)) f ws).1 = (smCL fns f.params f.body ((f.params.length : Int), ws)).1.2 ∧ ws.length ≤ (fnI (fns.map (·.1)) f ws).1.length ∧ ∀ W, (fnI (fns.map (·.1)) f ws).1.length ≤ W → CodOk fns W f (fnI (fns.map (·.1)) f ws).2 := by
  have hv : EnvOk (penv f.params 0 []) f.params f.params.length := fun t ht => by
    have := (penv_look f.params 0 [] t).1 ht; omega
  have g := stL_link (fns := fns) f.body f.params (penv f.params 0 []) 0 (ws, f.params.length) ho hv he
  have hj := jumps_ok (fns.map (·.1)) f.body (penv f.params 0 []) (ws, f.params.length) ho hh
  have hH := heights_ok (fns.map (·.1)) f.body (penv f.params 0 []) (ws, f.params.length) ho hh
  unfold fnI at hl ⊢
  simp only at hl ⊢
  generalize stIL (fns.map (·.1)) (penv f.params 0 []) 0 f.body (ws, f.params.length) = q at *
  refine ⟨g.ws, g.wl, fun W hW => ⟨rfl, ?_, by simp, by simp [List.getD_eq_getElem?_getD], hH, fun i hi => ?_⟩⟩
  · have h1 := g.vl
    have h2 := g.v8 (by simp only; omega)
    simp only at h1
    unfold codeRange
    simp at hl ⊢
    omega
  · rcases List.mem_append.1 hi with hi | hi
    · by_cases hjj : i.op = 15 ∨ i.op = 16
      · have := hj i hi hjj
        have hb : i.b = 0 := by
          rcases g.ins i hi with h | h
          · exact h.2
          · exact h.2.2.1 (by omega)
        refine .inl ⟨hjj, hb, this.1, ?_⟩
        simp
        omega
      · rcases g.ins i hi with h | h
        · exact absurd h.1 hjj
        · exact .inr ⟨hjj, q.1.2, rfl, h.mono hW (Nat.le_refl _)⟩
    · simp at hi
      refine .inr ⟨by rcases hi with rfl | rfl <;> simp, q.1.2, rfl, ?_⟩
      unfold InsOk
      rcases hi with rfl | rfl <;> simp
theorem mkL_ok {fns : List (Str × Nat)} : ∀ (r : List Fnc) (ws : List Str) (cs : List Cod) (w : List Str), (∀ f ∈ r, okSmL f.body ∧ f.params.length ≤ 4) → (bodiesC fns r ws).2 = 0 → (∀ x ∈ ws, word x = true) → mkL (fns.map (·.1)) r ws = some (cs, w) →
    w = (bodiesC fns r ws).1 ∧ ws.length ≤ w.length ∧ (∀ x ∈ w, word x = true) ∧ cs.length = r.length ∧ ∀ (k : Nat) (f : Fnc) (c : Cod), r[k]? = some f → cs[k]? = some c → CodOk fns w.length f c
  | [], ws, cs, w, _, _, hw, hm => by
    unfold mkL at hm
    cases hm
    exact ⟨by unfold bodiesC; rfl, Nat.le_refl _, hw, rfl, fun k f c h _ => by simp at h⟩
  | f :: r, ws, cs, w, ho, he, hw, hm => by
    unfold bodiesC at he ⊢
    unfold mkL at hm
    obtain ⟨o1, o2⟩ := ho f (by simp)
    have h0 : (smCL fns f.params f.body ((f.params.length : Int), ws)).2 = 0 := by
      by_cases h : (smCL fns f.params f.body ((f.params.length : Int), ws)).2 = 0
      · exact h
      · rw [if_pos h] at he; exact absurd he h
    have h0' : ¬ (smCL fns f.params f.body ((f.params.length : Int), ws)).2 ≠ 0 := by rw [h0]; simp
    rw [if_neg h0'] at he ⊢
    by_cases hb : 200 < (fnI (fns.map (·.1)) f ws).2.ins.length ∨ 16 < hiL f.body
    · rw [if_pos hb] at hm; cases hm
    rw [if_neg hb] at hm
    obtain ⟨a1, a2, a3⟩ := fn_ok (fns := fns) (ws := ws) o1 o2 (by omega) (by omega) h0
    have aw : ∀ x ∈ (fnI (fns.map (·.1)) f ws).1, word x = true := stL_words _ _ _ _ _ o1 hw
    rw [← a1] at he ⊢
    cases hr : mkL (fns.map (·.1)) r (fnI (fns.map (·.1)) f ws).1 with
    | none => rw [hr] at hm; cases hm
    | some p =>
      obtain ⟨cs', w'⟩ := p
      rw [hr] at hm
      cases hm
      obtain ⟨b1, b2, b3, b4, b5⟩ := mkL_ok r _ cs' w' (fun g hg => ho g (by simp [hg])) he aw hr
      refine ⟨b1, Nat.le_trans a2 b2, b3, by simp [b4], fun k g c hg hc => ?_⟩
      cases k with
      | zero => simp at hg hc; subst hg; subst hc; exact a3 _ b2
      | succ k => exact b5 k g c (by simpa using hg) (by simpa using hc)
end VM
end Go.Proofs.YtpllgpgdcbgalaaDoor
set_option maxRecDepth 8000
namespace Go.Proofs.YtpllgpgdcbgalaaDoor
open Go Go.RowKit
namespace VM
theorem firstErr_all {α : Type} {f : α → Int} : ∀ {l : List α}, (∀ x ∈ l, f x = 0) → firstErr f l = 0
  | [], _ => rfl
  | x :: r, h => by
    unfold firstErr
    have h0 := h x (by simp)
    rw [if_neg (by rw [h0]; simp)]
    exact firstErr_all fun y hy => h y (by simp [hy])
theorem made_right {l : List Fnc} {cs : List Cod} {w : List Str} (ho : ∀ f ∈ l, okSmL f.body) (hc : checkC l = 0) (hm : mkL (l.map (·.name)) l [] = some (cs, w)) :
    program ⟨cs, w⟩ = 0 ∧ cs.length = l.length ∧ ∀ (k : Nat) (f : Fnc) (c : Cod), l[k]? = some f → cs[k]? = some c → CodOk (l.map fun f => (f.name, f.params.length)) w.length f c := by
  cases l with
  | nil => exact absurd hc (by decide)
  | cons f0 r =>
    unfold checkC at hc
    simp only at hc
    by_cases c1 : 5 < r.length + 1
    · rw [if_pos c1] at hc; exact absurd hc (by decide)
    rw [if_neg c1] at hc
    by_cases c2 : (fnsC [] (f0 :: r)).2 ≠ 0
    · rw [if_pos c2] at hc; exact absurd hc c2
    rw [if_neg c2] at hc
    by_cases c3 : 0 < f0.params.length
    · rw [if_pos c3] at hc; exact absurd hc (by decide)
    rw [if_neg c3] at hc
    by_cases c4 : (bodiesC (fnsC [] (f0 :: r)).1 (f0 :: r) []).2 ≠ 0
    · rw [if_pos c4] at hc; exact absurd hc c4
    rw [if_neg c4] at hc
    by_cases c5 : 16 < (bodiesC (fnsC [] (f0 :: r)).1 (f0 :: r) []).1.length
    · rw [if_pos c5] at hc; exact absurd hc (by decide)
    obtain ⟨q1, q2⟩ := fnsC_ok (f0 :: r) [] (by simpa using c2)
    rw [List.nil_append] at q1
    rw [q1] at c4 c5
    have hnm : (f0 :: r).map (·.name) = ((f0 :: r).map fun f => (f.name, f.params.length)).map (·.1) := by rw [List.map_map]; rfl
    rw [hnm] at hm
    generalize hfns : ((f0 :: r).map fun f => (f.name, f.params.length)) = fns at *
    generalize hl : f0 :: r = l at *
    have h0 : l[0]? = some f0 := by rw [← hl]; rfl
    have hlen : l.length = r.length + 1 := by rw [← hl]; rfl
    obtain ⟨b1, _, b3, b4, b5⟩ := mkL_ok l [] cs w (fun f hf => ⟨ho f hf, q2 f hf⟩) (by simpa using c4) (fun x hx => by simp at hx) hm
    refine ⟨?_, b4, b5⟩
    have get : ∀ k, (hk : k < cs.length) → CodOk fns w.length (l[k]'(by omega)) cs[k] := fun k hk => b5 k _ _ (List.getElem?_eq_getElem (by omega)) (List.getElem?_eq_getElem hk)
    have mem : ∀ c ∈ cs, ∃ f, CodOk fns w.length f c := fun c hc => by
      obtain ⟨k, hk, e⟩ := List.getElem_of_mem hc
      exact ⟨_, e ▸ get k hk⟩
    unfold program
    rw [if_neg (by simp only; omega), if_neg (by simp only; rw [b1]; omega), if_neg (by simp only; rw [List.all_eq_true.2 b3]; decide)]
    have hp0 : ¬ (cs.getD 0 ⟨0, 0, []⟩).params ≠ 0 := by
      have hk : 0 < cs.length := by omega
      have := (b5 0 f0 cs[0] h0 (List.getElem?_eq_getElem hk)).par
      rw [List.getD_eq_getElem?_getD, List.getElem?_eq_getElem hk]
      simp only [Option.getD_some, this]
      omega
    have hr0 : ¬ cs.any codeRange = true := by
      rw [List.any_eq_true]
      rintro ⟨c, hc, h⟩
      obtain ⟨f, g⟩ := mem c hc
      rw [g.rng] at h
      exact absurd h (by decide)
    rw [if_neg hp0, if_neg hr0]
    refine firstErr_all fun c hc => ?_
    obtain ⟨f, g⟩ := mem c hc
    have hn : firstErr (numbers ⟨cs, w⟩ c) c.ins = 0 := firstErr_all fun i hi => by
      rcases g.ins i hi with ⟨j1, j2, j3, j4⟩ | ⟨hjj, V, hV, hi⟩
      · unfold numbers
        have hok : numOk ⟨cs, w⟩ c i = true := by
          unfold numOk isIn
          rw [if_neg (by omega), if_neg (by omega), if_neg (by omega), if_neg (by omega), if_pos (by omega)]
          simp
          exact ⟨j3, j4⟩
        rw [if_neg (by omega), if_neg (by rw [hok, j2]; simp)]
      · obtain ⟨i1, i2, i3, i4, i5, i6, i7, i8, i9⟩ := hi
        have hok : numOk ⟨cs, w⟩ c i = true := by
          unfold numOk isIn
          by_cases e1 : i.op = 1
          · have := i4 e1; rw [if_pos e1]; simp; exact this
          rw [if_neg e1]
          by_cases e2 : i.op = 2
          · have := i5 e2; rw [if_pos e2]; simp; exact this
          rw [if_neg e2]
          by_cases e3 : i.op = 3 ∨ i.op = 4
          · have := i6 e3; rw [if_pos e3]; simp; omega
          rw [if_neg e3]
          by_cases e5 : i.op = 5
          · have := i7 e5; rw [if_pos e5]; simp; exact this
          rw [if_neg e5]
          rw [if_neg hjj]
          by_cases e17 : i.op = 17
          · obtain ⟨q, m, nm, r1, r2, r3⟩ := i8 e17
            rw [if_pos e17]
            have hq : q < fns.length := (List.getElem?_eq_some_iff.1 r2).1
            have hfl : fns.length = l.length := by rw [← hfns]; simp
            have hqc : q < cs.length := by omega
            have hpar := (get q hqc).par
            have hm' : m = (l[q]'(by omega)).params.length := by
              rw [← hfns, List.getElem?_map, List.getElem?_eq_getElem (by omega)] at r2
              simp at r2
              exact r2.2.symm
            rw [r1, r3, Int.toNat_natCast]
            simp only
            rw [List.getElem?_eq_getElem hqc, Option.map_some, hpar, hm']
            simp
            omega
          rw [if_neg e17]
          clear i8
          have := i9 (by omega) (by omega) (by omega) e17
          simpa using this
        clear i8
        rw [numbers, if_neg (by omega), if_neg (by rw [hok]; simp; exact i3)]
    unfold codeErr
    rw [if_neg (by rw [hn]; simp)]
    exact g.hts
end VM
end Go.Proofs.YtpllgpgdcbgalaaDoor
set_option maxRecDepth 8000
namespace Go.Proofs.YtpllgpgdcbgalaaDoor
open Go Go.RowKit
end Go.Proofs.YtpllgpgdcbgalaaDoor
set_option maxRecDepth 8000
namespace Go.Proofs.YtpllgpgdcbgalaaDoor
open Go Go.RowKit
def zjm (a0 : AV) (H : Heap) (nx : Nat) (Q : QT) : Prop :=
 a0.sure = true ∧
 LD false 1 (AV.ptr nx 0) (H.put nx (some (AObj.row a0.cells.length a0.cells))) fun v1 =>
 BI BinOp.eql v1 (AV.int IntKind.i64 17) fun v2 =>
 CNDC v2
 (LD false 1 (AV.ptr nx 2) (H.put nx (some (AObj.row a0.cells.length a0.cells))) fun v3 =>
 Q (AV.tup [v3, AV.int IntKind.i64 1]) (H.put nx (some (AObj.row a0.cells.length a0.cells))) (nx + 1))
 (zh (AK.int IntKind.i64) (AV.int IntKind.i64 1) = true ∧
 MU (AV.amap (nx + 1)) (AV.int IntKind.i64 1) (AV.agg [AV.int IntKind.i64 0, AV.int IntKind.i64 1]) ((H.put nx (some (AObj.row a0.cells.length a0.cells))).put ((nx + 1)) (some (AObj.mp []))) fun H4 =>
 zh (AK.int IntKind.i64) (AV.int IntKind.i64 2) = true ∧
 MU (AV.amap (nx + 1)) (AV.int IntKind.i64 2) (AV.agg [AV.int IntKind.i64 0, AV.int IntKind.i64 1]) H4 fun H5 =>
 zh (AK.int IntKind.i64) (AV.int IntKind.i64 3) = true ∧
 MU (AV.amap (nx + 1)) (AV.int IntKind.i64 3) (AV.agg [AV.int IntKind.i64 0, AV.int IntKind.i64 1]) H5 fun H6 =>
 zh (AK.int IntKind.i64) (AV.int IntKind.i64 4) = true ∧
 MU (AV.amap (nx + 1)) (AV.int IntKind.i64 4) (AV.agg [AV.int IntKind.i64 1, AV.int IntKind.i64 0]) H6 fun H7 =>
 zh (AK.int IntKind.i64) (AV.int IntKind.i64 5) = true ∧
 MU (AV.amap (nx + 1)) (AV.int IntKind.i64 5) (AV.agg [AV.int IntKind.i64 2, AV.int IntKind.i64 1]) H7 fun H8 =>
 zh (AK.int IntKind.i64) (AV.int IntKind.i64 6) = true ∧
 MU (AV.amap (nx + 1)) (AV.int IntKind.i64 6) (AV.agg [AV.int IntKind.i64 2, AV.int IntKind.i64 1]) H8 fun H9 =>
 zh (AK.int IntKind.i64) (AV.int IntKind.i64 7) = true ∧
 MU (AV.amap (nx + 1)) (AV.int IntKind.i64 7) (AV.agg [AV.int IntKind.i64 1, AV.int IntKind.i64 1]) H9 fun H10 =>
 zh (AK.int IntKind.i64) (AV.int IntKind.i64 8) = true ∧
 MU (AV.amap (nx + 1)) (AV.int IntKind.i64 8) (AV.agg [AV.int IntKind.i64 1, AV.int IntKind.i64 1]) H10 fun H11 =>
 zh (AK.int IntKind.i64) (AV.int IntKind.i64 9) = true ∧
 MU (AV.amap (nx + 1)) (AV.int IntKind.i64 9) (AV.agg [AV.int IntKind.i64 2, AV.int IntKind.i64 0]) H11 fun H12 =>
 zh (AK.int IntKind.i64) (AV.int IntKind.i64 10) = true ∧
 MU (AV.amap (nx + 1)) (AV.int IntKind.i64 10) (AV.agg [AV.int IntKind.i64 2, AV.int IntKind.i64 0]) H12 fun H13 =>
 zh (AK.int IntKind.i64) (AV.int IntKind.i64 11) = true ∧
 MU (AV.amap (nx + 1)) (AV.int IntKind.i64 11) (AV.agg [AV.int IntKind.i64 1, AV.int IntKind.i64 1]) H13 fun H14 =>
 zh (AK.int IntKind.i64) (AV.int IntKind.i64 12) = true ∧
 MU (AV.amap (nx + 1)) (AV.int IntKind.i64 12) (AV.agg [AV.int IntKind.i64 0, AV.int IntKind.i64 1]) H14 fun H15 =>
 zh (AK.int IntKind.i64) (AV.int IntKind.i64 13) = true ∧
 MU (AV.amap (nx + 1)) (AV.int IntKind.i64 13) (AV.agg [AV.int IntKind.i64 1, AV.int IntKind.i64 1]) H15 fun H16 =>
 zh (AK.int IntKind.i64) (AV.int IntKind.i64 14) = true ∧
 MU (AV.amap (nx + 1)) (AV.int IntKind.i64 14) (AV.agg [AV.int IntKind.i64 1, AV.int IntKind.i64 0]) H16 fun H17 =>
 zh (AK.int IntKind.i64) (AV.int IntKind.i64 15) = true ∧
 MU (AV.amap (nx + 1)) (AV.int IntKind.i64 15) (AV.agg [AV.int IntKind.i64 0, AV.int IntKind.i64 0]) H17 fun H18 =>
 zh (AK.int IntKind.i64) (AV.int IntKind.i64 16) = true ∧
 MU (AV.amap (nx + 1)) (AV.int IntKind.i64 16) (AV.agg [AV.int IntKind.i64 1, AV.int IntKind.i64 0]) H18 fun H19 =>
 zh (AK.int IntKind.i64) (AV.int IntKind.i64 18) = true ∧
 MU (AV.amap (nx + 1)) (AV.int IntKind.i64 18) (AV.agg [AV.int IntKind.i64 1, AV.int IntKind.i64 0]) H19 fun H20 =>
 zh (AK.int IntKind.i64) (AV.int IntKind.i64 19) = true ∧
 MU (AV.amap (nx + 1)) (AV.int IntKind.i64 19) (AV.agg [AV.int IntKind.i64 1, AV.int IntKind.i64 0]) H20 fun H21 =>
 LD false 1 (AV.ptr nx 0) H21 fun v22 =>
 zh (AK.int IntKind.i64) v22 = true ∧
 LK [AV.int IntKind.i64 0, AV.int IntKind.i64 0] true (AV.amap (nx + 1)) v22 false H21 fun v23 =>
 ST 2 (AV.ptr (nx + 2) 0) v23 (H21.put ((nx + 2)) (some (AObj.row 1 [AV.int IntKind.i64 0, AV.int IntKind.i64 0]))) fun H24 =>
 AA 1 2 (AV.ptr (nx + 2) 0) (AV.int IntKind.i64 0) fun v25 =>
 LDR false 1 v25 H24 fun v26 _ =>
 AA 1 2 (AV.ptr (nx + 2) 0) (AV.int IntKind.i64 1) fun v28 =>
 LDR false 1 v28 H24 fun v29 _ =>
 Q (AV.tup [v26, v29]) H24 (nx + 3))
theorem zmj (a0 : AV) (H : Heap) (nx : Nat) (Q : QT) : zjm a0 H nx Q → za Tryd.prog 61 [a0] H nx Q :=
  ze (lv := lvOf []) (c := zp Tryd.f61) zu zx mixed Tryd.func61 (by kernel_rfl) (by kernel_rfl) (by kernel_rfl) (by kernel_rfl) (by kernel_rfl)
def znv (v23 : AV) (Q : QT) (nx16 : Nat) (v20 : AV) (xs14 : List AV) (K13 : J3) (v46 : AV) (H47 : Heap) (nx48 : Nat) : Prop :=
 EX v46 0 fun v49 =>
 EX v46 1 fun v50 =>
 BI BinOp.lss v23 v49 fun v51 =>
 CND v51
 (Q (AV.tup [AV.nils, AV.int IntKind.i64 10]) H47 nx48)
 (LD false 1 (AV.ptr nx16 0) H47 fun v52 =>
 BI BinOp.eql v52 (AV.int IntKind.i64 18) fun v53 =>
 CND v53
 (BI BinOp.gtr v23 (AV.int IntKind.i64 1) fun v54 =>
 CNDC v54
 (Q (AV.tup [AV.nils, AV.int IntKind.i64 10]) H47 nx48)
 (BI BinOp.sub v23 v49 fun v55 =>
 BI BinOp.add v55 v50 fun v56 =>
 BI BinOp.gtr v56 (AV.int IntKind.i64 16) fun v57 =>
 CNDC v57
 (Q (AV.tup [AV.nils, AV.int IntKind.i64 4]) H47 nx48)
 (LD false 1 (AV.ptr nx16 0) H47 fun v58 =>
 BI BinOp.neq v58 (AV.int IntKind.i64 15) fun v59 =>
 CND v59
 (LD false 1 (AV.ptr nx16 0) H47 fun v60 =>
 BI BinOp.neq v60 (AV.int IntKind.i64 18) fun v61 =>
 CNDC v61
 (BI BinOp.add v20 (AV.int IntKind.i64 1) fun v62 =>
 BSL 1 1 [AV.int IntKind.i64 0] [(0, v62)] fun cells63 =>
 APP 1 8 (nth xs14 2) (AV.slc nx48 0 1) (H47.put nx48 (some (AObj.row 1 cells63))) (nx48 + 1) fun v64 H65 nx66 =>
 BSL 1 1 [AV.int IntKind.i64 0] [(0, v56)] fun cells67 =>
 APP 1 8 (nth xs14 3) (AV.slc nx66 0 1) (H65.put nx66 (some (AObj.row 1 cells67))) (nx66 + 1) fun v68 H69 nx70 =>
 LD false 1 (AV.ptr nx16 0) H69 fun v71 =>
 BI BinOp.eql v71 (AV.int IntKind.i64 15) fun v72 =>
 CND v72
 (LD false 1 (AV.ptr nx16 1) H69 fun v73 =>
 BSL 1 1 [AV.int IntKind.i64 0] [(0, v73)] fun cells74 =>
 APP 1 8 v64 (AV.slc nx70 0 1) (H69.put nx70 (some (AObj.row 1 cells74))) (nx70 + 1) fun v75 H76 nx77 =>
 BSL 1 1 [AV.int IntKind.i64 0] [(0, v56)] fun cells78 =>
 APP 1 8 v68 (AV.slc nx77 0 1) (H76.put nx77 (some (AObj.row 1 cells78))) (nx77 + 1) fun v79 H80 nx81 =>
 BI BinOp.add (nth xs14 4) (AV.int IntKind.i64 1) fun v82 =>
 K13 [nth xs14 0, nth xs14 1, v75, v79, v82] H80 nx81)
 (LD false 1 (AV.ptr nx16 0) H69 fun v83 =>
 BI BinOp.eql v83 (AV.int IntKind.i64 16) fun v84 =>
 CNDC v84
 (LD false 1 (AV.ptr nx16 1) H69 fun v85 =>
 BSL 1 1 [AV.int IntKind.i64 0] [(0, v85)] fun cells86 =>
 APP 1 8 v64 (AV.slc nx70 0 1) (H69.put nx70 (some (AObj.row 1 cells86))) (nx70 + 1) fun v87 H88 nx89 =>
 BSL 1 1 [AV.int IntKind.i64 0] [(0, v56)] fun cells90 =>
 APP 1 8 v68 (AV.slc nx89 0 1) (H88.put nx89 (some (AObj.row 1 cells90))) (nx89 + 1) fun v91 H92 nx93 =>
 BI BinOp.add (nth xs14 4) (AV.int IntKind.i64 1) fun v94 =>
 K13 [nth xs14 0, nth xs14 1, v87, v91, v94] H92 nx93)
 (BI BinOp.add (nth xs14 4) (AV.int IntKind.i64 1) fun v95 =>
 K13 [nth xs14 0, nth xs14 1, v64, v68, v95] H69 nx70)))
 (LD false 1 (AV.ptr nx16 0) H47 fun v96 =>
 BI BinOp.eql v96 (AV.int IntKind.i64 15) fun v97 =>
 CND v97
 (LD false 1 (AV.ptr nx16 1) H47 fun v98 =>
 BSL 1 1 [AV.int IntKind.i64 0] [(0, v98)] fun cells99 =>
 APP 1 8 (nth xs14 2) (AV.slc nx48 0 1) (H47.put nx48 (some (AObj.row 1 cells99))) (nx48 + 1) fun v100 H101 nx102 =>
 BSL 1 1 [AV.int IntKind.i64 0] [(0, v56)] fun cells103 =>
 APP 1 8 (nth xs14 3) (AV.slc nx102 0 1) (H101.put nx102 (some (AObj.row 1 cells103))) (nx102 + 1) fun v104 H105 nx106 =>
 BI BinOp.add (nth xs14 4) (AV.int IntKind.i64 1) fun v107 =>
 K13 [nth xs14 0, nth xs14 1, v100, v104, v107] H105 nx106)
 (LD false 1 (AV.ptr nx16 0) H47 fun v108 =>
 BI BinOp.eql v108 (AV.int IntKind.i64 16) fun v109 =>
 CNDC v109
 (LD false 1 (AV.ptr nx16 1) H47 fun v110 =>
 BSL 1 1 [AV.int IntKind.i64 0] [(0, v110)] fun cells111 =>
 APP 1 8 (nth xs14 2) (AV.slc nx48 0 1) (H47.put nx48 (some (AObj.row 1 cells111))) (nx48 + 1) fun v112 H113 nx114 =>
 BSL 1 1 [AV.int IntKind.i64 0] [(0, v56)] fun cells115 =>
 APP 1 8 (nth xs14 3) (AV.slc nx114 0 1) (H113.put nx114 (some (AObj.row 1 cells115))) (nx114 + 1) fun v116 H117 nx118 =>
 BI BinOp.add (nth xs14 4) (AV.int IntKind.i64 1) fun v119 =>
 K13 [nth xs14 0, nth xs14 1, v112, v116, v119] H117 nx118)
 (BI BinOp.add (nth xs14 4) (AV.int IntKind.i64 1) fun v120 =>
 K13 [nth xs14 0, nth xs14 1, nth xs14 2, nth xs14 3, v120] H47 nx48))))
 (LD false 1 (AV.ptr nx16 0) H47 fun v121 =>
 BI BinOp.eql v121 (AV.int IntKind.i64 15) fun v122 =>
 CND v122
 (LD false 1 (AV.ptr nx16 1) H47 fun v123 =>
 BSL 1 1 [AV.int IntKind.i64 0] [(0, v123)] fun cells124 =>
 APP 1 8 (nth xs14 2) (AV.slc nx48 0 1) (H47.put nx48 (some (AObj.row 1 cells124))) (nx48 + 1) fun v125 H126 nx127 =>
 BSL 1 1 [AV.int IntKind.i64 0] [(0, v56)] fun cells128 =>
 APP 1 8 (nth xs14 3) (AV.slc nx127 0 1) (H126.put nx127 (some (AObj.row 1 cells128))) (nx127 + 1) fun v129 H130 nx131 =>
 BI BinOp.add (nth xs14 4) (AV.int IntKind.i64 1) fun v132 =>
 K13 [nth xs14 0, nth xs14 1, v125, v129, v132] H130 nx131)
 (LD false 1 (AV.ptr nx16 0) H47 fun v133 =>
 BI BinOp.eql v133 (AV.int IntKind.i64 16) fun v134 =>
 CNDC v134
 (LD false 1 (AV.ptr nx16 1) H47 fun v135 =>
 BSL 1 1 [AV.int IntKind.i64 0] [(0, v135)] fun cells136 =>
 APP 1 8 (nth xs14 2) (AV.slc nx48 0 1) (H47.put nx48 (some (AObj.row 1 cells136))) (nx48 + 1) fun v137 H138 nx139 =>
 BSL 1 1 [AV.int IntKind.i64 0] [(0, v56)] fun cells140 =>
 APP 1 8 (nth xs14 3) (AV.slc nx139 0 1) (H138.put nx139 (some (AObj.row 1 cells140))) (nx139 + 1) fun v141 H142 nx143 =>
 BI BinOp.add (nth xs14 4) (AV.int IntKind.i64 1) fun v144 =>
 K13 [nth xs14 0, nth xs14 1, v137, v141, v144] H142 nx143)
 (BI BinOp.add (nth xs14 4) (AV.int IntKind.i64 1) fun v145 =>
 K13 [nth xs14 0, nth xs14 1, nth xs14 2, nth xs14 3, v145] H47 nx48))))))
 (BI BinOp.sub v23 v49 fun v146 =>
 BI BinOp.add v146 v50 fun v147 =>
 BI BinOp.gtr v147 (AV.int IntKind.i64 16) fun v148 =>
 CNDC v148
 (Q (AV.tup [AV.nils, AV.int IntKind.i64 4]) H47 nx48)
 (LD false 1 (AV.ptr nx16 0) H47 fun v149 =>
 BI BinOp.neq v149 (AV.int IntKind.i64 15) fun v150 =>
 CND v150
 (LD false 1 (AV.ptr nx16 0) H47 fun v151 =>
 BI BinOp.neq v151 (AV.int IntKind.i64 18) fun v152 =>
 CNDC v152
 (BI BinOp.add v20 (AV.int IntKind.i64 1) fun v153 =>
 BSL 1 1 [AV.int IntKind.i64 0] [(0, v153)] fun cells154 =>
 APP 1 8 (nth xs14 2) (AV.slc nx48 0 1) (H47.put nx48 (some (AObj.row 1 cells154))) (nx48 + 1) fun v155 H156 nx157 =>
 BSL 1 1 [AV.int IntKind.i64 0] [(0, v147)] fun cells158 =>
 APP 1 8 (nth xs14 3) (AV.slc nx157 0 1) (H156.put nx157 (some (AObj.row 1 cells158))) (nx157 + 1) fun v159 H160 nx161 =>
 LD false 1 (AV.ptr nx16 0) H160 fun v162 =>
 BI BinOp.eql v162 (AV.int IntKind.i64 15) fun v163 =>
 CND v163
 (LD false 1 (AV.ptr nx16 1) H160 fun v164 =>
 BSL 1 1 [AV.int IntKind.i64 0] [(0, v164)] fun cells165 =>
 APP 1 8 v155 (AV.slc nx161 0 1) (H160.put nx161 (some (AObj.row 1 cells165))) (nx161 + 1) fun v166 H167 nx168 =>
 BSL 1 1 [AV.int IntKind.i64 0] [(0, v147)] fun cells169 =>
 APP 1 8 v159 (AV.slc nx168 0 1) (H167.put nx168 (some (AObj.row 1 cells169))) (nx168 + 1) fun v170 H171 nx172 =>
 BI BinOp.add (nth xs14 4) (AV.int IntKind.i64 1) fun v173 =>
 K13 [nth xs14 0, nth xs14 1, v166, v170, v173] H171 nx172)
 (LD false 1 (AV.ptr nx16 0) H160 fun v174 =>
 BI BinOp.eql v174 (AV.int IntKind.i64 16) fun v175 =>
 CNDC v175
 (LD false 1 (AV.ptr nx16 1) H160 fun v176 =>
 BSL 1 1 [AV.int IntKind.i64 0] [(0, v176)] fun cells177 =>
 APP 1 8 v155 (AV.slc nx161 0 1) (H160.put nx161 (some (AObj.row 1 cells177))) (nx161 + 1) fun v178 H179 nx180 =>
 BSL 1 1 [AV.int IntKind.i64 0] [(0, v147)] fun cells181 =>
 APP 1 8 v159 (AV.slc nx180 0 1) (H179.put nx180 (some (AObj.row 1 cells181))) (nx180 + 1) fun v182 H183 nx184 =>
 BI BinOp.add (nth xs14 4) (AV.int IntKind.i64 1) fun v185 =>
 K13 [nth xs14 0, nth xs14 1, v178, v182, v185] H183 nx184)
 (BI BinOp.add (nth xs14 4) (AV.int IntKind.i64 1) fun v186 =>
 K13 [nth xs14 0, nth xs14 1, v155, v159, v186] H160 nx161)))
 (LD false 1 (AV.ptr nx16 0) H47 fun v187 =>
 BI BinOp.eql v187 (AV.int IntKind.i64 15) fun v188 =>
 CND v188
 (LD false 1 (AV.ptr nx16 1) H47 fun v189 =>
 BSL 1 1 [AV.int IntKind.i64 0] [(0, v189)] fun cells190 =>
 APP 1 8 (nth xs14 2) (AV.slc nx48 0 1) (H47.put nx48 (some (AObj.row 1 cells190))) (nx48 + 1) fun v191 H192 nx193 =>
 BSL 1 1 [AV.int IntKind.i64 0] [(0, v147)] fun cells194 =>
 APP 1 8 (nth xs14 3) (AV.slc nx193 0 1) (H192.put nx193 (some (AObj.row 1 cells194))) (nx193 + 1) fun v195 H196 nx197 =>
 BI BinOp.add (nth xs14 4) (AV.int IntKind.i64 1) fun v198 =>
 K13 [nth xs14 0, nth xs14 1, v191, v195, v198] H196 nx197)
 (LD false 1 (AV.ptr nx16 0) H47 fun v199 =>
 BI BinOp.eql v199 (AV.int IntKind.i64 16) fun v200 =>
 CNDC v200
 (LD false 1 (AV.ptr nx16 1) H47 fun v201 =>
 BSL 1 1 [AV.int IntKind.i64 0] [(0, v201)] fun cells202 =>
 APP 1 8 (nth xs14 2) (AV.slc nx48 0 1) (H47.put nx48 (some (AObj.row 1 cells202))) (nx48 + 1) fun v203 H204 nx205 =>
 BSL 1 1 [AV.int IntKind.i64 0] [(0, v147)] fun cells206 =>
 APP 1 8 (nth xs14 3) (AV.slc nx205 0 1) (H204.put nx205 (some (AObj.row 1 cells206))) (nx205 + 1) fun v207 H208 nx209 =>
 BI BinOp.add (nth xs14 4) (AV.int IntKind.i64 1) fun v210 =>
 K13 [nth xs14 0, nth xs14 1, v203, v207, v210] H208 nx209)
 (BI BinOp.add (nth xs14 4) (AV.int IntKind.i64 1) fun v211 =>
 K13 [nth xs14 0, nth xs14 1, nth xs14 2, nth xs14 3, v211] H47 nx48))))
 (LD false 1 (AV.ptr nx16 0) H47 fun v212 =>
 BI BinOp.eql v212 (AV.int IntKind.i64 15) fun v213 =>
 CND v213
 (LD false 1 (AV.ptr nx16 1) H47 fun v214 =>
 BSL 1 1 [AV.int IntKind.i64 0] [(0, v214)] fun cells215 =>
 APP 1 8 (nth xs14 2) (AV.slc nx48 0 1) (H47.put nx48 (some (AObj.row 1 cells215))) (nx48 + 1) fun v216 H217 nx218 =>
 BSL 1 1 [AV.int IntKind.i64 0] [(0, v147)] fun cells219 =>
 APP 1 8 (nth xs14 3) (AV.slc nx218 0 1) (H217.put nx218 (some (AObj.row 1 cells219))) (nx218 + 1) fun v220 H221 nx222 =>
 BI BinOp.add (nth xs14 4) (AV.int IntKind.i64 1) fun v223 =>
 K13 [nth xs14 0, nth xs14 1, v216, v220, v223] H221 nx222)
 (LD false 1 (AV.ptr nx16 0) H47 fun v224 =>
 BI BinOp.eql v224 (AV.int IntKind.i64 16) fun v225 =>
 CNDC v225
 (LD false 1 (AV.ptr nx16 1) H47 fun v226 =>
 BSL 1 1 [AV.int IntKind.i64 0] [(0, v226)] fun cells227 =>
 APP 1 8 (nth xs14 2) (AV.slc nx48 0 1) (H47.put nx48 (some (AObj.row 1 cells227))) (nx48 + 1) fun v228 H229 nx230 =>
 BSL 1 1 [AV.int IntKind.i64 0] [(0, v147)] fun cells231 =>
 APP 1 8 (nth xs14 3) (AV.slc nx230 0 1) (H229.put nx230 (some (AObj.row 1 cells231))) (nx230 + 1) fun v232 H233 nx234 =>
 BI BinOp.add (nth xs14 4) (AV.int IntKind.i64 1) fun v235 =>
 K13 [nth xs14 0, nth xs14 1, v228, v232, v235] H233 nx234)
 (BI BinOp.add (nth xs14 4) (AV.int IntKind.i64 1) fun v236 =>
 K13 [nth xs14 0, nth xs14 1, nth xs14 2, nth xs14 3, v236] H47 nx48))))))
def zz (v23 : AV) (Q : QT) (nx16 : Nat) (v20 : AV) (xs14 : List AV) (K13 : J3) (v249 : AV) (H250 : Heap) (nx251 : Nat) : Prop :=
 EX v249 0 fun v252 =>
 EX v249 1 fun v253 =>
 BI BinOp.lss v23 v252 fun v254 =>
 CND v254
 (Q (AV.tup [AV.nils, AV.int IntKind.i64 10]) H250 nx251)
 (LD false 1 (AV.ptr nx16 0) H250 fun v255 =>
 BI BinOp.eql v255 (AV.int IntKind.i64 18) fun v256 =>
 CND v256
 (BI BinOp.gtr v23 (AV.int IntKind.i64 1) fun v257 =>
 CNDC v257
 (Q (AV.tup [AV.nils, AV.int IntKind.i64 10]) H250 nx251)
 (BI BinOp.sub v23 v252 fun v258 =>
 BI BinOp.add v258 v253 fun v259 =>
 BI BinOp.gtr v259 (AV.int IntKind.i64 16) fun v260 =>
 CNDC v260
 (Q (AV.tup [AV.nils, AV.int IntKind.i64 4]) H250 nx251)
 (LD false 1 (AV.ptr nx16 0) H250 fun v261 =>
 BI BinOp.neq v261 (AV.int IntKind.i64 15) fun v262 =>
 CND v262
 (LD false 1 (AV.ptr nx16 0) H250 fun v263 =>
 BI BinOp.neq v263 (AV.int IntKind.i64 18) fun v264 =>
 CNDC v264
 (BI BinOp.add v20 (AV.int IntKind.i64 1) fun v265 =>
 BSL 1 1 [AV.int IntKind.i64 0] [(0, v265)] fun cells266 =>
 APP 1 8 (nth xs14 2) (AV.slc nx251 0 1) (H250.put nx251 (some (AObj.row 1 cells266))) (nx251 + 1) fun v267 H268 nx269 =>
 BSL 1 1 [AV.int IntKind.i64 0] [(0, v259)] fun cells270 =>
 APP 1 8 (nth xs14 3) (AV.slc nx269 0 1) (H268.put nx269 (some (AObj.row 1 cells270))) (nx269 + 1) fun v271 H272 nx273 =>
 LD false 1 (AV.ptr nx16 0) H272 fun v274 =>
 BI BinOp.eql v274 (AV.int IntKind.i64 15) fun v275 =>
 CND v275
 (LD false 1 (AV.ptr nx16 1) H272 fun v276 =>
 BSL 1 1 [AV.int IntKind.i64 0] [(0, v276)] fun cells277 =>
 APP 1 8 v267 (AV.slc nx273 0 1) (H272.put nx273 (some (AObj.row 1 cells277))) (nx273 + 1) fun v278 H279 nx280 =>
 BSL 1 1 [AV.int IntKind.i64 0] [(0, v259)] fun cells281 =>
 APP 1 8 v271 (AV.slc nx280 0 1) (H279.put nx280 (some (AObj.row 1 cells281))) (nx280 + 1) fun v282 H283 nx284 =>
 BI BinOp.add (nth xs14 4) (AV.int IntKind.i64 1) fun v285 =>
 K13 [nth xs14 0, nth xs14 1, v278, v282, v285] H283 nx284)
 (LD false 1 (AV.ptr nx16 0) H272 fun v286 =>
 BI BinOp.eql v286 (AV.int IntKind.i64 16) fun v287 =>
 CNDC v287
 (LD false 1 (AV.ptr nx16 1) H272 fun v288 =>
 BSL 1 1 [AV.int IntKind.i64 0] [(0, v288)] fun cells289 =>
 APP 1 8 v267 (AV.slc nx273 0 1) (H272.put nx273 (some (AObj.row 1 cells289))) (nx273 + 1) fun v290 H291 nx292 =>
 BSL 1 1 [AV.int IntKind.i64 0] [(0, v259)] fun cells293 =>
 APP 1 8 v271 (AV.slc nx292 0 1) (H291.put nx292 (some (AObj.row 1 cells293))) (nx292 + 1) fun v294 H295 nx296 =>
 BI BinOp.add (nth xs14 4) (AV.int IntKind.i64 1) fun v297 =>
 K13 [nth xs14 0, nth xs14 1, v290, v294, v297] H295 nx296)
 (BI BinOp.add (nth xs14 4) (AV.int IntKind.i64 1) fun v298 =>
 K13 [nth xs14 0, nth xs14 1, v267, v271, v298] H272 nx273)))
 (LD false 1 (AV.ptr nx16 0) H250 fun v299 =>
 BI BinOp.eql v299 (AV.int IntKind.i64 15) fun v300 =>
 CND v300
 (LD false 1 (AV.ptr nx16 1) H250 fun v301 =>
 BSL 1 1 [AV.int IntKind.i64 0] [(0, v301)] fun cells302 =>
 APP 1 8 (nth xs14 2) (AV.slc nx251 0 1) (H250.put nx251 (some (AObj.row 1 cells302))) (nx251 + 1) fun v303 H304 nx305 =>
 BSL 1 1 [AV.int IntKind.i64 0] [(0, v259)] fun cells306 =>
 APP 1 8 (nth xs14 3) (AV.slc nx305 0 1) (H304.put nx305 (some (AObj.row 1 cells306))) (nx305 + 1) fun v307 H308 nx309 =>
 BI BinOp.add (nth xs14 4) (AV.int IntKind.i64 1) fun v310 =>
 K13 [nth xs14 0, nth xs14 1, v303, v307, v310] H308 nx309)
 (LD false 1 (AV.ptr nx16 0) H250 fun v311 =>
 BI BinOp.eql v311 (AV.int IntKind.i64 16) fun v312 =>
 CNDC v312
 (LD false 1 (AV.ptr nx16 1) H250 fun v313 =>
 BSL 1 1 [AV.int IntKind.i64 0] [(0, v313)] fun cells314 =>
 APP 1 8 (nth xs14 2) (AV.slc nx251 0 1) (H250.put nx251 (some (AObj.row 1 cells314))) (nx251 + 1) fun v315 H316 nx317 =>
 BSL 1 1 [AV.int IntKind.i64 0] [(0, v259)] fun cells318 =>
 APP 1 8 (nth xs14 3) (AV.slc nx317 0 1) (H316.put nx317 (some (AObj.row 1 cells318))) (nx317 + 1) fun v319 H320 nx321 =>
 BI BinOp.add (nth xs14 4) (AV.int IntKind.i64 1) fun v322 =>
 K13 [nth xs14 0, nth xs14 1, v315, v319, v322] H320 nx321)
 (BI BinOp.add (nth xs14 4) (AV.int IntKind.i64 1) fun v323 =>
 K13 [nth xs14 0, nth xs14 1, nth xs14 2, nth xs14 3, v323] H250 nx251))))
 (LD false 1 (AV.ptr nx16 0) H250 fun v324 =>
 BI BinOp.eql v324 (AV.int IntKind.i64 15) fun v325 =>
 CND v325
 (LD false 1 (AV.ptr nx16 1) H250 fun v326 =>
 BSL 1 1 [AV.int IntKind.i64 0] [(0, v326)] fun cells327 =>
 APP 1 8 (nth xs14 2) (AV.slc nx251 0 1) (H250.put nx251 (some (AObj.row 1 cells327))) (nx251 + 1) fun v328 H329 nx330 =>
 BSL 1 1 [AV.int IntKind.i64 0] [(0, v259)] fun cells331 =>
 APP 1 8 (nth xs14 3) (AV.slc nx330 0 1) (H329.put nx330 (some (AObj.row 1 cells331))) (nx330 + 1) fun v332 H333 nx334 =>
 BI BinOp.add (nth xs14 4) (AV.int IntKind.i64 1) fun v335 =>
 K13 [nth xs14 0, nth xs14 1, v328, v332, v335] H333 nx334)
 (LD false 1 (AV.ptr nx16 0) H250 fun v336 =>
 BI BinOp.eql v336 (AV.int IntKind.i64 16) fun v337 =>
 CNDC v337
 (LD false 1 (AV.ptr nx16 1) H250 fun v338 =>
 BSL 1 1 [AV.int IntKind.i64 0] [(0, v338)] fun cells339 =>
 APP 1 8 (nth xs14 2) (AV.slc nx251 0 1) (H250.put nx251 (some (AObj.row 1 cells339))) (nx251 + 1) fun v340 H341 nx342 =>
 BSL 1 1 [AV.int IntKind.i64 0] [(0, v259)] fun cells343 =>
 APP 1 8 (nth xs14 3) (AV.slc nx342 0 1) (H341.put nx342 (some (AObj.row 1 cells343))) (nx342 + 1) fun v344 H345 nx346 =>
 BI BinOp.add (nth xs14 4) (AV.int IntKind.i64 1) fun v347 =>
 K13 [nth xs14 0, nth xs14 1, v340, v344, v347] H345 nx346)
 (BI BinOp.add (nth xs14 4) (AV.int IntKind.i64 1) fun v348 =>
 K13 [nth xs14 0, nth xs14 1, nth xs14 2, nth xs14 3, v348] H250 nx251))))))
 (BI BinOp.sub v23 v252 fun v349 =>
 BI BinOp.add v349 v253 fun v350 =>
 BI BinOp.gtr v350 (AV.int IntKind.i64 16) fun v351 =>
 CNDC v351
 (Q (AV.tup [AV.nils, AV.int IntKind.i64 4]) H250 nx251)
 (LD false 1 (AV.ptr nx16 0) H250 fun v352 =>
 BI BinOp.neq v352 (AV.int IntKind.i64 15) fun v353 =>
 CND v353
 (LD false 1 (AV.ptr nx16 0) H250 fun v354 =>
 BI BinOp.neq v354 (AV.int IntKind.i64 18) fun v355 =>
 CNDC v355
 (BI BinOp.add v20 (AV.int IntKind.i64 1) fun v356 =>
 BSL 1 1 [AV.int IntKind.i64 0] [(0, v356)] fun cells357 =>
 APP 1 8 (nth xs14 2) (AV.slc nx251 0 1) (H250.put nx251 (some (AObj.row 1 cells357))) (nx251 + 1) fun v358 H359 nx360 =>
 BSL 1 1 [AV.int IntKind.i64 0] [(0, v350)] fun cells361 =>
 APP 1 8 (nth xs14 3) (AV.slc nx360 0 1) (H359.put nx360 (some (AObj.row 1 cells361))) (nx360 + 1) fun v362 H363 nx364 =>
 LD false 1 (AV.ptr nx16 0) H363 fun v365 =>
 BI BinOp.eql v365 (AV.int IntKind.i64 15) fun v366 =>
 CND v366
 (LD false 1 (AV.ptr nx16 1) H363 fun v367 =>
 BSL 1 1 [AV.int IntKind.i64 0] [(0, v367)] fun cells368 =>
 APP 1 8 v358 (AV.slc nx364 0 1) (H363.put nx364 (some (AObj.row 1 cells368))) (nx364 + 1) fun v369 H370 nx371 =>
 BSL 1 1 [AV.int IntKind.i64 0] [(0, v350)] fun cells372 =>
 APP 1 8 v362 (AV.slc nx371 0 1) (H370.put nx371 (some (AObj.row 1 cells372))) (nx371 + 1) fun v373 H374 nx375 =>
 BI BinOp.add (nth xs14 4) (AV.int IntKind.i64 1) fun v376 =>
 K13 [nth xs14 0, nth xs14 1, v369, v373, v376] H374 nx375)
 (LD false 1 (AV.ptr nx16 0) H363 fun v377 =>
 BI BinOp.eql v377 (AV.int IntKind.i64 16) fun v378 =>
 CNDC v378
 (LD false 1 (AV.ptr nx16 1) H363 fun v379 =>
 BSL 1 1 [AV.int IntKind.i64 0] [(0, v379)] fun cells380 =>
 APP 1 8 v358 (AV.slc nx364 0 1) (H363.put nx364 (some (AObj.row 1 cells380))) (nx364 + 1) fun v381 H382 nx383 =>
 BSL 1 1 [AV.int IntKind.i64 0] [(0, v350)] fun cells384 =>
 APP 1 8 v362 (AV.slc nx383 0 1) (H382.put nx383 (some (AObj.row 1 cells384))) (nx383 + 1) fun v385 H386 nx387 =>
 BI BinOp.add (nth xs14 4) (AV.int IntKind.i64 1) fun v388 =>
 K13 [nth xs14 0, nth xs14 1, v381, v385, v388] H386 nx387)
 (BI BinOp.add (nth xs14 4) (AV.int IntKind.i64 1) fun v389 =>
 K13 [nth xs14 0, nth xs14 1, v358, v362, v389] H363 nx364)))
 (LD false 1 (AV.ptr nx16 0) H250 fun v390 =>
 BI BinOp.eql v390 (AV.int IntKind.i64 15) fun v391 =>
 CND v391
 (LD false 1 (AV.ptr nx16 1) H250 fun v392 =>
 BSL 1 1 [AV.int IntKind.i64 0] [(0, v392)] fun cells393 =>
 APP 1 8 (nth xs14 2) (AV.slc nx251 0 1) (H250.put nx251 (some (AObj.row 1 cells393))) (nx251 + 1) fun v394 H395 nx396 =>
 BSL 1 1 [AV.int IntKind.i64 0] [(0, v350)] fun cells397 =>
 APP 1 8 (nth xs14 3) (AV.slc nx396 0 1) (H395.put nx396 (some (AObj.row 1 cells397))) (nx396 + 1) fun v398 H399 nx400 =>
 BI BinOp.add (nth xs14 4) (AV.int IntKind.i64 1) fun v401 =>
 K13 [nth xs14 0, nth xs14 1, v394, v398, v401] H399 nx400)
 (LD false 1 (AV.ptr nx16 0) H250 fun v402 =>
 BI BinOp.eql v402 (AV.int IntKind.i64 16) fun v403 =>
 CNDC v403
 (LD false 1 (AV.ptr nx16 1) H250 fun v404 =>
 BSL 1 1 [AV.int IntKind.i64 0] [(0, v404)] fun cells405 =>
 APP 1 8 (nth xs14 2) (AV.slc nx251 0 1) (H250.put nx251 (some (AObj.row 1 cells405))) (nx251 + 1) fun v406 H407 nx408 =>
 BSL 1 1 [AV.int IntKind.i64 0] [(0, v350)] fun cells409 =>
 APP 1 8 (nth xs14 3) (AV.slc nx408 0 1) (H407.put nx408 (some (AObj.row 1 cells409))) (nx408 + 1) fun v410 H411 nx412 =>
 BI BinOp.add (nth xs14 4) (AV.int IntKind.i64 1) fun v413 =>
 K13 [nth xs14 0, nth xs14 1, v406, v410, v413] H411 nx412)
 (BI BinOp.add (nth xs14 4) (AV.int IntKind.i64 1) fun v414 =>
 K13 [nth xs14 0, nth xs14 1, nth xs14 2, nth xs14 3, v414] H250 nx251))))
 (LD false 1 (AV.ptr nx16 0) H250 fun v415 =>
 BI BinOp.eql v415 (AV.int IntKind.i64 15) fun v416 =>
 CND v416
 (LD false 1 (AV.ptr nx16 1) H250 fun v417 =>
 BSL 1 1 [AV.int IntKind.i64 0] [(0, v417)] fun cells418 =>
 APP 1 8 (nth xs14 2) (AV.slc nx251 0 1) (H250.put nx251 (some (AObj.row 1 cells418))) (nx251 + 1) fun v419 H420 nx421 =>
 BSL 1 1 [AV.int IntKind.i64 0] [(0, v350)] fun cells422 =>
 APP 1 8 (nth xs14 3) (AV.slc nx421 0 1) (H420.put nx421 (some (AObj.row 1 cells422))) (nx421 + 1) fun v423 H424 nx425 =>
 BI BinOp.add (nth xs14 4) (AV.int IntKind.i64 1) fun v426 =>
 K13 [nth xs14 0, nth xs14 1, v419, v423, v426] H424 nx425)
 (LD false 1 (AV.ptr nx16 0) H250 fun v427 =>
 BI BinOp.eql v427 (AV.int IntKind.i64 16) fun v428 =>
 CNDC v428
 (LD false 1 (AV.ptr nx16 1) H250 fun v429 =>
 BSL 1 1 [AV.int IntKind.i64 0] [(0, v429)] fun cells430 =>
 APP 1 8 (nth xs14 2) (AV.slc nx251 0 1) (H250.put nx251 (some (AObj.row 1 cells430))) (nx251 + 1) fun v431 H432 nx433 =>
 BSL 1 1 [AV.int IntKind.i64 0] [(0, v350)] fun cells434 =>
 APP 1 8 (nth xs14 3) (AV.slc nx433 0 1) (H432.put nx433 (some (AObj.row 1 cells434))) (nx433 + 1) fun v435 H436 nx437 =>
 BI BinOp.add (nth xs14 4) (AV.int IntKind.i64 1) fun v438 =>
 K13 [nth xs14 0, nth xs14 1, v431, v435, v438] H436 nx437)
 (BI BinOp.add (nth xs14 4) (AV.int IntKind.i64 1) fun v439 =>
 K13 [nth xs14 0, nth xs14 1, nth xs14 2, nth xs14 3, v439] H250 nx251))))))
def zal (Q : QT) (K13 : J3) (xs14 : List AV) (H15 : Heap) (nx16 : Nat) : Prop :=
 LNL (nth xs14 2) fun v17 =>
 BI BinOp.lss (nth xs14 4) v17 fun v18 =>
 CNDC v18
 (IA 1 (nth xs14 2) (nth xs14 4) fun v19 =>
 LDR false 1 v19 H15 fun v20 _ =>
 IA 1 (nth xs14 3) (nth xs14 4) fun v22 =>
 LDR false 1 v22 H15 fun v23 _ =>
 BI BinOp.lss v20 (AV.int IntKind.i64 0) fun v25 =>
 CND v25
 (Q (AV.tup [AV.nils, AV.int IntKind.i64 8]) H15 nx16)
 (LNL (nth xs14 1) fun v26 =>
 BI BinOp.geq v20 v26 fun v27 =>
 CNDC v27
 (Q (AV.tup [AV.nils, AV.int IntKind.i64 8]) H15 nx16)
 (IA 1 (nth xs14 1) v20 fun v28 =>
 LD false 1 v28 H15 fun v29 =>
 BI BinOp.geq v29 (AV.int IntKind.i64 0) fun v30 =>
 CND v30
 (IA 1 (nth xs14 1) v20 fun v31 =>
 LD false 1 v31 H15 fun v32 =>
 BI BinOp.neq v32 v23 fun v33 =>
 CNDC v33
 (Q (AV.tup [AV.nils, AV.int IntKind.i64 10]) H15 nx16)
 (IA 1 (nth xs14 1) v20 fun v34 =>
 LD false 1 v34 H15 fun v35 =>
 BI BinOp.geq v35 (AV.int IntKind.i64 0) fun v36 =>
 CNDC v36
 (BI BinOp.add (nth xs14 4) (AV.int IntKind.i64 1) fun v37 =>
 K13 [nth xs14 0, nth xs14 1, nth xs14 2, nth xs14 3, v37] H15 nx16)
 (IA 1 (nth xs14 1) v20 fun v38 =>
 ST 1 v38 v23 H15 fun H39 =>
 FA 2 (nth xs14 0) fun v40 =>
 LD false 1 v40 H39 fun v41 =>
 IA 3 v41 v20 fun v42 =>
 LD true 3 v42 H39 fun v43 =>
 ST 3 (AV.ptr nx16 0) v43 (H39.put nx16 (some (AObj.row 3 [AV.int IntKind.i64 0, AV.int IntKind.i64 0, AV.int IntKind.i64 0]))) fun H44 =>
 LD true 3 (AV.ptr nx16 0) H44 fun v45 =>
 za Tryd.prog 61 [v45] H44 (nx16 + 1) (znv v23 Q nx16 v20 xs14 K13))))
 (IA 1 (nth xs14 1) v20 fun v237 =>
 LD false 1 v237 H15 fun v238 =>
 BI BinOp.geq v238 (AV.int IntKind.i64 0) fun v239 =>
 CNDC v239
 (BI BinOp.add (nth xs14 4) (AV.int IntKind.i64 1) fun v240 =>
 K13 [nth xs14 0, nth xs14 1, nth xs14 2, nth xs14 3, v240] H15 nx16)
 (IA 1 (nth xs14 1) v20 fun v241 =>
 ST 1 v241 v23 H15 fun H242 =>
 FA 2 (nth xs14 0) fun v243 =>
 LD false 1 v243 H242 fun v244 =>
 IA 3 v244 v20 fun v245 =>
 LD true 3 v245 H242 fun v246 =>
 ST 3 (AV.ptr nx16 0) v246 (H242.put nx16 (some (AObj.row 3 [AV.int IntKind.i64 0, AV.int IntKind.i64 0, AV.int IntKind.i64 0]))) fun H247 =>
 LD true 3 (AV.ptr nx16 0) H247 fun v248 =>
 za Tryd.prog 61 [v248] H247 (nx16 + 1) (zz v23 Q nx16 v20 xs14 K13))))))
 (Q (AV.tup [nth xs14 1, AV.int IntKind.i64 0]) H15 nx16)
def zhv (Q : QT) (K5 : J3) (xs6 : List AV) (H7 : Heap) (nx8 : Nat) : Prop :=
 BI BinOp.lss (nth xs6 3) (nth xs6 2) fun v9 =>
 CNDC v9
 (IA 1 (nth xs6 1) (nth xs6 3) fun v10 =>
 ST 1 v10 (AV.int IntKind.i64 (-1)) H7 fun H11 =>
 BI BinOp.add (nth xs6 3) (AV.int IntKind.i64 1) fun v12 =>
 K5 [nth xs6 0, nth xs6 1, nth xs6 2, v12] H11 nx8)
 (LP (zal Q) [nth xs6 0, nth xs6 1, AV.slc nx8 0 1, AV.slc (nx8 + 1) 0 1, AV.int IntKind.i64 0] ((H7.put nx8 (some (AObj.row 1 [AV.int IntKind.i64 0]))).put ((nx8 + 1)) (some (AObj.row 1 [AV.int IntKind.i64 0]))) (nx8 + 2))
def zhu (a0 : AV) (H : Heap) (nx : Nat) (Q : QT) : Prop :=
 a0.sure = true ∧
 LD false 1 (AV.ptr nx 2) (H.put nx (some (AObj.row a0.cells.length a0.cells))) fun v1 =>
 LNL v1 fun v2 =>
 MK 8 v2 v2 fun n3 =>
 LNL (AV.slc (nx + 1) 0 n3) fun v4 =>
 LP (zhv Q) [AV.ptr nx 0, AV.slc (nx + 1) 0 n3, v4, AV.int IntKind.i64 0] ((H.put nx (some (AObj.row a0.cells.length a0.cells))).put ((nx + 1)) (some (AObj.row 1 (List.replicate n3 [AV.int IntKind.i64 0]).flatten))) (nx + 2)
theorem zld (a0 : AV) (H : Heap) (nx : Nat) (Q : QT) : zhu a0 H nx Q → za Tryd.prog 41 [a0] H nx Q :=
  ze (lv := lvOf [(2, 3, [1, 4, 19, 20]), (2, 9, [1, 4, 6, 7, 8])]) (c := zp Tryd.f41) zu zx mixed Tryd.func41 (by kernel_rfl) (by kernel_rfl) (by kernel_rfl) (by kernel_rfl) (by kernel_rfl)
def zhs (Q : QT) (xs13 : List AV) (K12 : J3) (v19 : AV) (H20 : Heap) (nx21 : Nat) : Prop :=
 UO UnOp.not v19 fun v22 =>
 CNDC v22
 (Q (AV.int IntKind.i64 7) H20 nx21)
 (BI BinOp.add (nth xs13 3) (AV.int IntKind.i64 1) fun v23 =>
 K12 [nth xs13 0, nth xs13 1, nth xs13 2, v23] H20 nx21)
def zdy (Q : QT) (K70 : J3) (xs83 : List AV) (H84 : Heap) (nx85 : Nat) : Prop :=
 FA 1 (nth xs83 2) fun v87 =>
 LDR false 1 v87 H84 fun v88 _ =>
 BI BinOp.lss v88 (nth xs83 3) fun v90 =>
 CND v90
 (Q (AV.int IntKind.i64 3) H84 nx85)
 (FA 1 (nth xs83 2) fun v91 =>
 LDR false 1 v91 H84 fun v92 _ =>
 BI BinOp.gtr v92 (nth xs83 4) fun v94 =>
 CND v94
 (Q (AV.int IntKind.i64 3) H84 nx85)
 (FA 0 (nth xs83 2) fun v95 =>
 LDR false 1 v95 H84 fun v96 _ =>
 BI BinOp.eql v96 (AV.int IntKind.i64 17) fun v98 =>
 CND v98
 (FA 2 (nth xs83 2) fun v99 =>
 LDR false 1 v99 H84 fun v100 _ =>
 FA 0 (nth xs83 0) fun v102 =>
 LDR false 1 v102 H84 fun v103 _ =>
 FA 1 (nth xs83 2) fun v105 =>
 LDR false 1 v105 H84 fun v106 _ =>
 IA 3 v103 v106 fun v108 =>
 FA 0 v108 fun v109 =>
 LDR false 1 v109 H84 fun v110 _ =>
 BI BinOp.neq v100 v110 fun v112 =>
 CND v112
 (Q (AV.int IntKind.i64 3) H84 nx85)
 (FA 0 (nth xs83 2) fun v113 =>
 LDR false 1 v113 H84 fun v114 _ =>
 BI BinOp.neq v114 (AV.int IntKind.i64 17) fun v116 =>
 CND v116
 (FA 2 (nth xs83 2) fun v117 =>
 LDR false 1 v117 H84 fun v118 _ =>
 BI BinOp.neq v118 (AV.int IntKind.i64 0) fun v120 =>
 CNDC v120
 (Q (AV.int IntKind.i64 3) H84 nx85)
 (BI BinOp.add (nth xs83 10) (AV.int IntKind.i64 1) fun v121 =>
 K70 [nth xs83 0, nth xs83 1, nth xs83 5, nth xs83 6, nth xs83 7, nth xs83 8, nth xs83 9, v121] H84 nx85))
 (BI BinOp.add (nth xs83 10) (AV.int IntKind.i64 1) fun v122 =>
 K70 [nth xs83 0, nth xs83 1, nth xs83 5, nth xs83 6, nth xs83 7, nth xs83 8, nth xs83 9, v122] H84 nx85)))
 (FA 0 (nth xs83 2) fun v123 =>
 LDR false 1 v123 H84 fun v124 _ =>
 BI BinOp.neq v124 (AV.int IntKind.i64 17) fun v126 =>
 CND v126
 (FA 2 (nth xs83 2) fun v127 =>
 LDR false 1 v127 H84 fun v128 _ =>
 BI BinOp.neq v128 (AV.int IntKind.i64 0) fun v130 =>
 CNDC v130
 (Q (AV.int IntKind.i64 3) H84 nx85)
 (BI BinOp.add (nth xs83 10) (AV.int IntKind.i64 1) fun v131 =>
 K70 [nth xs83 0, nth xs83 1, nth xs83 5, nth xs83 6, nth xs83 7, nth xs83 8, nth xs83 9, v131] H84 nx85))
 (BI BinOp.add (nth xs83 10) (AV.int IntKind.i64 1) fun v132 =>
 K70 [nth xs83 0, nth xs83 1, nth xs83 5, nth xs83 6, nth xs83 7, nth xs83 8, nth xs83 9, v132] H84 nx85))))
def zht (v82 : AV) (xs71 : List AV) (nx73 : Nat) (H77 : Heap) (j86 : J3) : Prop :=
 BI BinOp.eql v82 (AV.int IntKind.i64 1) fun v133 =>
 CNDC v133
 (j86 [nth xs71 0, nth xs71 1, AV.ptr nx73 0, AV.int IntKind.i64 (-1073741824), AV.int IntKind.i64 1073741824, nth xs71 2, nth xs71 3, nth xs71 4, nth xs71 5, nth xs71 6, nth xs71 7] H77 (nx73 + 1))
 (BI BinOp.eql v82 (AV.int IntKind.i64 2) fun v134 =>
 CNDC v134
 (FA 1 (nth xs71 0) fun v135 =>
 LD false 1 v135 H77 fun v136 =>
 LNL v136 fun v137 =>
 BI BinOp.sub v137 (AV.int IntKind.i64 1) fun v138 =>
 j86 [nth xs71 0, nth xs71 1, AV.ptr nx73 0, AV.int IntKind.i64 0, v138, nth xs71 2, nth xs71 3, nth xs71 4, nth xs71 5, nth xs71 6, nth xs71 7] H77 (nx73 + 1))
 (BI BinOp.eql v82 (AV.int IntKind.i64 3) fun v139 =>
 CNDC v139
 (FA 1 (nth xs71 1) fun v140 =>
 LD false 1 v140 H77 fun v141 =>
 BI BinOp.sub v141 (AV.int IntKind.i64 1) fun v142 =>
 j86 [nth xs71 0, nth xs71 1, AV.ptr nx73 0, AV.int IntKind.i64 0, v142, nth xs71 2, nth xs71 3, nth xs71 4, nth xs71 5, nth xs71 6, nth xs71 7] H77 (nx73 + 1))
 (BI BinOp.eql v82 (AV.int IntKind.i64 4) fun v143 =>
 CNDC v143
 (FA 1 (nth xs71 1) fun v144 =>
 LD false 1 v144 H77 fun v145 =>
 BI BinOp.sub v145 (AV.int IntKind.i64 1) fun v146 =>
 j86 [nth xs71 0, nth xs71 1, AV.ptr nx73 0, AV.int IntKind.i64 0, v146, nth xs71 2, nth xs71 3, nth xs71 4, nth xs71 5, nth xs71 6, nth xs71 7] H77 (nx73 + 1))
 (BI BinOp.eql v82 (AV.int IntKind.i64 5) fun v147 =>
 CNDC v147
 (j86 [nth xs71 0, nth xs71 1, AV.ptr nx73 0, AV.int IntKind.i64 1, AV.int IntKind.i64 5, nth xs71 2, nth xs71 3, nth xs71 4, nth xs71 5, nth xs71 6, nth xs71 7] H77 (nx73 + 1))
 (BI BinOp.eql v82 (AV.int IntKind.i64 15) fun v148 =>
 CNDC v148
 (FA 2 (nth xs71 1) fun v149 =>
 LD false 1 v149 H77 fun v150 =>
 LNL v150 fun v151 =>
 BI BinOp.sub v151 (AV.int IntKind.i64 1) fun v152 =>
 j86 [nth xs71 0, nth xs71 1, AV.ptr nx73 0, AV.int IntKind.i64 0, v152, nth xs71 2, nth xs71 3, nth xs71 4, nth xs71 5, nth xs71 6, nth xs71 7] H77 (nx73 + 1))
 (BI BinOp.eql v82 (AV.int IntKind.i64 16) fun v153 =>
 CNDC v153
 (FA 2 (nth xs71 1) fun v154 =>
 LD false 1 v154 H77 fun v155 =>
 LNL v155 fun v156 =>
 BI BinOp.sub v156 (AV.int IntKind.i64 1) fun v157 =>
 j86 [nth xs71 0, nth xs71 1, AV.ptr nx73 0, AV.int IntKind.i64 0, v157, nth xs71 2, nth xs71 3, nth xs71 4, nth xs71 5, nth xs71 6, nth xs71 7] H77 (nx73 + 1))
 (BI BinOp.eql v82 (AV.int IntKind.i64 17) fun v158 =>
 CNDC v158
 (FA 0 (nth xs71 0) fun v159 =>
 LD false 1 v159 H77 fun v160 =>
 LNL v160 fun v161 =>
 BI BinOp.sub v161 (AV.int IntKind.i64 1) fun v162 =>
 j86 [nth xs71 0, nth xs71 1, AV.ptr nx73 0, AV.int IntKind.i64 0, v162, nth xs71 2, nth xs71 3, nth xs71 4, nth xs71 5, nth xs71 6, nth xs71 7] H77 (nx73 + 1))
 (j86 [nth xs71 0, nth xs71 1, AV.ptr nx73 0, AV.int IntKind.i64 0, AV.int IntKind.i64 0, nth xs71 2, nth xs71 3, nth xs71 4, nth xs71 5, nth xs71 6, nth xs71 7] H77 (nx73 + 1)))))))))
def zhr (Q : QT) (xs71 : List AV) (K60 : J3) (v164 : AV) (H165 : Heap) (nx166 : Nat) : Prop :=
 EX v164 0 fun _ =>
 EX v164 1 fun v168 =>
 BI BinOp.neq v168 (AV.int IntKind.i64 0) fun v169 =>
 CNDC v169
 (Q v168 H165 nx166)
 (BI BinOp.add (nth xs71 4) (AV.int IntKind.i64 1) fun v170 =>
 K60 [nth xs71 0, nth xs71 2, nth xs71 3, v170] H165 nx166)
def zdx (Q : QT) (K60 : J3) (K70 : J3) (xs71 : List AV) (H72 : Heap) (nx73 : Nat) : Prop :=
 BI BinOp.lss (nth xs71 7) (nth xs71 6) fun v74 =>
 CNDC v74
 (IA 3 (nth xs71 5) (nth xs71 7) fun v75 =>
 LD true 3 v75 H72 fun v76 =>
 ST 3 (AV.ptr nx73 0) v76 (H72.put nx73 (some (AObj.row 3 [AV.int IntKind.i64 0, AV.int IntKind.i64 0, AV.int IntKind.i64 0]))) fun H77 =>
 LD false 1 (AV.ptr nx73 0) H77 fun v78 =>
 BI BinOp.lss v78 (AV.int IntKind.i64 1) fun v79 =>
 CND v79
 (Q (AV.int IntKind.i64 1) H77 (nx73 + 1))
 (LD false 1 (AV.ptr nx73 0) H77 fun v80 =>
 BI BinOp.gtr v80 (AV.int IntKind.i64 19) fun v81 =>
 CNDC v81
 (Q (AV.int IntKind.i64 1) H77 (nx73 + 1))
 (LD false 1 (AV.ptr nx73 0) H77 fun v82 =>
 JN (zdy Q K70) (zht v82 xs71 nx73 H77))))
 (LD true 3 (nth xs71 1) H72 fun v163 =>
 za Tryd.prog 41 [v163] H72 nx73 (zhr Q xs71 K60))
def zdw (Q : QT) (K60 : J3) (xs61 : List AV) (H62 : Heap) (nx63 : Nat) : Prop :=
 BI BinOp.lss (nth xs61 3) (nth xs61 2) fun v64 =>
 CNDC v64
 (IA 3 (nth xs61 1) (nth xs61 3) fun v65 =>
 LD true 3 v65 H62 fun v66 =>
 ST 3 (AV.ptr nx63 0) v66 (H62.put nx63 (some (AObj.row 3 [AV.int IntKind.i64 0, AV.int IntKind.i64 0, AV.nils]))) fun H67 =>
 LD false 1 (AV.ptr nx63 2) H67 fun v68 =>
 LNL v68 fun v69 =>
 LP (zdx Q K60) [nth xs61 0, AV.ptr nx63 0, nth xs61 1, nth xs61 2, nth xs61 3, v68, v69, AV.int IntKind.i64 0] H67 (nx63 + 1))
 (Q (AV.int IntKind.i64 0) H62 nx63)
def zdv (Q : QT) (K33 : J3) (xs34 : List AV) (H35 : Heap) (nx36 : Nat) : Prop :=
 BI BinOp.lss (nth xs34 3) (nth xs34 2) fun v37 =>
 CNDC v37
 (IA 3 (nth xs34 1) (nth xs34 3) fun v38 =>
 LD true 3 v38 H35 fun v39 =>
 ST 3 (AV.ptr nx36 0) v39 (H35.put nx36 (some (AObj.row 3 [AV.int IntKind.i64 0, AV.int IntKind.i64 0, AV.nils]))) fun H40 =>
 LD false 1 (AV.ptr nx36 0) H40 fun v41 =>
 BI BinOp.lss v41 (AV.int IntKind.i64 0) fun v42 =>
 CND v42
 (Q (AV.int IntKind.i64 3) H40 (nx36 + 1))
 (LD false 1 (AV.ptr nx36 0) H40 fun v43 =>
 BI BinOp.gtr v43 (AV.int IntKind.i64 4) fun v44 =>
 CND v44
 (Q (AV.int IntKind.i64 3) H40 (nx36 + 1))
 (LD false 1 (AV.ptr nx36 1) H40 fun v45 =>
 LD false 1 (AV.ptr nx36 0) H40 fun v46 =>
 BI BinOp.lss v45 v46 fun v47 =>
 CND v47
 (Q (AV.int IntKind.i64 3) H40 (nx36 + 1))
 (LD false 1 (AV.ptr nx36 1) H40 fun v48 =>
 BI BinOp.gtr v48 (AV.int IntKind.i64 8) fun v49 =>
 CND v49
 (Q (AV.int IntKind.i64 3) H40 (nx36 + 1))
 (LD false 1 (AV.ptr nx36 2) H40 fun v50 =>
 LNL v50 fun v51 =>
 BI BinOp.eql v51 (AV.int IntKind.i64 0) fun v52 =>
 CND v52
 (Q (AV.int IntKind.i64 3) H40 (nx36 + 1))
 (LD false 1 (AV.ptr nx36 2) H40 fun v53 =>
 LNL v53 fun v54 =>
 BI BinOp.gtr v54 (AV.int IntKind.i64 200) fun v55 =>
 CNDC v55
 (Q (AV.int IntKind.i64 3) H40 (nx36 + 1))
 (BI BinOp.add (nth xs34 3) (AV.int IntKind.i64 1) fun v56 =>
 K33 [nth xs34 0, nth xs34 1, nth xs34 2, v56] H40 (nx36 + 1))))))))
 (FA 0 (nth xs34 0) fun v57 =>
 LD false 1 v57 H35 fun v58 =>
 LNL v58 fun v59 =>
 LP (zdw Q) [nth xs34 0, v58, v59, AV.int IntKind.i64 0] H35 nx36)
def zdu (Q : QT) (K12 : J3) (xs13 : List AV) (H14 : Heap) (nx15 : Nat) : Prop :=
 BI BinOp.lss (nth xs13 3) (nth xs13 2) fun v16 =>
 CNDC v16
 (IA 1 (nth xs13 1) (nth xs13 3) fun v17 =>
 LD false 1 v17 H14 fun v18 =>
 za Tryd.prog 25 [v18] H14 nx15 (zhs Q xs13 K12))
 (FA 0 (nth xs13 0) fun v24 =>
 LD false 1 v24 H14 fun v25 =>
 IA 3 v25 (AV.int IntKind.i64 0) fun v26 =>
 FA 0 v26 fun v27 =>
 LD false 1 v27 H14 fun v28 =>
 BI BinOp.neq v28 (AV.int IntKind.i64 0) fun v29 =>
 CNDC v29
 (Q (AV.int IntKind.i64 10) H14 nx15)
 (FA 0 (nth xs13 0) fun v30 =>
 LD false 1 v30 H14 fun v31 =>
 LNL v31 fun v32 =>
 LP (zdv Q) [nth xs13 0, v31, v32, AV.int IntKind.i64 0] H14 nx15))
def zhq (a0 : AV) (H : Heap) (nx : Nat) (Q : QT) : Prop :=
 a0.sure = true ∧
 LD false 1 (AV.ptr nx 0) (H.put nx (some (AObj.row a0.cells.length a0.cells))) fun v1 =>
 LNL v1 fun v2 =>
 BI BinOp.eql v2 (AV.int IntKind.i64 0) fun v3 =>
 CND v3
 (Q (AV.int IntKind.i64 5) (H.put nx (some (AObj.row a0.cells.length a0.cells))) (nx + 1))
 (LD false 1 (AV.ptr nx 0) (H.put nx (some (AObj.row a0.cells.length a0.cells))) fun v4 =>
 LNL v4 fun v5 =>
 BI BinOp.gtr v5 (AV.int IntKind.i64 5) fun v6 =>
 CNDC v6
 (Q (AV.int IntKind.i64 5) (H.put nx (some (AObj.row a0.cells.length a0.cells))) (nx + 1))
 (LD false 1 (AV.ptr nx 1) (H.put nx (some (AObj.row a0.cells.length a0.cells))) fun v7 =>
 LNL v7 fun v8 =>
 BI BinOp.gtr v8 (AV.int IntKind.i64 16) fun v9 =>
 CNDC v9
 (Q (AV.int IntKind.i64 4) (H.put nx (some (AObj.row a0.cells.length a0.cells))) (nx + 1))
 (LD false 1 (AV.ptr nx 1) (H.put nx (some (AObj.row a0.cells.length a0.cells))) fun v10 =>
 LNL v10 fun v11 =>
 LP (zdu Q) [AV.ptr nx 0, v10, v11, AV.int IntKind.i64 0] (H.put nx (some (AObj.row a0.cells.length a0.cells))) (nx + 1))))
theorem zlc (a0 : AV) (H : Heap) (nx : Nat) (Q : QT) : zhq a0 H nx Q → za Tryd.prog 20 [a0] H nx Q :=
  ze (lv := lvOf [(1, 8, [1, 8, 10, 11, 12, 87, 88, 89, 94, 95, 96]), (2, 6, [1, 30, 31, 32]), (2, 14, [1, 47, 48, 49]), (2, 20, [1, 87, 88, 89]), (2, 23, [1, 8, 87, 88, 89, 94, 95, 96])]) (c := zp Tryd.f20) zu zx mixed Tryd.func20 (by kernel_rfl) (by kernel_rfl) (by kernel_rfl) (by kernel_rfl) (by kernel_rfl)
end Go.Proofs.YtpllgpgdcbgalaaDoor
