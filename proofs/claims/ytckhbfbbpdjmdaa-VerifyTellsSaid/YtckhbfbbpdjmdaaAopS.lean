/- Each abstract operation stands for the model's own. -/
import Derived.Test.YtckhbfbbpdjmdaaEff8
namespace Go.Proofs.Ytckhbfbbpdjmdaa
open Go Go.RowKit

/-- Types whose values are compared by their cells. -/
def EOk (P : Program) (T : Nat → Option AT) (eqs : Nat → Bool) : Prop := ∀ t a, eqs t = true → T t = some a → EqTy P t a.size

/-- Does it surely leave the heap alone? -/
def noW (o : Oper) : Bool := match o.op with
  | .alloc _ | .box _ _ | .buildSlice _ _ _ | .makeMap _ _ | .makeSlice _ _ _ | .store _ _ _ | .mapUpdate _ _ _ _ | .insert _ _ _ _ | .call _ => false
  | _ => true
theorem toList_lit {α : Type} {a : Array α} {l : List α} (h : a.toList = l) : a = l.toArray := by subst h; simp

theorem aop_sound' {P : Program} {T : Nat → Option AT} {eqs : Nat → Bool} (hT : TOk P T) (hE : EOk P T eqs) {o : Oper} {e : Operand → AV} {H : Heap} {nx : Nat} {k : Kt} (hk : aop T eqs e H nx o k) :
    ∃ v rd fr D, (fr = [] ∨ fr = [nx]) ∧ Eff P o e H rd fr D v ∧ k v rd fr D ∧ (noW o = true → fr = [] ∧ D = []) := by
  have quiet : (∃ v rd, Eff P o e H rd [] [] v ∧ k v rd [] []) → ∃ v rd fr D, (fr = [] ∨ fr = [nx]) ∧ Eff P o e H rd fr D v ∧ k v rd fr D ∧ (noW o = true → fr = [] ∧ D = []) := fun ⟨v, rd, h1, h2⟩ => ⟨v, rd, [], [], .inl rfl, h1, h2, fun _ => ⟨rfl, rfl⟩⟩
  have writes0 : noW o = false → (∃ v rd D, Eff P o e H rd [] D v ∧ k v rd [] D) → ∃ v rd fr D, (fr = [] ∨ fr = [nx]) ∧ Eff P o e H rd fr D v ∧ k v rd fr D ∧ (noW o = true → fr = [] ∧ D = []) := fun hn ⟨v, rd, D, h1, h2⟩ => ⟨v, rd, [], D, .inl rfl, h1, h2, fun h => by rw [hn] at h; cases h⟩
  have news0 : noW o = false → ∀ ob, (∃ v rd, Eff P o e H rd [nx] [(nx, some ob)] v ∧ k v rd [nx] [(nx, some ob)]) → ∃ v rd fr D, (fr = [] ∨ fr = [nx]) ∧ Eff P o e H rd fr D v ∧ k v rd fr D ∧ (noW o = true → fr = [] ∧ D = []) := fun hn ob ⟨v, rd, h1, h2⟩ => ⟨v, rd, [nx], _, .inr rfl, h1, h2, fun h => by rw [hn] at h; cases h⟩
  have any0 : noW o = false → (∃ v rd fr D, (fr = [] ∨ fr = [nx]) ∧ Eff P o e H rd fr D v ∧ k v rd fr D) → ∃ v rd fr D, (fr = [] ∨ fr = [nx]) ∧ Eff P o e H rd fr D v ∧ k v rd fr D ∧ (noW o = true → fr = [] ∧ D = []) := fun hn ⟨v, rd, fr, D, h0, h1, h2⟩ => ⟨v, rd, fr, D, h0, h1, h2, fun h => by rw [hn] at h; cases h⟩
  cases hop : o.op <;> simp only [aop, hop] at hk
  case move x => exact quiet (eff_move (.inl hop) hk)
  case assign x => exact quiet (eff_move (.inr hop) hk)
  case pick c a b => exact quiet (eff_pick hop hk)
  case alloc t =>
    split at hk
    · rename_i a ht
      obtain ⟨i, d, z, ha⟩ := hT.at ht
      exact news0 (by simp [noW, hop]) _ (eff_alloc ha hop hk)
    · exact hk.elim
  case box t x => exact news0 (by simp [noW, hop]) _ (eff_box hop hk.1 hk.2)
  case build t ps =>
    split at hk
    · rename_i ht
      obtain ⟨i, d, z, ha⟩ := hT.at ht
      exact quiet (eff_build_struct hT ha hk.1 hop hk.2)
    · rename_i ht
      obtain ⟨i, d, z, ha⟩ := hT.at ht
      exact quiet (eff_build_arr hT ha hk.1 hop hk.2)
    · exact hk.elim
  case buildSlice t len ps =>
    split at hk
    · rename_i ht
      obtain ⟨i, d, z, ha⟩ := hT.at ht
      split at hk
      · rename_i a hel
        obtain ⟨i', d', z', ha'⟩ := hT.at hel
        obtain ⟨v, rd, cells, h1, h2⟩ := eff_bslice ha ha' ha'.len hk.2.1 hk.1 hop hk.2.2
        exact news0 (by simp [noW, hop]) _ ⟨v, rd, h1, h2⟩
      · exact hk.elim
    · exact hk.elim
  case load t p =>
    split at hk
    · rename_i a ht
      obtain ⟨i, d, z, ha⟩ := hT.at ht
      exact quiet (eff_load ha hop hk)
    · exact hk.elim
  case store t p x =>
    split at hk
    · rename_i a ht
      obtain ⟨i, d, z, ha⟩ := hT.at ht
      exact writes0 (by simp [noW, hop]) (eff_store ha hop hk)
    · exact hk.elim
  case nilCheck x => exact quiet (eff_nilc hop hk)
  case binOp op t x y yt =>
    split at hk
    · exact quiet (eff_bini hop hk)
    · exact quiet (eff_bins hop hk)
    · rename_i ht
      obtain ⟨i, d, z, ha⟩ := hT.at ht
      have hkd := ha.kind
      have hu : P.underlying t = some .bool := by
        cases d <;> simp only [kindOf] at hkd <;> cases hkd
        exact ha.und
      exact quiet (eff_binb hu hop hk)
    · rename_i ht
      exact quiet (eff_bina (hE _ _ hk.1 ht) hop hk.2)
    · rename_i ht
      exact quiet (eff_bina (hE _ _ hk.1 ht) hop hk.2)
    · rename_i ht
      obtain ⟨i, d, z, ha⟩ := hT.at ht
      have hkd := ha.kind
      have hu : ∃ el, P.underlying t = some (.pointer el) := by
        cases d <;> simp only [kindOf] at hkd <;> cases hkd
        exact ⟨_, ha.und⟩
      obtain ⟨el, hu⟩ := hu
      exact quiet (eff_binp hu hop hk)
    · exact hk.elim
  case unOp op t x => exact quiet (eff_un hop hk)
  case convert s d x =>
    split at hk
    · rename_i hs hd
      obtain ⟨i, d1, z, ha⟩ := hT.at hs
      obtain ⟨i', d', z', ha'⟩ := hT.at hd
      exact quiet (eff_convi ha.und (int_und ha') hop hk)
    · exact hk.elim
  case makeFunc fn first cap =>
    split at hk
    · rename_i hf
      have hf' := Array.toList_eq_nil_iff.1 hf
      subst hf'
      exact quiet (eff_mkfunc hop hk)
    · exact hk.elim
  case makeMap t r =>
    split at hk
    · exact news0 (by simp [noW, hop]) _ (eff_mkmap hop hk)
    · exact hk.elim
  case makeSlice t l c =>
    split at hk
    · rename_i ht
      obtain ⟨i, d, z, ha⟩ := hT.at ht
      split at hk
      · rename_i a hel
        obtain ⟨i', d', z', ha'⟩ := hT.at hel
        obtain ⟨v, rd, cells, h1, h2⟩ := eff_make ha ha' ha'.len hk.1 hop hk.2
        exact news0 (by simp [noW, hop]) _ ⟨v, rd, h1, h2⟩
      · exact hk.elim
    · exact hk.elim
  case slice t x lo hi mx =>
    split at hk
    · split at hk
      · rename_i ht
        obtain ⟨i, d, z, ha⟩ := hT.at ht
        exact quiet (eff_slice hT ha hk.1 hop hk.2)
      · rename_i ht
        obtain ⟨i, d, z, ha⟩ := hT.at ht
        exact quiet (eff_slice_str ha hop hk)
      · exact hk.elim
    · split at hk
      · split at hk
        · rename_i ht
          obtain ⟨i, d, z, ha⟩ := hT.at ht
          exact quiet (eff_slice0 hT ha hk.1 hop hk.2)
        · exact hk.elim
      · exact hk.elim
  case fieldAddr t x f =>
    split at hk
    · rename_i ht
      obtain ⟨i, d, z, ha⟩ := hT.at ht
      split at hk
      · rename_i hp
        exact quiet (eff_faddr hT ha hp hk.1 hop hk.2)
      · exact hk.elim
    · exact hk.elim
  case field t x f =>
    split at hk
    · rename_i ht
      obtain ⟨i, d, z, ha⟩ := hT.at ht
      split at hk
      · rename_i hf
        split at hk
        · rename_i a hft
          obtain ⟨i', d', z', ha'⟩ := hT.at hft
          exact quiet (eff_field ha hf ha' hop hk)
        · exact hk.elim
      · exact hk.elim
    · exact hk.elim
  case indexAddr t x ix =>
    split at hk
    · rename_i ht
      obtain ⟨i, d, z, ha⟩ := hT.at ht
      exact quiet (eff_iaddr hT ha hk.1 hop hk.2)
    · rename_i ht
      obtain ⟨i, d, z, ha⟩ := hT.at ht
      exact quiet (eff_aaddr hT ha hk.1 hop hk.2)
    · exact hk.elim
  case index t x ix =>
    split at hk
    · rename_i ht
      obtain ⟨i, d, z, ha⟩ := hT.at ht
      exact quiet (eff_index ha hop hk)
    · rename_i ht
      obtain ⟨i, d, z, ha⟩ := hT.at ht
      split at hk
      · rename_i a hel
        obtain ⟨i', d', z', ha'⟩ := hT.at hel
        exact quiet (eff_aindex ha ha' hop hk)
      · exact hk.elim
    · exact hk.elim
  case lookup t m key ok =>
    split at hk
    · rename_i ht
      obtain ⟨i, d, z, ha⟩ := hT.at ht
      split at hk
      · rename_i a ka hel hkt
        obtain ⟨i', d', z', ha'⟩ := hT.at hel
        obtain ⟨i'', d'', z'', ha''⟩ := hT.at hkt
        refine quiet (eff_look ha ha' ha'' hk.1 (fun hag => ?_) hop hk.2)
        have h1 := ha'.agg
        rw [hag] at h1
        rw [ha'.cells]
        cases z' <;> simp only [aggVal] at h1 <;> first | rfl | cases h1
      · exact hk.elim
    · exact hk.elim
  case mapUpdate t m key v =>
    split at hk
    · rename_i ht
      obtain ⟨i, d, z, ha⟩ := hT.at ht
      split at hk
      · rename_i ka hkt
        obtain ⟨i'', d'', z'', ha''⟩ := hT.at hkt
        exact writes0 (by simp [noW, hop]) (eff_mupd ha ha'' hk.1 (.inl hop) hk.2)
      · exact hk.elim
    · exact hk.elim
  case insert t m key v =>
    split at hk
    · rename_i ht
      obtain ⟨i, d, z, ha⟩ := hT.at ht
      split at hk
      · rename_i ka hkt
        obtain ⟨i'', d'', z'', ha''⟩ := hT.at hkt
        exact writes0 (by simp [noW, hop]) (eff_mupd ha ha'' hk.1 (.inr hop) hk.2)
      · exact hk.elim
    · exact hk.elim
  case extract x i => exact quiet (eff_extr hop hk)
  case call c =>
    obtain ⟨cl, ar, tys⟩ := c
    simp only at hk
    split at hk
    all_goals first | exact hk.elim | skip
    · rename_i h1 h2
      obtain rfl := (toList_lit h1)
      obtain rfl := (toList_lit h2)
      split at hk
      · rename_i ht
        obtain ⟨i, d, z, ha⟩ := hT.at ht
        exact quiet (eff_lens ha hop hk)
      · rename_i ht
        obtain ⟨i, d, z, ha⟩ := hT.at ht
        exact quiet (eff_lenl ha hop hk)
      · rename_i ht
        obtain ⟨i, d, z, ha⟩ := hT.at ht
        exact quiet (eff_lenm ha hop hk)
      · exact hk.elim
    · rename_i h1 h2
      obtain rfl := (toList_lit h1)
      obtain rfl := (toList_lit h2)
      split at hk
      · rename_i ht
        obtain ⟨i, d, z, ha⟩ := hT.at ht
        split at hk
        · rename_i a hel
          obtain ⟨i', d', z', ha'⟩ := hT.at hel
          exact any0 (by simp [noW, hop]) (eff_append hT ha ha' ha'.len hk.1 hk.2.1 hk.2.2.1 hop hk.2.2.2)
        · exact hk.elim
      · exact hk.elim
    · rename_i h1 h2
      obtain rfl := (toList_lit h1)
      obtain rfl := (toList_lit h2)
      split at hk
      · rename_i ht
        obtain ⟨i, d, z, ha⟩ := hT.at ht
        split at hk
        · rename_i a hel
          obtain ⟨i', d', z', ha'⟩ := hT.at hel
          exact writes0 (by simp [noW, hop]) (eff_copy ha ha' hk.1 hop hk.2)
        · exact hk.elim
      · exact hk.elim
  all_goals exact hk.elim
theorem aop_sound {P : Program} {T : Nat → Option AT} {eqs : Nat → Bool} (hT : TOk P T) (hE : EOk P T eqs) {o : Oper} {e : Operand → AV} {H : Heap} {nx : Nat} {k : Kt} (hk : aop T eqs e H nx o k) :
    ∃ v rd fr D, (fr = [] ∨ fr = [nx]) ∧ Eff P o e H rd fr D v ∧ k v rd fr D :=
  let ⟨v, rd, fr, D, h1, h2, h3, _⟩ := aop_sound' hT hE hk
  ⟨v, rd, fr, D, h1, h2, h3⟩
end Go.Proofs.Ytckhbfbbpdjmdaa
