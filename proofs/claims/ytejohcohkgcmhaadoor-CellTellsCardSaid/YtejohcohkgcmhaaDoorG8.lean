/- Numbers, texts, and what is made of two values: the program's functions, and the document's. A call that changes what it is handed by address, where the order is drawn. Cells numbered as they are come to: the program's closure. Rows that are read: by value, or owned. Rows copied. Cells numbered as they are come to: plain laws. Cells numbered as they are come to: the closure, where the order is drawn. Cells numbered as they are come to: the program's function. Cells numbered as they are come to: what holds between the closure's calls. Cells numbered anew: what stays. Cells numbered as they are come to: the program's function. Cells numbered as they are come to: the program's function, all of it. -/
import Derived.Test.YtejohcohkgcmhaaDoorG7
namespace Go.Proofs.YtejohcohkgcmhaaDoor
open Go Go.RowKit

@[simp] theorem eqsT_val : eqsT 25 = true := by kernel_rfl
@[simp] theorem eqsT_cell : eqsT 43 = true := by kernel_rfl

theorem tdm (k : Int) : k = 1073741825 * k.tdiv 1073741825 + k.tmod 1073741825 ∧ (0 ≤ k → 0 ≤ k.tmod 1073741825 ∧ k.tmod 1073741825 < 1073741825 ∧ 0 ≤ k.tdiv 1073741825) ∧
    (k ≤ 0 → -1073741825 < k.tmod 1073741825 ∧ k.tmod 1073741825 ≤ 0 ∧ k.tdiv 1073741825 ≤ 0) := by
  have pos : ∀ j : Int, 0 ≤ j → j = 1073741825 * j.tdiv 1073741825 + j.tmod 1073741825 ∧ 0 ≤ j.tmod 1073741825 ∧ j.tmod 1073741825 < 1073741825 ∧ 0 ≤ j.tdiv 1073741825 := by
    intro j hj
    rw [Int.tdiv_eq_ediv_of_nonneg hj, Int.tmod_eq_emod_of_nonneg hj]
    omega
  by_cases h : 0 ≤ k
  · obtain ⟨a, b, c, d⟩ := pos k h
    exact ⟨a, fun _ => ⟨b, c, d⟩, fun hk => by omega⟩
  · obtain ⟨a, b, c, d⟩ := pos (-k) (by omega)
    rw [Int.neg_tdiv, Int.neg_tmod] at *
    exact ⟨by omega, fun hk => by omega, fun _ => by omega⟩
theorem tmod_small {k : Int} (h : -1073741825 < k ∧ k < 1073741825) : k.tmod 1073741825 = k := by
  obtain ⟨h1, h2, h3⟩ := tdm k
  by_cases hk : 0 ≤ k
  · have := h2 hk; omega
  · have := h3 (by omega); omega
theorem int_qc (n : Int) : QC Tryd.prog 7 [.int .i64 n] (.agg (VM.cInt n).avs) := by
  refine QC.of' fun H nx => cell_Int_calls _ H nx _ ?_
  simp [cell_Int_vc, VM.cInt, Val.avs]

theorem round_qc (n : Int) (h0 : I64 n) : QC Tryd.prog 35 [.int .i64 n] (.int .i64 (n.tmod 1073741825)) := by
  refine fun H nx => zwref1_Round_calls _ H nx _ ?_
  simp only [I64] at h0
  unfold zwref1_Round_vc
  refine LP.mk (fun m xs H' nx' => ∃ k : Int, m = (if -1073741825 < k ∧ k < 1073741825 then 0 else 1) ∧ xs = [.int .i64 k, .int .i64 1073741825] ∧ I64 k ∧ H = H' ∧ nx = nx' ∧ k.tmod 1073741825 = n.tmod 1073741825) _ ⟨n, rfl, rfl, h0, rfl, rfl, rfl⟩ ?_
  rintro m xs H' nx' ⟨k, rfl, rfl, hk, rfl, rfl, hm⟩
  simp only [I64] at hk
  obtain ⟨d1, d2, d3⟩ := tdm k
  have d4 : (0 ≤ k ∧ 0 ≤ k.tmod 1073741825 ∧ k.tmod 1073741825 < 1073741825 ∧ 0 ≤ k.tdiv 1073741825) ∨ (k ≤ 0 ∧ -1073741825 < k.tmod 1073741825 ∧ k.tmod 1073741825 ≤ 0 ∧ k.tdiv 1073741825 ≤ 0) := by
    by_cases hk0 : 0 ≤ k
    · exact .inl ⟨hk0, d2 hk0⟩
    · exact .inr ⟨by omega, d3 (by omega)⟩
  clear d2 d3
  have hw : IntKind.i64.wrap (-1073741825) = -1073741825 := i64w (by omega)
  have hq : IntKind.i64.wrap (k.tdiv 1073741825) = k.tdiv 1073741825 := i64w (by omega)
  have hp : IntKind.i64.wrap (k.tdiv 1073741825 * 1073741825) = k.tdiv 1073741825 * 1073741825 := i64w (by omega)
  have hr : k - k.tdiv 1073741825 * 1073741825 = k.tmod 1073741825 := by omega
  have hs : IntKind.i64.wrap (k - k.tdiv 1073741825 * 1073741825) = k.tmod 1073741825 := by rw [hr]; exact i64w (by omega)
  have hin : -1073741825 < k.tmod 1073741825 ∧ k.tmod 1073741825 < 1073741825 := by omega
  have next : (1073741825 ≤ k ∨ k ≤ -1073741825) → ∃ m', m' < (if -1073741825 < k ∧ k < 1073741825 then 0 else 1) ∧ ∃ k' : Int, m' = (if -1073741825 < k' ∧ k' < 1073741825 then 0 else 1) ∧ [AV.int .i64 (k.tmod 1073741825), .int .i64 1073741825] = [.int .i64 k', .int .i64 1073741825] ∧ I64 k' ∧ H = H ∧ nx = nx ∧ k'.tmod 1073741825 = n.tmod 1073741825 := by
    intro hk'
    rw [if_neg (by omega)]
    exact ⟨0, by omega, k.tmod 1073741825, by rw [if_pos hin], rfl, by simp only [I64]; omega, rfl, rfl, by rw [← hm]; exact tmod_small hin⟩
  simp [zwref1_Round_l1, hq, hp, hs, hw]
  refine ⟨fun h => ?_, fun h => ⟨fun h2 => ?_, fun h2 => ?_⟩⟩
  · simpa using next (.inl h)
  · simpa using next (.inr h2)
  · rw [← hm]; exact (tmod_small (by omega)).symm
theorem int1_qc (n : Int) (h0 : I64 n) : QC Tryd.prog 8 [.int .i64 n] (.agg (VM.cInt n).avs) := by
  refine QC.of' fun H nx => zwref1_Int_calls _ H nx _ ?_
  unfold zwref1_Int_vc
  refine QC.call (round_qc n h0) ?_
  simp [zwref1_Int_k1, VM.cInt, Val.avs]
theorem text_qc (s : Str) (hs : s.length ≤ maxLen) : QC Tryd.prog 9 [.str s] (.agg (VM.cText s).avs) := by
  refine QC.of' fun H nx => cell_Text_calls _ H nx _ ?_
  simp only [maxLen] at hs
  have h1 : (min (s.length : Int) 60).toNat = min s.length 60 := by omega
  have h2 : s.take (min s.length 60) = s.take 60 := by rw [List.take_eq_take_iff]; omega
  simp [cell_Text_vc, VM.cText, Val.avs, SLS, SLICES, lohi, PURE, qk, h1, h2, or_imp, forall_and]
  omega
theorem text1_qc (s : Str) (hs : s.length ≤ maxLen) : QC Tryd.prog 10 [.str s] (.agg (VM.cText s).avs) := by
  refine QC.of' fun H nx => zwref1_Text_calls _ H nx _ ?_
  simp only [maxLen] at hs
  have h2 : ¬ (60 < s.length) → s.take 60 = s := fun h => List.take_of_length_le (by omega)
  simp [zwref1_Text_vc, VM.cText, Val.avs, SLS, SLICES, lohi, PURE, qk, or_imp, forall_and]
  refine ⟨fun h => by omega, fun h => h2 (by omega)⟩
theorem yes_qc (b : Bool) : QC Tryd.prog 36 [.bool b] (.tup [.agg (VM.bit b).avs, .int .i64 0]) := by
  refine QC.of' fun H nx => cell_Two_1_calls _ H nx _ ?_
  cases b <;> simp [cell_Two_1_vc, VM.bit, Val.avs]
theorem bit_qc (b : Bool) : QC Tryd.prog 37 [.bool b] (.tup [.agg (VM.bit b).avs, .int .i64 0]) := by
  refine QC.of' fun H nx => zwref1_Two_1_calls _ H nx _ ?_
  cases b <;> simp [zwref1_Two_1_vc, VM.bit, Val.avs, keyFit, findK_cons, keyEq]
end Go.Proofs.YtejohcohkgcmhaaDoor
namespace Go.Proofs.YtejohcohkgcmhaaDoor
open Go Go.RowKit

/-- The same value, but for the number of the one new object. -/
inductive Rn (R : Nat → Prop) (gn g0 : Nat) : AV → AV → Prop
  | same (v : AV) : Bel R v → Rn R gn g0 v v
  | slc (off len : Nat) : Rn R gn g0 (.slc gn off len) (.slc g0 off len)
  | ptr (off : Nat) : Rn R gn g0 (.ptr gn off) (.ptr g0 off)
  | amap : Rn R gn g0 (.amap gn) (.amap g0)
def RnO (R : Nat → Prop) (gn g0 : Nat) : AObj → AObj → Prop
  | .row s cs, .row s' ds => s' = s ∧ ds.length = cs.length ∧ ∀ (j : Nat) (v u : AV), cs[j]? = some v → ds[j]? = some u → Rn R gn g0 v u
  | .mp es, .mp fs => fs.length = es.length ∧ ∀ (j : Nat) (v u : AV × AV), es[j]? = some v → fs[j]? = some u → Rn R gn g0 v.1 u.1 ∧ Rn R gn g0 v.2 u.2
  | _, _ => False

theorem VRel.rn {K : KHeap} {ρ ρ2 : Nat → Loc} {A A2 R : Nat → Prop} {gn g0 : Nat} {v u : AV} {c : Value} (h : VRel K ρ A v c) (hr : Rn R gn g0 v u) (hR : ∀ g, R g → A g → ρ2 g = ρ g ∧ A2 g) (hA : ∀ g, R g → A g) (hg : ρ2 g0 = ρ gn ∧ A2 g0) : VRel K ρ2 A2 u c := by
  cases hr with
  | same _ hb => exact (h.restrict hb).mono (fun _ _ h => h) fun g hg => hR g hg (hA g hg)
  | slc off len =>
    cases h with
    | slc _ _ _ cap a h1 h2 h3 => exact .slc g0 off len cap a hg.2 h2 (by rw [hg.1]; exact h3)
  | ptr off =>
    cases h with
    | ptr _ _ a h1 h2 => exact .ptr g0 off a hg.2 (by rw [hg.1]; exact h2)
  | amap =>
    cases h with
    | amap _ r h1 h2 => exact .amap g0 r hg.2 (by rw [hg.1]; exact h2)

theorem ObjRel.rn {K : KHeap} {ρ ρ2 : Nat → Loc} {A A2 R : Nat → Prop} {gn g0 : Nat} {o o' : AObj} {w : World} {l : Loc} (h : ObjRel K ρ A w l o) (hr : RnO R gn g0 o o') (hR : ∀ g, R g → A g → ρ2 g = ρ g ∧ A2 g) (hA : ∀ g, R g → A g) (hg : ρ2 g0 = ρ gn ∧ A2 g0) : ObjRel K ρ2 A2 w l o' := by
  cases o with
  | row s cs =>
    cases o' with
    | mp fs => exact hr.elim
    | row s' ds =>
      obtain ⟨rfl, hl, hc⟩ := hr
      obtain ⟨c, e, lo, hi, h1, h0, h2, h3, h4, h5⟩ := h
      refine ⟨c, e, lo, hi, h1, h0, h2, h3, by rw [hl]; exact h4, fun j u hu => ?_⟩
      have hj : j < cs.length := by have := (List.getElem?_eq_some_iff.1 hu).1; omega
      have hv : cs[j]? = some cs[j] := List.getElem?_eq_getElem hj
      obtain ⟨cv, a1, a2⟩ := h5 j _ hv
      exact ⟨cv, a1, a2.rn (hc j _ u hv hu) hR hA hg⟩
  | mp es =>
    cases o' with
    | row s' ds => exact hr.elim
    | mp fs =>
      obtain ⟨hl, hc⟩ := hr
      obtain ⟨en, cl, h1, h2, h3⟩ := h
      refine ⟨en, cl, h1, by rw [hl]; exact h2, fun j u e hu he => ?_⟩
      have hj : j < es.length := by have := (List.getElem?_eq_some_iff.1 hu).1; omega
      have hv : es[j]? = some es[j] := List.getElem?_eq_getElem hj
      obtain ⟨a1, a2⟩ := h3 j _ e hv he
      obtain ⟨b1, b2⟩ := hc j _ u hv hu
      exact ⟨a1.rn b1 hR hA hg, a2.rn b2 hR hA hg⟩

theorem apply_not {D : Delta} : ∀ {H : Heap} {g : Nat}, g ∉ domD D → (H.apply D) g = H g := by
  induction D with
  | nil => intros; rfl
  | cons d r ih =>
    obtain ⟨g', o⟩ := d
    intro H g hg
    simp only [domD, List.map_cons, List.mem_cons, not_or] at hg
    show ((H.put g' o).apply r) g = H g
    rw [ih (by simpa [domD] using hg.2), Heap.put_ne _ _ hg.1]

theorem LC.of_calls0 {P : Program} {f : FuncId} {args : List AV} {r : AV} {H0 : Heap} {rd : List Nat} {D : Delta} (hrd : ∀ g ∈ rd, (H0 g).isSome = true) (hdom : ∀ g ∈ domD D, g ∈ rd) (hr : Bel (fun x => x ∈ rd) r)
    (h : ∀ H nx, (∀ g ∈ rd, H g = H0 g ∧ g < nx) → ACalls P f args H nx fun v H' nx' => v = r ∧ nx ≤ nx' ∧ (∀ g, g < nx → g ∉ domD D → H' g = H g) ∧ (∀ g o, g ∈ domD D → (H.apply D) g = some o → H' g = some o ∧ BelO (fun x => x ∈ rd) o)) : LC P f args H0 rd [] D r := by
  intro A ρ H w cargs ⟨N, hN⟩ s ha hag _
  have sN : Sim (· < N) ρ H w := ⟨fun g o ho => hN g (s.live g o ho), fun g o ho => (s.obj g o ho).mono rfl (fun _ _ h => h) (fun g hg => ⟨rfl, hN g hg⟩), s.inj, s.lay⟩
  have aN : LRel (Kof ρ H w) ρ (· < N) args cargs.toList := ⟨ha.1, fun j v c hv hc => (ha.2 j v c hv hc).mono (fun _ _ h => h) (fun g hg => ⟨rfl, hN g hg⟩)⟩
  have hrdA : ∀ g ∈ rd, A g := fun g hg => by
    obtain ⟨o, ho⟩ := Option.isSome_iff_exists.1 (hrd g hg)
    exact s.live g o ((hag g hg).trans ho)
  refine flowUpon_mono (h H N (fun g hg => ⟨hag g hg, hN g (hrdA g hg)⟩) ρ w cargs sN aN) fun cv w' ⟨v, H', nx', ρ', ⟨hv, hnx, hsame, hchg⟩, q3, q4, q5⟩ => ?_
  subst hv
  have hρ : ∀ g, g < N → ρ' g = ρ g := fun g hg => (q5.agree g hg).1
  have hAe : (fun x => A x ∨ x ∈ ([] : List Nat)) = A := by funext x; simp
  have lv : ∀ g o, (H.apply D) g = some o → A g ∧ H' g = some o ∧ BelO A o := fun g o ho => by
    by_cases hg : g ∈ domD D
    · obtain ⟨h1, h2⟩ := hchg g o hg ho
      refine ⟨hrdA g (hdom g hg), h1, ?_⟩
      cases o with
      | row sz cs => exact fun j x hx => (h2 j x hx).mono hrdA
      | mp es => exact fun j kv hkv => ⟨(h2 j kv hkv).1.mono hrdA, (h2 j kv hkv).2.mono hrdA⟩
    · rw [apply_not hg] at ho
      have hA := s.live g o ho
      exact ⟨hA, by rw [hsame g (hN g hA) hg]; exact ho, (s.obj g o ho).bel⟩
  have hK : ∀ b o, Kof ρ' H' w' b = some o → Kof ρ' (H.apply D) w' b = some o := fun b o hb => by
    obtain ⟨h1, h2⟩ := Kof_some.1 hb
    refine Kof_some.2 ⟨fun g hg => ?_, h2⟩
    obtain ⟨o1, ho1⟩ := Option.isSome_iff_exists.1 hg
    exact h1 g (by rw [(lv g o1 ho1).2.1]; rfl)
  refine ⟨ρ', ?_, ?_, ?_⟩
  · rw [hAe]
    refine ⟨fun g o ho => (lv g o ho).1, fun g o ho => ?_, fun x y hx hy hxy => ?_, q3.lay.mono hK⟩
    · obtain ⟨_, h1, h2⟩ := lv g o ho
      exact ((q3.obj g o h1).restrict h2).mono rfl hK (fun _ h => ⟨rfl, h⟩)
    · obtain ⟨o1, ho1⟩ := Option.isSome_iff_exists.1 hx
      obtain ⟨o2, ho2⟩ := Option.isSome_iff_exists.1 hy
      exact q3.inj x y (by rw [(lv x o1 ho1).2.1]; rfl) (by rw [(lv y o2 ho2).2.1]; rfl) hxy
  · rw [hAe]
    exact (q4.restrict (hr.mono hrdA)).mono hK (fun g hg => ⟨rfl, hg⟩)
  · rw [hAe]
    exact ⟨fun g hg => ⟨hρ g (hN g hg), hg⟩, fun b o hb => hK b o (q5.k b o hb), q5.os, q5.tape, q5.output, q5.size⟩

/-- The same, with one new object. -/
theorem LC.of_calls1 {P : Program} {f : FuncId} {args : List AV} {r : AV} {H0 : Heap} {rd : List Nat} {D : Delta} {g0 : Nat} (hrd : ∀ g ∈ rd, (H0 g).isSome = true) (hdom : ∀ g ∈ domD D, g ∈ rd ∨ g = g0)
    (h : ∀ H nx, (∀ g ∈ rd, H g = H0 g ∧ g < nx) → ACalls P f args H nx fun v H' nx' => ∃ gn, nx ≤ gn ∧ gn < nx' ∧ Rn (fun x => x ∈ rd) gn g0 v r ∧ (∀ g, g < nx → g ∉ domD D → H' g = H g) ∧
      (∀ g o, g ∈ domD D → g ≠ g0 → (H.apply D) g = some o → ∃ o', H' g = some o' ∧ RnO (fun x => x ∈ rd) gn g0 o' o) ∧ (∃ o o', (H.apply D) g0 = some o ∧ H' gn = some o' ∧ RnO (fun x => x ∈ rd) gn g0 o' o)) : LC P f args H0 rd [g0] D r := by
  intro A ρ H w cargs ⟨N0, hN0⟩ s ha hag hfresh
  obtain ⟨N, hN, hg0N⟩ : ∃ N, (∀ g, A g → g < N) ∧ g0 < N := ⟨max N0 (g0 + 1), fun g hg => by have := hN0 g hg; omega, by omega⟩
  have hg0 : ¬ A g0 := hfresh g0 (by simp)
  have sN : Sim (· < N) ρ H w := ⟨fun g o ho => hN g (s.live g o ho), fun g o ho => (s.obj g o ho).mono rfl (fun _ _ h => h) (fun g hg => ⟨rfl, hN g hg⟩), s.inj, s.lay⟩
  have aN : LRel (Kof ρ H w) ρ (· < N) args cargs.toList := ⟨ha.1, fun j v c hv hc => (ha.2 j v c hv hc).mono (fun _ _ h => h) (fun g hg => ⟨rfl, hN g hg⟩)⟩
  have hrdA : ∀ g ∈ rd, A g := fun g hg => by
    obtain ⟨o, ho⟩ := Option.isSome_iff_exists.1 (hrd g hg)
    exact s.live g o ((hag g hg).trans ho)
  refine flowUpon_mono (h H N (fun g hg => ⟨hag g hg, hN g (hrdA g hg)⟩) ρ w cargs sN aN) fun cv w' ⟨v, H', nx', ρ', ⟨gn, hgN, hgn, hv, hsame, hchg, onew, onew', hn1, hn2, hn3⟩, q3, q4, q5⟩ => ?_
  have hρ : ∀ g, g < N → ρ' g = ρ g := fun g hg => (q5.agree g hg).1
  let ρ2 : Nat → Loc := fun g => if g = g0 then ρ' gn else ρ' g
  have h20 : ρ2 g0 = ρ' gn := if_pos rfl
  have h2 : ∀ g, g ≠ g0 → ρ2 g = ρ' g := fun g hg => if_neg hg
  have hAne : ∀ g, A g → g ≠ g0 := fun g hg e => hg0 (e ▸ hg)
  have hR : ∀ g, g ∈ rd → g < nx' → ρ2 g = ρ' g ∧ (A g ∨ g ∈ [g0]) := fun g hg _ => ⟨h2 g (hAne g (hrdA g hg)), .inl (hrdA g hg)⟩
  have hRA : ∀ g, g ∈ rd → g < nx' := fun g hg => by have := hN g (hrdA g hg); omega
  have hG : ρ2 g0 = ρ' gn ∧ (A g0 ∨ g0 ∈ [g0]) := ⟨h20, .inr (by simp)⟩
  -- who stands for whom
  have lv : ∀ g o, (H.apply D) g = some o → (A g ∨ g ∈ [g0]) ∧ ∃ g' o', H' g' = some o' ∧ ρ2 g = ρ' g' ∧ (g = g0 → g' = gn) ∧ (g ≠ g0 → g' = g ∧ A g) ∧
      (∀ K, ObjRel K ρ' (· < nx') w' (ρ' g') o' → ObjRel K ρ2 (fun x => A x ∨ x ∈ [g0]) w' (ρ2 g) o) := fun g o ho => by
    by_cases hgg : g = g0
    · subst hgg
      rw [hn1] at ho
      obtain rfl := Option.some.inj ho
      exact ⟨.inr (by simp), gn, onew', hn2, h20, fun _ => rfl, fun h => absurd rfl h, fun K hk => by rw [h20]; exact hk.rn hn3 hR hRA hG⟩
    · by_cases hg : g ∈ domD D
      · obtain ⟨o', h1, h3⟩ := hchg g o hg hgg ho
        have hA : A g := by
          rcases hdom g hg with h | h
          · exact hrdA g h
          · exact absurd h hgg
        exact ⟨.inl hA, g, o', h1, h2 g hgg, fun h => absurd h hgg, fun _ => ⟨rfl, hA⟩, fun K hk => by rw [h2 g hgg]; exact hk.rn h3 hR hRA hG⟩
      · rw [apply_not hg] at ho
        have hA := s.live g o ho
        refine ⟨.inl hA, g, o, by rw [hsame g (hN g hA) hg]; exact ho, h2 g hgg, fun h => absurd h hgg, fun _ => ⟨rfl, hA⟩, fun K hk => ?_⟩
        rw [h2 g hgg]
        exact (hk.restrict (s.obj g o ho).bel).mono rfl (fun _ _ h => h) (fun x hx => ⟨h2 x (hAne x hx), .inl hx⟩)
  have hK : ∀ b o, Kof ρ' H' w' b = some o → Kof ρ2 (H.apply D) w' b = some o := fun b o hb => by
    obtain ⟨k1, k2⟩ := Kof_some.1 hb
    refine Kof_some.2 ⟨fun g hg => ?_, k2⟩
    obtain ⟨o1, ho1⟩ := Option.isSome_iff_exists.1 hg
    obtain ⟨_, g', o', e1, e2, _⟩ := lv g o1 ho1
    rw [e2]
    exact k1 g' (by rw [e1]; rfl)
  refine ⟨ρ2, ⟨fun g o ho => (lv g o ho).1, fun g o ho => ?_, fun x y hx hy hxy => ?_, q3.lay.mono hK⟩, ?_, ⟨fun g hg => ⟨(h2 g (hAne g hg)).trans (hρ g (hN g hg)), .inl hg⟩, fun b o hb => hK b o (q5.k b o hb), q5.os, q5.tape, q5.output, q5.size⟩⟩
  · obtain ⟨_, g', o', e1, _, _, _, e4⟩ := lv g o ho
    exact (e4 _ (q3.obj g' o' e1)).mono rfl hK (fun _ h => ⟨rfl, h⟩)
  · obtain ⟨o1, ho1⟩ := Option.isSome_iff_exists.1 hx
    obtain ⟨o2, ho2⟩ := Option.isSome_iff_exists.1 hy
    obtain ⟨_, x', p1, e1, e2, e3, e4, _⟩ := lv x o1 ho1
    obtain ⟨_, y', p2, f1, f2, f3, f4, _⟩ := lv y o2 ho2
    rw [e2, f2] at hxy
    have hxy' := q3.inj x' y' (by rw [e1]; rfl) (by rw [f1]; rfl) hxy
    by_cases hx0 : x = g0
    · by_cases hy0 : y = g0
      · rw [hx0, hy0]
      · have := (f4 hy0).1
        have hAy := hN y (f4 hy0).2
        have := e3 hx0
        omega
    · by_cases hy0 : y = g0
      · have := (e4 hx0).1
        have hAx := hN x (e4 hx0).2
        have := f3 hy0
        omega
      · rw [← (e4 hx0).1, ← (f4 hy0).1]; exact hxy'
  · exact (q4.rn hv hR hRA hG).mono hK (fun g hg => ⟨rfl, hg⟩)
end Go.Proofs.YtejohcohkgcmhaaDoor
namespace Go.Proofs.YtejohcohkgcmhaaDoor
open Go Go.RowKit

def numMapFrom : Nat → List Nat → List (AV × AV)
  | _, [] => []
  | k, n :: r => (.int .i64 n, .int .i64 k) :: numMapFrom (k + 1) r
def numMap (o : List Nat) : List (AV × AV) := numMapFrom 0 o
def numRow (o : List Nat) : List AV := o.map fun (n : Nat) => AV.int .i64 (n : Int)
@[simp] theorem numRow_len (o : List Nat) : (numRow o).length = o.length := by simp [numRow]
theorem numMap_snoc (o : List Nat) (n : Nat) : numMap (o ++ [n]) = numMap o ++ [(.int .i64 n, .int .i64 o.length)] := by
  have : ∀ k, numMapFrom k (o ++ [n]) = numMapFrom k o ++ [(.int .i64 n, .int .i64 (k + o.length : Nat))] := by
    induction o with
    | nil => intro k; rfl
    | cons a r ih => intro k; simp only [List.cons_append, numMapFrom, ih (k + 1), List.length_cons]; rw [show k + 1 + r.length = k + (r.length + 1) by omega]
  simpa [numMap] using this 0
theorem find_numMap (o : List Nat) (n : Nat) : findK (.int .i64 n) (numMap o) = some (if n ∈ o then some (o.idxOf n, .int .i64 (o.idxOf n : Nat)) else none) := by
  have : ∀ k, findK (.int .i64 n) (numMapFrom k o) = some (if n ∈ o then some (o.idxOf n, .int .i64 (k + o.idxOf n : Nat)) else none) := by
    induction o with
    | nil => intro k; simp [numMapFrom]
    | cons a r ih =>
      intro k
      rw [numMapFrom, findK_int]
      by_cases h : n = a
      · subst h; simp
      · have h1 : ¬ ((n : Int) = a) := by omega
        have h2 : ¬ (a = n) := fun e => h e.symm
        rw [if_neg h1, ih (k + 1)]
        by_cases hm : n ∈ r
        · simp [hm, h]
          have hb : (a == n) = false := by simpa using h2
          rw [List.idxOf_cons, hb, cond_false]
          omega
        · simp [hm, h]
  simpa [numMap] using this 0

/-- What the closure's variables hold. -/
structure NumSt (H : Heap) (g1 g2 gm gr : Nat) (o : List Nat) : Prop where
  m1 : H g1 = some (.row 1 [.amap gm])
  mm : H gm = some (.mp (numMap o))
  m2 : H g2 = some (.row 1 [if o = [] then .nils else .slc gr 0 o.length])
  mr : o ≠ [] → H gr = some (.row 1 (numRow o))
  d12 : g1 ≠ g2
  d1m : g1 ≠ gm
  d2m : g2 ≠ gm
  dr : o ≠ [] → gr ≠ g1 ∧ gr ≠ g2 ∧ gr ≠ gm

theorem put_meet (o : List Nat) (v : Val) : VM.put (VM.meet o v) v = if v.kind = 2 then { v with n := ((VM.meet o v).idxOf v.n.toNat : Nat) } else v := rfl
theorem meet_new {o : List Nat} {v : Val} (h : v.kind = 2 ∧ v.n.toNat ∉ o) : VM.meet o v = o ++ [v.n.toNat] := if_pos h
theorem meet_old {o : List Nat} {v : Val} (h : ¬ (v.kind = 2 ∧ v.n.toNat ∉ o)) : VM.meet o v = o := if_neg h

set_option maxHeartbeats 2000000 in
theorem number_ac (v : Val) (o : List Nat) (hv : v.kind = 2 → 0 ≤ v.n) (ho : (o.length + 1) * 8 ≤ 140737488355328) {H : Heap} {nx g1 g2 gm gr : Nat} (st : NumSt H g1 g2 gm gr o) (l1 : g1 < nx) (l2 : g2 < nx) (lm : gm < nx) (lr : o ≠ [] → gr < nx) :
    ACalls Tryd.prog 38 [.agg v.avs, .ptr g1 0, .ptr g2 0] H nx fun r H' nx' => r = .agg (VM.put (VM.meet o v) v).avs ∧ nx ≤ nx' ∧
      (¬ (v.kind = 2 ∧ v.n.toNat ∉ o) → ∀ g, g < nx → H' g = H g) ∧
      ((v.kind = 2 ∧ v.n.toNat ∉ o) → ∃ gn, nx ≤ gn ∧ gn < nx' ∧ H' gm = some (.mp (numMap (o ++ [v.n.toNat]))) ∧ H' g2 = some (.row 1 [.slc gn 0 (o.length + 1)]) ∧ H' gn = some (.row 1 (numRow (o ++ [v.n.toNat]))) ∧ (o ≠ [] → H' gr = none) ∧
        ∀ g, g < nx → g ≠ gm → g ≠ g2 → (o ≠ [] → g ≠ gr) → H' g = H g) := by
  refine cell_Canon_1_calls _ _ _ H nx _ ?_
  obtain ⟨k, n, s⟩ := v
  obtain ⟨m1, mm, m2, mr, d12, d1m, d2m, dr⟩ := st
  have n1 : g1 ≠ nx := by omega
  have n1' : g1 ≠ nx + 1 := by omega
  have n2 : g2 ≠ nx := by omega
  have n2' : g2 ≠ nx + 1 := by omega
  have n2'' : g2 ≠ nx + 2 := by omega
  have nm : gm ≠ nx := by omega
  have nm' : gm ≠ nx + 1 := by omega
  have keep2 : ∀ (a b : Option AObj) g, g < nx → ((H.put nx a).put (nx + 1) b) g = H g := fun a b g hg => by
    rw [Heap.put_ne _ _ (by omega), Heap.put_ne _ _ (by omega)]
  by_cases hk : k = 2
  case neg =>
    have e : VM.put (VM.meet o ⟨k, n, s⟩) ⟨k, n, s⟩ = ⟨k, n, s⟩ := if_neg hk
    simp [cell_Canon_1_vc, Val.avs, hk, e]
    intro g hg
    repeat rw [if_neg (by omega)]
  subst hk
  obtain ⟨m, rfl⟩ : ∃ m : Nat, n = m := ⟨n.toNat, by have := hv rfl; simp only at this; omega⟩
  simp only [Int.toNat_natCast, true_and] at *
  by_cases hmo : m ∈ o
  · have e1 : VM.meet o ⟨2, m, s⟩ = o := meet_old (by simp [hmo])
    have e : VM.put (VM.meet o ⟨2, m, s⟩) ⟨2, m, s⟩ = ⟨2, (o.idxOf m : Nat), s⟩ := by rw [e1]; rfl
    simp [cell_Canon_1_vc, Val.avs, e, n1, n1', nm, nm', m1, mm, find_numMap, hmo]
    intro g hg
    repeat rw [if_neg (by omega)]
  · have e1 : VM.meet o ⟨2, m, s⟩ = o ++ [m] := meet_new (by simp [hmo])
    have e : VM.put (VM.meet o ⟨2, m, s⟩) ⟨2, m, s⟩ = ⟨2, o.length, s⟩ := by
      rw [e1]; unfold VM.put; simp only [if_true, Int.toNat_natCast]
      rw [List.idxOf_append, if_neg hmo]; simp
    by_cases h0 : o = []
    · subst h0
      simp at m2
      have ne_0 : g1 ≠ g2 ∧ g2 ≠ g1 ∧ g1 ≠ gm ∧ gm ≠ g1 ∧ g2 ≠ gm ∧ gm ≠ g2 ∧ g1 ≠ nx ∧ nx ≠ g1 ∧ g1 ≠ nx + 1 ∧ nx + 1 ≠ g1 ∧ g1 ≠ nx + 2 ∧ nx + 2 ≠ g1 ∧ g1 ≠ nx + 3 ∧ nx + 3 ≠ g1 ∧ g2 ≠ nx ∧ nx ≠ g2 ∧ g2 ≠ nx + 1 ∧ nx + 1 ≠ g2 ∧ g2 ≠ nx + 2 ∧ nx + 2 ≠ g2 ∧ g2 ≠ nx + 3 ∧ nx + 3 ≠ g2 ∧ gm ≠ nx ∧ nx ≠ gm ∧ gm ≠ nx + 1 ∧ nx + 1 ≠ gm ∧ gm ≠ nx + 2 ∧ nx + 2 ≠ gm ∧ gm ≠ nx + 3 ∧ nx + 3 ≠ gm := ⟨by omega, by omega, by omega, by omega, by omega, by omega, by omega, by omega, by omega, by omega, by omega, by omega, by omega, by omega, by omega, by omega, by omega, by omega, by omega, by omega, by omega, by omega, by omega, by omega, by omega, by omega, by omega, by omega, by omega, by omega⟩
      simp [cell_Canon_1_vc, Val.avs, e, m1, mm, m2, find_numMap, ne_0]
      refine ⟨by omega, nx + 3, by omega, by omega, by simpa using (numMap_snoc [] m).symm, rfl, ?_, fun g hg h1 h2 => ?_⟩
      · simp [numRow, ne_0]
      · repeat rw [if_neg (by omega)]
    · obtain ⟨r1, r2, r3⟩ := dr h0
      have mr' := mr h0
      have lr' := lr h0
      simp [h0] at m2
      have ne_1 : g1 ≠ g2 ∧ g2 ≠ g1 ∧ g1 ≠ gm ∧ gm ≠ g1 ∧ g1 ≠ gr ∧ gr ≠ g1 ∧ g2 ≠ gm ∧ gm ≠ g2 ∧ g2 ≠ gr ∧ gr ≠ g2 ∧ gm ≠ gr ∧ gr ≠ gm ∧ g1 ≠ nx ∧ nx ≠ g1 ∧ g1 ≠ nx + 1 ∧ nx + 1 ≠ g1 ∧ g1 ≠ nx + 2 ∧ nx + 2 ≠ g1 ∧ g1 ≠ nx + 3 ∧ nx + 3 ≠ g1 ∧ g2 ≠ nx ∧ nx ≠ g2 ∧ g2 ≠ nx + 1 ∧ nx + 1 ≠ g2 ∧ g2 ≠ nx + 2 ∧ nx + 2 ≠ g2 ∧ g2 ≠ nx + 3 ∧ nx + 3 ≠ g2 ∧ gm ≠ nx ∧ nx ≠ gm ∧ gm ≠ nx + 1 ∧ nx + 1 ≠ gm ∧ gm ≠ nx + 2 ∧ nx + 2 ≠ gm ∧ gm ≠ nx + 3 ∧ nx + 3 ≠ gm ∧ gr ≠ nx ∧ nx ≠ gr ∧ gr ≠ nx + 1 ∧ nx + 1 ≠ gr ∧ gr ≠ nx + 2 ∧ nx + 2 ≠ gr ∧ gr ≠ nx + 3 ∧ nx + 3 ≠ gr := ⟨by omega, by omega, by omega, by omega, by omega, by omega, by omega, by omega, by omega, by omega, by omega, by omega, by omega, by omega, by omega, by omega, by omega, by omega, by omega, by omega, by omega, by omega, by omega, by omega, by omega, by omega, by omega, by omega, by omega, by omega, by omega, by omega, by omega, by omega, by omega, by omega, by omega, by omega, by omega, by omega, by omega, by omega, by omega, by omega⟩
      simp [cell_Canon_1_vc, Val.avs, e, m1, mm, m2, mr', find_numMap, hmo, ne_1]
      have htk : List.take o.length (numRow o) = numRow o := List.take_of_length_le (by simp)
      refine ⟨ho, by omega, nx + 3, by omega, by omega, (numMap_snoc o m).symm, rfl, ?_, fun g hg h1 h2 h3 => ?_⟩
      · simp [htk, ne_1]
        simp [numRow]
      · have h3' := h3 h0
        repeat rw [if_neg (by omega)]
end Go.Proofs.YtejohcohkgcmhaaDoor
namespace Go.Proofs.YtejohcohkgcmhaaDoor
open Go Go.RowKit

theorem flat_len {sz : Nat} : ∀ {xs : List (List AV)}, (∀ x ∈ xs, x.length = sz) → xs.flatten.length = xs.length * sz
  | [], _ => by simp
  | y :: r, hs => by rw [List.flatten_cons, List.length_append, flat_len fun z hz => hs z (by simp [hz]), hs y (by simp), List.length_cons, Nat.succ_mul, Nat.add_comm]
theorem flat_at {sz : Nat} : ∀ {xs : List (List AV)}, (∀ x ∈ xs, x.length = sz) → ∀ {i : Nat} {x : List AV}, xs[i]? = some x → (xs.flatten.drop (i * sz)).take sz = x
  | [], _, i, x, hx => by simp at hx
  | y :: r, hs, 0, x, hx => by
    simp at hx; subst hx
    rw [Nat.zero_mul, List.drop_zero, List.flatten_cons, List.take_append_of_le_length (by rw [hs y (by simp)]; omega), List.take_of_length_le (by rw [hs y (by simp)]; omega)]
  | y :: r, hs, i + 1, x, hx => by
    have hy : y.length = sz := hs y (by simp)
    rw [List.flatten_cons, Nat.succ_mul, List.drop_append, List.drop_of_length_le (by omega), List.nil_append, show i * sz + sz - y.length = i * sz by omega]
    exact flat_at (fun z hz => hs z (by simp [hz])) (by simpa using hx)

/-- What a call is handed as a row of so many parts: it may be owned, where the call only reads it. -/
inductive RowArg (H : Heap) (nx sz : Nat) (xs : List (List AV)) : AV → Prop
  | ro : RowArg H nx sz xs (.ro xs)
  | slc (g : Nat) : g < nx → H g = some (.row sz xs.flatten) → RowArg H nx sz xs (.slc g 0 xs.length)
  | nils : xs = [] → RowArg H nx sz xs .nils
theorem RowArg.keep {H H' : Heap} {nx nx' sz : Nat} {xs : List (List AV)} {a : AV} (h : RowArg H nx sz xs a) (hk : ∀ g, g < nx → H' g = H g) (hn : nx ≤ nx') : RowArg H' nx' sz xs a := by
  cases h with
  | ro => exact .ro
  | slc g h1 h2 => exact .slc g (by omega) (by rw [hk g h1]; exact h2)
  | nils h => exact .nils h
theorem RowArg.len {H : Heap} {nx sz : Nat} {xs : List (List AV)} {a : AV} (h : RowArg H nx sz xs a) {k : AV → Prop} : LNL a k = k (.int .i64 xs.length) := by
  cases h with
  | ro => simp
  | slc g h1 h2 => simp
  | nils h => subst h; simp
theorem RowArg.ld {H : Heap} {nx sz : Nat} {xs : List (List AV)} {a : AV} (h : RowArg H nx sz xs a) (hs : ∀ x ∈ xs, x.length = sz) {ki : IntKind} {i : Nat} {x : List AV} (hx : xs[i]? = some x) {k : AV → Prop} (hk : k (.agg x)) : IA sz a (.int ki i) fun p => LD true sz p H k := by
  obtain ⟨hi, hx'⟩ := List.getElem?_eq_some_iff.1 hx
  have hxl : x.length = sz := hs x (List.mem_of_getElem? hx)
  cases h with
  | ro =>
    rw [ia_ro]
    have e : xs.getD i [] = x := by simp [List.getD_eq_getElem?_getD, hx]
    simp only [Int.toNat_natCast, e, ld_rop_agg]
    refine ⟨by omega, by omega, hxl, by omega, ?_⟩
    rw [List.drop_zero, List.take_of_length_le (by omega)]
    exact hk
  | slc g h1 h2 =>
    rw [ia_slc]
    simp only [Int.toNat_natCast, ld_p_agg, h2, rowk]
    refine ⟨by omega, by omega, ?_, ?_⟩
    · rw [flat_len hs]
      have : (i + 1) * sz ≤ xs.length * sz := Nat.mul_le_mul_right _ hi
      rw [Nat.succ_mul] at this; omega
    · rw [Nat.zero_add, flat_at hs hx]; exact hk
  | nils h => subst h; simp at hx
theorem RowArg.src {H : Heap} {nx sz : Nat} {xs : List (List AV)} {a : AV} (h : RowArg H nx sz xs a) (hs : ∀ x ∈ xs, x.length = sz) : ∃ rd, srcCells sz H a = some (xs.length, xs.flatten, rd) := by
  cases h with
  | ro => exact ⟨[], src_ro hs⟩
  | slc g h1 h2 =>
    refine ⟨[g], ?_⟩
    have hl := flat_len hs
    simp only [srcCells, h2, Nat.zero_add, List.drop_zero]
    rw [if_pos (by omega), List.take_of_length_le (by omega)]
  | nils h => subst h; exact ⟨[], rfl⟩
theorem RowArg.frz {H : Heap} {nx sz : Nat} {xs : List (List AV)} {a : AV} (h : RowArg H nx sz xs a) (hs : ∀ x ∈ xs, x.length = sz) (hf : ∀ x ∈ xs, ∀ v ∈ x, flat v = true ∧ Bel (fun _ => False) v) (hro : Bel (fun _ => False) (.ro xs)) : Frz H 0 a (.ro xs) := by
  have hb : ∀ c ∈ xs.flatten, Bel (fun x => x < 0) c := by
    intro c hc
    obtain ⟨x, hx, hcx⟩ := List.mem_flatten.1 hc
    exact (hf x hx c hcx).2.mono fun _ h => h.elim
  cases h with
  | ro => exact .same _ (hro.mono fun _ h => h.elim)
  | slc g h1 h2 => exact Frz.row (Nat.zero_le _) h2 rfl hs rfl hb
  | nils h => subst h; exact .nils
end Go.Proofs.YtejohcohkgcmhaaDoor
namespace Go.Proofs.YtejohcohkgcmhaaDoor
open Go Go.RowKit

def rowV (l : List Val) : List AV := (l.map Val.avs).flatten
def rowC (h : List Cl) : List AV := (h.map Cl.avs).flatten
theorem avsV_len (l : List Val) : ∀ x ∈ l.map Val.avs, x.length = 3 := by intro x hx; obtain ⟨v, _, rfl⟩ := List.mem_map.1 hx; rfl
theorem avsC_len (l : List Cl) : ∀ x ∈ l.map Cl.avs, x.length = 6 := by intro x hx; obtain ⟨v, _, rfl⟩ := List.mem_map.1 hx; rfl
@[simp] theorem rowV_len (l : List Val) : (rowV l).length = l.length * 3 := by rw [rowV, flat_len (avsV_len l)]; simp
@[simp] theorem rowC_len (l : List Cl) : (rowC l).length = l.length * 6 := by rw [rowC, flat_len (avsC_len l)]; simp
theorem scal_val (v : Val) : ∀ c ∈ v.avs, scal c = true := by intro c hc; simp [Val.avs] at hc; rcases hc with rfl | rfl | rfl <;> rfl
theorem scal_cl (c : Cl) : ∀ x ∈ c.avs, scal x = true := by
  intro x hx
  rcases List.mem_append.1 hx with h | h
  · exact scal_val _ _ h
  · exact scal_val _ _ h
theorem scal_rowV (l : List Val) : ∀ c ∈ rowV l, scal c = true := by
  intro c hc
  obtain ⟨x, hx, hcx⟩ := List.mem_flatten.1 hc
  obtain ⟨v, _, rfl⟩ := List.mem_map.1 hx
  exact scal_val v c hcx
theorem scal_rowC (l : List Cl) : ∀ c ∈ rowC l, scal c = true := by
  intro c hc
  obtain ⟨x, hx, hcx⟩ := List.mem_flatten.1 hc
  obtain ⟨v, _, rfl⟩ := List.mem_map.1 hx
  exact scal_cl v c hcx
theorem scal_one {c : AV} (h : scal c = true) : c.one = true := by cases c <;> first | (cases h; done) | rfl
theorem scal_flat {c : AV} (h : scal c = true) : flat c = true := by cases c <;> first | (cases h; done) | simp
theorem scal_bel {c : AV} {A : Nat → Prop} (h : scal c = true) : Bel A c := by cases c <;> first | (cases h; done) | exact .int _ _ | exact .str _ | exact .bool _
theorem one_rowV (l : List Val) : (rowV l).all AV.one = true := List.all_eq_true.2 fun c hc => scal_one (scal_rowV l c hc)
theorem one_rowC (l : List Cl) : (rowC l).all AV.one = true := List.all_eq_true.2 fun c hc => scal_one (scal_rowC l c hc)
theorem bel_ro {xs : List (List AV)} {A : Nat → Prop} (h : ∀ x ∈ xs, ∀ c ∈ x, scal c = true) : Bel A (.ro xs) := .ro xs fun i x j v hx hv => scal_bel (h x (List.mem_of_getElem? hx) v (List.mem_of_getElem? hv))
theorem scal_mapV (l : List Val) : ∀ x ∈ l.map Val.avs, ∀ c ∈ x, scal c = true := by intro x hx; obtain ⟨v, _, rfl⟩ := List.mem_map.1 hx; exact scal_val v
theorem scal_mapC (l : List Cl) : ∀ x ∈ l.map Cl.avs, ∀ c ∈ x, scal c = true := by intro x hx; obtain ⟨v, _, rfl⟩ := List.mem_map.1 hx; exact scal_cl v
theorem RowArg.frzV {H : Heap} {nx : Nat} {l : List Val} {a : AV} (h : RowArg H nx 3 (l.map Val.avs) a) : Frz H 0 a (.ro (l.map Val.avs)) :=
  h.frz (avsV_len l) (fun x hx v hv => ⟨scal_flat (scal_mapV l x hx v hv), scal_bel (scal_mapV l x hx v hv)⟩) (bel_ro (scal_mapV l))
theorem RowArg.frzC {H : Heap} {nx : Nat} {l : List Cl} {a : AV} (h : RowArg H nx 6 (l.map Cl.avs) a) : Frz H 0 a (.ro (l.map Cl.avs)) :=
  h.frz (avsC_len l) (fun x hx v hv => ⟨scal_flat (scal_mapC l x hx v hv), scal_bel (scal_mapC l x hx v hv)⟩) (bel_ro (scal_mapC l))

/-- What a slice that grows has come to. -/
def OutSt (H : Heap) (nx sz : Nat) (a : AV) (n : Nat) (cells : List AV) : Prop := (a = .nils ∧ n = 0 ∧ cells = []) ∨ (∃ g, nx ≤ g ∧ a = .slc g 0 n ∧ H g = some (.row sz cells))

theorem clone_body {esz bytes : Nat} {xs : List (List AV)} {a : AV} {H : Heap} {nx : Nat} (ha : RowArg H nx esz xs a) (hs : ∀ x ∈ xs, x.length = esz) (ho : xs.flatten.all AV.one = true) (hb : xs.length * bytes ≤ 140737488355328)
    {Q : AV → Heap → Nat → Prop} (h0 : xs = [] → Q .nils H nx) (h1 : ∀ H', H' (nx + 1) = some (.row esz xs.flatten) → (∀ g, g < nx → H' g = H g) → Q (.slc (nx + 1) 0 xs.length) H' (nx + 2)) :
    BL BinOp.eql a AV.nils fun v1 => CNDC v1 (Q AV.nils H nx) (APP esz bytes (AV.slc nx 0 0) a (H.put nx (some (AObj.row esz []))) (nx + 1) fun v2 H3 nx4 => Q v2 H3 nx4) := by
  have app : APP esz bytes (AV.slc nx 0 0) a (H.put nx (some (AObj.row esz []))) (nx + 1) fun v2 H3 nx4 => Q v2 H3 nx4 := by
    obtain ⟨rd, hsrc⟩ := (ha.keep (H' := H.put nx (some (AObj.row esz []))) (nx' := nx + 1) (fun g hg => Heap.put_ne _ _ (by omega)) (by omega)).src hs
    rw [app_slc, hsrc]
    simp only [optk, Heap.put_at, rowk, Nat.zero_mul, Nat.zero_add, List.length_nil, List.drop_zero, List.take_nil, List.nil_append]
    refine ⟨trivial, ho, by omega, by omega, ?_⟩
    refine h1 _ (Heap.put_at _ _ _) fun g hg => ?_
    rw [Heap.put_ne _ _ (by omega), Heap.put_ne _ _ (by omega), Heap.put_ne _ _ (by omega)]
  cases ha with
  | ro =>
    rw [bl_ro]
    refine ⟨fun h => ?_, fun h => ?_⟩
    · rw [cndc_any]; exact ⟨h0 h, app⟩
    · rw [cndc_f]; exact app
  | slc g g1 g2 =>
    rw [bl_slc]
    refine ⟨fun h => ?_, fun h => ?_⟩
    · rw [cndc_any]; exact ⟨h0 (List.eq_nil_of_length_eq_zero h), app⟩
    · rw [cndc_f]; exact app
  | nils h => rw [bl_nil, cndc_t]; exact h0 h
theorem cloneV_vc {l : List Val} (hl : l.length * 32 ≤ 140737488355328) {a : AV} {H : Heap} {nx : Nat} (ha : RowArg H nx 3 (l.map Val.avs) a) {Q : AV → Heap → Nat → Prop}
    (h0 : l.map Val.avs = [] → Q .nils H nx) (h1 : ∀ H', H' (nx + 1) = some (.row 3 (l.map Val.avs).flatten) → (∀ g, g < nx → H' g = H g) → Q (.slc (nx + 1) 0 (l.map Val.avs).length) H' (nx + 2)) : slices_Clone_Value_vc a H nx Q := by
  unfold slices_Clone_Value_vc
  exact clone_body (Q := Q) ha (avsV_len l) (one_rowV l) (by simpa using hl) h0 h1
theorem cloneV_ac (l : List Val) (hl : l.length * 32 ≤ 140737488355328) {a : AV} {H : Heap} {nx : Nat} (ha : RowArg H nx 3 (l.map Val.avs) a) :
    ACalls Tryd.prog 39 [a] H nx fun v H' nx' => nx ≤ nx' ∧ Keep nx H' H ∧ ((l = [] ∧ v = .nils) ∨ ∃ g, nx ≤ g ∧ g < nx' ∧ v = .slc g 0 l.length ∧ H' g = some (.row 3 (rowV l))) := by
  refine slices_Clone_Value_calls _ H nx _ ?_
  refine cloneV_vc hl ha (fun h => ?_) fun H' h1 h2 => ?_
  · exact ⟨by omega, by simp, .inl ⟨by simpa using h, rfl⟩⟩
  · exact ⟨by omega, h2, .inr ⟨nx + 1, by omega, by omega, by simp, h1⟩⟩
end Go.Proofs.YtejohcohkgcmhaaDoor
namespace Go.Proofs.YtejohcohkgcmhaaDoor
namespace VM

def OkV (N : Nat) (v : Val) : Prop := v.kind = 2 → 0 ≤ v.n ∧ v.n.toNat < N
def OkH (h : List Cl) : Prop := ∀ (n : Nat) (c : Cl), h[n]? = some c → OkV h.length c.left ∧ OkV h.length c.right
structure Good (N : Nat) (o : List Nat) : Prop where
  nd : o.Nodup
  lt : ∀ n ∈ o, n < N
theorem Good.len {N : Nat} {o : List Nat} (h : Good N o) : o.length ≤ N := by
  have := h.nd.length_le_of_subset (l₂ := List.range N) (fun n hn => List.mem_range.2 (h.lt n hn))
  simpa using this
theorem Good.nil {N : Nat} : Good N [] := ⟨List.nodup_nil, fun n h => by simp at h⟩
theorem Good.meet {N : Nat} {o : List Nat} {v : Val} (h : Good N o) (hv : OkV N v) : Good N (meet o v) := by
  unfold VM.meet
  split
  · rename_i hc
    refine ⟨?_, fun n hn => ?_⟩
    · rw [List.nodup_append]
      exact ⟨h.nd, by simp, fun a ha b hb e => hc.2 (by simp at hb; rw [← hb, ← e]; exact ha)⟩
    · rcases List.mem_append.1 hn with h' | h'
      · exact h.lt n h'
      · simp at h'; rw [h']; exact (hv hc.1).2
  · exact h
theorem meet_pre (o : List Nat) (v : Val) : o <+: meet o v := by
  unfold meet; split
  · exact List.prefix_append _ _
  · exact List.prefix_refl _
theorem mem_meet (o : List Nat) (v : Val) (h : v.kind = 2) : v.n.toNat ∈ meet o v := by
  unfold meet; split
  · simp
  · rename_i hc; exact Classical.byContradiction fun hn => hc ⟨h, hn⟩
theorem drain_pre (h : List Cl) : ∀ (f : Nat) (o : List Nat) (d : Nat), o <+: drain h f o d
  | 0, o, d => List.prefix_refl _
  | f + 1, o, d => by
    unfold drain
    split
    · exact List.prefix_refl _
    · split
      · exact List.prefix_refl _
      · exact ((meet_pre _ _).trans (meet_pre _ _)).trans (drain_pre h f _ _)
theorem drain_good {h : List Cl} (hh : OkH h) : ∀ (f : Nat) (o : List Nat) (d : Nat), Good h.length o → Good h.length (drain h f o d)
  | 0, o, d, g => g
  | f + 1, o, d, g => by
    unfold drain
    split
    · exact g
    · split
      · exact g
      · rename_i c hc
        exact drain_good hh f _ _ ((g.meet (hh _ c hc).1).meet (hh _ c hc).2)
theorem orderGo_pre (h : List Cl) : ∀ (l : List Val) (o : List Nat), o <+: orderGo h l o
  | [], o => List.prefix_refl _
  | v :: r, o => ((meet_pre o v).trans (drain_pre h _ _ _)).trans (orderGo_pre h r _)
theorem orderGo_good {h : List Cl} (hh : OkH h) : ∀ (l : List Val) (o : List Nat), (∀ v ∈ l, OkV h.length v) → Good h.length o → Good h.length (orderGo h l o)
  | [], o, _, g => g
  | v :: r, o, hl, g => orderGo_good hh r _ (fun x hx => hl x (by simp [hx])) (drain_good hh _ _ _ (g.meet (hl v (by simp))))
theorem drain_step {h : List Cl} {f : Nat} {o : List Nat} {d n : Nat} {c : Cl} (hn : o[d]? = some n) (hc : h[n]? = some c) : drain h (f + 1) o d = drain h f (meet (meet o c.left) c.right) (d + 1) := by
  rw [drain]; simp only [hn, hc]
theorem drain_end {h : List Cl} {f : Nat} {o : List Nat} {d : Nat} (hd : o.length ≤ d) : drain h f o d = o := by
  cases f with
  | zero => rfl
  | succ f => rw [drain, List.getElem?_eq_none hd]

theorem idx_pre {o F : List Nat} (h : o <+: F) {n : Nat} (hn : n ∈ o) : o.idxOf n = F.idxOf n := by
  obtain ⟨t, rfl⟩ := h
  rw [List.idxOf_append, if_pos hn]
theorem put_pre {o F : List Nat} (h : o <+: F) {v : Val} (hv : v.kind = 2 → v.n.toNat ∈ o) : put o v = put F v := by
  unfold put
  split
  · rename_i hk; rw [idx_pre h (hv hk)]
  · rfl

/-- More fuel comes to the same. -/
theorem drain_more {h : List Cl} : ∀ (f : Nat) (o : List Nat) (d : Nat), (drain h f o d).length ≤ d + f → ∀ f', f ≤ f' → drain h f' o d = drain h f o d
  | 0, o, d, hl, f', _ => drain_end (by simpa [drain] using hl)
  | f + 1, o, d, hl, f', hf => by
    obtain ⟨f'', rfl⟩ : ∃ f'', f' = f'' + 1 := ⟨f' - 1, by omega⟩
    cases hn : o[d]? with
    | none => rw [drain_end (List.getElem?_eq_none_iff.1 hn), drain_end (List.getElem?_eq_none_iff.1 hn)]
    | some n =>
      cases hc : h[n]? with
      | none => rw [drain, drain]; simp only [hn, hc]
      | some c =>
        rw [drain_step hn hc] at hl ⊢
        rw [drain_step hn hc]
        exact drain_more f _ _ (by omega) f'' (by omega)

/-- What is come to from what was looked at is there. -/
def In (o : List Nat) (v : Val) : Prop := v.kind = 2 → v.n.toNat ∈ o
def Shut (h : List Cl) (o : List Nat) (d : Nat) : Prop := ∀ (j n : Nat) (c : Cl), j < d → o[j]? = some n → h[n]? = some c → In o c.left ∧ In o c.right
theorem In.pre {o F : List Nat} {v : Val} (h : In o v) (p : o <+: F) : In F v := fun hk => p.subset (h hk)
theorem drain_shut {h : List Cl} : ∀ (f : Nat) (o : List Nat) (d : Nat), (∀ n ∈ drain h f o d, n < h.length) → d ≤ o.length → Shut h o d → (drain h f o d).length ≤ d + f → Shut h (drain h f o d) (drain h f o d).length
  | 0, o, d, _, hd, hs, hl => by
    have : o.length = d := by have : (drain h 0 o d).length = o.length := rfl; omega
    show Shut h o o.length
    rw [this]; exact hs
  | f + 1, o, d, hlt, hd, hs, hl => by
    cases hn : o[d]? with
    | none =>
      have e : drain h (f + 1) o d = o := by rw [drain, hn]
      have : o.length = d := by have := List.getElem?_eq_none_iff.1 hn; omega
      rw [e, this]; exact hs
    | some n =>
      cases hc : h[n]? with
      | none =>
        have e : drain h (f + 1) o d = o := by rw [drain]; simp only [hn, hc]
        rw [e] at hlt
        have := hlt n (List.mem_of_getElem? hn)
        rw [List.getElem?_eq_getElem this] at hc; cases hc
      | some c =>
        have e := drain_step (f := f) hn hc
        rw [e] at hlt hl ⊢
        have p := (meet_pre o c.left).trans (meet_pre (meet o c.left) c.right)
        have hd' := (List.getElem?_eq_some_iff.1 hn).1
        refine drain_shut f _ _ hlt (by have := p.length_le; omega) (fun j n' c' hj hj' hc' => ?_) (by omega)
        have hjo : o[j]? = some n' := by
          obtain ⟨t, ht⟩ := p
          rw [← ht, List.getElem?_append_left (by omega)] at hj'
          exact hj'
        by_cases hjd : j = d
        · subst hjd
          rw [hn] at hjo
          obtain rfl := Option.some.inj hjo
          rw [hc] at hc'
          obtain rfl := Option.some.inj hc'
          exact ⟨fun hk => (meet_pre _ _).subset (mem_meet o _ hk), fun hk => mem_meet _ _ hk⟩
        · obtain ⟨a, b⟩ := hs j n' c' (by omega) hjo hc'
          exact ⟨a.pre p, b.pre p⟩
theorem orderGo_shut {h : List Cl} (hh : OkH h) : ∀ (l : List Val) (o : List Nat), (∀ v ∈ l, OkV h.length v) → Good h.length o → Shut h o o.length → Shut h (orderGo h l o) (orderGo h l o).length ∧ ∀ v ∈ l, In (orderGo h l o) v
  | [], o, _, _, hs => ⟨hs, fun v hv => by simp at hv⟩
  | v :: r, o, hl, g, hs => by
    have g1 := g.meet (hl v (by simp))
    have g2 := drain_good hh (h.length - o.length) (meet o v) o.length g1
    have hlen := g.len
    have p := meet_pre o v
    have s2 : Shut h (drain h (h.length - o.length) (meet o v) o.length) _ := drain_shut (h.length - o.length) (meet o v) o.length g2.lt p.length_le (fun j n c hj hn hc => by
      have hjo : o[j]? = some n := by
        obtain ⟨t, ht⟩ := p
        rw [← ht, List.getElem?_append_left hj] at hn
        exact hn
      obtain ⟨a, b⟩ := hs j n c hj hjo hc
      exact ⟨a.pre p, b.pre p⟩) (by have := g2.len; omega)
    obtain ⟨q1, q2⟩ := orderGo_shut hh r _ (fun x hx => hl x (by simp [hx])) g2 s2
    refine ⟨q1, fun x hx => ?_⟩
    rcases List.mem_cons.1 hx with rfl | hx
    · exact fun hk => (orderGo_pre h r _).subset ((drain_pre h _ _ _).subset (mem_meet o _ hk))
    · exact q2 x hx

/-- Cells renamed. -/
def ren (π : Nat → Nat) (v : Val) : Val := if v.kind = 2 then { v with n := (π v.n.toNat : Nat) } else v
theorem ren_kind (π : Nat → Nat) (v : Val) : (ren π v).kind = v.kind := by unfold ren; split <;> rfl
structure Turn (h g : List Cl) (π : Nat → Nat) (D : Nat → Prop) : Prop where
  inj : ∀ a b, D a → D b → π a = π b → a = b
  cell : ∀ n, D n → ∃ c, h[n]? = some c ∧ g[π n]? = some ⟨ren π c.left, ren π c.right⟩ ∧ (c.left.kind = 2 → D c.left.n.toNat) ∧ (c.right.kind = 2 → D c.right.n.toNat)
theorem meet_turn {h g : List Cl} {π : Nat → Nat} {D : Nat → Prop} (t : Turn h g π D) {o : List Nat} {v : Val} (ho : ∀ n ∈ o, D n) (hv : v.kind = 2 → D v.n.toNat) : meet (o.map π) (ren π v) = (meet o v).map π ∧ ∀ n ∈ meet o v, D n := by
  by_cases hk : v.kind = 2
  · have e : (ren π v).n.toNat = π v.n.toNat := by unfold ren; rw [if_pos hk]; simp
    have hm : π v.n.toNat ∈ o.map π ↔ v.n.toNat ∈ o := by
      constructor
      · intro h
        obtain ⟨a, ha, he⟩ := List.mem_map.1 h
        rw [← t.inj a _ (ho a ha) (hv hk) he]; exact ha
      · exact fun h => List.mem_map_of_mem h
    unfold meet
    rw [ren_kind, e]
    by_cases hi : v.n.toNat ∈ o
    · rw [if_neg (fun h => h.2 (hm.2 hi)), if_neg (fun h => h.2 hi)]; exact ⟨rfl, ho⟩
    · rw [if_pos ⟨hk, fun h => hi (hm.1 h)⟩, if_pos ⟨hk, hi⟩]
      refine ⟨by simp, fun n hn => ?_⟩
      rcases List.mem_append.1 hn with h' | h'
      · exact ho n h'
      · simp at h'; rw [h']; exact hv hk
  · unfold meet
    rw [ren_kind, if_neg (fun h => hk h.1), if_neg (fun h => hk h.1)]; exact ⟨rfl, ho⟩
theorem drain_turn {h g : List Cl} {π : Nat → Nat} {D : Nat → Prop} (t : Turn h g π D) : ∀ (f : Nat) (o : List Nat) (d : Nat), (∀ n ∈ o, D n) → drain g f (o.map π) d = (drain h f o d).map π ∧ ∀ n ∈ drain h f o d, D n
  | 0, o, d, ho => ⟨rfl, ho⟩
  | f + 1, o, d, ho => by
    cases hn : o[d]? with
    | none =>
      have e1 : drain h (f + 1) o d = o := by rw [drain, hn]
      have e2 : drain g (f + 1) (o.map π) d = o.map π := by rw [drain, List.getElem?_map, hn]; rfl
      rw [e1, e2]; exact ⟨rfl, ho⟩
    | some n =>
      obtain ⟨c, hc, hg, dl, dr⟩ := t.cell n (ho n (List.mem_of_getElem? hn))
      have hn' : (o.map π)[d]? = some (π n) := by rw [List.getElem?_map, hn]; rfl
      rw [drain_step hn hc, drain_step hn' hg]
      obtain ⟨m1, m2⟩ := meet_turn t ho dl
      obtain ⟨m3, m4⟩ := meet_turn t m2 dr
      rw [m1, m3]
      exact drain_turn t f _ _ m4
theorem orderGo_turn {h g : List Cl} {π : Nat → Nat} {D : Nat → Prop} (t : Turn h g π D) (hh : OkH h) (hg : OkH g) : ∀ (l : List Val) (o : List Nat), (∀ v ∈ l, OkV h.length v) → (∀ v ∈ l, v.kind = 2 → D v.n.toNat) → (∀ v ∈ l, OkV g.length (ren π v)) →
    Good h.length o → Good g.length (o.map π) → (∀ n ∈ o, D n) → orderGo g (l.map (ren π)) (o.map π) = (orderGo h l o).map π ∧ ∀ n ∈ orderGo h l o, D n
  | [], o, _, _, _, _, _, ho => ⟨rfl, ho⟩
  | v :: r, o, hl, hd, hl', g1, g2, ho => by
    obtain ⟨m1, m2⟩ := meet_turn t ho (hd v (by simp))
    have e1 := drain_good hh (h.length - o.length) (meet o v) o.length (g1.meet (hl v (by simp)))
    have e2 := drain_good hg (g.length - (o.map π).length) (meet (o.map π) (ren π v)) (o.map π).length (g2.meet (hl' v (by simp)))
    have l1 := g1.len
    have l2 := g2.len
    obtain ⟨F, f1, f2⟩ : ∃ F, h.length - o.length ≤ F ∧ g.length - (o.map π).length ≤ F := ⟨max (h.length - o.length) (g.length - (o.map π).length), by omega, by omega⟩
    have x1 := drain_more (h := h) (h.length - o.length) (meet o v) o.length (by have := e1.len; omega) F f1
    have x2 := drain_more (h := g) (g.length - (o.map π).length) (meet (o.map π) (ren π v)) (o.map π).length (by have := e2.len; omega) F f2
    have x3 := drain_turn t F (meet o v) o.length m2
    have key : drain g (g.length - (o.map π).length) (meet (o.map π) (ren π v)) (o.map π).length = (drain h (h.length - o.length) (meet o v) o.length).map π := by
      rw [← x1, ← x2, m1, List.length_map, x3.1]
    show orderGo g (r.map (ren π)) (drain g (g.length - (o.map π).length) (meet (o.map π) (ren π v)) (o.map π).length) = (orderGo h r (drain h (h.length - o.length) (meet o v) o.length)).map π ∧ ∀ n ∈ orderGo h r (drain h (h.length - o.length) (meet o v) o.length), D n
    rw [key]
    refine orderGo_turn t hh hg r _ (fun x hx => hl x (by simp [hx])) (fun x hx => hd x (by simp [hx])) (fun x hx => hl' x (by simp [hx])) e1 ?_ ?_
    · rw [← key]; exact e2
    · rw [← x1]; exact x3.2
end VM
end Go.Proofs.YtejohcohkgcmhaaDoor
namespace Go.Proofs.YtejohcohkgcmhaaDoor
open Go Go.RowKit

theorem numMap_scal (o : List Nat) : ∀ (j : Nat) (kv : AV × AV), (numMap o)[j]? = some kv → scal kv.1 = true ∧ scal kv.2 = true := by
  have : ∀ k (j : Nat) (kv : AV × AV), (numMapFrom k o)[j]? = some kv → scal kv.1 = true ∧ scal kv.2 = true := by
    induction o with
    | nil => intro k j kv h; simp [numMapFrom] at h
    | cons a r ih =>
      intro k j kv h
      cases j with
      | zero => simp [numMapFrom] at h; subst h; exact ⟨rfl, rfl⟩
      | succ j => exact ih (k + 1) j kv (by simpa [numMapFrom] using h)
  exact this 0
theorem numRow_scal (o : List Nat) : ∀ (j : Nat) (v : AV), (numRow o)[j]? = some v → scal v = true := by
  intro j v h
  unfold numRow at h
  rw [List.getElem?_map] at h
  obtain ⟨a, _, rfl⟩ := Option.map_eq_some_iff.1 h
  rfl
theorem rn_scal {R : Nat → Prop} {gn g0 : Nat} {v u : AV} (h : scal v = true) (e : u = v) : Rn R gn g0 v u := by subst e; exact .same _ (scal_bel h)

theorem number_calld (v : Val) (o : List Nat) (hv : v.kind = 2 → 0 ≤ v.n) (ho : (o.length + 1) * 8 ≤ 140737488355328) (hne : o ≠ []) {H : Heap} {nx g1 g2 gm gr : Nat} (st : NumSt H g1 g2 gm gr o) (l1 : g1 < nx) (l2 : g2 < nx) (lm : gm < nx) (lr : gr < nx) {k : Kt}
    (h0 : ¬ (v.kind = 2 ∧ v.n.toNat ∉ o) → k (.agg (VM.put (VM.meet o v) v).avs) [g1, g2, gm, gr] [] [])
    (h1 : v.kind = 2 ∧ v.n.toNat ∉ o → k (.agg (VM.put (VM.meet o v) v).avs) [g1, g2, gm, gr] [nx] [(gm, some (.mp (numMap (o ++ [v.n.toNat])))), (gr, none), (g2, some (.row 1 [.slc nx 0 (o.length + 1)])), (nx, some (.row 1 (numRow (o ++ [v.n.toNat]))))]) :
    CALLD Tryd.prog (.clo 38 [.ptr g1 0, .ptr g2 0]) [.agg v.avs] H nx k := by
  have hsome : ∀ g ∈ [g1, g2, gm, gr], (H g).isSome = true := by
    intro g hg
    simp at hg
    rcases hg with rfl | rfl | rfl | rfl
    · rw [st.m1]; rfl
    · rw [st.m2]; rfl
    · rw [st.mm]; rfl
    · rw [st.mr hne]; rfl
  have move : ∀ H' : Heap, (∀ g ∈ [g1, g2, gm, gr], H' g = H g) → NumSt H' g1 g2 gm gr o := fun H' ha =>
    ⟨by rw [ha g1 (by simp)]; exact st.m1, by rw [ha gm (by simp)]; exact st.mm, by rw [ha g2 (by simp)]; exact st.m2, fun h => by rw [ha gr (by simp)]; exact st.mr h, st.d12, st.d1m, st.d2m, st.dr⟩
  obtain ⟨r1, r2, r3⟩ := st.dr hne
  by_cases hnew : v.kind = 2 ∧ v.n.toNat ∉ o
  · refine ⟨_, [g1, g2, gm, gr], [nx], _, .inr rfl, LC.of_calls1 hsome ?_ ?_, h1 hnew⟩
    · intro g hg
      simp at hg ⊢
      rcases hg with rfl | rfl | rfl | rfl <;> simp
    · intro H' n' ha
      have st' := move H' fun g hg => (ha g hg).1
      refine (number_ac v o hv ho st' (ha g1 (by simp)).2 (ha g2 (by simp)).2 (ha gm (by simp)).2 (fun _ => (ha gr (by simp)).2)).mono fun w H'' n'' ⟨q1, q2, _, q4⟩ => ?_
      obtain ⟨gn, p1, p2, p3, p4, p5, p6, p7⟩ := q4 hnew
      have a2 := st.d2m
      subst q1
      refine ⟨gn, p1, p2, .same _ (.agg _ fun j x hx => scal_bel (scal_val _ x (List.mem_of_getElem? hx))), fun g hg hd => ?_, fun g ob hg hne0 hap => ?_, ?_⟩
      · simp at hd
        exact p7 g hg hd.1 hd.2.2.1 fun _ => hd.2.1
      · have b1 : nx ≠ gm := by omega
        have b2 : nx ≠ g2 := by omega
        have b3 : nx ≠ gr := by omega
        simp at hg
        rcases hg with rfl | rfl | rfl | rfl
        · simp [Ne.symm a2, Ne.symm b1, Ne.symm r3] at hap
          subst hap
          exact ⟨_, p3, rfl, fun j x u hx hu => by
            rw [hx] at hu; cases hu
            obtain ⟨s1, s2⟩ := numMap_scal _ j x hx
            exact ⟨rn_scal s1 rfl, rn_scal s2 rfl⟩⟩
        · simp [r2, Ne.symm b3] at hap
        · simp [Ne.symm b2] at hap
          subst hap
          refine ⟨_, p4, rfl, rfl, fun j x u hx hu => ?_⟩
          match j, hx, hu with
          | 0, hx, hu => cases hx; cases hu; exact .slc 0 _
        · exact absurd rfl hne0
      · refine ⟨.row 1 (numRow (o ++ [v.n.toNat])), _, by simp, p5, rfl, rfl, fun j x u hx hu => ?_⟩
        rw [hx] at hu; cases hu
        exact rn_scal (numRow_scal _ j x hx) rfl
  · refine CALLD.of_qcr [g1, g2, gm, gr] hsome (fun H' n' ha => ?_) ?_ (h0 hnew)
    · have st' := move H' fun g hg => (ha g hg).1
      refine ACalls.pure ((number_ac v o hv ho st' (ha g1 (by simp)).2 (ha g2 (by simp)).2 (ha gm (by simp)).2 (fun _ => (ha gr (by simp)).2)).mono fun w H'' n'' ⟨q1, q2, q3, _⟩ => ?_)
      subst q1
      exact ⟨by simp, q3 hnew⟩
    · exact .agg _ fun j x hx => scal_bel (scal_val _ x (List.mem_of_getElem? hx))
end Go.Proofs.YtejohcohkgcmhaaDoor
namespace Go.Proofs.YtejohcohkgcmhaaDoor
open Go Go.RowKit

theorem rowV_at {L : List Val} {i : Nat} {v : Val} (h : L[i]? = some v) : ((rowV L).drop (i * 3)).take 3 = v.avs := flat_at (avsV_len L) (by rw [List.getElem?_map, h]; rfl)
theorem rowC_at {L : List Cl} {i : Nat} {v : Cl} (h : L[i]? = some v) : ((rowC L).drop (i * 6)).take 6 = v.avs := flat_at (avsC_len L) (by rw [List.getElem?_map, h]; rfl)
theorem rowV_cons (v : Val) (L : List Val) : rowV (v :: L) = v.avs ++ rowV L := by simp [rowV]
theorem rowC_cons (v : Cl) (L : List Cl) : rowC (v :: L) = v.avs ++ rowC L := by simp [rowC]
theorem rowC_snoc (L : List Cl) (c : Cl) : rowC (L ++ [c]) = rowC L ++ c.avs := by simp [rowC]
theorem rowV_snoc (L : List Val) (c : Val) : rowV (L ++ [c]) = rowV L ++ c.avs := by simp [rowV]
theorem rowV_set : ∀ {L : List Val} {i : Nat} {v : Val}, i < L.length → (rowV L).take (i * 3) ++ v.avs ++ (rowV L).drop (i * 3 + 3) = rowV (L.set i v)
  | [], i, v, h => by simp at h
  | w :: L, 0, v, h => by simp [rowV_cons, List.drop_append, List.drop_of_length_le]
  | w :: L, i + 1, v, h => by
    have ih := rowV_set (L := L) (i := i) (v := v) (by simpa using h)
    rw [List.set_cons_succ, rowV_cons, rowV_cons, ← ih, Nat.succ_mul, List.take_append, List.drop_append, List.take_of_length_le (by simp), List.drop_of_length_le (by simp)]
    simp [List.append_assoc]
def cellOf (F : List Nat) (h : List Cl) (n : Nat) : Cl := VM.putC F ((h[n]?).getD ⟨VM.vzero, VM.vzero⟩)
theorem canonC_eq {h : List Cl} {l : List Val} (hF : ∀ n ∈ VM.order h l, n < h.length) : VM.canonC h l = (VM.order h l).map (cellOf (VM.order h l) h) := by
  unfold VM.canonC
  generalize VM.order h l = F at *
  have : ∀ o : List Nat, (∀ n ∈ o, n < h.length) → (o.filterMap fun n => (h[n]?).map (VM.putC F)) = o.map (cellOf F h) := by
    intro o
    induction o with
    | nil => intro _; rfl
    | cons n r ih =>
      intro ho
      have hn := ho n (by simp)
      rw [List.filterMap_cons, List.getElem?_eq_getElem hn]
      simp only [Option.map_some, List.map_cons]
      rw [ih fun x hx => ho x (by simp [hx])]
      simp [cellOf, hn]
  exact this F hF

theorem NumSt.keep {H H' : Heap} {g1 g2 gm gr nx : Nat} {o : List Nat} (h : NumSt H g1 g2 gm gr o) (l1 : g1 < nx) (l2 : g2 < nx) (lm : gm < nx) (lr : o ≠ [] → gr < nx) (hk : ∀ g, g < nx → H' g = H g) : NumSt H' g1 g2 gm gr o :=
  ⟨by rw [hk g1 l1]; exact h.m1, by rw [hk gm lm]; exact h.mm, by rw [hk g2 l2]; exact h.m2, fun ho => by rw [hk gr (lr ho)]; exact h.mr ho, h.d12, h.d1m, h.d2m, h.dr⟩
theorem NumSt.next {H H' : Heap} {g1 g2 gm gr gn nx : Nat} {o : List Nat} {n : Nat} (h : NumSt H g1 g2 gm gr o) (l1 : g1 < nx) (l2 : g2 < nx) (lm : gm < nx) (lr : o ≠ [] → gr < nx) (hgn : nx ≤ gn) (p3 : H' gm = some (.mp (numMap (o ++ [n])))) (p4 : H' g2 = some (.row 1 [.slc gn 0 (o.length + 1)]))
    (p5 : H' gn = some (.row 1 (numRow (o ++ [n])))) (p7 : H' g1 = H g1) : NumSt H' g1 g2 gm gn (o ++ [n]) :=
  ⟨by rw [p7]; exact h.m1, p3, by rw [p4]; simp, fun _ => p5, h.d12, h.d1m, h.d2m, fun _ => ⟨by omega, by omega, by omega⟩⟩

/-- The closure's call, whatever the case. -/
theorem number_ac2 (v : Val) (o : List Nat) (hv : v.kind = 2 → 0 ≤ v.n) (ho : (o.length + 1) * 8 ≤ 140737488355328) {H : Heap} {nx g1 g2 gm gr : Nat} (st : NumSt H g1 g2 gm gr o) (l1 : g1 < nx) (l2 : g2 < nx) (lm : gm < nx) (lr : o ≠ [] → gr < nx) :
    ACalls Tryd.prog 38 [.agg v.avs, .ptr g1 0, .ptr g2 0] H nx fun r H' nx' => r = .agg (VM.put (VM.meet o v) v).avs ∧ nx ≤ nx' ∧ ∃ gr', NumSt H' g1 g2 gm gr' (VM.meet o v) ∧ (VM.meet o v ≠ [] → gr' < nx' ∧ ((o ≠ [] ∧ gr' = gr) ∨ nx ≤ gr')) ∧
      ∀ g, g < nx → g ≠ gm → g ≠ g2 → (o ≠ [] → g ≠ gr) → H' g = H g := by
  refine (number_ac v o hv ho st l1 l2 lm lr).mono fun w H' nx' ⟨q1, q2, q3, q4⟩ => ⟨q1, q2, ?_⟩
  by_cases hnew : v.kind = 2 ∧ v.n.toNat ∉ o
  · obtain ⟨gn, p1, p2, p3, p4, p5, _, p7⟩ := q4 hnew
    rw [meet_new hnew]
    exact ⟨gn, st.next l1 l2 lm lr p1 p3 p4 p5 (p7 g1 l1 st.d1m st.d12 fun h => Ne.symm (st.dr h).1), fun _ => ⟨p2, .inr p1⟩, p7⟩
  · rw [meet_old hnew]
    have k := q3 hnew
    exact ⟨gr, st.keep l1 l2 lm lr k, fun h => ⟨by have := lr h; omega, .inl ⟨h, rfl⟩⟩, fun g hg _ _ _ => k g hg⟩
end Go.Proofs.YtejohcohkgcmhaaDoor
namespace Go.Proofs.YtejohcohkgcmhaaDoor
open Go Go.RowKit

/-- Where the program's function has come to: i values numbered, d cells, of those met. -/
structure CanSt (h : List Cl) (l : List Val) (F : List Nat) (H0 : Heap) (nx i d : Nat) (o : List Nat) (a2 : AV) (H : Heap) (n gr go gv : Nat) : Prop where
  num : NumSt H (nx + 1) (nx + 2) nx gr o
  lr : o ≠ [] → nx + 3 ≤ gr ∧ gr < n ∧ gv ≠ gr
  out : (d = 0 ∧ a2 = .nils) ∨ (0 < d ∧ a2 = .slc go 0 d ∧ H go = some (.row 6 (rowC ((o.take d).map (cellOf F h)))) ∧ nx + 3 ≤ go ∧ go < n ∧ go ≠ gv ∧ go ≠ gr)
  vs : H gv = some (.row 3 (rowV ((l.take i).map (VM.put F) ++ l.drop i)))
  lv : nx + 3 ≤ gv ∧ gv < n
  keep : Keep nx H H0
  good : VM.Good h.length o
  dle : d ≤ o.length

theorem CanSt.more {h : List Cl} {l : List Val} {F : List Nat} {H0 : Heap} {nx i d : Nat} {o : List Nat} {a2 : AV} {H : Heap} {n gr go gv : Nat} (st : CanSt h l F H0 nx i d o a2 H n gr go gv) {H1 : Heap} {n1 : Nat} (hn : n ≤ n1) (hk : ∀ g, g < n → H1 g = H g) : CanSt h l F H0 nx i d o a2 H1 n1 gr go gv := by
  have l1 := st.lv
  refine ⟨st.num.keep (nx := n) (by omega) (by omega) (by omega) (fun ho => (st.lr ho).2.1) hk, fun ho => ?_, ?_, by rw [hk gv l1.2]; exact st.vs, by omega, fun g hg => by rw [hk g (by omega)]; exact st.keep g hg, st.good, st.dle⟩
  · have := st.lr ho; omega
  · rcases st.out with h | ⟨p1, p2, p3, p4, p5, p6⟩
    · exact .inl h
    · exact .inr ⟨p1, p2, by rw [hk go p5]; exact p3, p4, by omega, p6⟩
theorem take_pre {o o' : List Nat} (h : o <+: o') {d : Nat} (hd : d ≤ o.length) : o'.take d = o.take d := by
  obtain ⟨t, rfl⟩ := h
  rw [List.take_append_of_le_length hd]
theorem CanSt.meet {h : List Cl} {l : List Val} {F : List Nat} {H0 : Heap} {nx i d : Nat} {o : List Nat} {a2 : AV} {H : Heap} {n gr go gv : Nat} (st : CanSt h l F H0 nx i d o a2 H n gr go gv) {v : Val} (hv : VM.OkV h.length v) {H' : Heap} {n' gr' : Nat} (hn : n ≤ n')
    (q1 : NumSt H' (nx + 1) (nx + 2) nx gr' (VM.meet o v)) (q2 : VM.meet o v ≠ [] → gr' < n' ∧ ((o ≠ [] ∧ gr' = gr) ∨ n ≤ gr')) (q3 : ∀ g, g < n → g ≠ nx → g ≠ nx + 2 → (o ≠ [] → g ≠ gr) → H' g = H g) : CanSt h l F H0 nx i d (VM.meet o v) a2 H' n' gr' go gv := by
  have l1 := st.lv
  have p := VM.meet_pre o v
  have hgv : H' gv = H gv := q3 gv l1.2 (by omega) (by omega) fun ho => (st.lr ho).2.2
  refine ⟨q1, fun ho => ?_, ?_, by rw [hgv]; exact st.vs, by omega, fun g hg => ?_, st.good.meet hv, Nat.le_trans st.dle p.length_le⟩
  · obtain ⟨a, b⟩ := q2 ho
    rcases b with ⟨b1, rfl⟩ | b
    · have := st.lr b1; omega
    · omega
  · rcases st.out with h | ⟨p1, p2, p3, p4, p5, p6, p7⟩
    · exact .inl h
    · have ho : o ≠ [] := by intro e; subst e; have := st.dle; simp at this; omega
      refine .inr ⟨p1, p2, ?_, p4, by omega, p6, ?_⟩
      · rw [q3 go p5 (by omega) (by omega) fun _ => p7, take_pre p st.dle]; exact p3
      · have hm : VM.meet o v ≠ [] := by
          intro e; rw [e] at p; exact ho (List.prefix_nil.1 p)
        rcases (q2 hm).2 with ⟨_, rfl⟩ | b
        · exact p7
        · omega
  · rw [q3 g (by omega) (by omega) (by omega) fun ho => by have := st.lr ho; omega]; exact st.keep g hg
theorem lnl_ord {o : List Nat} {gr : Nat} {k : AV → Prop} : LNL (if o = [] then AV.nils else .slc gr 0 o.length) k = k (.int .i64 o.length) := by
  by_cases h : o = []
  · subst h; simp
  · rw [if_neg h]; simp
theorem numRow_at {o : List Nat} {d n : Nat} (h : o[d]? = some n) : (numRow o)[d]? = some (.int .i64 n) := by simp [numRow, h]
theorem disjK_of {A : Prop} {m : List Nat} : ∀ {l : List Nat}, (∀ g ∈ l, g ∉ m) → A → disjK l m A
  | [], _, a => by rw [disjK_nil]; exact a
  | g :: r, h, a => by rw [disjK_cons]; exact ⟨h g (by simp), disjK_of (fun x hx => h x (by simp [hx])) a⟩
theorem CanSt.outs {h : List Cl} {l : List Val} {F : List Nat} {H0 : Heap} {nx i d : Nat} {o : List Nat} {a2 : AV} {H : Heap} {n gr go gv : Nat} (st : CanSt h l F H0 nx i d o a2 H n gr go gv) {H' : Heap} {gn n' : Nat} (hd : d < o.length) (hgn : n ≤ gn) (hn' : gn < n')
    (h1 : H' gn = some (.row 6 (rowC ((o.take (d + 1)).map (cellOf F h))))) (h2 : ∀ g, g < n → (0 < d → g ≠ go) → H' g = H g) : CanSt h l F H0 nx i (d + 1) o (.slc gn 0 (d + 1)) H' n' gr gn gv := by
  have l1 := st.lv
  have ho : o ≠ [] := by intro e; subst e; simp at hd
  obtain ⟨r1, r2, r3⟩ := st.lr ho
  have go1 : 0 < d → nx + 3 ≤ go ∧ go < n ∧ go ≠ gv ∧ go ≠ gr := fun h0 => by
    rcases st.out with ⟨p, _⟩ | ⟨_, _, _, p⟩
    · omega
    · exact p
  have e1 := h2 (nx + 1) (by omega) (fun h0 => by have := go1 h0; omega)
  have e2 := h2 (nx + 2) (by omega) (fun h0 => by have := go1 h0; omega)
  have e3 := h2 nx (by omega) (fun h0 => by have := go1 h0; omega)
  have e4 := h2 gr (by omega) (fun h0 => by have := go1 h0; omega)
  have e5 := h2 gv (by omega) (fun h0 => by have := go1 h0; omega)
  refine ⟨⟨by rw [e1]; exact st.num.m1, by rw [e3]; exact st.num.mm, by rw [e2]; exact st.num.m2, fun _ => by rw [e4]; exact st.num.mr ho, by omega, by omega, by omega, fun _ => by omega⟩, fun _ => by omega, .inr ⟨by omega, rfl, h1, by omega, hn', by omega, by omega⟩, by rw [e5]; exact st.vs, by omega, fun g hg => ?_, st.good, by omega⟩
  rw [h2 g (by omega) (fun h0 => by have := go1 h0; omega)]
  exact st.keep g hg
theorem take_snoc {α : Type} {l : List α} {i : Nat} {v : α} (h : l[i]? = some v) : l.take (i + 1) = l.take i ++ [v] := by
  rw [List.take_add_one, h]; rfl
theorem set_mid {α : Type} (a : List α) (v u : α) (b : List α) : (a ++ v :: b).set a.length u = a ++ u :: b := by simp
theorem put_set {l : List Val} {F : List Nat} {i : Nat} {v : Val} (h : l[i]? = some v) : ((l.take i).map (VM.put F) ++ l.drop i).set i (VM.put F v) = (l.take (i + 1)).map (VM.put F) ++ l.drop (i + 1) := by
  obtain ⟨hi, hv⟩ := List.getElem?_eq_some_iff.1 h
  have e : l.drop i = v :: l.drop (i + 1) := by rw [← hv]; exact List.drop_eq_getElem_cons hi
  have hlen : ((l.take i).map (VM.put F)).length = i := by simp; omega
  have := set_mid ((l.take i).map (VM.put F)) v (VM.put F v) (l.drop (i + 1))
  rw [hlen] at this
  rw [e, this, take_snoc h, List.map_append]; simp
theorem getV_mix {l : List Val} {F : List Nat} {i : Nat} {v : Val} (h : l[i]? = some v) : ((l.take i).map (VM.put F) ++ l.drop i)[i]? = some v := by
  obtain ⟨hi, hv⟩ := List.getElem?_eq_some_iff.1 h
  rw [List.getElem?_append_right (by simp; omega)]
  have e3 : i - ((l.take i).map (VM.put F)).length = 0 := by simp; omega
  rw [e3, List.getElem?_drop]; simpa using h
theorem cell_put {h : List Cl} {F o : List Nat} {n : Nat} {c : Cl} (hc : h[n]? = some c) (hp : VM.meet (VM.meet o c.left) c.right <+: F) : (⟨VM.put (VM.meet o c.left) c.left, VM.put (VM.meet (VM.meet o c.left) c.right) c.right⟩ : Cl) = cellOf F h n := by
  unfold cellOf VM.putC
  rw [hc, VM.put_pre ((VM.meet_pre _ _).trans hp) (VM.mem_meet o c.left), VM.put_pre hp (VM.mem_meet _ c.right)]
  rfl
theorem take_succ_map {o : List Nat} {d n : Nat} (f : Nat → Cl) (h : o[d]? = some n) : (o.take (d + 1)).map f = (o.take d).map f ++ [f n] := by
  rw [take_snoc h, List.map_append]; rfl
end Go.Proofs.YtejohcohkgcmhaaDoor
namespace Go.Proofs.YtejohcohkgcmhaaDoor
namespace VM

theorem fm_congr {α β : Type} {f g : α → Option β} : ∀ {l : List α}, (∀ x ∈ l, f x = g x) → l.filterMap f = l.filterMap g
  | [], _ => rfl
  | a :: r, h => by rw [List.filterMap_cons, List.filterMap_cons, h a (by simp), fm_congr fun x hx => h x (by simp [hx])]
theorem vshow_int {h : List Cl} {d : Nat} {v : Val} (k : v.kind = 0) : vshow h d v = Lib.itoa v.n := by cases d <;> simp [vshow, k]
theorem vshow_text {h : List Cl} {d : Nat} {v : Val} (k : v.kind = 1) : vshow h d v = v.text := by cases d <;> simp [vshow, k]
theorem vshow_dots {h : List Cl} {v : Val} (k : v.kind = 2) : vshow h 0 v = [46, 46] := by simp [vshow, k]
theorem vshow_cell {h : List Cl} {d : Nat} {v : Val} {c : Cl} (k : v.kind = 2) (hn : 0 ≤ v.n) (hc : h[v.n.toNat]? = some c) : vshow h (d + 1) v = [40] ++ vshow h d c.left ++ [32] ++ vshow h d c.right ++ [41] := by simp [vshow, k, hn, hc]
theorem put_ren (F : List Nat) : put F = ren F.idxOf := rfl
theorem idx_map {π : Nat → Nat} {D : Nat → Prop} (inj : ∀ a b, D a → D b → π a = π b → a = b) : ∀ {o : List Nat} {x : Nat}, (∀ n ∈ o, D n) → D x → (o.map π).idxOf (π x) = o.idxOf x
  | [], x, _, _ => rfl
  | a :: r, x, ho, hx => by
    rw [List.map_cons, List.idxOf_cons, List.idxOf_cons]
    by_cases e : a = x
    · subst e; simp
    · have e' : π a ≠ π x := fun h => e (inj a x (ho a (by simp)) hx h)
      have e1 : (a == x) = false := by simp [e]
      have e2 : (π a == π x) = false := by simp [e']
      rw [e1, e2]
      simp only [cond_false]
      rw [idx_map inj (fun n hn => ho n (by simp [hn])) hx]
theorem put_turn {h g : List Cl} {π : Nat → Nat} {D : Nat → Prop} (t : Turn h g π D) {F : List Nat} (hF : ∀ n ∈ F, D n) {v : Val} (hv : v.kind = 2 → D v.n.toNat) : put (F.map π) (ren π v) = put F v := by
  by_cases hk : v.kind = 2
  · unfold put
    rw [ren_kind, if_pos hk, if_pos hk]
    unfold ren
    rw [if_pos hk]
    simp only [Int.toNat_natCast]
    rw [idx_map t.inj hF (hv hk)]
  · unfold put
    rw [ren_kind, if_neg hk, if_neg hk]
    unfold ren
    rw [if_neg hk]
theorem canon_turn {h g : List Cl} {π : Nat → Nat} {D : Nat → Prop} (t : Turn h g π D) (hh : OkH h) (hg : OkH g) {l : List Val} (hl : ∀ v ∈ l, OkV h.length v) (hd : ∀ v ∈ l, v.kind = 2 → D v.n.toNat) (hl' : ∀ v ∈ l, OkV g.length (ren π v)) :
    canonV g (l.map (ren π)) = canonV h l ∧ canonC g (l.map (ren π)) = canonC h l := by
  obtain ⟨e, hF⟩ := orderGo_turn t hh hg l [] hl hd hl' Good.nil Good.nil (fun n hn => by simp at hn)
  have e' : order g (l.map (ren π)) = (order h l).map π := e
  unfold canonV canonC
  rw [e']
  have hF' : ∀ n ∈ order h l, D n := hF
  generalize order h l = F at *
  refine ⟨?_, ?_⟩
  · rw [List.map_map]
    exact List.map_congr_left fun v hv => put_turn t hF' (hd v hv)
  · rw [List.filterMap_map]
    refine fm_congr fun n hn => ?_
    obtain ⟨c, hc, hgc, dl, dr⟩ := t.cell n (hF' n hn)
    simp only [Function.comp, hc, hgc, Option.map_some]
    unfold putC
    rw [put_turn t hF' dl, put_turn t hF' dr]

theorem right_okV {h : List Cl} {l : List Val} (hr : right h l = true) : ∀ v ∈ l, WrongOk v h.length := by
  unfold right at hr
  simp only [Bool.and_eq_true, List.all_eq_true, decide_eq_true_eq] at hr
  exact fun v hv => wrong_ok (hr.1 v hv)
theorem right_okC {h : List Cl} {l : List Val} (hr : right h l = true) : ∀ c ∈ h, WrongOk c.left h.length ∧ WrongOk c.right h.length := by
  unfold right at hr
  simp only [Bool.and_eq_true, List.all_eq_true, decide_eq_true_eq] at hr
  exact fun c hc => ⟨wrong_ok (hr.2 c hc).1, wrong_ok (hr.2 c hc).2⟩
theorem ok_right {h : List Cl} {l : List Val} (h1 : ∀ v ∈ l, WrongOk v h.length) (h2 : ∀ c ∈ h, WrongOk c.left h.length ∧ WrongOk c.right h.length) : right h l = true := by
  unfold right
  simp only [Bool.and_eq_true, List.all_eq_true, decide_eq_true_eq]
  exact ⟨fun v hv => ok_wrong (h1 v hv), fun c hc => ⟨ok_wrong (h2 c hc).1, ok_wrong (h2 c hc).2⟩⟩
theorem WrongOk.okV {v : Val} {N : Nat} (h : WrongOk v N) : OkV N v := fun hk => by have := h.cell hk; omega
theorem okH {h : List Cl} (hc : ∀ c ∈ h, WrongOk c.left h.length ∧ WrongOk c.right h.length) : OkH h := fun n c hn => by
  obtain ⟨a, b⟩ := hc c (List.mem_of_getElem? hn)
  exact ⟨a.okV, b.okV⟩
theorem WrongOk.ren {v : Val} {N M : Nat} {π : Nat → Nat} (h : WrongOk v N) (hp : v.kind = 2 → π v.n.toNat < M) : WrongOk (ren π v) M := by
  unfold VM.ren
  by_cases hk : v.kind = 2
  · rw [if_pos hk]
    exact ⟨h.kind, fun h0 => by simp only at h0; omega, h.len, fun _ => ⟨by simp, by have := hp hk; simp only; omega⟩, fun h1 => by simp only at h1; omega, h.non⟩
  · rw [if_neg hk]
    exact ⟨h.kind, h.int, h.len, fun h2 => absurd h2 hk, h.txt, h.non⟩

/-- The cells of an order are where they are. -/
theorem order_turn {h : List Cl} {l : List Val} (hr : right h l = true) : Turn h (canonC h l) (order h l).idxOf (· ∈ order h l) ∧ (∀ v ∈ l, In (order h l) v) ∧ (∀ n ∈ order h l, n < h.length) ∧ (order h l).Nodup ∧ (canonC h l).length = (order h l).length := by
  have hh := okH (right_okC hr)
  have hl : ∀ v ∈ l, OkV h.length v := fun v hv => (right_okV hr v hv).okV
  have g : Good h.length (order h l) := orderGo_good hh l [] hl Good.nil
  obtain ⟨s, hin⟩ := orderGo_shut hh l [] hl Good.nil (fun j n c hj => by simp at hj)
  have s' : Shut h (order h l) (order h l).length := s
  have hin' : ∀ v ∈ l, In (order h l) v := hin
  have fm : ∀ (F o : List Nat), (∀ n ∈ o, n < h.length) → (o.filterMap fun n => (h[n]?).map (putC F)) = o.map fun n => putC F ((h[n]?).getD ⟨vzero, vzero⟩) := by
    intro F o
    induction o with
    | nil => intro _; rfl
    | cons n r ih =>
      intro ho
      have hn := ho n (by simp)
      rw [List.filterMap_cons, List.getElem?_eq_getElem hn]
      simp only [Option.map_some, List.map_cons]
      rw [ih fun x hx => ho x (by simp [hx])]
      simp [hn]
  have ck : canonC h l = (order h l).map fun n => putC (order h l) ((h[n]?).getD ⟨vzero, vzero⟩) := fm _ _ g.lt
  refine ⟨⟨fun a b ha hb e => ?_, fun n hn => ?_⟩, hin', g.lt, g.nd, by rw [ck, List.length_map]⟩
  · have e1 := List.getElem_idxOf (List.idxOf_lt_length_iff.2 ha)
    have e2 := List.getElem_idxOf (List.idxOf_lt_length_iff.2 hb)
    rw [← e1, ← e2]
    simp only [e]
  · have hlt := g.lt n hn
    refine ⟨h[n], List.getElem?_eq_getElem hlt, ?_, ?_⟩
    · rw [ck, List.getElem?_map, List.getElem?_eq_getElem (List.idxOf_lt_length_iff.2 hn), List.getElem_idxOf]
      simp [hlt]; rfl
    · have hi : (order h l)[(order h l).idxOf n]? = some n := by rw [List.getElem?_eq_getElem (List.idxOf_lt_length_iff.2 hn), List.getElem_idxOf]
      exact s' _ n h[n] (List.idxOf_lt_length_iff.2 hn) hi (List.getElem?_eq_getElem hlt)
theorem canonV_eq (h : List Cl) (l : List Val) : canonV h l = l.map (ren (order h l).idxOf) := rfl
theorem vshow_turn {h g : List Cl} {π : Nat → Nat} {D : Nat → Prop} (t : Turn h g π D) : ∀ (d : Nat) {v : Val}, (v.kind = 0 ∨ v.kind = 1 ∨ (v.kind = 2 ∧ 0 ≤ v.n ∧ D v.n.toNat)) → (∀ (n : Nat) (c : Cl), h[n]? = some c → (c.left.kind = 0 ∨ c.left.kind = 1 ∨ (c.left.kind = 2 ∧ 0 ≤ c.left.n)) ∧ (c.right.kind = 0 ∨ c.right.kind = 1 ∨ (c.right.kind = 2 ∧ 0 ≤ c.right.n))) → vshow g d (ren π v) = vshow h d v
  | d, v, hv, hh => by
    rcases hv with hk | hk | ⟨hk, hn, hD⟩
    · have e : ren π v = v := by unfold ren; rw [if_neg (by omega)]
      rw [e, vshow_int hk, vshow_int hk]
    · have e : ren π v = v := by unfold ren; rw [if_neg (by omega)]
      rw [e, vshow_text hk, vshow_text hk]
    · obtain ⟨c, hc, hgc, dl, dr⟩ := t.cell _ hD
      obtain ⟨k1, k2⟩ := hh _ _ hc
      have hk' : (ren π v).kind = 2 := by rw [ren_kind]; exact hk
      cases d with
      | zero => rw [vshow_dots hk', vshow_dots hk]
      | succ d =>
        have i1 := vshow_turn t d (v := c.left) (by rcases k1 with a | a | ⟨a, b⟩; exact .inl a; exact .inr (.inl a); exact .inr (.inr ⟨a, b, dl a⟩)) hh
        have i2 := vshow_turn t d (v := c.right) (by rcases k2 with a | a | ⟨a, b⟩; exact .inl a; exact .inr (.inl a); exact .inr (.inr ⟨a, b, dr a⟩)) hh
        have en : (ren π v).n = (π v.n.toNat : Nat) := by unfold ren; rw [if_pos hk]
        rw [vshow_cell hk hn hc, vshow_cell hk' (by rw [en]; omega) (by rw [en, Int.toNat_natCast]; exact hgc), i1, i2]

/-- Values, and cells, numbered anew: they show the same, and are as they are if it is done again. -/
theorem canon_law {h : List Cl} {l : List Val} (hr : right h l = true) : (canonV h l).length = l.length ∧ (canonC h l).length ≤ h.length ∧ right (canonC h l) (canonV h l) = true ∧
    (∀ (d i : Nat) (v : Val), l[i]? = some v → ∃ u, (canonV h l)[i]? = some u ∧ vshow (canonC h l) d u = vshow h d v) ∧ canonV (canonC h l) (canonV h l) = canonV h l ∧ canonC (canonC h l) (canonV h l) = canonC h l := by
  obtain ⟨t, hin, hlt, hnd, hlen⟩ := order_turn hr
  have hv := right_okV hr
  have hc := right_okC hr
  have hle : (order h l).length ≤ h.length := (show Good h.length (order h l) from ⟨hnd, hlt⟩).len
  have hV : ∀ v ∈ l, WrongOk (ren (order h l).idxOf v) (canonC h l).length := fun v hx => (hv v hx).ren fun hk => by rw [hlen]; exact List.idxOf_lt_length_iff.2 (hin v hx hk)
  have hC : ∀ c ∈ canonC h l, WrongOk c.left (canonC h l).length ∧ WrongOk c.right (canonC h l).length := by
    intro c hx
    unfold canonC at hx
    obtain ⟨n, hn, he⟩ := List.mem_filterMap.1 hx
    obtain ⟨c0, h0, _, dl, dr⟩ := t.cell n hn
    rw [h0] at he
    simp only [Option.map_some, Option.some.injEq] at he
    subst he
    obtain ⟨w1, w2⟩ := hc c0 (List.mem_of_getElem? h0)
    refine ⟨show WrongOk (ren (order h l).idxOf c0.left) _ from w1.ren (M := (canonC h l).length) fun hk => ?_, show WrongOk (ren (order h l).idxOf c0.right) _ from w2.ren (M := (canonC h l).length) fun hk => ?_⟩
    · rw [hlen]; exact List.idxOf_lt_length_iff.2 (dl hk)
    · rw [hlen]; exact List.idxOf_lt_length_iff.2 (dr hk)
  have hR : right (canonC h l) (canonV h l) = true := ok_right (fun v hx => by
    rw [canonV_eq] at hx
    obtain ⟨u, hu, rfl⟩ := List.mem_map.1 hx
    exact hV u hu) hC
  obtain ⟨q1, q2⟩ := canon_turn t (okH hc) (okH hC) (fun v hx => (hv v hx).okV) (fun v hx hk => hin v hx hk) (fun v hx => (hV v hx).okV)
  refine ⟨by rw [canonV_eq, List.length_map], by omega, hR, fun d i v hi => ⟨ren (order h l).idxOf v, by rw [canonV_eq, List.getElem?_map, hi]; rfl, ?_⟩, q1, q2⟩
  have hvl := List.mem_of_getElem? hi
  refine vshow_turn t d ?_ fun n c hn => ?_
  · have w := hv v hvl
    rcases w.kind with a | a | a
    · exact .inl a
    · exact .inr (.inl a)
    · exact .inr (.inr ⟨a, (w.cell a).1, hin v hvl a⟩)
  · obtain ⟨w1, w2⟩ := hc c (List.mem_of_getElem? hn)
    refine ⟨?_, ?_⟩
    · rcases w1.kind with a | a | a
      · exact .inl a
      · exact .inr (.inl a)
      · exact .inr (.inr ⟨a, (w1.cell a).1⟩)
    · rcases w2.kind with a | a | a
      · exact .inl a
      · exact .inr (.inl a)
      · exact .inr (.inr ⟨a, (w2.cell a).1⟩)

/-- Cells moved on by so many places: numbered anew they are as they were. -/
theorem moved_law {h g : List Cl} {l : List Val} {b : Nat} (hr : right h l = true) (hb : b < h.length) (hlen : g.length = h.length) (hg : ∀ (n : Nat) (c : Cl), h[n]? = some c → g[(n + b) % h.length]? = some ⟨ren (fun n => (n + b) % h.length) c.left, ren (fun n => (n + b) % h.length) c.right⟩) :
    canonV g (l.map (ren fun n => (n + b) % h.length)) = canonV h l ∧ canonC g (l.map (ren fun n => (n + b) % h.length)) = canonC h l := by
  have hv := right_okV hr
  have hc := right_okC hr
  have hpos : 0 < h.length := by omega
  have inj : ∀ x y, x < h.length → y < h.length → (x + b) % h.length = (y + b) % h.length → x = y := by
    have md : ∀ x, x < h.length → (x + b) % h.length = if x + b < h.length then x + b else x + b - h.length := by
      intro x hx
      split
      · exact Nat.mod_eq_of_lt (by assumption)
      · rw [Nat.mod_eq_sub_mod (by omega), Nat.mod_eq_of_lt (by omega)]
    intro x y hx hy e
    rw [md x hx, md y hy] at e
    split at e <;> split at e <;> omega
  have t : Turn h g (fun n => (n + b) % h.length) (· < h.length) := ⟨inj, fun n hn => ⟨h[n], List.getElem?_eq_getElem hn, hg n _ (List.getElem?_eq_getElem hn), fun hk => by
    have := (hc h[n] (List.getElem_mem hn)).1.cell hk
    omega, fun hk => by
    have := (hc h[n] (List.getElem_mem hn)).2.cell hk
    omega⟩⟩
  have onto : ∀ m, m < h.length → ∃ n, n < h.length ∧ (n + b) % h.length = m := by
    intro m hm
    by_cases hmb : b ≤ m
    · exact ⟨m - b, by omega, by rw [show m - b + b = m by omega]; exact Nat.mod_eq_of_lt hm⟩
    · refine ⟨m + h.length - b, by omega, ?_⟩
      rw [show m + h.length - b + b = m + h.length by omega, Nat.add_mod_right]; exact Nat.mod_eq_of_lt hm
  have okr : ∀ v : Val, OkV g.length (ren (fun n => (n + b) % h.length) v) := by
    intro v hk
    rw [ren_kind] at hk
    unfold ren
    rw [if_pos hk, hlen]
    refine ⟨Int.natCast_nonneg _, ?_⟩
    rw [Int.toNat_natCast]
    exact Nat.mod_lt _ hpos
  have hG : OkH g := by
    intro m c hm
    have hlt := (List.getElem?_eq_some_iff.1 hm).1
    obtain ⟨n, hn, e⟩ := onto m (by omega)
    have := hg n _ (List.getElem?_eq_getElem hn)
    rw [e, hm] at this
    cases this
    exact ⟨okr _, okr _⟩
  exact canon_turn t (okH hc) hG (fun v hx => (hv v hx).okV) (fun v hx hk => by have := (hv v hx).cell hk; omega) (fun v _ => okr v)
theorem moved_right {h g : List Cl} {l : List Val} {b : Nat} (hr : right h l = true) (hb : b < h.length) (hlen : g.length = h.length) (hg : ∀ (n : Nat) (c : Cl), h[n]? = some c → g[(n + b) % h.length]? = some ⟨ren (fun n => (n + b) % h.length) c.left, ren (fun n => (n + b) % h.length) c.right⟩) :
    right g (l.map (ren fun n => (n + b) % h.length)) = true := by
  have hpos : 0 < h.length := by omega
  have wr : ∀ v : Val, WrongOk v h.length → WrongOk (ren (fun n => (n + b) % h.length) v) g.length := fun v hv => hv.ren fun _ => by rw [hlen]; exact Nat.mod_lt _ hpos
  refine ok_right (fun v hv => ?_) fun c hc => ?_
  · obtain ⟨u, hu, rfl⟩ := List.mem_map.1 hv
    exact wr u (right_okV hr u hu)
  · obtain ⟨m, hm, rfl⟩ := List.getElem_of_mem hc
    obtain ⟨n, hn, e⟩ : ∃ n, n < h.length ∧ (n + b) % h.length = m := by
      by_cases hmb : b ≤ m
      · exact ⟨m - b, by omega, by rw [show m - b + b = m by omega]; exact Nat.mod_eq_of_lt (by omega)⟩
      · refine ⟨m + h.length - b, by omega, ?_⟩
        rw [show m + h.length - b + b = m + h.length by omega, Nat.add_mod_right]; exact Nat.mod_eq_of_lt (by omega)
    have := hg n _ (List.getElem?_eq_getElem hn)
    rw [e, List.getElem?_eq_getElem hm] at this
    have e2 := Option.some.inj this
    obtain ⟨w1, w2⟩ := right_okC hr h[n] (List.getElem_mem hn)
    rw [e2]
    exact ⟨wr _ w1, wr _ w2⟩
end VM
end Go.Proofs.YtejohcohkgcmhaaDoor
namespace Go.Proofs.YtejohcohkgcmhaaDoor
open Go Go.RowKit

set_option maxRecDepth 20000 in
theorem canon_k1 {h : List Cl} {l : List Val} {F : List Nat} {H0 : Heap} {nx i j d : Nat} {o : List Nat} {a0 a2 a3 a4 a5 : AV} {H37 : Heap} {nx36 gr go gv c0 : Nat} {rd fr : List Nat} {D : Delta} (S4 : CanSt h l F H0 nx j d o a2 (H37.apply D) (nx36 + 1 + fr.length) gr go gv) (hs : h.length * 64 ≤ 140737488355328)
    (hd : o[d]? = some c0) {p q : Val} (hcell : (⟨p, q⟩ : Cl) = cellOf F h c0) (hdis : nx36 ∉ domD D) {K18 : J3} (hK18 : ∀ a2 H n gr go, CanSt h l F H0 nx j (d + 1) o a2 H n gr go gv → K18 [a0, .ptr (nx + 2) 0, a2, a3, a4, a5, .int .i64 i] H n) :
    cell_Canon_k1 (.agg p.avs) [a0, .ptr (nx + 2) 0, a2, a3, a4, a5, .int .i64 i] nx36 H37 [nx36] K18 (.agg q.avs) rd fr D := by
  have hlt := (List.getElem?_eq_some_iff.1 hd).1
  have hol := S4.good.len
  have hrow : (o.take (d + 1)).map (cellOf F h) = (o.take d).map (cellOf F h) ++ [⟨p, q⟩] := by rw [take_succ_map _ hd, hcell]
  have S5 := S4.out
  rcases S5 with ⟨e0, e2⟩ | ⟨h0, e2, h1, h2, h3, h4⟩
  · subst e2
    simp [cell_Canon_k1, Val.avs]
    subst e0
    refine disjK_of (by simp) (disjK_of (by rintro g hg; simp; rintro rfl; exact hdis hg) (hK18 _ _ _ _ _ (S4.outs hlt (gn := nx36 + 1 + fr.length + 1) (by omega) (by omega) ?_ fun g hg _ => ?_)))
    · rw [Heap.put_at, hrow]
      simp [rowC, Cl.avs, Val.avs]
    · rw [Heap.put_ne _ _ (by omega), Heap.put_ne _ _ (by omega)]
  · subst e2
    simp [cell_Canon_k1, Val.avs, h1]
    rw [if_neg (by omega)]
    simp
    rw [List.take_of_length_le (by simp; omega)]
    refine ⟨by rw [Nat.min_eq_left (by omega)]; exact Nat.le_refl _, by omega, disjK_of (by simp) (disjK_of (by rintro g hg; simp; rintro rfl; exact hdis hg) (hK18 _ _ _ _ _ (S4.outs hlt (gn := nx36 + 1 + fr.length + 1) (by omega) (by omega) ?_ fun g hg hg2 => ?_)))⟩
    · rw [Heap.put_at, hrow]
      simp [rowC, Cl.avs, Val.avs]
    · rw [Heap.put_ne _ _ (by omega), Heap.put_ne _ _ (hg2 h0), Heap.put_ne _ _ (by omega)]
set_option maxHeartbeats 2000000 in
set_option maxRecDepth 20000 in
theorem canon_inner (h : List Cl) (l : List Val) (hr : VM.right h l = true) (hs : h.length * 64 ≤ 140737488355328) {a0 : AV} {H0 : Heap} {nx i : Nat} (hi : i < l.length) (hl : l.length * 32 ≤ 140737488355328) (ha0 : RowArg H0 nx 6 (h.map Cl.avs) a0) (K6 : J3) (gv : Nat)
    (hK : ∀ a2 H n gr go o, CanSt h l (VM.order h l) H0 nx (i + 1) o.length o a2 H n gr go gv → VM.orderGo h (l.drop (i + 1)) o = VM.order h l →
      K6 [a0, .ptr (nx + 2) 0, a2, .clo 38 [.ptr (nx + 1) 0, .ptr (nx + 2) 0], .slc gv 0 l.length, .int .i64 l.length, .int .i64 (i + 1 : Nat)] H n)
    (a2 : AV) (H : Heap) (n gr go : Nat) (o : List Nat) (d : Nat) (st : CanSt h l (VM.order h l) H0 nx (i + 1) d o a2 H n gr go gv) (hF : VM.orderGo h (l.drop (i + 1)) (VM.drain h (h.length - d) o d) = VM.order h l) :
    LP (cell_Canon_l1 K6) [a0, .ptr (nx + 2) 0, a2, .clo 38 [.ptr (nx + 1) 0, .ptr (nx + 2) 0], .slc gv 0 l.length, .int .i64 l.length, .int .i64 i] H n := by
  refine LP.mk (fun m xs H n => ∃ d a2 gr go o, m = h.length - d ∧ xs = [a0, .ptr (nx + 2) 0, a2, .clo 38 [.ptr (nx + 1) 0, .ptr (nx + 2) 0], .slc gv 0 l.length, .int .i64 l.length, .int .i64 i] ∧ CanSt h l (VM.order h l) H0 nx (i + 1) d o a2 H n gr go gv ∧
    VM.orderGo h (l.drop (i + 1)) (VM.drain h (h.length - d) o d) = VM.order h l) (h.length - d) ⟨d, a2, gr, go, o, rfl, rfl, st, hF⟩ ?_
  clear st hF
  rintro m xs H n ⟨d, a2, gr, go, o, rfl, rfl, st, hF⟩
  have hlenA : ∀ k : AV → Prop, LNL a2 k = k (.int .i64 d) := by
    intro k
    rcases st.out with ⟨rfl, rfl⟩ | ⟨_, rfl, _⟩ <;> simp
  have hOrd : (AV.int .i64 (o.length : Nat) : AV) = .int .i64 o.length := rfl
  by_cases hd : d < o.length
  case neg =>
    obtain rfl : d = o.length := by have := st.dle; omega
    simp [cell_Canon_l1, hlenA, st.num.m2, lnl_ord]
    rw [i64w (by omega)]
    rw [VM.drain_end (Nat.le_refl _)] at hF
    exact hK a2 H n gr go o st hF
  obtain ⟨c0, hc0⟩ : ∃ n0, o[d]? = some n0 := ⟨_, List.getElem?_eq_getElem hd⟩
  have hc0l : c0 < h.length := st.good.lt c0 (List.mem_of_getElem? hc0)
  obtain ⟨c, hc⟩ : ∃ c, h[c0]? = some c := ⟨_, List.getElem?_eq_getElem hc0l⟩
  have ho : o ≠ [] := by intro e; subst e; simp at hd
  have hok := VM.okH (VM.right_okC hr) c0 c hc
  obtain ⟨r1, r2, r3⟩ := st.lr ho
  have hol := st.good.len
  have m2 := st.num.m2
  rw [if_neg ho] at m2
  have hrow : (numRow o)[d]? = some (.int .i64 c0) := numRow_at hc0
  obtain ⟨hdr, hrow'⟩ := List.getElem?_eq_some_iff.1 hrow
  suffices key : ∀ K18 : J3, (∀ a2 H n gr go o, CanSt h l (VM.order h l) H0 nx (i + 1) (d + 1) o a2 H n gr go gv → VM.orderGo h (l.drop (i + 1)) (VM.drain h (h.length - (d + 1)) o (d + 1)) = VM.order h l →
      K18 [a0, .ptr (nx + 2) 0, a2, .clo 38 [.ptr (nx + 1) 0, .ptr (nx + 2) 0], .slc gv 0 l.length, .int .i64 l.length, .int .i64 i] H n) →
      cell_Canon_l1 K6 K18 [a0, .ptr (nx + 2) 0, a2, .clo 38 [.ptr (nx + 1) 0, .ptr (nx + 2) 0], .slc gv 0 l.length, .int .i64 l.length, .int .i64 i] H n from
    key _ fun a2 H n gr go o st' hF' => ⟨_, by omega, d + 1, a2, gr, go, o, rfl, rfl, st', hF'⟩
  intro K18 hK18
  have hdr0 : VM.drain h (h.length - d) o d = VM.drain h (h.length - (d + 1)) (VM.meet (VM.meet o c.left) c.right) (d + 1) := by
    rw [show h.length - d = (h.length - (d + 1)) + 1 by omega]; exact VM.drain_step hc0 hc
  rw [hdr0] at hF
  have g1 := st.good.meet hok.1
  have pre : VM.meet (VM.meet o c.left) c.right <+: VM.order h l := by
    rw [← hF]; exact (VM.drain_pre h _ _ _).trans (VM.orderGo_pre h _ _)
  have cput := cell_put hc pre
  simp [cell_Canon_l1, hlenA, m2, hd, st.num.mr ho, hrow']
  refine (ha0.keep (H' := H) (nx' := n) st.keep (by have := st.lv; omega)).ld (avsC_len h) (x := c.avs) (by rw [List.getElem?_map, hc]; rfl) ?_
  obtain ⟨cl, cr⟩ := c
  simp [Cl.avs, Val.avs, CALL]
  have st1 := st.more (H1 := H.put n (some (AObj.row 6 (cl.avs ++ cr.avs)))) (n1 := n + 1) (by omega) (fun g hg => Heap.put_ne _ _ (by omega))
  have lv := st.lv
  have wl := VM.right_okC hr _ (List.mem_of_getElem? hc)
  refine (number_ac2 cl o (fun hk => (wl.1.cell hk).1) (by omega) st1.num (by omega) (by omega) (by omega) (fun _ => by omega)).mono ?_
  rintro r H2 n2 ⟨rfl, hn2, gr2, st2, q2, q3⟩
  have S2 := st1.meet hok.1 hn2 st2 q2 q3
  have hcell : H2 n = some (AObj.row 6 (cl.avs ++ cr.avs)) := by
    rw [q3 n (by omega) (by omega) (by omega) fun _ => by omega]; exact Heap.put_at _ _ _
  have ho1 : VM.meet o cl ≠ [] := by
    intro e; have := (VM.meet_pre o cl).length_le; rw [e] at this; simp at this; exact ho this
  have ol2 : (VM.meet o cl).length ≤ h.length := S2.good.len
  have hlt0 : 0 < (VM.meet o cl).length := List.length_pos_iff.2 ho1
  obtain ⟨lr1, lr2, lr3⟩ := S2.lr ho1
  have lv2 := S2.lv
  simp [cell_Canon_k2, hcell, Cl.avs, Val.avs]
  have S3 := S2.more (H1 := H2.put n2 (some (AObj.row 3 (VM.put (VM.meet o cl) cl).avs))) (n1 := n2 + 1) (by omega) (fun g hg => Heap.put_ne _ _ (by omega))
  have hn0 : n ≠ n2 := by omega
  simp only [hn0, if_false, hcell, Cl.avs, Val.avs]
  simp
  have hd2 : (VM.meet (VM.meet o cl) cr)[d]? = some c0 := by
    obtain ⟨t, ht⟩ := (VM.meet_pre o cl).trans (VM.meet_pre (VM.meet o cl) cr)
    rw [← ht, List.getElem?_append_left hd]; exact hc0
  refine number_calld cr (VM.meet o cl) (fun hk => (wl.2.cell hk).1) (by omega) ho1 S3.num (by omega) (by omega) (by omega) (by omega) (fun hno => ?_) (fun hnew => ?_)
  · have S4 : CanSt h l (VM.order h l) H0 nx (i + 1) d (VM.meet (VM.meet o cl) cr) a2 (Heap.apply (H2.put n2 (some (AObj.row 3 (VM.put (VM.meet o cl) cl).avs))) []) (n2 + 1 + ([] : List Nat).length) gr2 go gv := by
      rw [meet_old hno]; exact S3
    exact canon_k1 S4 hs hd2 cput (by simp) fun a2 H n gr go st' => hK18 a2 H n gr go _ st' hF
  · have n1 : nx ≠ gr2 := by omega
    have ne_0 : nx ≠ nx + 1 ∧ nx + 1 ≠ nx ∧ nx ≠ nx + 2 ∧ nx + 2 ≠ nx ∧ nx ≠ gr2 ∧ gr2 ≠ nx ∧ nx + 1 ≠ nx + 2 ∧ nx + 2 ≠ nx + 1 ∧ nx + 1 ≠ gr2 ∧ gr2 ≠ nx + 1 ∧ nx + 2 ≠ gr2 ∧ gr2 ≠ nx + 2 ∧ nx ≠ n2 ∧ n2 ≠ nx ∧ nx ≠ n2 + 1 ∧ n2 + 1 ≠ nx ∧ nx + 1 ≠ n2 ∧ n2 ≠ nx + 1 ∧ nx + 1 ≠ n2 + 1 ∧ n2 + 1 ≠ nx + 1 ∧ nx + 2 ≠ n2 ∧ n2 ≠ nx + 2 ∧ nx + 2 ≠ n2 + 1 ∧ n2 + 1 ≠ nx + 2 ∧ gr2 ≠ n2 ∧ n2 ≠ gr2 ∧ gr2 ≠ n2 + 1 ∧ n2 + 1 ≠ gr2 := ⟨by omega, by omega, by omega, by omega, by omega, by omega, by omega, by omega, by omega, by omega, by omega, by omega, by omega, by omega, by omega, by omega, by omega, by omega, by omega, by omega, by omega, by omega, by omega, by omega, by omega, by omega, by omega, by omega⟩
    have st4 : NumSt (Heap.apply (H2.put n2 (some (AObj.row 3 (VM.put (VM.meet o cl) cl).avs))) [(nx, some (.mp (numMap (VM.meet o cl ++ [cr.n.toNat])))), (gr2, none), (nx + 2, some (.row 1 [.slc (n2 + 1) 0 ((VM.meet o cl).length + 1)])), (n2 + 1, some (.row 1 (numRow (VM.meet o cl ++ [cr.n.toNat]))))]) (nx + 1) (nx + 2) nx (n2 + 1) (VM.meet o cl ++ [cr.n.toNat]) := by
      refine S3.num.next (nx := n2 + 1) (by omega) (by omega) (by omega) (fun _ => by omega) (Nat.le_refl _) ?_ ?_ ?_ ?_
      · simp [ne_0]
      · simp [ne_0]
      · simp [ne_0]
      · simp [ne_0]
    rw [← meet_new hnew] at st4
    have S4 := S3.meet (v := cr) hok.2 (n' := n2 + 1 + [n2 + 1].length) (by omega) st4 (fun _ => ⟨by simp, .inr (Nat.le_refl _)⟩) fun g hg a1 a2 a3 => by
      have a4 := a3 ho1
      have a5 : g ≠ n2 + 1 := by omega
      simp only [Heap.apply]
      rw [Heap.put_ne _ _ a5, Heap.put_ne _ _ a2, Heap.put_ne _ _ a4, Heap.put_ne _ _ a1]
    rw [meet_new hnew] at S4 ⊢
    rw [meet_new hnew] at hd2 cput hF
    exact canon_k1 S4 hs hd2 cput (by simp; omega) fun a2 H n gr go st' => hK18 a2 H n gr go _ st' hF
end Go.Proofs.YtejohcohkgcmhaaDoor
namespace Go.Proofs.YtejohcohkgcmhaaDoor
open Go Go.RowKit

theorem CanSt.setv {h : List Cl} {l : List Val} {F : List Nat} {H0 : Heap} {nx i d : Nat} {o : List Nat} {a2 : AV} {H : Heap} {n gr go gv : Nat} (st : CanSt h l F H0 nx i d o a2 H n gr go gv) (c : Option AObj) (hc : c = some (.row 3 (rowV ((l.take (i + 1)).map (VM.put F) ++ l.drop (i + 1))))) : CanSt h l F H0 nx (i + 1) d o a2 (H.put gv c) n gr go gv := by
  have l1 := st.lv
  have hk : ∀ g, g ≠ gv → (H.put gv c) g = H g := fun g hg => Heap.put_ne _ _ hg
  refine ⟨⟨?_, ?_, ?_, fun ho => ?_, st.num.d12, st.num.d1m, st.num.d2m, st.num.dr⟩, st.lr, ?_, by rw [Heap.put_at, hc], l1, fun g hg => by rw [hk g (by omega)]; exact st.keep g hg, st.good, st.dle⟩
  · rw [hk _ (by omega)]; exact st.num.m1
  · rw [hk _ (by omega)]; exact st.num.mm
  · rw [hk _ (by omega)]; exact st.num.m2
  · rw [hk _ (fun e => (st.lr ho).2.2 e.symm)]; exact st.num.mr ho
  · rcases st.out with h | ⟨p1, p2, p3, p4, p5, p6, p7⟩
    · exact .inl h
    · exact .inr ⟨p1, p2, by rw [hk _ p6]; exact p3, p4, p5, p6, p7⟩

set_option maxHeartbeats 2000000 in
set_option maxRecDepth 20000 in
theorem canon_ac (h : List Cl) (l : List Val) (hr : VM.right h l = true) (hs : h.length * 64 ≤ 140737488355328) (hl : l.length * 32 ≤ 140737488355328) {a0 a1 : AV} {H : Heap} {nx : Nat} (ha0 : RowArg H nx 6 (h.map Cl.avs) a0) (ha1 : RowArg H nx 3 (l.map Val.avs) a1) :
    ACalls Tryd.prog 16 [a0, a1] H nx fun v H' _ => Frz H' nx v (.tup [.ro ((VM.canonV h l).map Val.avs), .ro ((VM.canonC h l).map Cl.avs)]) ∧ Keep nx H' H := by
  refine cell_Canon_calls _ _ H nx _ ?_
  simp [cell_Canon_vc]
  generalize hH1 : ((H.put nx (some (AObj.mp []))).put (nx + 1) (some (AObj.row 1 [AV.amap nx]))).put (nx + 2) (some (AObj.row 1 [AV.nils])) = H1
  have k1 : ∀ g, g < nx → H1 g = H g := fun g hg => by
    subst hH1; rw [Heap.put_ne _ _ (by omega), Heap.put_ne _ _ (by omega), Heap.put_ne _ _ (by omega)]
  refine (cloneV_ac l hl (ha1.keep (nx' := nx + 3) k1 (by omega))).mono ?_
  rintro v H2 n2 ⟨hn2, hk2, hv⟩
  have k2 : Keep nx H2 H := fun g hg => (hk2 g (by omega)).trans (k1 g hg)
  rcases hv with ⟨rfl, rfl⟩ | ⟨gv, v1, v2, rfl, v3⟩
  · simp [cell_Canon_k4]
    refine LP.mk (fun _ xs H' n' => H' = H2 ∧ xs = [a0, .ptr (nx + 2) 0, .nils, .clo 38 [.ptr (nx + 1) 0, .ptr (nx + 2) 0], .nils, .int .i64 0, .int .i64 0]) 0 ⟨rfl, rfl⟩ ?_
    rintro m xs H' n' ⟨rfl, rfl⟩
    simp [cell_Canon_l2]
    exact ⟨⟨.nils, .nils⟩, k2⟩
  have st0 : CanSt h l (VM.order h l) H nx 0 0 [] .nils H2 n2 0 0 gv := by
    refine ⟨⟨?_, ?_, ?_, fun ho => absurd rfl ho, by omega, by omega, by omega, fun ho => absurd rfl ho⟩, fun ho => absurd rfl ho, .inl ⟨rfl, rfl⟩, by simpa using v3, by omega, k2, VM.Good.nil, Nat.le_refl _⟩
    · rw [hk2 _ (by omega), ← hH1, Heap.put_ne _ _ (by omega), Heap.put_at]
    · rw [hk2 _ (by omega), ← hH1, Heap.put_ne _ _ (by omega), Heap.put_ne _ _ (by omega), Heap.put_at]; rfl
    · rw [hk2 _ (by omega), ← hH1, Heap.put_at]; rfl
  simp [cell_Canon_k4]
  refine LP.mk (fun m xs H' n' => ∃ i a2 gr go o, m = l.length - i ∧ i ≤ l.length ∧ xs = [a0, .ptr (nx + 2) 0, a2, .clo 38 [.ptr (nx + 1) 0, .ptr (nx + 2) 0], .slc gv 0 l.length, .int .i64 l.length, .int .i64 i] ∧
    CanSt h l (VM.order h l) H nx i o.length o a2 H' n' gr go gv ∧ VM.orderGo h (l.drop i) o = VM.order h l) l.length ⟨0, .nils, 0, 0, [], by omega, by omega, rfl, st0, rfl⟩ ?_
  rintro m xs H' n' ⟨i, a2, gr, go, o, rfl, hi, rfl, st, hF⟩
  have hll : l.length < 4611686018427387904 := by omega
  by_cases hil : i < l.length
  case neg =>
    obtain rfl : i = l.length := by omega
    simp [cell_Canon_l2]
    have hFo : VM.order h l = o := by rw [← hF, List.drop_length]; rfl
    have hFlt : ∀ n ∈ VM.order h l, n < h.length := by rw [hFo]; exact st.good.lt
    refine ⟨⟨?_, ?_⟩, st.keep⟩
    · refine Frz.row (sz := 3) (g := gv) (cells := rowV (VM.canonV h l)) (by have := st.lv; omega) (by rw [st.vs]; simp [VM.canonV]) (by simp [VM.canonV]) (avsV_len _) rfl fun c hc => scal_bel (scal_rowV _ c hc)
    · rw [canonC_eq hFlt]
      rcases st.out with ⟨h0, rfl⟩ | ⟨h0, rfl, h1, h2, h3, h4⟩
      · have : VM.order h l = [] := by rw [hFo]; exact List.eq_nil_of_length_eq_zero h0
        rw [this]; exact .nils
      · refine Frz.row (sz := 6) (g := go) (cells := rowC ((VM.order h l).map (cellOf (VM.order h l) h))) (by omega) (by rw [h1, List.take_length, hFo]) (by simp [hFo]) (avsC_len _) rfl fun c hc => scal_bel (scal_rowC _ c hc)
  obtain ⟨v, hv⟩ : ∃ v, l[i]? = some v := ⟨_, List.getElem?_eq_getElem hil⟩
  have wv := VM.right_okV hr v (List.mem_of_getElem? hv)
  have hol := st.good.len
  have lv := st.lv
  have hdrop : l.drop i = v :: l.drop (i + 1) := by
    obtain ⟨hi', hv'⟩ := List.getElem?_eq_some_iff.1 hv
    rw [← hv']; exact List.drop_eq_getElem_cons hi'
  rw [hdrop] at hF
  have hF' : VM.orderGo h (l.drop (i + 1)) (VM.drain h (h.length - o.length) (VM.meet o v) o.length) = VM.order h l := hF
  have pre : VM.meet o v <+: VM.order h l := by
    rw [← hF']; exact (VM.drain_pre h _ _ _).trans (VM.orderGo_pre h _ _)
  have hput : VM.put (VM.meet o v) v = VM.put (VM.order h l) v := VM.put_pre pre (VM.mem_meet o v)
  have hmix := rowV_at (getV_mix (F := VM.order h l) hv)
  have hset := rowV_set (L := (l.take i).map (VM.put (VM.order h l)) ++ l.drop i) (i := i) (v := VM.put (VM.order h l) v) (by simp; omega)
  rw [put_set hv] at hset
  simp only [List.map_take] at hmix hset
  simp [cell_Canon_l2, hil, st.vs, CALL]
  refine ⟨by rw [Nat.min_eq_left (by omega)]; omega, ?_⟩
  rw [hmix]
  refine (number_ac2 v o (fun hk => (wv.cell hk).1) (by omega) st.num (by omega) (by omega) (by omega) (fun ho => (st.lr ho).2.1)).mono ?_
  rintro r H3 n3 ⟨rfl, hn3, gr3, st3, q2, q3⟩
  have S3 := st.meet wv.okV hn3 st3 q2 q3
  have hvs := S3.vs
  simp only [List.map_take] at hvs
  simp [cell_Canon_k3, hvs, hput]
  refine ⟨hil, by rw [Nat.min_eq_left (by omega)]; omega, fun x hx => scal_one (scal_val _ x hx), ?_⟩
  refine canon_inner h l hr hs hil hl ha0 _ gv (fun a2' H4 n4 gr4 go4 o4 st4 hF4 => ?_) a2 _ _ gr3 go (VM.meet o v) o.length (S3.setv _ ?_) hF'
  · exact ⟨l.length - (i + 1), by omega, i + 1, rfl, by omega, a2', rfl, gr4, go4, o4, st4, hF4⟩
  · rw [List.append_assoc] at hset
    simp only [List.map_take]
    rw [hset]
end Go.Proofs.YtejohcohkgcmhaaDoor
