/- CellTells: whatever values, cells, operations, numbers, texts and depths it is handed, the law answers true, and what it was handed reads as it did. -/
import Derived.Test.YtejohcohkgcmhaaDoorRows
import Derived.Test.YtejohcohkgcmhaaDoorCards
import Derived.Test.YtejohcohkgcmhaaDoorTie
import Derived.SevenTiedAt
import Derived.LaidMore
import Derived.Stop.LaidErr
import Derived.Stop.Joined
import Derived.Test.YtejohcohkgcmhaaDoorG10
import Derived.ProofKit
import Derived.OpenShut
import Derived.ChangeOld
namespace Go.Proofs.YtejohcohkgcmhaaDoor.lawCellTells
open Go.ChangeShapes Go.WideShapes Go.ChangeAt Go.RowKit

theorem own : ownKnob Tryd.prog.godebug = none := by kernel_rfl
theorem laidOut : laidOutB Tryd.prog = true := by kernel_rfl
/-- The door leaves what is listed. -/
theorem door_met (os : Os) (args : Array Value) : laidMet Tryd.prog Rows.cellTellsRow.laid ((World.doorLaid Tryd.prog 2000 os).forCall (fun _ _ => 0) ⟨#[], args, []⟩).memory :=
  laidMet_of_run' 30 (by kernel_rfl) (by kernel_rfl)
theorem tab {W : World} (h : laidMet Tryd.prog Rows.cellTellsRow.laid W) : LayK (fun b => W.heap[b]?) :=
  LayK.of_tab (Lib.tabIs_of_head (g := 0) (t := 124) (e := 117) (n := 20) (by kernel_rfl) (by kernel_rfl) (by kernel_rfl) (by kernel_rfl) (by kernel_rfl) (by kernel_rfl) (laidMet.tail (laidMet.tail h)))

set_option maxRecDepth 100000 in
theorem lifted (os : Os) (started : os.Started) (H : Type) (enc : TypeId × Value → H) :
    ReturnsInHanded {} Tryd.checked os 3 .any (fun w args => (Rows.cellTellsSpec.pre enc Tryd.prog Tryd.f3 Rows.cellTellsRow.domain false w args ∧ laidMet Tryd.prog Rows.cellTellsRow.laid w) ∧ sizedMet enc Tryd.prog Tryd.f3 (OpenSpec.ofChange Rows.cellTellsSpec) false w args) (Rows.cellTellsSpec.post enc Tryd.prog Tryd.f3 false true false false) := by
  refine returnsInHanded_of_change_and (C := Tryd.checked) (X := fun w _ => laidMet Tryd.prog Rows.cellTellsRow.laid w) (fun _ _ _ hh h => h.of_heap hh) own started (by kernel_rfl) Tryd.func3
    (ChangeSpec.witness_shaped (enc := enc) (C := Tryd.checked) (os := os) (X := fun w _ => laidMet Tryd.prog Rows.cellTellsRow.laid w) false (World.doorLaid Tryd.prog 2000 os) #[.slice none 0 0, .slice none 0 0, .agg #[.int .i64 0, .int .i64 0, .string ⟨#[]⟩], .agg #[.int .i64 0, .int .i64 0, .string ⟨#[]⟩], .int .i64 0, .int .i64 0, .string ⟨#[]⟩, .int .i64 0] 8 rfl (World.shaped_of_RefB (by kernel_rfl) (by kernel_rfl)) (by kernel_rfl) (by kernel_rfl) (by kernel_rfl) (door_met os _)) ?_
  intro W base args ds gs before hval0 hW hcnd hsz hL _
  have hval : ∀ (j : Nat) t v, Tryd.f3.params[j]? = some t → args[j]? = some v → Value.okWide Tryd.prog W .any base t v := hval0
  have hW' := hW
  obtain ⟨p, q, hA0, hV, rfl, hfz, hnd⟩ := hW
  have hA : DataW.TrodAll enc Tryd.prog W 0 (fun _ => true) true Tryd.f3.params.toList args.toList ds p := hA0
  rw [Tryd.params3] at hA hval hsz
  obtain ⟨v0, vs0, d0, ds0, p0, q0, hargs, rfl, rfl, h0, r0⟩ := trodAll_cons hA
  obtain ⟨v1, vs1, d1, ds1, p1, q1, rfl, rfl, rfl, h1, r1⟩ := trodAll_cons r0
  obtain ⟨v2, vs2, d2, ds2, p2, q2, rfl, rfl, rfl, h2, r2⟩ := trodAll_cons r1
  obtain ⟨v3, vs3, d3, ds3, p3, q3, rfl, rfl, rfl, h3, r3⟩ := trodAll_cons r2
  obtain ⟨v4, vs4, d4, ds4, p4, q4, rfl, rfl, rfl, h4, r4⟩ := trodAll_cons r3
  obtain ⟨v5, vs5, d5, ds5, p5, q5, rfl, rfl, rfl, h5, r5⟩ := trodAll_cons r4
  obtain ⟨v6, vs6, d6, ds6, p6, q6, rfl, rfl, rfl, h6, r6⟩ := trodAll_cons r5
  obtain ⟨v7, vs7, d7, ds7, p7, q7, rfl, rfl, rfl, h7, r7⟩ := trodAll_cons r6
  obtain ⟨rfl, rfl, rfl⟩ := trodAll_nil r7
  obtain rfl : args = #[v0, v1, v2, v3, v4, v5, v6, v7] := by cases args; simp_all
  obtain ⟨rfl, rfl⟩ := trodVars_none hV
  obtain ⟨a0, len0, cap0, rfl⟩ := okWide_slice Tryd.underlying22 (hval 0 22 v0 rfl rfl)
  have k0 := h0
  have lt0 : ∀ x ∈ p0, x.block < W.heap.size := by obtain ⟨m, hm⟩ := k0; exact DataW.trod_lt m _ _ _ hm
  obtain ⟨fu0, hf0⟩ := h0
  obtain ⟨y0, hy0, hr0⟩ := oCls.get enc W 0 (fun _ => true) true fu0 _ _ hf0 (fun n hn => by
    have := List.all_eq_true.1 hsz n (DataW.weights_mem_each (j := 0) (t := 22) rfl rfl n hn)
    simpa using this)
  obtain ⟨a1, len1, cap1, rfl⟩ := okWide_slice Tryd.underlying23 (hval 1 23 v1 rfl rfl)
  have k1 := h1
  have lt1 : ∀ x ∈ p1, x.block < W.heap.size := by obtain ⟨m, hm⟩ := k1; exact DataW.trod_lt m _ _ _ hm
  obtain ⟨fu1, hf1⟩ := h1
  obtain ⟨y1, hy1, hr1⟩ := oVals.get enc W 0 (fun _ => true) true fu1 _ _ hf1 (fun n hn => by
    have := List.all_eq_true.1 hsz n (DataW.weights_mem_each (j := 1) (t := 23) rfl rfl n hn)
    simpa using this)
  obtain ⟨cs2, rfl, _⟩ := okWide_struct Tryd.underlying25 (hval 2 25 v2 rfl rfl)
  have k2 := h2
  have lt2 : ∀ x ∈ p2, x.block < W.heap.size := by obtain ⟨m, hm⟩ := k2; exact DataW.trod_lt m _ _ _ hm
  obtain ⟨fu2, hf2⟩ := h2
  obtain ⟨y2, hy2, hr2⟩ := oVal.get enc W 0 (fun _ => true) true fu2 _ _ hf2 (fun n hn => by
    have := List.all_eq_true.1 hsz n (DataW.weights_mem_each (j := 2) (t := 25) rfl rfl n hn)
    simpa using this)
  obtain ⟨cs3, rfl, _⟩ := okWide_struct Tryd.underlying25 (hval 3 25 v3 rfl rfl)
  have k3 := h3
  have lt3 : ∀ x ∈ p3, x.block < W.heap.size := by obtain ⟨m, hm⟩ := k3; exact DataW.trod_lt m _ _ _ hm
  obtain ⟨fu3, hf3⟩ := h3
  obtain ⟨y3, hy3, hr3⟩ := oVal.get enc W 0 (fun _ => true) true fu3 _ _ hf3 (fun n hn => by
    have := List.all_eq_true.1 hsz n (DataW.weights_mem_each (j := 3) (t := 25) rfl rfl n hn)
    simpa using this)
  obtain ⟨n4, rfl, rfl, rfl, x4⟩ := open_int Tryd.underlying3 (hval 4 3 v4 rfl rfl) h4
  have w4 : -9223372036854775808 ≤ n4 ∧ n4 ≤ 9223372036854775807 := by
    have e1 : IntKind.i64.min = -9223372036854775808 := rfl
    have e2 : IntKind.i64.max = 9223372036854775807 := rfl
    have := x4
    simp [Lit.wf, e1, e2] at this
    exact this
  obtain ⟨n5, rfl, rfl, rfl, x5⟩ := open_int Tryd.underlying3 (hval 5 3 v5 rfl rfl) h5
  have w5 : -9223372036854775808 ≤ n5 ∧ n5 ≤ 9223372036854775807 := by
    have e1 : IntKind.i64.min = -9223372036854775808 := rfl
    have e2 : IntKind.i64.max = 9223372036854775807 := rfl
    have := x5
    simp [Lit.wf, e1, e2] at this
    exact this
  obtain ⟨s6, rfl⟩ := okWide_string Tryd.underlying9 (hval 6 9 v6 rfl rfl)
  have k6 := h6
  have lt6 : ∀ x ∈ p6, x.block < W.heap.size := by obtain ⟨m, hm⟩ := k6; exact DataW.trod_lt m _ _ _ hm
  obtain ⟨fu6, hf6⟩ := h6
  obtain ⟨y6, hy6, hr6⟩ := oStr.get enc W 0 (fun _ => true) true fu6 _ _ hf6 (fun n hn => by
    have := List.all_eq_true.1 hsz n (DataW.weights_mem_each (j := 6) (t := 9) rfl rfl n hn)
    simpa using this)
  obtain ⟨n7, rfl, rfl, rfl, x7⟩ := open_int Tryd.underlying3 (hval 7 3 v7 rfl rfl) h7
  have w7 : -9223372036854775808 ≤ n7 ∧ n7 ≤ 9223372036854775807 := by
    have e1 : IntKind.i64.min = -9223372036854775808 := rfl
    have e2 : IntKind.i64.max = 9223372036854775807 := rfl
    have := x7
    simp [Lit.wf, e1, e2] at this
    exact this
  clear hA0 hval0
  have hreach : reachBytes = 140737488351232 := rfl
  have s0 := hy0.2
  have s1 := hy1.2
  have e0 : Tryd.prog.bytesOf 43 = 64 := by kernel_rfl
  have e1 : Tryd.prog.bytesOf 25 = 32 := by kernel_rfl
  rw [e0] at s0
  rw [e1] at s1
  refine (ACalls.law (c := codeOf Tryd.f3) Tryd.func3 (by kernel_rfl) (by kernel_rfl) (tab hL) (fun H nx => (cellTells_qc y0 y1 y2 y3 n4 n5 y6 n7 (by omega) (by omega) (by unfold I64; omega) (by unfold I64; omega) (by simp only [maxLen]; omega) H nx).mono fun _ _ _ h => h.1) (fun ρ A => ?_)).mono fun e W' ⟨v, he, ⟨_, _, _, hv⟩, bel⟩ => ?_
  · exact (LRel.cons ((hr0 ρ A).2 0 _ _ rfl rfl) (LRel.cons ((hr1 ρ A).2 0 _ _ rfl rfl) (LRel.cons (.agg _ _ (hr2 ρ A).1 fun j v c hv hc => (hr2 ρ A).2 j v c hv (by show cs2.toList[j]? = some c; simpa using hc)) (LRel.cons (.agg _ _ (hr3 ρ A).1 fun j v c hv hc => (hr3 ρ A).2 j v c hv (by show cs3.toList[j]? = some c; simpa using hc)) (LRel.cons (.int _ _) (LRel.cons (.int _ _) (LRel.cons ((hr6 ρ A).2 0 _ _ rfl rfl) (LRel.cons (.int _ _) LRel.nil))))))))
  cases hv
  subst he
  exact ⟨_, rfl, _, _, _, [], _, [], hW', trodAll_mk1 (shut_bool Tryd.underlying4 _), (trodAll_cons_mk (Below.trod laidOut (by kernel_rfl) (of_decide_eq_true (by kernel_rfl)) k0 bel lt0) (trodAll_cons_mk (Below.trod laidOut (by kernel_rfl) (of_decide_eq_true (by kernel_rfl)) k1 bel lt1) (trodAll_cons_mk (Below.trod laidOut (by kernel_rfl) (of_decide_eq_true (by kernel_rfl)) k2 bel lt2) (trodAll_cons_mk (Below.trod laidOut (by kernel_rfl) (of_decide_eq_true (by kernel_rfl)) k3 bel lt3) (trodAll_cons_mk (shut_int Tryd.underlying3 x4) (trodAll_cons_mk (shut_int Tryd.underlying3 x5) (trodAll_cons_mk (Below.trod laidOut (by kernel_rfl) (of_decide_eq_true (by kernel_rfl)) k6 bel lt6) (trodAll_cons_mk (shut_int Tryd.underlying3 x7) trodAll_mk0)))))))), rfl, bel.frame _, fun h => by cases h⟩

theorem row_holds : Rows.CellTellsSaid :=
  OpenClaim.holds_of_wide 3 Tryd.f3 rfl rfl rfl rfl rfl rfl rfl ⟨rfl, rfl, rfl, rfl, rfl⟩ rfl rfl rfl rfl rfl (by kernel_rfl) Tryd.func3 (by kernel_rfl)
    (of_decide_eq_true (by kernel_rfl)) (by unfold Func.isWrapper; first | (rw [if_pos (by decide +kernel)]; kernel_rfl) | (rw [if_neg (by decide +kernel)]; exact ⟨rfl, rfl⟩))
    (fun os started H enc _ => lifted os started H enc)

theorem proved : Rows.CellTellsCardSaid :=
  Claim7.holds_tied_plain_at .later [] [.data, .data, .data] true (true, "b6b450f5ce73b341c84012628f57d649379ed601c843de76a086356ab5d6be42") false
    row_holds (fun _ h => by cases h) (by kernel_rfl) (fun _ h => by cases h) cellTells_row_tie rfl ⟨rfl, rfl⟩ (by kernel_rfl) rfl
    (fun f fn hf hfn => by
      obtain rfl : f = 3 := Option.some.inj ((show Tryd.prog.funcNamed "wanderstaff/zwlaw1.CellTells" = some 3 by kernel_rfl).symm.trans hf) |>.symm
      obtain rfl : fn = Tryd.f3 := (Option.some.inj (Tryd.func3.symm.trans hfn)).symm
      exact ⟨by kernel_rfl, fun j t ht => by
        rw [Tryd.params3] at ht
        have hm : t ∈ [22, 23, 25, 25, 3, 3, 9, 3] := by simpa using Array.mem_of_getElem? ht
        have hall : ([22, 23, 25, 25, 3, 3, 9, 3].all fun u => !Tryd.prog.wantsStandIn u) = true := by kernel_rfl
        exact (show Tryd.prog.wantsStandIn t = false by simpa using List.all_eq_true.1 hall t hm)⟩)
    (by kernel_rfl)
#print axioms proved
end Go.Proofs.YtejohcohkgcmhaaDoor.lawCellTells
