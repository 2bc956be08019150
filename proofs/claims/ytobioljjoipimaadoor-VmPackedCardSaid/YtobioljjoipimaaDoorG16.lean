/- VmPacked: whatever agent, place and number of steps it is handed, the law answers true (packed, the agent goes on the same, and packed then both are the same), and what it was handed reads as it did. -/
import Derived.Test.YtobioljjoipimaaDoorRows
import Derived.Test.YtobioljjoipimaaDoorCards
import Derived.Test.YtobioljjoipimaaDoorTie
import Derived.SevenTiedAt
import Derived.LaidMore
import Derived.Stop.LaidErr
import Derived.Stop.Joined
import Derived.Test.YtobioljjoipimaaDoorG13
import Derived.Test.YtobioljjoipimaaDoorG15
import Derived.ProofKit
import Derived.OpenShut
import Derived.ChangeOld
set_option linter.unusedSimpArgs false
set_option linter.unusedVariables false
set_option maxRecDepth 8000
namespace Go.Proofs.YtobioljjoipimaaDoor.lawVmPacked
open Go.ChangeShapes Go.WideShapes Go.ChangeAt Go.RowKit
theorem own : ownKnob Tryd.prog.godebug = none := by kernel_rfl
theorem zabd : laidOutB Tryd.prog = true := by kernel_rfl
theorem zaiy (os : Os) (args : Array Value) : laidMet Tryd.prog Rows.vmPackedRow.laid ((World.doorLaid Tryd.prog 2000 os).forCall (fun _ _ => 0) ⟨#[], args, []⟩).memory :=
  laidMet_of_run' 30 (by kernel_rfl) (by kernel_rfl)
theorem tab {W : World} (h : laidMet Tryd.prog Rows.vmPackedRow.laid W) : LayK (fun b => W.heap[b]?) :=
  LayK.of_tab (Lib.tabIs_of_head (g := 0) (t := 202) (e := 189) (n := 20) (by kernel_rfl) (by kernel_rfl) (by kernel_rfl) (by kernel_rfl) (by kernel_rfl) (by kernel_rfl) (laidMet.tail (laidMet.tail h))) (zaai (laidMet.tail (laidMet.tail (laidMet.tail (laidMet.tail h))))) (zadf (laidMet.tail (laidMet.tail (laidMet.tail h)))) (.of_none (by kernel_rfl) _)
set_option maxRecDepth 100000 in
theorem zalf (os : Os) (started : os.Started) (H : Type) (enc : TypeId × Value → H) :
    ReturnsInHanded {} Tryd.checked os 7 .any (fun w args => (Rows.vmPackedSpec.pre enc Tryd.prog Tryd.f7 Rows.vmPackedRow.domain false w args ∧ laidMet Tryd.prog Rows.vmPackedRow.laid w) ∧ sizedMet enc Tryd.prog Tryd.f7 (OpenSpec.ofChange Rows.vmPackedSpec) false w args) (Rows.vmPackedSpec.post enc Tryd.prog Tryd.f7 false true false false) := by
  refine returnsInHanded_of_change_and (C := Tryd.checked) (X := fun w _ => laidMet Tryd.prog Rows.vmPackedRow.laid w) (fun _ _ _ hh h => h.of_heap hh) own started (by kernel_rfl) Tryd.func7
    (ChangeSpec.witness_shaped (enc := enc) (C := Tryd.checked) (os := os) (X := fun w _ => laidMet Tryd.prog Rows.vmPackedRow.laid w) false (World.doorLaid Tryd.prog 2000 os) #[.agg #[.int .i64 0, .int .i64 0, .slice none 0 0, .slice none 0 0, .slice none 0 0, .slice none 0 0, .int .i64 0, .int .i64 0, .int .i64 0], .agg #[.string ⟨#[]⟩, .slice none 0 0, .int .i64 0, .int .i64 0], .int .i64 0] 8 rfl (World.shaped_of_RefB (by kernel_rfl) (by kernel_rfl)) (by kernel_rfl) (by kernel_rfl) (by kernel_rfl) (zaiy os _)) ?_
  intro W base args ds gs before hval0 hW hcnd hsz hL _
  have hval : ∀ (j : Nat) t v, Tryd.f7.params[j]? = some t → args[j]? = some v → Value.okWide Tryd.prog W .any base t v := hval0
  have hW' := hW
  obtain ⟨p, q, hA0, hV, rfl, hfz, hnd⟩ := hW
  have hA : DataW.TrodAll enc Tryd.prog W 0 (fun _ => true) true Tryd.f7.params.toList args.toList ds p := hA0
  rw [Tryd.params7] at hA hval hsz
  obtain ⟨v0, vs0, d0, ds0, p0, q0, hargs, rfl, rfl, h0, r0⟩ := trodAll_cons hA
  obtain ⟨v1, vs1, d1, ds1, p1, q1, rfl, rfl, rfl, h1, r1⟩ := trodAll_cons r0
  obtain ⟨v2, vs2, d2, ds2, p2, q2, rfl, rfl, rfl, h2, r2⟩ := trodAll_cons r1
  obtain ⟨rfl, rfl, rfl⟩ := trodAll_nil r2
  obtain rfl : args = #[v0, v1, v2] := by cases args; simp_all
  obtain ⟨rfl, rfl⟩ := trodVars_none hV
  obtain ⟨cs0, rfl, _⟩ := okWide_struct Tryd.underlying40 (hval 0 40 v0 rfl rfl)
  have k0 := h0
  have lt0 : ∀ x ∈ p0, x.block < W.heap.size := by obtain ⟨m, hm⟩ := k0; exact DataW.trod_lt m _ _ _ hm
  obtain ⟨fu0, hf0⟩ := h0
  obtain ⟨y0, hy0, hr0⟩ := oAgt.get enc W 0 (fun _ => true) true fu0 _ _ hf0 (fun n hn => by
    have := List.all_eq_true.1 hsz n (DataW.weights_mem_each (j := 0) (t := 40) rfl rfl n hn)
    simpa using this)
  obtain ⟨cs1, rfl, _⟩ := okWide_struct Tryd.underlying43 (hval 1 43 v1 rfl rfl)
  have k1 := h1
  have lt1 : ∀ x ∈ p1, x.block < W.heap.size := by obtain ⟨m, hm⟩ := k1; exact DataW.trod_lt m _ _ _ hm
  obtain ⟨fu1, hf1⟩ := h1
  obtain ⟨y1, hy1, hr1⟩ := oSpt.get enc W 0 (fun _ => true) true fu1 _ _ hf1 (fun n hn => by
    have := List.all_eq_true.1 hsz n (DataW.weights_mem_each (j := 1) (t := 43) rfl rfl n hn)
    simpa using this)
  obtain ⟨n2, rfl, rfl, rfl, x2⟩ := open_int Tryd.underlying3 (hval 2 3 v2 rfl rfl) h2
  have w2 : -9223372036854775808 ≤ n2 ∧ n2 ≤ 9223372036854775807 := by
    have e1 : IntKind.i64.min = -9223372036854775808 := rfl
    have e2 : IntKind.i64.max = 9223372036854775807 := rfl
    have := x2
    simp [Lit.wf, e1, e2] at this
    exact this
  clear hA0 hval0
  have hreach : reachBytes = 140737488351232 := rfl
  have s0 := hy0.2.2.2.2.1.2
  have s1 := hy1.2.1.2
  have s2 := hy1.1
  have e0 : Tryd.prog.bytesOf 110 = 64 := by kernel_rfl
  have e1 : Tryd.prog.bytesOf 113 = 48 := by kernel_rfl
  rw [e0] at s0
  rw [e1] at s1
  have ok0 : y0.prog.ok := fun w hw => by have := hy0.2.2.1.2.1 w hw; simp only [maxLen]; omega
  refine (za.law (c := zp Tryd.f7) Tryd.func7 (by kernel_rfl) (by kernel_rfl) (tab hL) (fun H nx => (zzv y0 y1 n2 ok0 (by omega) (by simp only [maxLen]; omega) (by omega) H nx).mono fun _ _ _ h => h.1) (fun ρ A => ?_)).mono fun e W' ⟨v, he, ⟨_, _, _, hv⟩, bel⟩ => ?_
  · exact (LRel.cons (.agg _ _ (hr0 ρ A).1 fun j v c hv hc => (hr0 ρ A).2 j v c hv (by show cs0.toList[j]? = some c; simpa using hc)) (LRel.cons (.agg _ _ (hr1 ρ A).1 fun j v c hv hc => (hr1 ρ A).2 j v c hv (by show cs1.toList[j]? = some c; simpa using hc)) (LRel.cons (.int _ _) LRel.nil)))
  cases hv
  subst he
  exact ⟨_, rfl, _, _, _, [], _, [], hW', trodAll_mk1 (shut_bool Tryd.underlying4 _), (trodAll_cons_mk (Below.trod zabd (by kernel_rfl) (of_decide_eq_true (by kernel_rfl)) k0 bel lt0) (trodAll_cons_mk (Below.trod zabd (by kernel_rfl) (of_decide_eq_true (by kernel_rfl)) k1 bel lt1) (trodAll_cons_mk (shut_int Tryd.underlying3 x2) trodAll_mk0))), rfl, bel.frame _, fun h => by cases h⟩
theorem zaer : Rows.VmPackedSaid :=
  OpenClaim.holds_of_wide 7 Tryd.f7 rfl rfl rfl rfl rfl rfl rfl ⟨rfl, rfl, rfl, rfl, rfl⟩ rfl rfl rfl rfl rfl (by kernel_rfl) Tryd.func7 (by kernel_rfl)
    (of_decide_eq_true (by kernel_rfl)) (by unfold Func.isWrapper; first | (rw [if_pos (by decide +kernel)]; kernel_rfl) | (rw [if_neg (by decide +kernel)]; exact ⟨rfl, rfl⟩))
    (fun os started H enc _ => zalf os started H enc)
theorem proved : Rows.VmPackedCardSaid :=
  Claim7.holds_tied_plain_at .later [] [.data, .data, .data, .sentinel, .sentinel] true (true, "c8bdedd89f4c339a51ac7f05ab3324e39203106de30bd4f21c5334f88d5f4cba") true
    zaer (fun _ h => by cases h) (by kernel_rfl) (fun _ h => by cases h) vmPacked_row_tie rfl ⟨rfl, rfl⟩ (by kernel_rfl) rfl
    (fun f fn hf hfn => by
      obtain rfl : f = 7 := Option.some.inj ((show Tryd.prog.funcNamed "wanderstaff/zwlaw7.VmPacked" = some 7 by kernel_rfl).symm.trans hf) |>.symm
      obtain rfl : fn = Tryd.f7 := (Option.some.inj (Tryd.func7.symm.trans hfn)).symm
      exact ⟨by kernel_rfl, fun j t ht => by
        rw [Tryd.params7] at ht
        have hm : t ∈ [40, 43, 3] := by simpa using Array.mem_of_getElem? ht
        have hall : ([40, 43, 3].all fun u => !Tryd.prog.wantsStandIn u) = true := by kernel_rfl
        exact (show Tryd.prog.wantsStandIn t = false by simpa using List.all_eq_true.1 hall t hm)⟩)
    (by kernel_rfl)
#print axioms proved
end Go.Proofs.YtobioljjoipimaaDoor.lawVmPacked
