/- ImageAlike: whatever agent and cell it is handed, the law answers true (seen the same, written the same), and what it was handed reads as it did. -/
import Derived.Test.YtpbnaaoilgohkaaGreatDoorRows
import Derived.Test.YtpbnaaoilgohkaaGreatDoorCards
import Derived.Test.YtpbnaaoilgohkaaGreatDoorTie
import Derived.SevenTiedAt
import Derived.LaidMore
import Derived.Stop.LaidErr
import Derived.Stop.Joined
import Derived.Test.YtpbnaaoilgohkaaGreatDoorG6
import Derived.Test.YtpbnaaoilgohkaaGreatDoorG14
import Derived.ProofKit
import Derived.OpenShut
import Derived.ChangeOld
set_option linter.unusedSimpArgs false
set_option linter.unusedVariables false
set_option maxRecDepth 8000
namespace Go.Proofs.YtpbnaaoilgohkaaGreatDoor.lawImageAlike
open Go.ChangeShapes Go.WideShapes Go.ChangeAt Go.RowKit
theorem own : ownKnob Tryz.prog.godebug = none := by kernel_rfl
theorem zyv : laidOutB Tryz.prog = true := by kernel_rfl
theorem zagm (os : Os) (args : Array Value) : laidMet Tryz.prog Rows.imageAlikeRow.laid ((World.doorLaid Tryz.prog 2000 os).forCall (fun _ _ => 0) ⟨#[], args, []⟩).memory :=
  laidMet_of_run' 30 (by kernel_rfl) (by kernel_rfl)
theorem tab {W : World} (h : laidMet Tryz.prog Rows.imageAlikeRow.laid W) : LayK (fun b => W.heap[b]?) :=
  LayK.of_tab (Lib.tabIs_of_head (g := 2) (t := 195) (e := 153) (n := 20) (by kernel_rfl) (by kernel_rfl) (by kernel_rfl) (by kernel_rfl) (by kernel_rfl) (by kernel_rfl) (laidMet.tail (laidMet.tail h))) (zya (laidMet.tail (laidMet.tail (laidMet.tail (laidMet.tail h))))) (zaay (laidMet.tail (laidMet.tail (laidMet.tail h)))) (.of_none (by kernel_rfl) _)
set_option maxRecDepth 100000 in
theorem zaiq (os : Os) (started : os.Started) (H : Type) (enc : TypeId × Value → H) :
    ReturnsInHanded {} Tryz.checked os 4 .any (fun w args => (Rows.imageAlikeSpec.pre enc Tryz.prog Tryz.f4 Rows.imageAlikeRow.domain false w args ∧ laidMet Tryz.prog Rows.imageAlikeRow.laid w) ∧ sizedMet enc Tryz.prog Tryz.f4 (OpenSpec.ofChange Rows.imageAlikeSpec) false w args) (Rows.imageAlikeSpec.post enc Tryz.prog Tryz.f4 false true false false) := by
  refine returnsInHanded_of_change_and (C := Tryz.checked) (X := fun w _ => laidMet Tryz.prog Rows.imageAlikeRow.laid w) (fun _ _ _ hh h => h.of_heap hh) own started (by kernel_rfl) Tryz.func4
    (ChangeSpec.witness_shaped (enc := enc) (C := Tryz.checked) (os := os) (X := fun w _ => laidMet Tryz.prog Rows.imageAlikeRow.laid w) false (World.doorLaid Tryz.prog 2000 os) #[.agg #[.int .i64 0, .int .i64 0, .slice none 0 0, .slice none 0 0, .slice none 0 0, .slice none 0 0, .int .i64 0, .int .i64 0, .int .i64 0], .agg #[.int .i64 0, .int .i64 0, .string ⟨#[]⟩, .int .i64 0, .int .i64 0, .string ⟨#[]⟩]] 8 rfl (World.shaped_of_RefB (by kernel_rfl) (by kernel_rfl)) (by kernel_rfl) (by kernel_rfl) (by kernel_rfl) (zagm os _)) ?_
  intro W base args ds gs before hval0 hW hcnd hsz hL _
  have hval : ∀ (j : Nat) t v, Tryz.f4.params[j]? = some t → args[j]? = some v → Value.okWide Tryz.prog W .any base t v := hval0
  have hW' := hW
  obtain ⟨p, q, hA0, hV, rfl, hfz, hnd⟩ := hW
  have hA : DataW.TrodAll enc Tryz.prog W 0 (fun _ => true) true Tryz.f4.params.toList args.toList ds p := hA0
  rw [Tryz.params4] at hA hval hsz
  obtain ⟨v0, vs0, d0, ds0, p0, q0, hargs, rfl, rfl, h0, r0⟩ := trodAll_cons hA
  obtain ⟨v1, vs1, d1, ds1, p1, q1, rfl, rfl, rfl, h1, r1⟩ := trodAll_cons r0
  obtain ⟨rfl, rfl, rfl⟩ := trodAll_nil r1
  obtain rfl : args = #[v0, v1] := by cases args; simp_all
  obtain ⟨rfl, rfl⟩ := trodVars_none hV
  obtain ⟨cs0, rfl, _⟩ := okWide_struct Tryz.underlying31 (hval 0 31 v0 rfl rfl)
  have k0 := h0
  have lt0 : ∀ x ∈ p0, x.block < W.heap.size := by obtain ⟨m, hm⟩ := k0; exact DataW.trod_lt m _ _ _ hm
  obtain ⟨fu0, hf0⟩ := h0
  obtain ⟨y0, hy0, hr0⟩ := oAgt.get enc W 0 (fun _ => true) true fu0 _ _ hf0 (fun n hn => by
    have := List.all_eq_true.1 hsz n (DataW.weights_mem_each (j := 0) (t := 31) rfl rfl n hn)
    simpa using this)
  obtain ⟨cs1, rfl, _⟩ := okWide_struct Tryz.underlying45 (hval 1 45 v1 rfl rfl)
  have k1 := h1
  have lt1 : ∀ x ∈ p1, x.block < W.heap.size := by obtain ⟨m, hm⟩ := k1; exact DataW.trod_lt m _ _ _ hm
  obtain ⟨fu1, hf1⟩ := h1
  obtain ⟨y1, hy1, hr1⟩ := oCl.get enc W 0 (fun _ => true) true fu1 _ _ hf1 (fun n hn => by
    have := List.all_eq_true.1 hsz n (DataW.weights_mem_each (j := 1) (t := 45) rfl rfl n hn)
    simpa using this)
  clear hA0 hval0
  have hreach : reachBytes = 140737488351232 := rfl
  have s0 := hy0.2.2.2.2.1.2
  have e0 : Tryz.prog.bytesOf 45 = 64 := by kernel_rfl
  rw [e0] at s0
  have ok0 : y0.prog.ok := fun w hw => by have := hy0.2.2.1.2.1 w hw; simp only [maxLen]; omega
  refine (za.law (c := zp Tryz.f4) Tryz.func4 (by kernel_rfl) (by kernel_rfl) (tab hL) (fun H nx => (zuu y0 y1 ok0 (by omega) H nx).mono fun _ _ _ h => h.1) (fun ρ A => ?_)).mono fun e W' ⟨v, he, ⟨_, _, _, hv⟩, bel⟩ => ?_
  · exact (LRel.cons (.agg _ _ (hr0 ρ A).1 fun j v c hv hc => (hr0 ρ A).2 j v c hv (by show cs0.toList[j]? = some c; simpa using hc)) (LRel.cons (.agg _ _ (hr1 ρ A).1 fun j v c hv hc => (hr1 ρ A).2 j v c hv (by show cs1.toList[j]? = some c; simpa using hc)) LRel.nil))
  cases hv
  subst he
  exact ⟨_, rfl, _, _, _, [], _, [], hW', trodAll_mk1 (shut_bool Tryz.underlying4 _), (trodAll_cons_mk (Below.trod zyv (by kernel_rfl) (of_decide_eq_true (by kernel_rfl)) k0 bel lt0) (trodAll_cons_mk (Below.trod zyv (by kernel_rfl) (of_decide_eq_true (by kernel_rfl)) k1 bel lt1) trodAll_mk0)), rfl, bel.frame _, fun h => by cases h⟩
theorem zaci : Rows.ImageAlikeSaid :=
  OpenClaim.holds_of_wide 4 Tryz.f4 rfl rfl rfl rfl rfl rfl rfl ⟨rfl, rfl, rfl, rfl, rfl⟩ rfl rfl rfl rfl rfl (by kernel_rfl) Tryz.func4 (by kernel_rfl)
    (of_decide_eq_true (by kernel_rfl)) (by unfold Func.isWrapper; first | (rw [if_pos (by decide +kernel)]; kernel_rfl) | (rw [if_neg (by decide +kernel)]; exact ⟨rfl, rfl⟩))
    (fun os started H enc _ => zaiq os started H enc)
theorem proved : Rows.ImageAlikeCardSaid :=
  Claim7.holds_tied_plain_at .later [] [.data, .data, .data, .sentinel, .sentinel] true (true, "86a6c116e1bc183088924b2a9ebbd009b51b90d32c02276b3a5c1acbb5b4d6fd") true
    zaci (fun _ h => by cases h) (by kernel_rfl) (fun _ h => by cases h) imageAlike_row_tie rfl ⟨rfl, rfl⟩ (by kernel_rfl) rfl
    (fun f fn hf hfn => by
      obtain rfl : f = 4 := Option.some.inj ((show Tryz.prog.funcNamed "wanderstaff/zwlaw8.ImageAlike" = some 4 by kernel_rfl).symm.trans hf) |>.symm
      obtain rfl : fn = Tryz.f4 := (Option.some.inj (Tryz.func4.symm.trans hfn)).symm
      exact ⟨by kernel_rfl, fun j t ht => by
        rw [Tryz.params4] at ht
        have hm : t ∈ [31, 45] := by simpa using Array.mem_of_getElem? ht
        have hall : ([31, 45].all fun u => !Tryz.prog.wantsStandIn u) = true := by kernel_rfl
        exact (show Tryz.prog.wantsStandIn t = false by simpa using List.all_eq_true.1 hall t hm)⟩)
    (by kernel_rfl)
#print axioms proved
end Go.Proofs.YtpbnaaoilgohkaaGreatDoor.lawImageAlike
