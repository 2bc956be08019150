/- AloneHome: whatever places, program, permit and place it is handed, the law answers true (who does not go sees its place alone), and what it was handed reads as it did. -/
import Derived.Test.YtdmibdjokofclaaGreatDoorRows
import Derived.Test.YtdmibdjokofclaaGreatDoorCards
import Derived.Test.YtdmibdjokofclaaGreatDoorTie
import Derived.SevenTiedAt
import Derived.LaidMore
import Derived.Stop.LaidErr
import Derived.Stop.Joined
import Derived.Test.YtdmibdjokofclaaGreatDoorG12
import Derived.Test.YtdmibdjokofclaaGreatDoorG16
import Derived.ProofKit
import Derived.OpenShut
import Derived.ChangeOld
set_option linter.unusedSimpArgs false
set_option linter.unusedVariables false
set_option maxRecDepth 8000
namespace Go.Proofs.YtdmibdjokofclaaGreatDoor.lawAloneHome
open Go.ChangeShapes Go.WideShapes Go.ChangeAt Go.RowKit
theorem own : ownKnob Tryz.prog.godebug = none := by kernel_rfl
theorem zvn : laidOutB Tryz.prog = true := by kernel_rfl
theorem zajh (os : Os) (args : Array Value) : laidMet Tryz.prog Rows.aloneHomeRow.laid ((World.doorLaid Tryz.prog 2000 os).forCall (fun _ _ => 0) ⟨#[], args, []⟩).memory :=
  laidMet_of_run' 30 (by kernel_rfl) (by kernel_rfl)
theorem tab {W : World} (h : laidMet Tryz.prog Rows.aloneHomeRow.laid W) : LayK (fun b => W.heap[b]?) :=
  LayK.of_tab (Lib.tabIs_of_head (g := 0) (t := 172) (e := 158) (n := 20) (by kernel_rfl) (by kernel_rfl) (by kernel_rfl) (by kernel_rfl) (by kernel_rfl) (by kernel_rfl) (laidMet.tail (laidMet.tail h))) (zaau (laidMet.tail (laidMet.tail (laidMet.tail (laidMet.tail h))))) (zadm (laidMet.tail (laidMet.tail (laidMet.tail h)))) (.of_none (by kernel_rfl) _)
set_option maxRecDepth 100000 in
theorem zaly (os : Os) (started : os.Started) (H : Type) (enc : TypeId × Value → H) :
    ReturnsInHanded {} Tryz.checked os 4 .any (fun w args => (Rows.aloneHomeSpec.pre enc Tryz.prog Tryz.f4 Rows.aloneHomeRow.domain false w args ∧ laidMet Tryz.prog Rows.aloneHomeRow.laid w) ∧ sizedMet enc Tryz.prog Tryz.f4 (OpenSpec.ofChange Rows.aloneHomeSpec) false w args) (Rows.aloneHomeSpec.post enc Tryz.prog Tryz.f4 false true false false) := by
  refine returnsInHanded_of_change_and (C := Tryz.checked) (X := fun w _ => laidMet Tryz.prog Rows.aloneHomeRow.laid w) (fun _ _ _ hh h => h.of_heap hh) own started (by kernel_rfl) Tryz.func4
    (ChangeSpec.witness_shaped (enc := enc) (C := Tryz.checked) (os := os) (X := fun w _ => laidMet Tryz.prog Rows.aloneHomeRow.laid w) false (World.doorLaid Tryz.prog 2000 os) #[.slice none 0 0, .agg #[.slice none 0 0, .slice none 0 0], .agg #[.int .i64 0, .int .i64 0, .int .i64 0], .int .i64 0] 8 rfl (World.shaped_of_RefB (by kernel_rfl) (by kernel_rfl)) (by kernel_rfl) (by kernel_rfl) (by kernel_rfl) (zajh os _)) ?_
  intro W base args ds gs before hval0 hW hcnd hsz hL _
  have hval : ∀ (j : Nat) t v, Tryz.f4.params[j]? = some t → args[j]? = some v → Value.okWide Tryz.prog W .any base t v := hval0
  have hW' := hW
  obtain ⟨p, q, hA0, hV, rfl, hfz, hnd⟩ := hW
  have hA : DataW.TrodAll enc Tryz.prog W 0 (fun _ => true) true Tryz.f4.params.toList args.toList ds p := hA0
  rw [Tryz.params4] at hA hval hsz
  obtain ⟨v0, vs0, d0, ds0, p0, q0, hargs, rfl, rfl, h0, r0⟩ := trodAll_cons hA
  obtain ⟨v1, vs1, d1, ds1, p1, q1, rfl, rfl, rfl, h1, r1⟩ := trodAll_cons r0
  obtain ⟨v2, vs2, d2, ds2, p2, q2, rfl, rfl, rfl, h2, r2⟩ := trodAll_cons r1
  obtain ⟨v3, vs3, d3, ds3, p3, q3, rfl, rfl, rfl, h3, r3⟩ := trodAll_cons r2
  obtain ⟨rfl, rfl, rfl⟩ := trodAll_nil r3
  obtain rfl : args = #[v0, v1, v2, v3] := by cases args; simp_all
  obtain ⟨rfl, rfl⟩ := trodVars_none hV
  obtain ⟨a0, len0, cap0, rfl⟩ := okWide_slice Tryz.underlying22 (hval 0 22 v0 rfl rfl)
  have k0 := h0
  have lt0 : ∀ x ∈ p0, x.block < W.heap.size := by obtain ⟨m, hm⟩ := k0; exact DataW.trod_lt m _ _ _ hm
  obtain ⟨fu0, hf0⟩ := h0
  obtain ⟨y0, hy0, hr0⟩ := zamw.get enc W 0 (fun _ => true) true fu0 _ _ hf0 (fun n hn => by
    have := List.all_eq_true.1 hsz n (DataW.weights_mem_each (j := 0) (t := 22) rfl rfl n hn)
    simpa using this)
  obtain ⟨cs1, rfl, _⟩ := okWide_struct Tryz.underlying26 (hval 1 26 v1 rfl rfl)
  have k1 := h1
  have lt1 : ∀ x ∈ p1, x.block < W.heap.size := by obtain ⟨m, hm⟩ := k1; exact DataW.trod_lt m _ _ _ hm
  obtain ⟨fu1, hf1⟩ := h1
  obtain ⟨y1, hy1, hr1⟩ := oPrg.get enc W 0 (fun _ => true) true fu1 _ _ hf1 (fun n hn => by
    have := List.all_eq_true.1 hsz n (DataW.weights_mem_each (j := 1) (t := 26) rfl rfl n hn)
    simpa using this)
  obtain ⟨cs2, rfl, _⟩ := okWide_struct Tryz.underlying28 (hval 2 28 v2 rfl rfl)
  have k2 := h2
  have lt2 : ∀ x ∈ p2, x.block < W.heap.size := by obtain ⟨m, hm⟩ := k2; exact DataW.trod_lt m _ _ _ hm
  obtain ⟨fu2, hf2⟩ := h2
  obtain ⟨y2, hy2, hr2⟩ := oPmt.get enc W 0 (fun _ => true) true fu2 _ _ hf2 (fun n hn => by
    have := List.all_eq_true.1 hsz n (DataW.weights_mem_each (j := 2) (t := 28) rfl rfl n hn)
    simpa using this)
  obtain ⟨n3, rfl, rfl, rfl, x3⟩ := open_int Tryz.underlying3 (hval 3 3 v3 rfl rfl) h3
  have w3 : -9223372036854775808 ≤ n3 ∧ n3 ≤ 9223372036854775807 := by
    have e1 : IntKind.i64.min = -9223372036854775808 := rfl
    have e2 : IntKind.i64.max = 9223372036854775807 := rfl
    have := x3
    simp [Lit.wf, e1, e2] at this
    exact this
  clear hA0 hval0
  have hreach : reachBytes = 140737488351232 := rfl
  have s0 := hy0.2
  have e0 : Tryz.prog.bytesOf 34 = 56 := by kernel_rfl
  have e1 : Tryz.prog.bytesOf 83 = 48 := by kernel_rfl
  rw [e0] at s0
  have f0 : ∀ s ∈ y0, s.facts.length ≤ 4611686018427387903 := fun s hs => by have := (hy0.1 s hs).2.1.2; rw [e1] at this; omega
  have ok1 : y1.ok := fun w hw => by have := hy1.2.1 w hw; simp only [maxLen]; omega
  refine (za.law (c := zp Tryz.f4) Tryz.func4 (by kernel_rfl) (by kernel_rfl) (tab hL) (fun H nx => (zaae y0 y1 y2 n3 ok1 (by omega) f0 H nx).mono fun _ _ _ h => h.1) (fun ρ A => ?_)).mono fun e W' ⟨v, he, ⟨_, _, _, hv⟩, bel⟩ => ?_
  · exact (LRel.cons ((hr0 ρ A).2 0 _ _ rfl rfl) (LRel.cons (.agg _ _ (hr1 ρ A).1 fun j v c hv hc => (hr1 ρ A).2 j v c hv (by show cs1.toList[j]? = some c; simpa using hc)) (LRel.cons (.agg _ _ (hr2 ρ A).1 fun j v c hv hc => (hr2 ρ A).2 j v c hv (by show cs2.toList[j]? = some c; simpa using hc)) (LRel.cons (.int _ _) LRel.nil))))
  cases hv
  subst he
  exact ⟨_, rfl, _, _, _, [], _, [], hW', trodAll_mk1 (shut_bool Tryz.underlying4 _), (trodAll_cons_mk (Below.trod zvn (by kernel_rfl) (of_decide_eq_true (by kernel_rfl)) k0 bel lt0) (trodAll_cons_mk (Below.trod zvn (by kernel_rfl) (of_decide_eq_true (by kernel_rfl)) k1 bel lt1) (trodAll_cons_mk (Below.trod zvn (by kernel_rfl) (of_decide_eq_true (by kernel_rfl)) k2 bel lt2) (trodAll_cons_mk (shut_int Tryz.underlying3 x3) trodAll_mk0)))), rfl, bel.frame _, fun h => by cases h⟩
theorem zaez : Rows.AloneHomeSaid :=
  OpenClaim.holds_of_wide 4 Tryz.f4 rfl rfl rfl rfl rfl rfl rfl ⟨rfl, rfl, rfl, rfl, rfl⟩ rfl rfl rfl rfl rfl (by kernel_rfl) Tryz.func4 (by kernel_rfl)
    (of_decide_eq_true (by kernel_rfl)) (by unfold Func.isWrapper; first | (rw [if_pos (by decide +kernel)]; kernel_rfl) | (rw [if_neg (by decide +kernel)]; exact ⟨rfl, rfl⟩))
    (fun os started H enc _ => zaly os started H enc)
theorem proved : Rows.AloneHomeCardSaid :=
  Claim7.holds_tied_plain_at .later [] [.data, .data, .data, .sentinel, .sentinel] true (true, "f279886eb686ad44659b7a3dd03f794512c81a638ed71da7c18291fd665d23df") true
    zaez (fun _ h => by cases h) (by kernel_rfl) (fun _ h => by cases h) aloneHome_row_tie rfl ⟨rfl, rfl⟩ (by kernel_rfl) rfl
    (fun f fn hf hfn => by
      obtain rfl : f = 4 := Option.some.inj ((show Tryz.prog.funcNamed "wanderstaff/zwlaw9.AloneHome" = some 4 by kernel_rfl).symm.trans hf) |>.symm
      obtain rfl : fn = Tryz.f4 := (Option.some.inj (Tryz.func4.symm.trans hfn)).symm
      exact ⟨by kernel_rfl, fun j t ht => by
        rw [Tryz.params4] at ht
        have hm : t ∈ [22, 26, 28, 3] := by simpa using Array.mem_of_getElem? ht
        have hall : ([22, 26, 28, 3].all fun u => !Tryz.prog.wantsStandIn u) = true := by kernel_rfl
        exact (show Tryz.prog.wantsStandIn t = false by simpa using List.all_eq_true.1 hall t hm)⟩)
    (by kernel_rfl)
#print axioms proved
end Go.Proofs.YtdmibdjokofclaaGreatDoor.lawAloneHome
