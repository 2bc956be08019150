/- ImageTells: whatever agent and bytes it is handed, the law answers true (Bytes and Parse tell the bytes of any right agent that is away, and the agent of any bytes, or what is wrong, just as the document does), and what it was handed reads as it did. -/
import Derived.Test.YtpbnaaoilgohkaaRows
import Derived.Test.YtpbnaaoilgohkaaG6
import Derived.Test.YtpbnaaoilgohkaaG16
import Derived.ProofKit
import Derived.OpenShut
import Derived.ChangeOld
set_option linter.unusedSimpArgs false
set_option linter.unusedVariables false
set_option maxRecDepth 8000
namespace Go.Proofs.Ytpbnaaoilgohkaa.lawImageTells
open Go.ChangeShapes Go.WideShapes Go.ChangeAt Go.RowKit
theorem own : ownKnob Try.prog.godebug = none := by kernel_rfl
theorem zahg : laidOutB Try.prog = true := by kernel_rfl
set_option maxRecDepth 100000 in
theorem zaps (os : Os) (started : os.Started) (H : Type) (enc : TypeId × Value → H) :
    ReturnsInHanded {} Try.checked os 3 .any (Rows.imageTellsSpec.pre6 enc Try.prog Try.f3 Rows.imageTellsRow.domain false) (Rows.imageTellsSpec.post enc Try.prog Try.f3 false true false false) := by
  refine returnsInHanded_of_change_sized (C := Try.checked) own started (by kernel_rfl) Try.func3
    (ChangeSpec.witness6 (enc := enc) (C := Try.checked) false ⟨#[], #[.agg #[.int .i64 0, .int .i64 0, .slice none 0 0, .slice none 0 0, .slice none 0 0, .slice none 0 0, .int .i64 0, .int .i64 0, .int .i64 0], .slice none 0 0], []⟩ 8 (by kernel_rfl) (by kernel_rfl) (by kernel_rfl) (by kernel_rfl)) ?_
  intro W base args ds gs before hval0 hW hcnd hsz _
  have hval : ∀ (j : Nat) t v, Try.f3.params[j]? = some t → args[j]? = some v → Value.okWide Try.prog W .any base t v := hval0
  have hW' := hW
  obtain ⟨p, q, hA0, hV, rfl, hfz, hnd⟩ := hW
  have hA : DataW.TrodAll enc Try.prog W 0 (fun _ => true) true Try.f3.params.toList args.toList ds p := hA0
  rw [Try.params3] at hA hval hsz
  obtain ⟨v0, vs0, d0, ds0, p0, q0, hargs, rfl, rfl, h0, r0⟩ := trodAll_cons hA
  obtain ⟨v1, vs1, d1, ds1, p1, q1, rfl, rfl, rfl, h1, r1⟩ := trodAll_cons r0
  obtain ⟨rfl, rfl, rfl⟩ := trodAll_nil r1
  obtain rfl : args = #[v0, v1] := by cases args; simp_all
  obtain ⟨rfl, rfl⟩ := trodVars_none hV
  obtain ⟨cs0, rfl, _⟩ := okWide_struct Try.underlying31 (hval 0 31 v0 rfl rfl)
  have k0 := h0
  have lt0 : ∀ x ∈ p0, x.block < W.heap.size := by obtain ⟨m, hm⟩ := k0; exact DataW.trod_lt m _ _ _ hm
  obtain ⟨fu0, hf0⟩ := h0
  obtain ⟨y0, hy0, hr0⟩ := oAgt.get enc W 0 (fun _ => true) true fu0 _ _ hf0 (fun n hn => by
    have := List.all_eq_true.1 hsz n (DataW.weights_mem_each (j := 0) (t := 31) rfl rfl n hn)
    simpa using this)
  obtain ⟨a1, len1, cap1, rfl⟩ := okWide_slice Try.underlying32 (hval 1 32 v1 rfl rfl)
  have k1 := h1
  have lt1 : ∀ x ∈ p1, x.block < W.heap.size := by obtain ⟨m, hm⟩ := k1; exact DataW.trod_lt m _ _ _ hm
  obtain ⟨fu1, hf1⟩ := h1
  obtain ⟨y1, hy1, hr1⟩ := zaqz.get enc W 0 (fun _ => true) true fu1 _ _ hf1 (fun n hn => by
    have := List.all_eq_true.1 hsz n (DataW.weights_mem_each (j := 1) (t := 32) rfl rfl n hn)
    simpa using this)
  clear hA0 hval0
  have hreach : reachBytes = 140737488351232 := rfl
  have s0 := hy0.2.2.2.2.1.2
  have e0 : Try.prog.bytesOf 58 = 64 := by kernel_rfl
  rw [e0] at s0
  have ok0 : y0.prog.ok := fun w hw => by have := hy0.2.2.1.2.1 w hw; simp only [maxLen]; omega
  have s1 := hy1.2
  have e1 : Try.prog.bytesOf 5 = 1 := by kernel_rfl
  rw [e1] at s1
  refine (za.law (c := zi Try.f3) Try.func3 (by kernel_rfl) (by kernel_rfl) (LayK.of_none (by kernel_rfl) (by kernel_rfl) (by kernel_rfl) _) (fun H nx => (zado y0 y1 ok0 (by omega) (by omega) H nx).mono fun _ _ _ h => h.1) (fun ρ A => ?_)).mono fun e W' ⟨v, he, ⟨_, _, _, hv⟩, bel⟩ => ?_
  · exact (LRel.cons (.agg _ _ (hr0 ρ A).1 fun j v c hv hc => (hr0 ρ A).2 j v c hv (by show cs0.toList[j]? = some c; simpa using hc)) (LRel.cons ((hr1 ρ A).2 0 _ _ rfl rfl) LRel.nil))
  cases hv
  subst he
  exact ⟨_, rfl, _, _, _, [], _, [], hW', trodAll_mk1 (shut_bool Try.underlying4 _), (trodAll_cons_mk (Below.trod zahg (by kernel_rfl) (of_decide_eq_true (by kernel_rfl)) k0 bel lt0) (trodAll_cons_mk (Below.trod zahg (by kernel_rfl) (of_decide_eq_true (by kernel_rfl)) k1 bel lt1) trodAll_mk0)), rfl, bel.frame _, fun h => by cases h⟩
theorem proved : Rows.ImageTellsSaid :=
  OpenClaim.holds_of_wide 3 Try.f3 rfl rfl rfl rfl rfl rfl rfl ⟨rfl, rfl, rfl, rfl, rfl⟩ rfl rfl rfl rfl rfl (by kernel_rfl) Try.func3 (by kernel_rfl)
    (of_decide_eq_true (by kernel_rfl)) (by unfold Func.isWrapper; first | (rw [if_pos (by decide +kernel)]; kernel_rfl) | (rw [if_neg (by decide +kernel)]; exact ⟨rfl, rfl⟩))
    (fun os started H enc _ => zaps os started H enc)
#print axioms proved
end Go.Proofs.Ytpbnaaoilgohkaa.lawImageTells
