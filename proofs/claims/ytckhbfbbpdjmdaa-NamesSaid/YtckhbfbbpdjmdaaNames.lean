/- Names: each constant has its value. -/
import Derived.Test.YtckhbfbbpdjmdaaChecked
import Derived.Test.YtckhbfbbpdjmdaaRows
import Derived.Test.YtckhbfbbpdjmdaaRep
import Derived.Test.YtckhbfbbpdjmdaaFlow
import Derived.Lib.Hide
import Derived.ProofKit
import Derived.OpenShut
import Derived.ChangeOld
namespace Go.Proofs.Ytckhbfbbpdjmdaa.lawNames
open Go Go.RowKit Go.ChangeShapes Go.WideShapes Go.ChangeAt

def wants : List Int := [0, 1, 2, 1, 2, 3, 4, 5, 6, 7, 8, 9, 10, 11, 1, 2, 3, 4, 5, 1, 2, 3, 4, 5, 6, 7, 8, 9, 1500, 5, 4, 8, 10, 8, 12, 200, 16, 1073741824, 1, 2, 3, 4, 5, 6, 7, 8, 9, 10, 11, 12, 13, 14, 15, 16, 17, 18, 19, 12, 16, 60, 2000, 12, 60, 4, 4, 1, 2, 3, 4, 5, 1, 2, 3, 20, 6, 1, 2, 3, 4, 5, 6, 7, 120, 400]
def errs : List Int := [0, 1, 2, 3, 4, 5, 6, 7, 8, 9, 10, 11, 12, 13]
def arr (l : List Int) : Array Value := (l.map (Value.int .i64)).toArray

theorem arr_get (l : List Int) (k : Nat) (h : k < l.length) : (arr l)[k]? = some (.int .i64 (l.getD k 0)) := by
  simp [arr, h, List.getD]

theorem errs_get : ∀ k : Nat, k < 14 → errs.getD k 0 = k := by decide

theorem wpList_lits {P : Program} {w : World} {ops : Array Oper} {rest : List Oper} {o : Oper} {a : Act} {Q : Exit → Act → World → Prop} (hgd : o.guard = none) (t n : Nat) (parts : Array (Nat × Operand))
    (ho : o.op = .buildSlice t n parts) (e : TypeId) (cells : Array Value)
    (hrun : ∀ W, (Instr.buildSlice t n (parts.map fun (i, x) => (i, a.eval x))).run P W = .ok (.slice (some ⟨W.heap.size, 0, none⟩) n n) (W.alloc (.cells cells e)))
    (h : wpList P ops Q rest (a.put o.dst (.slice (some ⟨w.heap.size, 0, none⟩) n n)) (w.alloc (.cells cells e))) : wpList P ops Q (o :: rest) a w := by
  refine wpList_plain hgd fun _ hK => ?_
  unfold Oper.wp execOp
  simp only [ho, hrun, Sem.run_bind, Sem.run_pure, Result.andThen_ok]
  exact hK _ _ h

set_option maxRecDepth 100000 in
set_option maxHeartbeats 400000 in
theorem names_any (w : World) : Calls Try.prog 6 #[] w fun e w' => e = .returned (.bool true) ∧ Below w.heap.size w w' := by
  go_enter Try.func6, Try.ntmps6
  go_wp2
  obtain ⟨W1, hW1⟩ : ∃ W1, W1 = w.alloc (.cells (arr errs) 25) := ⟨_, rfl⟩
  change Code.wp _ _ _ _ (w.alloc (.cells (arr errs) 25))
  rw [← hW1]
  have hB1 : Below w.heap.size w W1 := by rw [hW1]; exact (Below.refl _ _).alloc (Nat.le_refl _) _
  have hc1 : ∀ k : Nat, k < 14 → W1.cell? ⟨w.heap.size, k, none⟩ = some (.int .i64 k) := by
    intro k hk
    rw [hW1, World.cell?_alloc_at _ _ _ _ rfl, arr_get _ _ hk, errs_get k hk]
  have H1 := Lib.hid hc1
  have HB1 := Lib.hid hB1
  clear hc1 hB1 hW1
  go_loop [2, 3, 10] (fun _ _ i => ∃ k : Nat, k ≤ 14 ∧ i = .int .i64 k) (fun _ _ i => 14 - (intOf i).toNat)
  case atStart => exact ⟨0, by omega, rfl⟩
  case round =>
    obtain ⟨k, hk, rfl⟩ := hrel
    by_cases hlt : k < 14
    · have hcell := H1.out k hlt
      go_wp2
      go_round
      case rel => exact ⟨k + 1, by omega, by go_num⟩
      case measure => simp [intOf]; omega
    · go_wp2_with (refine wpList_lits rfl 44 84 _ rfl 3 (arr wants) (fun W => by kernel_rfl) ?_)
      obtain ⟨g, hg⟩ : ∃ g, g = W1.heap.size := ⟨_, rfl⟩
      obtain ⟨W2, hW2⟩ : ∃ W2, W2 = (W1.alloc (.cells (arr wants) 3)).alloc (.cells (arr wants) 3) := ⟨_, rfl⟩
      rw [← hW2, ← hg]
      have hB2 : Below W1.heap.size W1 W2 := by rw [hW2]; exact ((Below.refl _ _).alloc (Nat.le_refl _) _).alloc (by simp) _
      have hc2 : ∀ k : Nat, k < 84 → W2.cell? ⟨g, k, none⟩ = some (.int .i64 (wants.getD k 0)) := by
        intro k hk
        rw [hW2, hg, World.cell?_alloc_past _ _ _ (by simp), World.cell?_alloc_at _ _ _ _ rfl, arr_get _ _ hk]
      have hc3 : ∀ k : Nat, k < 84 → W2.cell? ⟨g + 1, k, none⟩ = some (.int .i64 (wants.getD k 0)) := by
        intro k hk
        rw [hW2, hg, World.cell?_alloc_at _ _ _ _ (by simp), arr_get _ _ hk]
      have hgs : g + 1 < W2.heap.size := by rw [hW2, hg]; simp
      have hB : Below w.heap.size w W2 := HB1.out.trans (hB2.mono HB1.out.size)
      have HB := Lib.hid hB
      have H2 := Lib.hid hc2
      have H3 := Lib.hid hc3
      clear hc2 hc3 hB hB2 hW2 hg H1 HB1
      go_loopw [0, 6, 23] (fun _ _ i wr => leB W2 wr ∧ ∃ k : Nat, k ≤ 84 ∧ i = .int .i64 k) (fun _ _ i _ => 84 - (intOf i).toNat)
      case atStart => exact ⟨leB_refl _, 0, by omega, rfl⟩
      case round =>
        obtain ⟨hle, k2, hk2, rfl⟩ := hrel
        have HLE := Lib.hid hle
        clear hle
        by_cases hlt2 : k2 < 84
        · have h2 := fun (W : World) (h : leB W2 W) => (Below.cell h (p := ⟨g, k2, none⟩) (by show g < _; omega)).trans (H2.out k2 hlt2)
          have h3 := fun (W : World) (h : leB W2 W) => (Below.cell h (p := ⟨g + 1, k2, none⟩) hgs).trans (H3.out k2 hlt2)
          have HH2 := Lib.hid h2
          have HH3 := Lib.hid h3
          clear h2 h3 H2 H3
          generalize wants.getD k2 0 = x at *
          go_wp2_with fail
          refine wp_region_grow [([(4, none)], none), ([(6, none)], none), ([(26, some 0), (27, some 1)], none),
            ([(28, some 2)], none), ([(5, none)], none), ([(6, none)], none), ([(30, some 4), (31, some 5)], none),
            ([(32, some 6)], none), ([(29, some 3), (33, some 7)], none)]
            [fun v _ => v = .slice (some ⟨g, 0, none⟩) 84 84, fun v _ => v = .int .i64 k2, fun v _ => v = .pointer (some ⟨g, k2, none⟩), fun v _ => v = .int .i64 x,
             fun v _ => v = .slice (some ⟨g + 1, 0, none⟩) 84 84, fun v _ => v = .int .i64 k2, fun v _ => v = .pointer (some ⟨g + 1, k2, none⟩), fun v _ => v = .int .i64 x, fun v _ => v = .bool false]
            (by kernel_rfl) (by kernel_rfl) (by kernel_rfl) (by kernel_rfl) rfl ?st ?steps ?fin
          case st => simp only [stableAll, and_true]; refine ⟨?_, ?_, ?_, ?_, ?_, ?_, ?_, ?_, ?_⟩ <;> exact fun _ _ _ h _ => h
          case steps =>
            simp only [rowSteps, and_true]
            refine ⟨?_, ?_, ?_, ?_, ?_, ?_, ?_, ?_, ?_⟩
            all_goals (intro ev W hc hgl hfn hle hk)
            all_goals
              have hleW := leB_trans HLE.out (leB_trans (show leB wr wr.drew from (Below.refl _ _).drew) hle)
              have e2 := HH2.out W hleW
              have e3 := HH3.out W hleW
              simp [knownRow, knowAt] at hk
              go_simp
          case fin =>
            intro W hle
            have HW := Lib.hid (leB_trans HLE.out (leB_trans (show leB wr wr.drew from (Below.refl _ _).drew) hle))
            clear hle HH2 HH3
            simp only [flowEnd, forall_eq]
            go_simp
            go_wp2
            go_roundw
            case rel => exact ⟨HW.out, k2 + 1, by omega, by go_num⟩
            case measure => simp [intOf]; omega
        · have HF := Lib.hid (HB.out.trans (Below.mono HLE.out HB.out.size))
          clear H2 H3 HB HLE
          go_wp2
          go_ret
          exact ⟨rfl, HF.out⟩
theorem own : ownKnob Try.prog.godebug = none := by kernel_rfl
set_option maxRecDepth 100000 in
theorem lifted (os : Os) (started : os.Started) (H : Type) (enc : TypeId × Value → H) :
    ReturnsInHanded {} Try.checked os 6 .any (Rows.namesSpec.pre6 enc Try.prog Try.f6 Rows.namesRow.domain false) (Rows.namesSpec.post enc Try.prog Try.f6 false true false false) := by
  refine returnsInHanded_of_change (C := Try.checked) own started (by kernel_rfl) Try.func6
    (ChangeSpec.witness6 (enc := enc) (C := Try.checked) false ⟨#[], #[], []⟩ 8 (by kernel_rfl) (by kernel_rfl) (by kernel_rfl) (by kernel_rfl)) ?_
  intro W base args ds gs before hval0 hW hcnd _
  have hW' := hW
  obtain ⟨p, q, hA0, hV, rfl, hfz, hnd⟩ := hW
  have hA : DataW.TrodAll enc Try.prog W 0 (fun _ => true) true Try.f6.params.toList args.toList ds p := hA0
  rw [Try.params6] at hA
  obtain ⟨hargs, rfl, rfl⟩ := trodAll_nil hA
  obtain rfl : args = #[] := by cases args; simp_all
  obtain ⟨rfl, rfl⟩ := trodVars_none hV
  clear hA0 hval0
  refine (names_any W).mono fun e W' ⟨he, bel⟩ => ?_
  subst he
  exact ⟨_, rfl, _, _, _, [], _, [], hW', trodAll_mk1 (shut_bool Try.underlying4 _), trodAll_mk0, rfl, bel.frame _, fun h => by cases h⟩

theorem proved : Rows.NamesSaid :=
  OpenClaim.holds_of_wide 6 Try.f6 rfl rfl rfl rfl rfl rfl rfl ⟨rfl, rfl, rfl, rfl, rfl⟩ rfl rfl rfl rfl rfl (by kernel_rfl) Try.func6 (by kernel_rfl)
    (of_decide_eq_true (by kernel_rfl)) (by unfold Func.isWrapper; first | (rw [if_pos (by decide +kernel)]; kernel_rfl) | (rw [if_neg (by decide +kernel)]; exact ⟨rfl, rfl⟩))
    (fun os started H enc _ => lifted os started H enc)
#print axioms proved
end Go.Proofs.Ytckhbfbbpdjmdaa.lawNames
