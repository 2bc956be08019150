/- Agents: what the document's function says is wrong with one. -/
import Derived.Test.YtckhbfbbpdjmdaaS8
namespace Go.Proofs.Ytckhbfbbpdjmdaa
open Go Go.RowKit

def fl (l : List Val) : List AV := (l.map Val.avs).flatten
theorem fl_cons (v : Val) (l : List Val) : fl (v :: l) = v.avs ++ fl l := rfl
theorem fl_append (l m : List Val) : fl (l ++ m) = fl l ++ fl m := by simp [fl]
@[simp] theorem avs_len (v : Val) : v.avs.length = 3 := rfl
theorem fl_len (l : List Val) : (fl l).length = l.length * 3 := by
  induction l with
  | nil => rfl
  | cons v r ih => rw [fl_cons, List.length_append, ih, avs_len, List.length_cons]; omega
theorem fl_one (l : List Val) : ∀ x ∈ fl l, x.one = true := by
  intro x hx
  simp [fl] at hx
  obtain ⟨_, ⟨v, _, rfl⟩, h⟩ := hx
  unfold Val.avs at h
  simp at h
  rcases h with rfl | rfl | rfl <;> rfl
theorem fl_at (l : List Val) (j : Nat) (v : Val) (h : l[j]? = some v) : ((fl l).drop (j * 3)).take 3 = v.avs := by
  induction l generalizing j with
  | nil => simp at h
  | cons w r ih =>
    cases j with
    | zero => simp at h; subst h; rfl
    | succ j =>
      rw [fl_cons, List.drop_append, List.drop_of_length_le (by simp; omega), avs_len, show (j + 1) * 3 - 3 = j * 3 by omega, List.nil_append]
      exact ih j (by simpa using h)

set_option maxHeartbeats 4000000 in
/-- The values of a frame, one by one. -/
theorem frame1_rest (a : Agt) (k : Nat) (f : Frm) (hv : Int) (away : Bool) (r1 r2 : AV) (H H0 : Heap) (nx n0 g b0 : Nat) (K : J3) (R : Int) (hg : H g = some (.row 9 a.avs)) (hgn : g < nx) (hb : H b0 = some (.row 4 f.avs)) (hbn : b0 < nx) (hn0 : n0 ≤ nx) (hK : Keep n0 H H0) (hvl : f.vars.length ≤ 8) (hb16 : hv ≤ 16) (hk12 : k ≤ 12)
    (hbad : frameRest a f.vars f.stack hv ≠ 0 → R = frameRest a f.vars f.stack hv)
    (hgo : frameRest a f.vars f.stack hv = 0 → ∀ H' nx', H' g = some (.row 9 a.avs) → Keep n0 H' H0 → nx ≤ nx' → K [.bool away, .ptr g 0, r1, r2, .int .i64 (k + 1)] H' nx') :
    zwref6_Agent_j2 (fun v H' _ => Frz H' n0 v (.int .i64 R) ∧ Keep n0 H' H0) K [.bool away, .ptr g 0, .ptr b0 0, .int .i64 hv, r1, r2, .int .i64 k] H nx := by
  by_cases h1 : hv < 0 ∨ (f.stack.length : Int) ≠ hv
  · have e : frameRest a f.vars f.stack hv = 10 := by unfold frameRest; rw [if_pos h1]
    have hR := hbad (by omega)
    rw [hR, e]
    by_cases h2 : hv < 0
    · simp [zwref6_Agent_j2, h2, hK]
    · have h3 : ¬ hv = (f.stack.length : Int) := by omega
      simp [zwref6_Agent_j2, h2, h3, hK, hb, Frm.avs]
  have e : frameRest a f.vars f.stack hv = VM.firstErr (fun v => VM.wrong v a.heap.length) (f.vars ++ f.stack) := by unfold frameRest; rw [if_neg h1]
  rw [e] at hbad hgo
  have h2 : ¬ hv < 0 := by omega
  have h3 : hv = (f.stack.length : Int) := by omega
  have n1' : b0 ≠ nx := by omega
  have n2' : b0 ≠ nx + 1 := by omega
  have hs1 : ∀ H : Heap, srcCells 3 H (.ro (f.vars.map Val.avs)) = some (f.vars.length, fl f.vars, []) := fun H => by rw [src_ro (by simp)]; simp [fl]
  have hs2 : ∀ H : Heap, srcCells 3 H (.ro (f.stack.map Val.avs)) = some (f.stack.length, fl f.stack, []) := fun H => by rw [src_ro (by simp)]; simp [fl]
  simp [zwref6_Agent_j2, h2, h3, hb, Frm.avs, n1', n2', -src_ro, hs1, hs2]
  have htk : List.take (f.vars.length * 3) (fl f.vars) = fl f.vars := List.take_of_length_le (by rw [fl_len]; omega)
  rw [htk, ← fl_append]
  refine ⟨fun h => by omega, fl_one _, by omega, fl_one _, by rw [fl_len]; omega, by omega, by omega, by omega, ?_⟩
  have hll : (f.vars ++ f.stack).length = f.vars.length + f.stack.length := by simp
  generalize f.vars ++ f.stack = l at *
  refine LP.mk (fun m xs H' nx' => ∃ (j : Nat), j ≤ l.length ∧ m = l.length - j ∧ xs = [.bool away, .ptr g 0, r1, r2, .int .i64 k, .slc (nx + 1 + 1) 0 l.length, .int .i64 l.length, .int .i64 j] ∧ H' (nx + 1 + 1) = some (.row 3 (fl l)) ∧ H' g = some (.row 9 a.avs) ∧ Keep n0 H' H0 ∧ nx + 2 < nx' ∧
    VM.firstErr (fun v => VM.wrong v a.heap.length) l = VM.firstErr (fun v => VM.wrong v a.heap.length) (l.drop j)) l.length
    ⟨0, by omega, by omega, by simp [hll], by simp, ?_, ?_, by omega, rfl⟩ ?_
  · rw [Heap.put_ne _ _ (by omega), Heap.put_ne _ _ (by omega), Heap.put_ne _ _ (by omega)]; exact hg
  · rw [Keep.put (by omega), Keep.put (by omega), Keep.put (by omega)]; exact hK
  rintro m xs H2 n2 ⟨j, hj, rfl, rfl, hb2, hg2, hK2, hn2, hfj⟩
  by_cases hjl : j < l.length
  · obtain ⟨v, hv'⟩ : ∃ v, l[j]? = some v := ⟨_, List.getElem?_eq_getElem hjl⟩
    have m1 : g ≠ n2 := by omega
    have m2 : nx + 1 + 1 ≠ n2 := by omega
    have hfa := fl_at l j v hv'
    have hlen3 : j * 3 + 3 ≤ (fl l).length := by rw [fl_len]; omega
    simp only [Val.avs] at hfa
    simp [zwref6_Agent_l1, hjl, hb2, hfa, hg2, m1, Agt.avs, hlen3]
    refine QC.call (wrong1_qc v _) ?_
    simp [zwref6_Agent_k1]
    rw [firstErr_drop _ _ _ _ hv'] at hfj
    have hK3 : Keep n0 (H2.put n2 (some (.row 3 [.int .i64 v.kind, .int .i64 v.n, .str v.text]))) H0 := by rw [Keep.put (by omega)]; exact hK2
    refine ⟨fun hz => ⟨?_, hK3⟩, fun hz => ?_⟩
    · rw [if_pos hz] at hfj
      rw [hbad (by rw [hfj]; exact hz), hfj]
    · rw [if_neg (by simpa using hz)] at hfj
      rw [i64w (by omega)]
      exact ⟨l.length - (j + 1), by omega, j + 1, by omega, rfl, rfl, by rw [if_neg m2]; exact hb2, by rw [if_neg m1]; exact hg2, hK3, by omega, hfj⟩
  obtain rfl : j = l.length := by omega
  have hz : VM.firstErr (fun v => VM.wrong v a.heap.length) l = 0 := by rw [hfj]; simp [VM.firstErr]
  simp [zwref6_Agent_l1]
  rw [i64w (by omega)]
  exact hgo hz _ _ hg2 hK2 (by omega)
end Go.Proofs.Ytckhbfbbpdjmdaa
