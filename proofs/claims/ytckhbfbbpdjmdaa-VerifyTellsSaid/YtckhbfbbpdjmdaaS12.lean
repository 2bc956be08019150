/- The law: what is said of programs and agents. -/
import Derived.Test.YtckhbfbbpdjmdaaS11
namespace Go.Proofs.Ytckhbfbbpdjmdaa
open Go Go.RowKit

set_option maxHeartbeats 4000000 in
theorem law_ac (p : Prg) (a : Agt) (away : Bool) (hp : p.ok) (ha : a.prog.ok) (hhl : a.heap.length ≤ 4611686018427387904) (hcl : p.codes.length ≤ 4611686018427387904) (H : Heap) (nx : Nat) :
    ACalls Try.prog 4 [.agg p.avs, .agg a.avs, .bool away] H nx fun v _ _ => v = .bool true := by
  refine zwlaw6_VerifyTells_calls _ _ _ H nx _ ?_
  have hnn : nx ≠ nx + 1 := by omega
  simp [zwlaw6_VerifyTells_vc, Prg.avs, Agt.avs]
  have hg1 : ((H.put nx (some (.row 2 [.ro (p.codes.map Cod.avs), .ro (p.words.map fun w => [.str w])]))).put (nx + 1) (some (.row 9 [.int .i64 a.id, .int .i64 a.trip, .ro (a.prog.codes.map Cod.avs), .ro (a.prog.words.map fun w => [.str w]), .ro (a.frames.map Frm.avs), .ro (a.heap.map Cl.avs), .int .i64 a.permit.fuel, .int .i64 a.permit.room, .int .i64 a.permit.hops]))) nx = some (.row 2 p.avs) := by
    rw [Heap.put_ne _ _ hnn, Heap.put_at]; rfl
  have hg2 : ((H.put nx (some (.row 2 [.ro (p.codes.map Cod.avs), .ro (p.words.map fun w => [.str w])]))).put (nx + 1) (some (.row 9 [.int .i64 a.id, .int .i64 a.trip, .ro (a.prog.codes.map Cod.avs), .ro (a.prog.words.map fun w => [.str w]), .ro (a.frames.map Frm.avs), .ro (a.heap.map Cl.avs), .int .i64 a.permit.fuel, .int .i64 a.permit.room, .int .i64 a.permit.hops]))) (nx + 1) = some (.row 9 a.avs) := Heap.put_at _ _ _
  generalize ((H.put nx (some (.row 2 [.ro (p.codes.map Cod.avs), .ro (p.words.map fun w => [.str w])]))).put (nx + 1) (some (.row 9 [.int .i64 a.id, .int .i64 a.trip, .ro (a.prog.codes.map Cod.avs), .ro (a.prog.words.map fun w => [.str w]), .ro (a.frames.map Frm.avs), .ro (a.heap.map Cl.avs), .int .i64 a.permit.fuel, .int .i64 a.permit.room, .int .i64 a.permit.hops]))) = H1 at *
  refine QC.call (program1_qc p hp) ?_
  simp [zwlaw6_VerifyTells_k6, hg1, Prg.avs]
  refine CALLD.of_qc (program_qc p hp) (.int _ _) ?_
  simp [zwlaw6_VerifyTells_k5, hg2, Agt.avs]
  refine CALLD.of_qc (agent_qc a away ha) (.int _ _) ?_
  simp [zwlaw6_VerifyTells_k4, hg2, Agt.avs]
  refine CALLD.of_qc (agent1_qc a away ha hhl) (.int _ _) ?_
  simp [zwlaw6_VerifyTells_k3, hg1, Prg.avs]
  refine LP.mk (fun m xs H' nx' => ∃ i : Nat, i ≤ p.codes.length ∧ m = p.codes.length - i ∧ xs = [.int .i64 (VM.program p), .ro (p.codes.map Cod.avs), .int .i64 p.codes.length, .int .i64 i]) p.codes.length ⟨0, by omega, by omega, by simp⟩ ?_
  rintro m xs H2 n2 ⟨k, hk, rfl, rfl⟩
  by_cases hlt : k < p.codes.length
  case neg =>
    obtain rfl : k = p.codes.length := by omega
    simp [zwlaw6_VerifyTells_l2]
  obtain ⟨c, hc⟩ : ∃ c, p.codes[k]? = some c := ⟨_, List.getElem?_eq_getElem hlt⟩
  obtain ⟨_, hc'⟩ := List.getElem?_eq_some_iff.1 hc
  have w0 : IntKind.i64.wrap ((k : Int) + 1) = (k : Int) + 1 := i64w (by omega)
  have next : ∃ m, m < p.codes.length - k ∧ ∃ i : Nat, i ≤ p.codes.length ∧ m = p.codes.length - i ∧ (k : Int) + 1 = i := ⟨p.codes.length - (k + 1), by omega, k + 1, by omega, rfl, rfl⟩
  simp [zwlaw6_VerifyTells_l2, hlt, hc', Cod.avs, w0]
  refine ⟨fun _ => next, fun h0 => ⟨fun _ => next, fun _ => ?_⟩⟩
  obtain ⟨hcr, hcalm, hch⟩ := (program_right h0).1 c (List.mem_of_getElem? hc)
  have hlen : c.ins.length ≤ 200 := by
    unfold VM.codeRange at hcr
    rw [decide_eq_false_iff_not] at hcr
    omega
  refine QC.call (heights_qc c (by omega) hcalm) ?_
  simp [zwlaw6_VerifyTells_k2]
  refine QC.call (heights1_qc c (by omega) hcalm) ?_
  simp [zwlaw6_VerifyTells_k1]
  obtain ⟨hhl', _⟩ := heights_len hcalm hch
  generalize (VM.heights c.ins).1 = hs at *
  refine LP.mk (fun m xs H' nx' => ∃ i : Nat, i ≤ hs.length ∧ m = hs.length - i ∧ xs = [.int .i64 (VM.program p), .ro (hs.map fun n => [.int .i64 n]), .ro (hs.map fun n => [.int .i64 n]), .ro (p.codes.map Cod.avs), .int .i64 p.codes.length, .int .i64 k, .int .i64 hs.length, .int .i64 i]) hs.length ⟨0, by omega, by omega, by simp⟩ ?_
  rintro m xs H3 n3 ⟨j, hj, rfl, rfl⟩
  by_cases hjl : j < hs.length
  · simp [zwlaw6_VerifyTells_l1, hjl]
    rw [i64w (by omega)]
    exact ⟨hs.length - (j + 1), by omega, j + 1, by omega, rfl, rfl⟩
  · obtain rfl : j = hs.length := by omega
    simp [zwlaw6_VerifyTells_l1, w0]
    exact next
end Go.Proofs.Ytckhbfbbpdjmdaa
