/- Agents: what the program's function says is wrong with one. -/
import Derived.Test.YtckhbfbbpdjmdaaS7
namespace Go.Proofs.Ytckhbfbbpdjmdaa
open Go Go.RowKit

set_option maxHeartbeats 4000000 in
theorem agent_qc (a : Agt) (away : Bool) (ha : a.prog.ok) : QC Try.prog 12 [.agg a.avs, .bool away] (.int .i64 (VM.agent a away)) := by
  refine QC.of' fun H nx => verify_Agent_calls _ _ H nx _ ?_
  simp [verify_Agent_vc, Agt.avs]
  refine QC.call (program_qc a.prog ha) ?_
  have hg : (H.put nx (some (.row 9 [.int .i64 a.id, .int .i64 a.trip, .ro (a.prog.codes.map Cod.avs), .ro (a.prog.words.map fun w => [.str w]), .ro (a.frames.map Frm.avs), .ro (a.heap.map Cl.avs), .int .i64 a.permit.fuel, .int .i64 a.permit.room, .int .i64 a.permit.hops]))) nx = some (.row 9 a.avs) := Heap.put_at _ _ _
  have hK : Keep nx (H.put nx (some (.row 9 [.int .i64 a.id, .int .i64 a.trip, .ro (a.prog.codes.map Cod.avs), .ro (a.prog.words.map fun w => [.str w]), .ro (a.frames.map Frm.avs), .ro (a.heap.map Cl.avs), .int .i64 a.permit.fuel, .int .i64 a.permit.room, .int .i64 a.permit.hops]))) H := by simp
  generalize (H.put nx (some (.row 9 [.int .i64 a.id, .int .i64 a.trip, .ro (a.prog.codes.map Cod.avs), .ro (a.prog.words.map fun w => [.str w]), .ro (a.frames.map Frm.avs), .ro (a.heap.map Cl.avs), .int .i64 a.permit.fuel, .int .i64 a.permit.room, .int .i64 a.permit.hops]))) = H1 at *
  by_cases hp : VM.program a.prog = 0
  case neg =>
    have e : VM.agent a away = VM.program a.prog := by unfold VM.agent; rw [if_pos hp]
    rw [e]
    simp [verify_Agent_k3, hp, hK]
  have hn1 : nx ≠ nx + 1 := by omega
  have hg2 : (H1.put (nx + 1) (some (.row 3 [.int .i64 a.permit.fuel, .int .i64 a.permit.room, .int .i64 a.permit.hops]))) nx = some (.row 9 a.avs) := by rw [Heap.put_ne _ _ hn1]; exact hg
  have hK2 : Keep nx (H1.put (nx + 1) (some (.row 3 [.int .i64 a.permit.fuel, .int .i64 a.permit.room, .int .i64 a.permit.hops]))) H := by rw [Keep.put (by omega)]; exact hK
  have hr2 : (H1.put (nx + 1) (some (.row 3 [.int .i64 a.permit.fuel, .int .i64 a.permit.room, .int .i64 a.permit.hops]))) (nx + 1) = some (.row 3 [.int .i64 a.permit.fuel, .int .i64 a.permit.room, .int .i64 a.permit.hops]) := Heap.put_at _ _ _
  have e3 : (a.id < 0 ∨ 1073741824 < a.id ∨ a.trip < 0 ∨ 1073741824 < a.trip ∨ a.permit.fuel < 0 ∨ 2000 < a.permit.fuel ∨ a.permit.room < 0 ∨ 60 < a.permit.room ∨ a.permit.hops < 0 ∨ 12 < a.permit.hops) → VM.agent a away = 3 := fun h => by
    unfold VM.agent; rw [if_neg (by simpa using hp), if_pos h]
  by_cases hr : (a.id < 0 ∨ 1073741824 < a.id ∨ a.trip < 0 ∨ 1073741824 < a.trip ∨ a.permit.fuel < 0 ∨ 2000 < a.permit.fuel ∨ a.permit.room < 0 ∨ 60 < a.permit.room ∨ a.permit.hops < 0 ∨ 12 < a.permit.hops)
  · have e := e3 hr
    simp [verify_Agent_k3, hp, hg, Agt.avs]
    generalize (H1.put (nx + 1) (some (.row 3 [.int .i64 a.permit.fuel, .int .i64 a.permit.room, .int .i64 a.permit.hops]))) = H2 at *
    simp only [e]
    repeat' first | exact hK | exact hK2 | apply And.intro | intro _
    all_goals first | trivial | (exfalso; omega)
  have w1 : IntKind.i64.wrap (60 - a.permit.room) = 60 - a.permit.room := i64w (by omega)
  have e0 : VM.agent a away = if a.frames.length < 1 ∨ 12 < a.frames.length then 5 else if 60 - a.permit.room < a.heap.length then 4 else if VM.framesErr a away ≠ 0 then VM.framesErr a away else VM.firstErr (VM.cellErr a.heap.length) a.heap := by
    unfold VM.agent; rw [if_neg (by simpa using hp), if_neg hr]
  simp [verify_Agent_k3, hp, hg, Agt.avs, w1]
  generalize (H1.put (nx + 1) (some (.row 3 [.int .i64 a.permit.fuel, .int .i64 a.permit.room, .int .i64 a.permit.hops]))) = H2 at *
  refine ⟨fun h => by omega, fun _ => ⟨fun h => by omega, fun _ => ⟨fun h => by omega, fun _ => ⟨fun h => by omega, fun _ => ⟨fun h => by omega, fun _ => ⟨fun h => by omega, fun _ => ⟨fun h => by omega, fun _ => ⟨fun h => by omega, fun _ => ⟨fun h => by omega, fun _ => ⟨fun h => by omega, fun _ => ?_⟩⟩⟩⟩⟩⟩⟩⟩⟩⟩
  refine ⟨fun h => ⟨by rw [e0, if_pos (by omega)], hK⟩, fun f1 => ⟨fun h => ⟨by rw [e0, if_pos (by omega)], hK⟩, fun f2 => ⟨fun h => ⟨by rw [e0, if_neg (by omega), if_pos h], hK⟩, fun f3 => ?_⟩⟩⟩
  rw [if_neg (by omega), if_neg (by omega)] at e0
  refine LP.mk (fun m xs H' nx' => ∃ i : Nat, i ≤ a.frames.length ∧ m = a.frames.length - i ∧ xs = [.bool away, .ptr nx 0, .int .i64 a.frames.length, .int .i64 i] ∧ H' nx = some (.row 9 a.avs) ∧ Keep nx H' H ∧ nx < nx' ∧ VM.framesErr a away = VM.firstErr (fun k => VM.frame a k away) ((List.range a.frames.length).drop i)) a.frames.length
    ⟨0, by omega, by omega, by simp, hg2, hK2, by omega, rfl⟩ ?_
  rintro m xs H3 n3 ⟨k, hk, rfl, rfl, hg3, hK3, hn3, hfe⟩
  by_cases hlt : k < a.frames.length
  · have hr : (List.range a.frames.length)[k]? = some k := by simp [hlt]
    rw [firstErr_drop _ _ _ _ hr] at hfe
    simp [verify_Agent_l3, hlt]
    refine ACalls.pure_call (frame_ac a k away H3 n3 nx hg3 hn3 hlt (by omega) hp) ?_
    simp [verify_Agent_k1]
    refine ⟨fun hz => ⟨?_, hK3⟩, fun hz => ?_⟩
    · rw [if_pos hz] at hfe
      rw [e0, hfe, if_pos hz]
    · rw [if_neg (by simpa using hz)] at hfe
      rw [i64w (by omega)]
      exact ⟨a.frames.length - (k + 1), by omega, k + 1, by omega, rfl, rfl, hg3, hK3, hn3, hfe⟩
  obtain rfl : k = a.frames.length := by omega
  have hz : VM.framesErr a away = 0 := by rw [hfe, List.drop_of_length_le (by simp)]; rfl
  rw [if_neg (by simpa using hz)] at e0
  simp [verify_Agent_l3, hg3, Agt.avs]
  refine LP.mk (fun m xs H' nx' => ∃ i : Nat, i ≤ a.heap.length ∧ m = a.heap.length - i ∧ xs = [.ptr nx 0, .ro (a.heap.map Cl.avs), .int .i64 a.heap.length, .int .i64 i] ∧ H' nx = some (.row 9 a.avs) ∧ Keep nx H' H ∧ nx < nx' ∧ VM.agent a away = VM.firstErr (VM.cellErr a.heap.length) (a.heap.drop i)) a.heap.length
    ⟨0, by omega, by omega, by simp, hg3, hK3, by omega, e0⟩ ?_
  rintro m xs H4 n4 ⟨k, hk, rfl, rfl, hg4, hK4, hn4, hfe⟩
  by_cases hlt : k < a.heap.length
  case neg =>
    obtain rfl : k = a.heap.length := by omega
    simp [verify_Agent_l2, hK4]
    rw [hfe]; simp [VM.firstErr]
  obtain ⟨c, hc⟩ : ∃ c, a.heap[k]? = some c := ⟨_, List.getElem?_eq_getElem hlt⟩
  obtain ⟨_, hc'⟩ := List.getElem?_eq_some_iff.1 hc
  rw [firstErr_drop _ _ _ _ hc] at hfe
  obtain ⟨l, r⟩ := c
  simp [verify_Agent_l2, hlt, hc', Cl.avs, Val.avs]
  have m1 : nx ≠ n4 := by omega
  have m2 : nx ≠ n4 + 1 := by omega
  have hlen : a.heap.length ≤ 60 := by omega
  refine LP.mk (fun m xs H' nx' => ∃ j : Nat, j ≤ 2 ∧ m = 2 - j ∧ xs = [.ptr nx 0, .ro (a.heap.map Cl.avs), .int .i64 a.heap.length, .int .i64 k, .slc (n4 + 1) 0 2, .int .i64 2, .int .i64 j] ∧ H' nx = some (.row 9 a.avs) ∧ Keep nx H' H ∧ n4 + 1 < nx' ∧
    H' (n4 + 1) = some (.row 3 [.int .i64 l.kind, .int .i64 l.n, .str l.text, .int .i64 r.kind, .int .i64 r.n, .str r.text]) ∧ (1 ≤ j → VM.wrong l a.heap.length = 0) ∧ (2 ≤ j → VM.wrong r a.heap.length = 0)) 2
    ⟨0, by omega, by omega, by simp, ?_, ?_, by omega, by simp, by omega, by omega⟩ ?_
  · rw [Heap.put_ne _ _ m2, Heap.put_ne _ _ m1]; exact hg4
  · rw [Keep.put (by omega), Keep.put (by omega)]; exact hK4
  rintro m xs H5 n5 ⟨j, hj, rfl, rfl, hg5, hK5, hn5, hr5, hj1, hj2⟩
  have hce : VM.cellErr a.heap.length ⟨l, r⟩ = if VM.wrong l a.heap.length ≠ 0 then VM.wrong l a.heap.length else VM.wrong r a.heap.length := rfl
  rw [hce] at hfe
  have m3 : nx ≠ n5 := by omega
  have m4 : n4 + 1 ≠ n5 := by omega
  have hj3 : j = 0 ∨ j = 1 ∨ j = 2 := by omega
  rcases hj3 with rfl | rfl | rfl
  · simp [verify_Agent_l1, hr5, hg5, m3, m4, Agt.avs]
    refine QC.call (wrong_qc l _) ?_
    simp [verify_Agent_k2]
    have hK6 : Keep nx (H5.put n5 (some (.row 3 [.int .i64 l.kind, .int .i64 l.n, .str l.text]))) H := by rw [Keep.put (by omega)]; exact hK5
    refine ⟨fun hz => ⟨by rw [hfe, if_pos hz, if_pos hz], hK6⟩, fun hz => ?_⟩
    exact ⟨2 - 1, by omega, 1, by omega, rfl, by rw [i64w (by omega)]; rfl, by rw [if_neg m3]; exact hg5, hK6, by omega, by rw [if_neg m4]; exact hr5, fun _ => hz, by omega⟩
  · simp [verify_Agent_l1, hr5, hg5, m3, m4, Agt.avs]
    refine QC.call (wrong_qc r _) ?_
    simp [verify_Agent_k2]
    have hK6 : Keep nx (H5.put n5 (some (.row 3 [.int .i64 r.kind, .int .i64 r.n, .str r.text]))) H := by rw [Keep.put (by omega)]; exact hK5
    have hz1 := hj1 (by omega)
    rw [hz1] at hfe
    simp at hfe
    refine ⟨fun hz => ⟨by rw [hfe]; simp [hz], hK6⟩, fun hz => ?_⟩
    exact ⟨2, by omega, by omega, by rw [i64w (by omega)]; rfl, by rw [if_neg m3]; exact hg5, hK6, by omega, by rw [if_neg m4]; exact hr5, fun _ => hz1, fun _ => hz⟩
  · simp [verify_Agent_l1]
    rw [i64w (by omega)]
    have hz1 := hj1 (by omega)
    have hz2 := hj2 (by omega)
    rw [hz1, hz2] at hfe
    simp at hfe
    exact ⟨a.heap.length - (k + 1), by omega, k + 1, by omega, rfl, rfl, hg5, hK5, by omega, hfe⟩
end Go.Proofs.Ytckhbfbbpdjmdaa
