/- Agents: what the document's function says is wrong with one, whole. -/
import Derived.Test.YtckhbfbbpdjmdaaS10
namespace Go.Proofs.Ytckhbfbbpdjmdaa
open Go Go.RowKit

set_option maxHeartbeats 4000000 in
theorem agent1_qc (a : Agt) (away : Bool) (ha : a.prog.ok) (hhl : a.heap.length ≤ 4611686018427387904) : QC Try.prog 13 [.agg a.avs, .bool away] (.int .i64 (VM.agent a away)) := by
  refine QC.of' fun H nx => zwref6_Agent_calls _ _ H nx _ ?_
  simp [zwref6_Agent_vc, Agt.avs]
  refine QC.call (program1_qc a.prog ha) ?_
  have hg : (H.put nx (some (.row 9 [.int .i64 a.id, .int .i64 a.trip, .ro (a.prog.codes.map Cod.avs), .ro (a.prog.words.map fun w => [.str w]), .ro (a.frames.map Frm.avs), .ro (a.heap.map Cl.avs), .int .i64 a.permit.fuel, .int .i64 a.permit.room, .int .i64 a.permit.hops]))) nx = some (.row 9 a.avs) := Heap.put_at _ _ _
  have hK : Keep nx (H.put nx (some (.row 9 [.int .i64 a.id, .int .i64 a.trip, .ro (a.prog.codes.map Cod.avs), .ro (a.prog.words.map fun w => [.str w]), .ro (a.frames.map Frm.avs), .ro (a.heap.map Cl.avs), .int .i64 a.permit.fuel, .int .i64 a.permit.room, .int .i64 a.permit.hops]))) H := by simp
  generalize (H.put nx (some (.row 9 [.int .i64 a.id, .int .i64 a.trip, .ro (a.prog.codes.map Cod.avs), .ro (a.prog.words.map fun w => [.str w]), .ro (a.frames.map Frm.avs), .ro (a.heap.map Cl.avs), .int .i64 a.permit.fuel, .int .i64 a.permit.room, .int .i64 a.permit.hops]))) = H1 at *
  by_cases hp : VM.program a.prog = 0
  case neg =>
    have e : VM.agent a away = VM.program a.prog := by unfold VM.agent; rw [if_pos hp]
    rw [e]
    simp [zwref6_Agent_k5, hp, hK]
  simp [zwref6_Agent_k5, hp, hg, Agt.avs]
  have e3 : (a.id < 0 ∨ 1073741824 < a.id ∨ a.trip < 0 ∨ 1073741824 < a.trip ∨ a.permit.fuel < 0 ∨ 2000 < a.permit.fuel ∨ a.permit.room < 0 ∨ 60 < a.permit.room ∨ a.permit.hops < 0 ∨ 12 < a.permit.hops) → VM.agent a away = 3 := fun h => by
    unfold VM.agent; rw [if_neg (by simpa using hp), if_pos h]
  refine LP.mk (fun m xs H' nx' => ∃ i : Nat, i ≤ 5 ∧ m = 5 - i ∧ xs = [.bool away, .ptr nx 0, .slc (nx + 1) 0 5, .int .i64 5, .int .i64 i] ∧ H' nx = some (.row 9 a.avs) ∧
    H' (nx + 1) = some (.row 2 [.int .i64 a.id, .int .i64 1073741824, .int .i64 a.trip, .int .i64 1073741824, .int .i64 a.permit.fuel, .int .i64 2000, .int .i64 a.permit.room, .int .i64 60, .int .i64 a.permit.hops, .int .i64 12]) ∧ Keep nx H' H ∧ nx + 1 < nx' ∧
    (1 ≤ i → 0 ≤ a.id ∧ a.id ≤ 1073741824) ∧ (2 ≤ i → 0 ≤ a.trip ∧ a.trip ≤ 1073741824) ∧ (3 ≤ i → 0 ≤ a.permit.fuel ∧ a.permit.fuel ≤ 2000) ∧ (4 ≤ i → 0 ≤ a.permit.room ∧ a.permit.room ≤ 60) ∧ (5 ≤ i → 0 ≤ a.permit.hops ∧ a.permit.hops ≤ 12)) 5
    ⟨0, by omega, by omega, by simp, by rw [Heap.put_ne _ _ (by omega)]; exact hg, by simp, by simp [hK], by omega, by omega, by omega, by omega, by omega, by omega⟩ ?_
  rintro m xs H2 n2 ⟨i, hi, rfl, rfl, hg2, hr2, hK2, hn2, i1, i2, i3, i4, i5⟩
  have z1 : nx ≠ n2 := by omega
  have z2 : nx + 1 ≠ n2 := by omega
  have hKf : ∀ o, Keep nx (H2.put n2 o) H := fun o => by rw [Keep.put (by omega)]; exact hK2
  have hic : i = 5 ∨ i = 0 ∨ i = 1 ∨ i = 2 ∨ i = 3 ∨ i = 4 := by omega
  rcases hic with rfl | hic
  · have e0 : VM.agent a away = if a.frames.length < 1 ∨ 12 < a.frames.length then 5 else if 60 - a.permit.room < a.heap.length then 4 else if VM.framesErr a away ≠ 0 then VM.framesErr a away else VM.firstErr (VM.cellErr a.heap.length) a.heap := by
      unfold VM.agent; rw [if_neg (by simpa using hp), if_neg (by have := i1 (by omega); have := i2 (by omega); have := i3 (by omega); have := i4 (by omega); have := i5 (by omega); omega)]
    have i4' := i4 (by omega)
    have w1 : IntKind.i64.wrap ((a.heap.length : Int) + a.permit.room) = (a.heap.length : Int) + a.permit.room := i64w (by omega)
    simp [zwref6_Agent_l4, hg2, Agt.avs, w1]
    refine ⟨fun h => ⟨by rw [e0, if_pos (by rw [h]; simp)], hK2⟩, fun f1 => ?_⟩
    have hpos : 0 < a.frames.length := List.length_pos_iff.2 f1
    refine ⟨fun h => ⟨by rw [e0, if_pos (by omega)], hK2⟩, fun f2 => ⟨fun h => ⟨by rw [e0, if_neg (by omega), if_pos (by omega)], hK2⟩, fun f3 => ?_⟩⟩
    rw [if_neg (by omega), if_neg (by omega)] at e0
    refine LP.mk (fun m xs H' nx' => ∃ i : Nat, i ≤ a.frames.length ∧ m = a.frames.length - i ∧ xs = [.bool away, .ptr nx 0, .ro (a.frames.map Frm.avs), .int .i64 a.frames.length, .int .i64 i] ∧ H' nx = some (.row 9 a.avs) ∧ Keep nx H' H ∧ nx < nx' ∧ VM.framesErr a away = VM.firstErr (fun k => VM.frame a k away) ((List.range a.frames.length).drop i)) a.frames.length
      ⟨0, by omega, by omega, by simp, hg2, hK2, by omega, rfl⟩ ?_
    rintro m xs H3 n3 ⟨k, hk, rfl, rfl, hg3, hK3, hn3, hfe⟩
    by_cases hlt : k < a.frames.length
    · have hr : (List.range a.frames.length)[k]? = some k := by simp [hlt]
      rw [firstErr_drop _ _ _ _ hr] at hfe
      refine frame1_step a k away H3 H n3 nx nx _ _ hg3 hn3 (by omega) hK3 hlt (by omega) hp (fun hz => ?_) fun hz H' nx' q1 q2 q3 => ?_
      · rw [if_pos hz] at hfe
        rw [e0, hfe, if_pos hz]
      · rw [if_neg (by simpa using hz)] at hfe
        exact ⟨a.frames.length - (k + 1), by omega, k + 1, by omega, rfl, rfl, q1, q2, by omega, hfe⟩
    obtain rfl : k = a.frames.length := by omega
    have hz : VM.framesErr a away = 0 := by rw [hfe, List.drop_of_length_le (by simp)]; rfl
    rw [if_neg (by simpa using hz)] at e0
    simp [zwref6_Agent_l3, hg3, Agt.avs]
    refine LP.mk (fun m xs H' nx' => ∃ i : Nat, i ≤ a.heap.length ∧ m = a.heap.length - i ∧ xs = [.ptr nx 0, .ro (a.heap.map Cl.avs), .int .i64 a.heap.length, .int .i64 i] ∧ H' nx = some (.row 9 a.avs) ∧ Keep nx H' H ∧ nx < nx' ∧ VM.agent a away = VM.firstErr (VM.cellErr a.heap.length) (a.heap.drop i)) a.heap.length
      ⟨0, by omega, by omega, by simp, hg3, hK3, by omega, e0⟩ ?_
    rintro m xs H4 n4 ⟨k, hk, rfl, rfl, hg4, hK4, hn4, hfe⟩
    by_cases hlt : k < a.heap.length
    case neg =>
      obtain rfl : k = a.heap.length := by omega
      simp [zwref6_Agent_l2, hK4]
      rw [hfe]; simp [VM.firstErr]
    obtain ⟨c, hc⟩ : ∃ c, a.heap[k]? = some c := ⟨_, List.getElem?_eq_getElem hlt⟩
    obtain ⟨_, hc'⟩ := List.getElem?_eq_some_iff.1 hc
    rw [firstErr_drop _ _ _ _ hc] at hfe
    obtain ⟨l, r⟩ := c
    have m1 : nx ≠ n4 := by omega
    have hce : VM.cellErr a.heap.length ⟨l, r⟩ = if VM.wrong l a.heap.length ≠ 0 then VM.wrong l a.heap.length else VM.wrong r a.heap.length := rfl
    rw [hce] at hfe
    have hg5 : (H4.put n4 (some (.row 6 [.int .i64 l.kind, .int .i64 l.n, .str l.text, .int .i64 r.kind, .int .i64 r.n, .str r.text]))) nx = some (.row 9 a.avs) := by rw [Heap.put_ne _ _ m1]; exact hg4
    have hc5 : (H4.put n4 (some (.row 6 [.int .i64 l.kind, .int .i64 l.n, .str l.text, .int .i64 r.kind, .int .i64 r.n, .str r.text]))) n4 = some (.row 6 [.int .i64 l.kind, .int .i64 l.n, .str l.text, .int .i64 r.kind, .int .i64 r.n, .str r.text]) := Heap.put_at _ _ _
    have hK5 : Keep nx (H4.put n4 (some (.row 6 [.int .i64 l.kind, .int .i64 l.n, .str l.text, .int .i64 r.kind, .int .i64 r.n, .str r.text]))) H := by rw [Keep.put (by omega)]; exact hK4
    simp [zwref6_Agent_l2, hlt, hc', Cl.avs, Val.avs, hg4, m1, Agt.avs]
    generalize (H4.put n4 (some (.row 6 [.int .i64 l.kind, .int .i64 l.n, .str l.text, .int .i64 r.kind, .int .i64 r.n, .str r.text]))) = H5 at *
    refine QC.call (wrong1_qc l _) ?_
    simp [zwref6_Agent_k4, hc5, hg5, Agt.avs]
    refine ⟨fun hz => ⟨by rw [hfe, if_pos hz, if_pos hz], hK5⟩, fun hz => ?_⟩
    refine QC.call (wrong1_qc r _) ?_
    rw [hz] at hfe
    simp at hfe
    simp [zwref6_Agent_k3]
    refine ⟨fun hz2 => ⟨by rw [hfe]; simp [hz2], hK5⟩, fun hz2 => ?_⟩
    rw [hz2] at hfe
    simp at hfe
    rw [i64w (by omega)]
    exact ⟨a.heap.length - (k + 1), by omega, k + 1, by omega, rfl, rfl, hg5, hK5, by omega, hfe⟩
  rcases hic with rfl | rfl | rfl | rfl | rfl
  · simp [zwref6_Agent_l4, hr2, hKf]
    refine ⟨fun h => e3 (by omega), fun h => ⟨fun h' => e3 (by omega), fun h' => ?_⟩⟩
    exact ⟨5 - 1, by omega, 1, by omega, rfl, by rw [i64w (by omega)]; rfl, by simp [z1, hg2], by simp [z2], by omega, by omega, by omega, by omega, by omega, by omega⟩
  · simp [zwref6_Agent_l4, hr2, hKf]
    refine ⟨fun h => e3 (by omega), fun h => ⟨fun h' => e3 (by omega), fun h' => ?_⟩⟩
    exact ⟨5 - 2, by omega, 2, by omega, rfl, by rw [i64w (by omega)]; rfl, by simp [z1, hg2], by simp [z2], by omega, by omega, by omega, by omega, by omega, by omega⟩
  · simp [zwref6_Agent_l4, hr2, hKf]
    refine ⟨fun h => e3 (by omega), fun h => ⟨fun h' => e3 (by omega), fun h' => ?_⟩⟩
    exact ⟨5 - 3, by omega, 3, by omega, rfl, by rw [i64w (by omega)]; rfl, by simp [z1, hg2], by simp [z2], by omega, by omega, by omega, by omega, by omega, by omega⟩
  · simp [zwref6_Agent_l4, hr2, hKf]
    refine ⟨fun h => e3 (by omega), fun h => ⟨fun h' => e3 (by omega), fun h' => ?_⟩⟩
    exact ⟨5 - 4, by omega, 4, by omega, rfl, by rw [i64w (by omega)]; rfl, by simp [z1, hg2], by simp [z2], by omega, by omega, by omega, by omega, by omega, by omega⟩
  · simp [zwref6_Agent_l4, hr2, hKf]
    refine ⟨fun h => e3 (by omega), fun h => ⟨fun h' => e3 (by omega), fun h' => ?_⟩⟩
    exact ⟨5, by omega, by omega, by rw [i64w (by omega)]; rfl, by simp [z1, hg2], by simp [z2], by omega, by omega, by omega, by omega, by omega, by omega⟩
end Go.Proofs.Ytckhbfbbpdjmdaa
