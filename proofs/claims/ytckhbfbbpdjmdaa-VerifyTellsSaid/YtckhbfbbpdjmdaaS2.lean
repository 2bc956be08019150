/- Numbers of instructions. -/
import Derived.Test.YtckhbfbbpdjmdaaS1
namespace Go.Proofs.Ytckhbfbbpdjmdaa
open Go Go.RowKit

def Cod.avs (c : Cod) : List AV := [.int .i64 c.params, .int .i64 c.vars, .ro (c.ins.map Ins.avs)]
def Prg.avs (p : Prg) : List AV := [.ro (p.codes.map Cod.avs), .ro (p.words.map fun w => [.str w])]

theorem in_qc (n m : Int) : QC Try.prog 57 [.int .i64 n, .int .i64 m] (.bool (VM.isIn n m)) := by
  refine QC.of' fun H nx => verify_numbers_1_calls _ _ H nx _ ?_
  simp [verify_numbers_1_vc, VM.isIn]
  constructor <;> intros <;> omega

set_option maxHeartbeats 2000000 in
theorem numbers_ac (p : Prg) (c : Cod) (i : Ins) (H : Heap) (nx g : Nat) (hg : H g = some (.row 2 p.avs)) (hgn : g < nx) :
    ACalls Try.prog 26 [.ptr g 0, .rop c.avs 0, .agg i.avs] H nx fun v H' nx' => Frz H' nx v (.int .i64 (VM.numbers p c i)) ∧ Keep nx H' H := by
  refine verify_numbers_calls _ _ _ H nx _ ?_
  obtain ⟨op, a, b⟩ := i
  have hne : g ≠ nx := by omega
  simp [verify_numbers_vc, Ins.avs, hg, hne, Prg.avs, Cod.avs]
  refine JN.cut (fun xs H' nx' => xs = [.ptr nx 0, .bool (VM.numOk p c ⟨op, a, b⟩)] ∧ H' = H.put nx (some (.row 3 [.int .i64 op, .int .i64 a, .int .i64 b])) ∧ nx' = nx + 1) ?_ ?_
  · rintro xs H' nx' ⟨rfl, rfl, rfl⟩
    simp only [VM.numbers]
    cases hk : VM.numOk p c ⟨op, a, b⟩
    all_goals simp [verify_numbers_b1, verify_numbers_b2, verify_numbers_j1, verify_numbers_j2, verify_numbers_k1, verify_numbers_k2, verify_numbers_k3, verify_numbers_k4, verify_numbers_k5]
    all_goals repeat' first | apply And.intro | intro _
    all_goals ((repeat' split) <;> omega)
  · simp [hg, hne, Prg.avs, Cod.avs, verify_numbers_b1, verify_numbers_b2, verify_numbers_j1, verify_numbers_j2, verify_numbers_k1, verify_numbers_k2, verify_numbers_k3, verify_numbers_k4, verify_numbers_k5]
    repeat' first | apply And.intro | intro _ | (refine JN.same ?_; simp [hg, hne, Prg.avs, Cod.avs, verify_numbers_b1, verify_numbers_b2, verify_numbers_j1, verify_numbers_j2, verify_numbers_k1, verify_numbers_k2, verify_numbers_k3, verify_numbers_k4, verify_numbers_k5]) | (refine CALLD.of_qc (in_qc _ _) (.bool _) ?_; simp [hg, hne, Prg.avs, Cod.avs, verify_numbers_b1, verify_numbers_b2, verify_numbers_j1, verify_numbers_j2, verify_numbers_k1, verify_numbers_k2, verify_numbers_k3, verify_numbers_k4, verify_numbers_k5]) | (simp [hg, hne, Prg.avs, Cod.avs, verify_numbers_b1, verify_numbers_b2, verify_numbers_j1, verify_numbers_j2, verify_numbers_k1, verify_numbers_k2, verify_numbers_k3, verify_numbers_k4, verify_numbers_k5]; done)
    all_goals try (simp [VM.numOk, *]; done)
    all_goals try (simp [VM.numOk, *]; omega)
    · rename_i h; simp [VM.isIn] at h; omega
    · rename_i h; simp [VM.isIn] at h; omega
    · rename_i h
      have h' : 0 ≤ a ∧ a < p.codes.length := by simpa [VM.isIn] using h
      refine optk_lt (by omega) fun x hx => ?_
      obtain ⟨_, e⟩ := List.getElem?_eq_some_iff.1 hx
      subst e
      simp [VM.numOk, *]
end Go.Proofs.Ytckhbfbbpdjmdaa
