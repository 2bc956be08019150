/- Programs: what the program's function says is wrong with them. -/
import Derived.Test.YtckhbfbbpdjmdaaS4
namespace Go.Proofs.Ytckhbfbbpdjmdaa
open Go Go.RowKit

theorem ACalls.pure {P : Program} {f : FuncId} {args : List AV} {r : AV} {H : Heap} {nx : Nat} (h : ACalls P f args H nx fun v H' _ => Frz H' nx v r ∧ Keep nx H' H) : ACalls P f args H nx fun v H' nx' => v = r ∧ H' = H ∧ nx' = nx := by
  refine ACalls.tidy fun hlive => ?_
  refine (ACalls.gc (R := fun v H' => v = r ∧ H' = H) h fun v H' nx' ⟨h1, h2⟩ => ⟨r, H, ⟨rfl, rfl⟩, h1, fun g o ho => ⟨hlive g o ho, by rw [h2 g (hlive g o ho)]; exact ho, .inl ho⟩⟩).mono fun v H' nx' ⟨⟨a, b⟩, c⟩ => ⟨a, b, c⟩

theorem LC.of_qcr {P : Program} {f : FuncId} {args : List AV} {r : AV} {H0 : Heap} {rd : List Nat} (hrd : ∀ g ∈ rd, (H0 g).isSome = true)
    (h : ∀ H nx, (∀ g ∈ rd, H g = H0 g ∧ g < nx) → ACalls P f args H nx fun v H' nx' => v = r ∧ H' = H ∧ nx' = nx) (hr : Bel (fun _ => False) r) : LC P f args H0 rd [] [] r := by
  intro A ρ H w cargs ⟨N, hN⟩ s ha hag _
  have sN : Sim (· < N) ρ H w := ⟨fun g o ho => hN g (s.live g o ho), fun g o ho => (s.obj g o ho).mono rfl (fun _ _ h => h) (fun g hg => ⟨rfl, hN g hg⟩), s.inj⟩
  have aN : LRel (Kof ρ H w) ρ (· < N) args cargs.toList := ⟨ha.1, fun j v c hv hc => (ha.2 j v c hv hc).mono (fun _ _ h => h) (fun g hg => ⟨rfl, hN g hg⟩)⟩
  have hr' : ∀ g ∈ rd, H g = H0 g ∧ g < N := fun g hg => ⟨hag g hg, by
    obtain ⟨o, ho⟩ := Option.isSome_iff_exists.1 (hrd g hg)
    exact hN g (s.live g o ((hag g hg).trans ho))⟩
  refine flowUpon_mono (h H N hr' ρ w cargs sN aN) fun cv w' ⟨r', H', nx', ρ', ⟨q0, q1, q2⟩, q3, q4, q5⟩ => ?_
  subst q0; subst q1; subst q2
  have hA : (fun x => A x ∨ x ∈ ([] : List Nat)) = A := by funext x; simp
  refine ⟨ρ', ?_, ?_, ?_⟩
  · rw [hA]
    exact ⟨s.live, fun g o ho => (q3.obj g o ho).restrict (s.obj g o ho).bel, q3.inj⟩
  · rw [hA]
    exact q4.restrict (hr.mono fun _ h => h.elim)
  · rw [hA]
    exact ⟨fun g hg => ⟨(q5.agree g (hN g hg)).1, hg⟩, q5.k, q5.os, q5.tape, q5.output, q5.size⟩
theorem CALLD.of_qcr {P : Program} {f : FuncId} {args cap : List AV} {r : AV} {H : Heap} {nx : Nat} {k : Kt} (rd : List Nat) (hrd : ∀ g ∈ rd, (H g).isSome = true)
    (h : ∀ H' nx, (∀ g ∈ rd, H' g = H g ∧ g < nx) → ACalls P f (args ++ cap) H' nx fun v H'' nx' => v = r ∧ H'' = H' ∧ nx' = nx) (hr : Bel (fun _ => False) r) (hk : k r rd [] []) : CALLD P (.clo f cap) args H nx k :=
  ⟨r, rd, [], [], .inl rfl, LC.of_qcr hrd h hr, hk⟩
theorem ACalls.pure_call {P : Program} {f : FuncId} {args : List AV} {r : AV} {H : Heap} {nx : Nat} {kk : AV → Heap → Nat → Prop} (h : ACalls P f args H nx fun v H' _ => Frz H' nx v r ∧ Keep nx H' H) (hk : kk r H nx) : ACalls P f args H nx kk :=
  h.pure.mono fun v H' nx' ⟨h1, h2, h3⟩ => by subst h1; subst h2; subst h3; exact hk

def Prg.ok (p : Prg) : Prop := ∀ w ∈ p.words, w.length ≤ maxLen

set_option maxHeartbeats 4000000 in
theorem program_qc (p : Prg) (hp : p.ok) : QC Try.prog 11 [.agg p.avs] (.int .i64 (VM.program p)) := by
  refine QC.of' fun H nx => verify_Program_calls _ H nx _ ?_
  simp [verify_Program_vc, Prg.avs]
  have hb0 : (H.put nx (some (.row 2 [.ro (p.codes.map Cod.avs), .ro (p.words.map fun w => [.str w])]))) nx = some (.row 2 p.avs) := by simp [Prg.avs]
  have hK0 : Keep nx (H.put nx (some (.row 2 [.ro (p.codes.map Cod.avs), .ro (p.words.map fun w => [.str w])]))) H := by simp
  generalize (H.put nx (some (.row 2 [.ro (p.codes.map Cod.avs), .ro (p.words.map fun w => [.str w])]))) = H1 at *
  refine ⟨fun h1 => by unfold VM.program; rw [if_pos (by omega)], fun h1 => ⟨fun h2 => by unfold VM.program; rw [if_pos (by omega)], fun h2 => ⟨fun h3 => by unfold VM.program; rw [if_neg (by omega), if_pos (by omega)], fun h3 => ?_⟩⟩⟩
  have e0 : VM.program p = if p.words.all VM.word = false then 7 else if (p.codes.getD 0 ⟨0, 0, []⟩).params ≠ 0 then 10 else if p.codes.any VM.codeRange then 3 else VM.firstErr (VM.codeErr p) p.codes := by
    unfold VM.program; rw [if_neg (by omega), if_neg (by omega)]
  obtain ⟨c0, hc0⟩ : ∃ c0, p.codes[0]? = some c0 := ⟨p.codes[0]'(by omega), List.getElem?_eq_getElem _⟩
  refine LP.mk (fun m xs H' nx' => ∃ i : Nat, i ≤ p.words.length ∧ m = p.words.length - i ∧ xs = [.ptr nx 0, .ro (p.words.map fun w => [.str w]), .int .i64 p.words.length, .int .i64 i] ∧ H1 = H' ∧ nx + 1 = nx' ∧ p.words.all VM.word = (p.words.drop i).all VM.word) p.words.length
    ⟨0, by omega, by omega, by simp, rfl, rfl, rfl⟩ ?_
  rintro m xs H' nx' ⟨i, hi, rfl, rfl, rfl, rfl, hall⟩
  by_cases hlt : i < p.words.length
  · obtain ⟨w, hw⟩ : ∃ w, p.words[i]? = some w := ⟨_, List.getElem?_eq_getElem hlt⟩
    obtain ⟨_, hw'⟩ := List.getElem?_eq_some_iff.1 hw
    rw [all_drop _ _ _ _ hw] at hall
    simp [verify_Program_l4, hlt, hw']
    refine QC.call (word_qc w (hp w (List.mem_of_getElem? hw))) ?_
    simp [verify_Program_k1]
    cases hx : VM.word w
    · rw [hx] at hall
      simp [hK0]
      rw [e0, hall]; rfl
    · rw [hx] at hall
      simp
      rw [i64w (by omega)]
      exact ⟨p.words.length - (i + 1), by omega, i + 1, by omega, rfl, rfl, by simpa using hall⟩
  obtain rfl : i = p.words.length := by omega
  have hall' : p.words.all VM.word = true := by rw [hall]; simp
  rw [hall'] at e0
  simp only [Bool.true_eq_false, if_false] at e0
  obtain ⟨_, hc0'⟩ := List.getElem?_eq_some_iff.1 hc0
  have h01 : 0 < p.codes.length := by omega
  simp [verify_Program_l4, hb0, Prg.avs, hc0', Cod.avs, h01]
  have hcg : p.codes.getD 0 ⟨0, 0, []⟩ = c0 := by simp [List.getD_eq_getElem?_getD, hc0]
  rw [hcg] at e0
  refine ⟨fun h4 => ⟨by rw [e0, if_pos h4], hK0⟩, fun h4 => ?_⟩
  rw [if_neg (by simpa using h4)] at e0
  refine LP.mk (fun m xs H' nx' => ∃ i : Nat, i ≤ p.codes.length ∧ m = p.codes.length - i ∧ xs = [.ptr nx 0, .int .i64 p.codes.length, .int .i64 i] ∧ H1 = H' ∧ nx + 1 = nx' ∧ p.codes.any VM.codeRange = (p.codes.drop i).any VM.codeRange) p.codes.length
    ⟨0, by omega, by omega, by simp, rfl, rfl, rfl⟩ ?_
  rintro m xs H' nx' ⟨i, hi, rfl, rfl, rfl, rfl, hany⟩
  by_cases hlt : i < p.codes.length
  · obtain ⟨c, hc⟩ : ∃ c, p.codes[i]? = some c := ⟨_, List.getElem?_eq_getElem hlt⟩
    obtain ⟨_, hc'⟩ := List.getElem?_eq_some_iff.1 hc
    rw [any_drop _ _ _ _ hc] at hany
    simp [verify_Program_l3, hb0, Prg.avs, hlt, hc', Cod.avs, hK0]
    have w0 : IntKind.i64.wrap ((i : Int) + 1) = (i : Int) + 1 := i64w (by omega)
    rw [w0]
    cases hx : VM.codeRange c
    · have hx' := hx
      unfold VM.codeRange at hx'
      rw [decide_eq_false_iff_not] at hx'
      rw [hx] at hany
      refine ⟨fun _ => by omega, fun _ => ⟨fun _ => by omega, fun _ => ⟨fun _ => by omega, fun _ => ⟨fun _ => by omega, fun _ => ⟨fun _ => ?_, fun _ => ⟨fun _ => by omega, fun _ => ?_⟩⟩⟩⟩⟩⟩
      · exfalso; omega
      · exact ⟨p.codes.length - (i + 1), by omega, i + 1, by omega, rfl, rfl, by simpa using hany⟩
    · have hx' := hx
      unfold VM.codeRange at hx'
      rw [decide_eq_true_eq] at hx'
      rw [hx, Bool.true_or] at hany
      rw [hany] at e0
      simp only [if_true] at e0
      rw [e0]
      repeat' first | apply And.intro | intro _
      all_goals first | rfl | (exfalso; omega)
  obtain rfl : i = p.codes.length := by omega
  have hany' : p.codes.any VM.codeRange = false := by rw [hany]; simp
  rw [hany'] at e0
  simp only [Bool.false_eq_true, if_false] at e0
  simp [verify_Program_l3, hb0, Prg.avs]
  have hr : ∀ x ∈ p.codes, VM.codeRange x = false := by simpa using hany'
  clear hany hany' hall hall' hlt hi
  refine LP.mk (fun m xs H' nx' => ∃ i : Nat, i ≤ p.codes.length ∧ m = p.codes.length - i ∧ xs = [.ptr nx 0, .int .i64 p.codes.length, .int .i64 i] ∧ H' nx = some (.row 2 p.avs) ∧ Keep nx H' H ∧ nx < nx' ∧ VM.program p = VM.firstErr (VM.codeErr p) (p.codes.drop i)) p.codes.length
    ⟨0, by omega, by omega, by simp, hb0, hK0, by omega, by simpa using e0⟩ ?_
  rintro m xs H2 n2 ⟨k, hk, rfl, rfl, hb2, hK2, hn2, hfe⟩
  by_cases hlt : k < p.codes.length
  case neg =>
    obtain rfl : k = p.codes.length := by omega
    simp [verify_Program_l2, hK2]
    rw [hfe]; simp [VM.firstErr]
  obtain ⟨c, hc⟩ : ∃ c, p.codes[k]? = some c := ⟨_, List.getElem?_eq_getElem hlt⟩
  obtain ⟨_, hc'⟩ := List.getElem?_eq_some_iff.1 hc
  have hcr := hr c (List.mem_of_getElem? hc)
  have hlen : c.ins.length ≤ 200 := by
    unfold VM.codeRange at hcr
    rw [decide_eq_false_iff_not] at hcr
    omega
  rw [firstErr_drop _ _ _ _ hc] at hfe
  simp [verify_Program_l2, hb2, Prg.avs, hlt, hc', Cod.avs]
  refine LP.mk (fun m xs H' nx' => ∃ j : Nat, j ≤ c.ins.length ∧ m = c.ins.length - j ∧ xs = [.ptr nx 0, .int .i64 k, .int .i64 p.codes.length, .int .i64 k, .ro (c.ins.map Ins.avs), .int .i64 c.ins.length, .int .i64 j] ∧ H' nx = some (.row 2 p.avs) ∧ Keep nx H' H ∧ nx < nx' ∧ VM.firstErr (VM.numbers p c) c.ins = VM.firstErr (VM.numbers p c) (c.ins.drop j)) c.ins.length
    ⟨0, by omega, by omega, by simp, hb2, hK2, hn2, by simp⟩ ?_
  rintro m xs H3 n3 ⟨j, hj, rfl, rfl, hb3, hK3, hn3, hfj⟩
  have hne : nx ≠ n3 := by omega
  by_cases hjl : j < c.ins.length
  · obtain ⟨i, hi⟩ : ∃ i, c.ins[j]? = some i := ⟨_, List.getElem?_eq_getElem hjl⟩
    obtain ⟨_, hi'⟩ := List.getElem?_eq_some_iff.1 hi
    rw [firstErr_drop _ _ _ _ hi] at hfj
    simp [verify_Program_l1, hb3, Prg.avs, hlt, hc', Cod.avs, hjl, hi', Ins.avs, hne]
    refine CALLD.of_qcr [nx] (by simp [hne, hb3]) (r := .int .i64 (VM.numbers p c i)) (fun H' n' hag => ?_) (.int _ _) ?_
    · have := hag nx (by simp)
      exact (numbers_ac p c i H' n' nx (by rw [this.1]; simp [hne, hb3]) this.2).pure
    · simp [verify_Program_k2]
      have hK4 : Keep nx (H3.put n3 (some (.row 3 [.int .i64 i.op, .int .i64 i.a, .int .i64 i.b]))) H := by rw [Keep.put (by omega)]; exact hK3
      refine ⟨fun hz => ⟨?_, hK4⟩, fun hz => ?_⟩
      · rw [if_pos hz] at hfj
        rw [hfe]
        have : VM.codeErr p c = VM.numbers p c i := by unfold VM.codeErr; rw [hfj, if_pos hz]
        rw [this, if_pos hz]
      · rw [i64w (by omega)]
        rw [if_neg (by simpa using hz)] at hfj
        exact ⟨c.ins.length - (j + 1), by omega, j + 1, by omega, rfl, rfl, by rw [if_neg hne]; exact hb3, hK4, by omega, hfj⟩
  obtain rfl : j = c.ins.length := by omega
  have hz : VM.firstErr (VM.numbers p c) c.ins = 0 := by rw [hfj]; simp [VM.firstErr]
  have hce : VM.codeErr p c = (VM.heights c.ins).2 := by unfold VM.codeErr; rw [if_neg (by simpa using hz)]
  rw [hce] at hfe
  simp [verify_Program_l1, hb3, Prg.avs, hlt, hc', Cod.avs]
  refine QC.call (heights_qc c (by omega) (calm_of hr (firstErr_zero hz))) ?_
  simp [verify_Program_k3]
  refine ⟨fun h0 => ⟨?_, hK3⟩, fun h0 => ?_⟩
  · rw [if_pos h0] at hfe; exact hfe
  · rw [if_neg (by simpa using h0)] at hfe
    rw [i64w (by omega)]
    exact ⟨p.codes.length - (k + 1), by omega, k + 1, by omega, rfl, rfl, hb3, hK3, hn3, hfe⟩
end Go.Proofs.Ytckhbfbbpdjmdaa
