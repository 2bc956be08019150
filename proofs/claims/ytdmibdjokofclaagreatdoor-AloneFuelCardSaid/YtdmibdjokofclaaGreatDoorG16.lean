/- Programs: what the document's function says is wrong with them. The laws of chapter 9: more is no less; who does not go sees its place alone. The library's laid variables, where a row lists five of them: three tables, two errors. -/
import Derived.Test.YtdmibdjokofclaaGreatDoorG15
import Derived.Test.YtdmibdjokofclaaGreatDoorG14
import Derived.Test.YtdmibdjokofclaaGreatDoorG1
import Derived.Stop.LaidErr
set_option linter.unusedSimpArgs false
set_option linter.unusedVariables false
set_option maxRecDepth 8000
namespace Go.Proofs.YtdmibdjokofclaaGreatDoor
open Go Go.RowKit
def lm (p : Prg) (c : Cod) (i : Ins) : Int × Int :=
  if i.op = 1 then (-1073741824, 1073741824) else if i.op = 2 then (0, p.words.length - 1) else if i.op = 3 then (0, c.vars - 1) else if i.op = 4 then (0, c.vars - 1) else if i.op = 5 then (1, 5)
  else if i.op = 15 then (0, c.ins.length - 1) else if i.op = 16 then (0, c.ins.length - 1) else if i.op = 17 then (0, p.codes.length - 1) else (0, 0)
theorem zadh (p : Prg) (c : Cod) (i : Ins) (h1 : 1 ≤ i.op) (h2 : i.op ≤ 19) : VM.numbers p c i = if i.a < (lm p c i).1 ∨ (lm p c i).2 < i.a ∨ (i.op = 17 ∧ some i.b ≠ (p.codes[i.a.toNat]?).map (·.params)) ∨ (i.op ≠ 17 ∧ i.b ≠ 0) then 3 else 0 := by
  unfold VM.numbers
  rw [if_neg (by omega)]
  have : (VM.numOk p c i = false ∨ (i.op ≠ 17 ∧ i.b ≠ 0)) ↔ (i.a < (lm p c i).1 ∨ (lm p c i).2 < i.a ∨ (i.op = 17 ∧ some i.b ≠ (p.codes[i.a.toNat]?).map (·.params)) ∨ (i.op ≠ 17 ∧ i.b ≠ 0)) := by
    unfold VM.numOk lm VM.isIn
    by_cases h17 : i.op = 17
    · simp [h17]
      by_cases hb : some i.b = (p.codes[i.a.toNat]?).map (·.params)
      · simp [hb]; omega
      · simp [hb]
    · simp only [h17, if_false]
      (repeat' split) <;> simp_all <;> omega
  by_cases hq : VM.numOk p c i = false ∨ (i.op ≠ 17 ∧ i.b ≠ 0)
  · rw [if_pos hq, if_pos (this.1 hq)]
  · rw [if_neg hq, if_neg (fun h => hq (this.2 h))]
set_option maxHeartbeats 4000000 in
theorem zaan (p : Prg) (hp : p.ok) : QC Tryz.prog 6 [.agg p.avs] (.int .i64 (VM.program p)) := by
  refine QC.of' fun H nx => zmy _ H nx _ ?_
  simp [zis, Prg.avs]
  have hb0 : (H.put nx (some (.row 2 [.ro (p.codes.map Cod.avs), .ro (p.words.map fun w => [.str w])]))) nx = some (.row 2 p.avs) := by simp [Prg.avs]
  have hK0 : Keep nx (H.put nx (some (.row 2 [.ro (p.codes.map Cod.avs), .ro (p.words.map fun w => [.str w])]))) H := by simp
  generalize (H.put nx (some (.row 2 [.ro (p.codes.map Cod.avs), .ro (p.words.map fun w => [.str w])]))) = H1 at *
  refine ⟨fun h1 => by unfold VM.program; rw [if_pos (by rw [h1]; simp)], fun h1 => ?_⟩
  have hpos : 0 < p.codes.length := List.length_pos_iff.2 h1
  refine ⟨fun h2 => by unfold VM.program; rw [if_pos (by omega)], fun h2 => ⟨fun h3 => by unfold VM.program; rw [if_neg (by omega), if_pos (by omega)], fun h3 => ?_⟩⟩
  have e0 : VM.program p = if p.words.all VM.word = false then 7 else if (p.codes.getD 0 ⟨0, 0, []⟩).params ≠ 0 then 10 else if p.codes.any VM.codeRange then 3 else VM.firstErr (VM.codeErr p) p.codes := by
    unfold VM.program; rw [if_neg (by omega), if_neg (by omega)]
  obtain ⟨c0, hc0⟩ : ∃ c0, p.codes[0]? = some c0 := ⟨p.codes[0]'(by omega), List.getElem?_eq_getElem _⟩
  refine LP.mk (fun m xs H' nx' => ∃ i : Nat, i ≤ p.words.length ∧ m = p.words.length - i ∧ xs = [.ptr nx 0, .ro (p.words.map fun w => [.str w]), .int .i64 p.words.length, .int .i64 i] ∧ H1 = H' ∧ nx + 1 = nx' ∧ p.words.all VM.word = (p.words.drop i).all VM.word) p.words.length
    ⟨0, by omega, by omega, by simp, rfl, rfl, rfl⟩ ?_
  rintro m xs H' nx' ⟨i, hi, rfl, rfl, rfl, rfl, hall⟩
  by_cases hlt : i < p.words.length
  · obtain ⟨w, hw⟩ : ∃ w, p.words[i]? = some w := ⟨_, List.getElem?_eq_getElem hlt⟩
    obtain ⟨_, hw'⟩ := List.getElem?_eq_some_iff.1 hw
    rw [zajt _ _ _ _ hw] at hall
    simp [zem, hlt, hw']
    refine QC.call (zahk w (hp w (List.mem_of_getElem? hw))) ?_
    simp [ziu]
    cases hx : VM.word w
    · rw [hx] at hall
      simp [hK0]
      rw [e0, hall]; rfl
    · rw [hx] at hall
      simp
      rw [i64w (by omega)]
      exact ⟨p.words.length - (i + 1), by omega, i + 1, by omega, rfl, rfl, by simpa using hall⟩
  obtain rfl : i = p.words.length := by omega
  have hall' : p.words.all VM.word = true := by rw [hall]; simp
  rw [hall'] at e0
  simp only [Bool.true_eq_false, if_false] at e0
  obtain ⟨_, hc0'⟩ := List.getElem?_eq_some_iff.1 hc0
  have h01 : 0 < p.codes.length := by omega
  simp [zem, hb0, Prg.avs, hc0', Cod.avs, h01]
  have hcg : p.codes.getD 0 ⟨0, 0, []⟩ = c0 := by simp [List.getD_eq_getElem?_getD, hc0]
  rw [hcg] at e0
  refine ⟨fun h4 => ⟨by rw [e0, if_pos h4], hK0⟩, fun h4 => ?_⟩
  rw [if_neg (by simpa using h4)] at e0
  refine LP.mk (fun m xs H' nx' => ∃ i : Nat, i ≤ p.codes.length ∧ m = p.codes.length - i ∧ xs = [.ptr nx 0, .ro (p.codes.map Cod.avs), .int .i64 p.codes.length, .int .i64 i] ∧ H' nx = some (.row 2 p.avs) ∧ Keep nx H' H ∧ nx < nx' ∧ p.codes.any VM.codeRange = (p.codes.drop i).any VM.codeRange) p.codes.length
    ⟨0, by omega, by omega, by simp, hb0, hK0, by omega, rfl⟩ ?_
  rintro m xs H2 n2 ⟨i, hi, rfl, rfl, hb2, hK2, hn2, hany⟩
  have hne2 : nx ≠ n2 := by omega
  by_cases hlt : i < p.codes.length
  · obtain ⟨c, hc⟩ : ∃ c, p.codes[i]? = some c := ⟨_, List.getElem?_eq_getElem hlt⟩
    obtain ⟨_, hc'⟩ := List.getElem?_eq_some_iff.1 hc
    rw [zajs _ _ _ _ hc] at hany
    have hK3 : Keep nx (H2.put n2 (some (.row 3 [.int .i64 c.params, .int .i64 c.vars, .ro (c.ins.map Ins.avs)]))) H := by rw [Keep.put (by omega)]; exact hK2
    simp [zen, hlt, hc', Cod.avs, hK3]
    have w0 : IntKind.i64.wrap ((i : Int) + 1) = (i : Int) + 1 := i64w (by omega)
    rw [w0]
    cases hx : VM.codeRange c
    · have hx' := hx
      unfold VM.codeRange at hx'
      rw [decide_eq_false_iff_not] at hx'
      rw [hx] at hany
      refine ⟨fun _ => by omega, fun _ => ⟨fun _ => by omega, fun _ => ⟨fun _ => by omega, fun _ => ⟨fun _ => by omega, fun _ => ⟨fun he => ?_, fun _ => ⟨fun _ => by omega, fun _ => ?_⟩⟩⟩⟩⟩⟩
      · exfalso; rw [he] at hx'; simp at hx'
      · exact ⟨p.codes.length - (i + 1), by omega, i + 1, by omega, rfl, rfl, by rw [if_neg hne2, if_neg hne2]; exact hb2, by omega, by simpa using hany⟩
    · have hx' := hx
      unfold VM.codeRange at hx'
      rw [decide_eq_true_eq] at hx'
      rw [hx, Bool.true_or] at hany
      rw [hany] at e0
      simp only [if_true] at e0
      rw [e0]
      simp only [← List.length_eq_zero_iff]
      repeat' first | apply And.intro | intro _
      all_goals first | rfl | trivial | (exfalso; omega)
  obtain rfl : i = p.codes.length := by omega
  have hany' : p.codes.any VM.codeRange = false := by rw [hany]; simp
  rw [hany'] at e0
  simp only [Bool.false_eq_true, if_false] at e0
  simp [zen, hb2, Prg.avs]
  have hr : ∀ x ∈ p.codes, VM.codeRange x = false := by simpa using hany'
  clear hany hany' hall hall' hlt hi
  refine LP.mk (fun m xs H' nx' => ∃ i : Nat, i ≤ p.codes.length ∧ m = p.codes.length - i ∧ xs = [.ptr nx 0, .ro (p.codes.map Cod.avs), .int .i64 p.codes.length, .int .i64 i] ∧ H' nx = some (.row 2 p.avs) ∧ Keep nx H' H ∧ nx < nx' ∧ VM.program p = VM.firstErr (VM.codeErr p) (p.codes.drop i)) p.codes.length
    ⟨0, by omega, by omega, by simp, hb2, hK2, by omega, by simpa using e0⟩ ?_
  clear hb2 hK2 hn2 hne2
  clear H2 n2
  rintro m xs H2 n2 ⟨k, hk, rfl, rfl, hb2, hK2, hn2, hfe⟩
  by_cases hlt : k < p.codes.length
  case neg =>
    obtain rfl : k = p.codes.length := by omega
    simp [zeo, hK2]
    rw [hfe]; simp [VM.firstErr]
  obtain ⟨c, hc⟩ : ∃ c, p.codes[k]? = some c := ⟨_, List.getElem?_eq_getElem hlt⟩
  obtain ⟨_, hc'⟩ := List.getElem?_eq_some_iff.1 hc
  have hcr := hr c (List.mem_of_getElem? hc)
  have hlen : c.ins.length ≤ 200 := by
    unfold VM.codeRange at hcr
    rw [decide_eq_false_iff_not] at hcr
    omega
  have hvars : 0 ≤ c.vars ∧ c.vars ≤ 8 := by
    unfold VM.codeRange at hcr
    rw [decide_eq_false_iff_not] at hcr
    omega
  rw [zoo _ _ _ _ hc] at hfe
  have hne2 : nx ≠ n2 := by omega
  simp [zeo, hb2, Prg.avs, hlt, hc', Cod.avs]
  refine LP.mk (fun m xs H' nx' => ∃ j : Nat, j ≤ c.ins.length ∧ m = c.ins.length - j ∧ xs = [.ptr nx 0, .ptr n2 0, .ro (p.codes.map Cod.avs), .int .i64 p.codes.length, .int .i64 k, .ro (c.ins.map Ins.avs), .int .i64 c.ins.length, .int .i64 j] ∧ H' nx = some (.row 2 p.avs) ∧ H' n2 = some (.row 3 c.avs) ∧ Keep nx H' H ∧ n2 < nx' ∧ VM.firstErr (VM.numbers p c) c.ins = VM.firstErr (VM.numbers p c) (c.ins.drop j)) c.ins.length
    ⟨0, by omega, by omega, by simp, by rw [Heap.put_ne _ _ hne2]; exact hb2, by rw [Heap.put_at]; rfl, by rw [Keep.put (by omega)]; exact hK2, by omega, by simp⟩ ?_
  rintro m xs H3 n3 ⟨j, hj, rfl, rfl, hb3, hc3, hK3, hn3, hfj⟩
  have hne : nx ≠ n3 := by omega
  have hne' : n2 ≠ n3 := by omega
  by_cases hjl : j < c.ins.length
  · obtain ⟨i, hi⟩ : ∃ i, c.ins[j]? = some i := ⟨_, List.getElem?_eq_getElem hjl⟩
    obtain ⟨_, hi'⟩ := List.getElem?_eq_some_iff.1 hi
    rw [zoo _ _ _ _ hi] at hfj
    have hK4 : Keep nx (H3.put n3 (some (.row 3 [.int .i64 i.op, .int .i64 i.a, .int .i64 i.b]))) H := by rw [Keep.put (by omega)]; exact hK3
    have hb4 : (H3.put n3 (some (.row 3 [.int .i64 i.op, .int .i64 i.a, .int .i64 i.b]))) nx = some (.row 2 p.avs) := by rw [Heap.put_ne _ _ hne]; exact hb3
    have hc4 : (H3.put n3 (some (.row 3 [.int .i64 i.op, .int .i64 i.a, .int .i64 i.b]))) n2 = some (.row 3 c.avs) := by rw [Heap.put_ne _ _ hne']; exact hc3
    have hi4 : (H3.put n3 (some (.row 3 [.int .i64 i.op, .int .i64 i.a, .int .i64 i.b]))) n3 = some (.row 3 [.int .i64 i.op, .int .i64 i.a, .int .i64 i.b]) := by rw [Heap.put_at]
    simp [zep, hjl, hi', Ins.avs]
    generalize (H3.put n3 (some (.row 3 [.int .i64 i.op, .int .i64 i.a, .int .i64 i.b]))) = H4 at *
    have hbad : VM.numbers p c i ≠ 0 → VM.program p = VM.numbers p c i := by
      intro hz
      rw [if_pos hz] at hfj
      have : VM.codeErr p c = VM.numbers p c i := by unfold VM.codeErr; rw [hfj, if_pos hz]
      rw [hfe, this, if_pos hz]
    refine ⟨fun ho => ?_, fun ho1 => ⟨fun ho => ?_, fun ho2 => ?_⟩⟩
    · have e : VM.numbers p c i = 1 := by unfold VM.numbers; rw [if_pos (by omega)]
      exact ⟨by rw [hbad (by omega), e], hK4⟩
    · have e : VM.numbers p c i = 1 := by unfold VM.numbers; rw [if_pos (by omega)]
      exact ⟨by rw [hbad (by omega), e], hK4⟩
    refine JN.cut (fun xs H' nx' => xs = [.ptr nx 0, .ptr n2 0, .ptr n3 0, .int .i64 (lm p c i).1, .int .i64 (lm p c i).2, .ro (p.codes.map Cod.avs), .int .i64 p.codes.length, .int .i64 k, .ro (c.ins.map Ins.avs), .int .i64 c.ins.length, .int .i64 j] ∧ H4 = H' ∧ n3 + 1 = nx') ?_ ?_
    · rintro xs H' nx' ⟨rfl, rfl, rfl⟩
      have hnl := zadh p c i ho1 ho2
      have hgo : VM.numbers p c i = 0 → ∃ m, m < c.ins.length - j ∧ ∃ j', j' ≤ c.ins.length ∧ m = c.ins.length - j' ∧ (j : Int) + 1 = j' ∧ H4 nx = some (.row 2 p.avs) ∧ H4 n2 = some (.row 3 c.avs) ∧ Keep nx H4 H ∧ n2 < n3 + 1 ∧ VM.firstErr (VM.numbers p c) c.ins = VM.firstErr (VM.numbers p c) (List.drop j' c.ins) := by
        intro hz
        rw [if_neg (by simpa using hz)] at hfj
        exact ⟨c.ins.length - (j + 1), by omega, j + 1, by omega, rfl, rfl, hb4, hc4, hK4, by omega, hfj⟩
      have w0 : IntKind.i64.wrap ((j : Int) + 1) = (j : Int) + 1 := i64w (by omega)
      have hbad3 : VM.numbers p c i = 3 → VM.program p = 3 := fun hz => by rw [hbad (by omega), hz]
      by_cases h17 : i.op = 17
      · have hl1 : (lm p c i).1 = 0 := by simp [lm, h17]
        have hl2 : (lm p c i).2 = (p.codes.length : Int) - 1 := by simp [lm, h17]
        simp [zeq, hi4, hb4, Prg.avs, w0, h17]
        rw [hl1, hl2] at hnl ⊢
        refine ⟨fun ha => ⟨hbad3 (by rw [hnl, if_pos (.inl ha)]), hK4⟩, fun ha => ⟨fun hb => ⟨hbad3 (by rw [hnl, if_pos (.inr (.inl hb))]), hK4⟩, fun hb => ⟨ha, by omega, zakt (by omega) fun x hx => ?_⟩⟩⟩
        simp [Cod.avs]
        refine ⟨fun hp' => ⟨hbad3 (by rw [hnl, if_pos (.inr (.inr (.inl ⟨h17, by rw [hx]; simpa using hp'⟩)))]), hK4⟩, fun hp' => ?_⟩
        have hz : VM.numbers p c i = 0 := by rw [hnl, if_neg (by rw [hx]; simp [hp', h17]; omega)]
        have := hgo hz
        simpa [hb4, Prg.avs, Cod.avs] using this
      · simp [zeq, hi4, hb4, Prg.avs, w0, h17]
        refine ⟨fun ha => ⟨hbad3 (by rw [hnl, if_pos (.inl ha)]), hK4⟩, fun ha => ⟨fun hb => ⟨hbad3 (by rw [hnl, if_pos (.inr (.inl hb))]), hK4⟩, fun hb => ⟨fun hp' => ⟨hbad3 (by rw [hnl, if_pos (.inr (.inr (.inr ⟨h17, hp'⟩)))]), hK4⟩, fun hp' => ?_⟩⟩⟩
        have hz : VM.numbers p c i = 0 := by rw [hnl, if_neg (by simp [hp', h17]; omega)]
        have := hgo hz
        simpa [hb4, Prg.avs] using this
    · have q1 : IntKind.i64.wrap ((p.words.length : Int) - 1) = (p.words.length : Int) - 1 := i64w (by omega)
      have q2 : IntKind.i64.wrap (c.vars - 1) = c.vars - 1 := i64w (by omega)
      have q3 : IntKind.i64.wrap ((c.ins.length : Int) - 1) = (c.ins.length : Int) - 1 := i64w (by omega)
      have q4 : IntKind.i64.wrap ((p.codes.length : Int) - 1) = (p.codes.length : Int) - 1 := i64w (by omega)
      simp [ziv, hb4, hc4, Prg.avs, Cod.avs, q1, q2, q3, q4]
      repeat' first | apply And.intro | intro _
      all_goals simp [lm, *]
  obtain rfl : j = c.ins.length := by omega
  have hz : VM.firstErr (VM.numbers p c) c.ins = 0 := by rw [hfj]; simp [VM.firstErr]
  have hce : VM.codeErr p c = (VM.heights c.ins).2 := by unfold VM.codeErr; rw [if_neg (by simpa using hz)]
  rw [hce] at hfe
  simp [zep, hb3, hc3, Prg.avs, hlt, hc', Cod.avs]
  refine QC.call (zaau c (by omega) (zabu hr (zdg hz))) ?_
  simp [zit]
  refine ⟨fun h0 => ⟨?_, hK3⟩, fun h0 => ?_⟩
  · rw [if_pos h0] at hfe; exact hfe
  · rw [if_neg (by simpa using h0)] at hfe
    rw [i64w (by omega)]
    exact ⟨p.codes.length - (k + 1), by omega, k + 1, by omega, rfl, rfl, hb3, hK3, by omega, hfe⟩
end Go.Proofs.YtdmibdjokofclaaGreatDoor
set_option maxRecDepth 8000
namespace Go.Proofs.YtdmibdjokofclaaGreatDoor
open Go Go.RowKit
namespace VM
theorem goS_len (l : List Spt) : ∀ (k : Nat) (a : Agt) (i : Nat) (said : List Str), (goS l k a i said).1.length ≤ said.length + k
  | 0, _, _, said => Nat.le_refl _
  | k + 1, a, i, said => by
    rw [goS_succ]
    split
    · have := goS_len l k (step a (l.getD i spt0)).1 i said; omega
    · split
      · have := goS_len l k (step a (l.getD i spt0)).1 i (said ++ [(step a (l.getD i spt0)).2.text])
        simp only [List.length_append, List.length_singleton] at this
        omega
      · split
        · have := goS_len l k (landed l i (step a (l.getD i spt0)).1 (step a (l.getD i spt0)).2.text).1 (landed l i (step a (l.getD i spt0)).1 (step a (l.getD i spt0)).2.text).2 said; omega
        · simp only; omega
theorem alone_len (p : Prg) (m : Pmt) (l : List Spt) (at_ : Int) : (alone p m l at_).1.1.length ≤ 2001 := by
  unfold alone
  split
  · simp
  · split
    · simp
    · rename_i h
      split
      · simp
      · have := goS_len l (m.fuel.toNat + 1) (newAgt 0 p m) at_.toNat []
        unfold permitErr at h
        have hf : m.fuel ≤ 2000 := by
          split at h
          · exact absurd (by decide) h
          · omega
        show (goS l (m.fuel.toNat + 1) _ _ _).1.length ≤ 2001
        simp only [List.length_nil] at this
        omega
theorem alone_fuel {p : Prg} {m : Pmt} {l : List Spt} {at_ : Int} (h : (alone p m l at_).2 = 0) : 0 ≤ m.fuel ∧ m.fuel ≤ 2000 := by
  unfold alone at h
  by_cases c1 : (spotsWrong l).1 ≠ 0
  · rw [if_pos c1] at h; exact absurd h c1
  rw [if_neg c1] at h
  by_cases c2 : permitErr m ≠ 0
  · rw [if_pos c2] at h; exact absurd h c2
  have c2' := Classical.not_not.1 c2
  unfold permitErr at c2'
  split at c2'
  · cases c2'
  · omega
theorem alone_more {p : Prg} {m : Pmt} {l : List Spt} {at_ more : Int} (hp : program p = 0) (hu : Uncut l) (h : (alone p m l at_).2 = 0) (h0 : 0 ≤ more) (h1 : m.fuel + more ≤ 2000) :
    (0 ≤ m.fuel ∧ m.fuel ≤ 2000) ∧ (alone p { m with fuel := m.fuel + more } l at_).2 = 0 ∧
    (((alone p m l at_).1.2.2 = 12 ∧ (alone p m l at_).1.1 <+: (alone p { m with fuel := m.fuel + more } l at_).1.1) ∨ (alone p { m with fuel := m.fuel + more } l at_).1 = (alone p m l at_).1) := by
  unfold alone at h ⊢
  by_cases c1 : (spotsWrong l).1 ≠ 0
  · rw [if_pos c1] at h; exact absurd h c1
  rw [if_neg c1] at h ⊢
  by_cases c2 : permitErr m ≠ 0
  · rw [if_pos c2] at h; exact absurd h c2
  rw [if_neg c2] at h ⊢
  by_cases c3 : at_ < 0 ∨ (l.length : Int) ≤ at_
  · rw [if_pos c3] at h; cases h
  rw [if_neg c3] at h ⊢
  have hm : 0 ≤ m.fuel ∧ m.fuel ≤ 2000 ∧ 0 ≤ m.room ∧ m.room ≤ 60 ∧ 0 ≤ m.hops ∧ m.hops ≤ 12 := by
    have c2' := Classical.not_not.1 c2
    unfold permitErr at c2'
    split at c2'
    · cases c2'
    · omega
  have c4 : permitErr { m with fuel := m.fuel + more } = 0 := by unfold permitErr; rw [if_neg (by simp only; omega)]
  rw [if_neg c1, if_neg (by rw [c4]; simp), if_neg c3]
  refine ⟨⟨hm.1, hm.2.1⟩, rfl, ?_⟩
  have lv := new_live (id := 0) hp (by omega) ⟨hm.1, hm.2.1⟩ ⟨hm.2.2.1, hm.2.2.2.1⟩ ⟨hm.2.2.2.2.1, hm.2.2.2.2.2⟩
  exact go_more (spots_ok (Classical.not_not.1 c1)) hu h0 (m.fuel.toNat + 1) lv (by omega) (by show m.fuel.toNat < _; omega) (by show m.fuel + more ≤ 2000; omega)
end VM
theorem zabr : eqsT 36 = true := by kernel_rfl
theorem zaet {α : Type} {l m : List α} (h : l <+: m) : m.take l.length = l := by
  obtain ⟨r, rfl⟩ := h
  simp
set_option maxRecDepth 20000 in
set_option maxHeartbeats 4000000 in
theorem zaad (l : List Spt) (p : Prg) (m : Pmt) (at_ more : Int) (ha : p.ok) (hl : l.length ≤ 4611686018427387903) (hfl : ∀ s ∈ l, s.facts.length ≤ 4611686018427387903) :
    QC Tryz.prog 3 [.ro (Ply l), .agg p.avs, .agg m.avs, .int .i64 at_, .int .i64 more] (.bool true) := by
  refine QC.of' fun H nx => ?_
  suffices main : ∀ Q : AV → Heap → Nat → Prop, (∀ H' n', Keep nx H' H → Q (.bool true) H' n') → za Tryz.prog 3 [.ro (Ply l), .agg p.avs, .agg m.avs, .int .i64 at_, .int .i64 more] H nx Q from main _ fun H' n' h => ⟨zaij, h⟩
  intro Q hQ
  refine zme _ _ _ _ _ H nx _ ?_
  have hsp : (AV.agg p.avs).sure = true := by simp [Prg.avs]
  have hsm : (AV.agg m.avs).sure = true := by simp [Pmt.avs]
  have pt : p.avs.take 2 = p.avs ∧ p.avs.length = 2 := ⟨rfl, rfl⟩
  have mav : m.avs = [.int .i64 m.fuel, .int .i64 m.room, .int .i64 m.hops] := rfl
  have hpl : (Ply l).length = l.length := by simp [Ply]
  simp only [zgv, puth]
  refine ⟨hsp, hsm, ?_⟩
  generalize hX : Heap.put _ (nx + 1) _ = X
  have x0 : X nx = some (.row 2 p.avs) := by rw [← hX, Heap.put_ne _ _ (by omega), Heap.put_at]; rfl
  have x1 : X (nx + 1) = some (.row 3 [.int .i64 m.fuel, .int .i64 m.room, .int .i64 m.hops]) := by rw [← hX, Heap.put_at]; rfl
  have xk : Keep nx X H := fun y hy => by rw [← hX]; repeat' first | rw [Heap.put_ne _ _ (by omega)] | rfl
  clear hX
  refine QC.call zagr ?_
  simp [zgw, x0, pt, hsp]
  refine QC.call (zaan p ha) ?_
  by_cases hp : VM.program p = 0
  case neg =>
    simp [zbe, hp]
    exact hQ _ _ xk
  by_cases h0 : more < 0
  · simp [zbe, hp, h0]
    exact hQ _ _ xk
  by_cases h1 : 2000 < more
  · simp [zbe, hp, h0, h1]
    exact hQ _ _ xk
  simp [zbe, hp, h0, h1, hpl]
  refine LP.mk (fun k xs H' n' => ∃ i : Nat, k = l.length - i ∧ i ≤ l.length ∧ xs = [.ro (Ply l), .int .i64 at_, .int .i64 more, .ptr nx 0, .ptr (nx + 1) 0, .ro (Ply l), .int .i64 l.length, .int .i64 i] ∧ nx + 2 ≤ n' ∧ (∀ y, y < nx + 2 → H' y = X y) ∧ ∀ s ∈ l.take i, 2000 ≤ s.fuel) l.length ⟨0, by omega, by omega, rfl, Nat.le_refl _, fun _ _ => rfl, by simp⟩ ?_
  rintro k xs H' n' ⟨i, rfl, hi, rfl, hn, hk, hu⟩
  by_cases hlt : i < l.length
  · have hadd : IntKind.i64.wrap ((i : Int) + 1) = ((i + 1 : Nat) : Int) := by rw [i64w (by omega)]; rfl
    have hg' : (Ply l)[i]'(by rw [hpl]; exact hlt) = l[i].avs := by simp [Ply]
    have ht : l.take (i + 1) = l.take i ++ [l[i]] := List.take_succ_eq_append_getElem hlt
    generalize l[i] = s at *
    have kp : ∀ o, ∀ y, y < nx + 2 → (H'.put n' o) y = X y := fun o y hy => by rw [Heap.put_ne _ _ (by omega)]; exact hk y hy
    by_cases c : s.fuel < 2000
    · simp [zcg, hlt, hpl, hg', Spt.avs, c]
      exact hQ _ _ fun y hy => (kp _ y (by omega)).trans (xk y hy)
    · simp [zcg, hlt, hpl, hg', Spt.avs, c, hadd]
      refine ⟨l.length - (i + 1), by omega, i + 1, by omega, by omega, rfl, by omega, fun y hy => by rw [if_neg (by omega), if_neg (by omega)]; exact hk y hy, fun t ht' => ?_⟩
      rw [ht] at ht'
      rcases List.mem_append.1 ht' with h | h
      · exact hu t h
      · simp at h; subst h; omega
  obtain rfl : i = l.length := by omega
  rw [List.take_length] at hu
  have z0 : H' nx = some (.row 2 p.avs) := (hk nx (by omega)).trans x0
  have z1 : H' (nx + 1) = some (.row 3 [.int .i64 m.fuel, .int .i64 m.room, .int .i64 m.hops]) := (hk (nx + 1) (by omega)).trans x1
  have zk : Keep nx H' H := fun y hy => (hk y (by omega)).trans (xk y hy)
  simp [zcg, z0, z1, pt, hsp]
  refine QC.call (zabx m l at_ hp (by omega) hfl) ?_
  have len := VM.alone_len p m l at_
  have fu := fun h => VM.alone_fuel (p := p) (m := m) (l := l) (at_ := at_) h
  have more' := fun h => VM.alone_more (p := p) (m := m) (l := l) (at_ := at_) (more := more) hp hu h (by omega)
  have rq := zabx { m with fuel := m.fuel + more } l at_ hp (by omega) hfl
  have len2 := VM.alone_len p { m with fuel := m.fuel + more } l at_
  generalize VM.alone p m l at_ = r at *
  generalize VM.alone p { m with fuel := m.fuel + more } l at_ = r2 at *
  have kp : ∀ o, Keep nx (H'.put n' o) H := fun o y hy => by rw [Heap.put_ne _ _ (by omega)]; exact zk y hy
  have m1 : ¬ nx + 1 = n' ∧ ¬ n' = nx + 1 ∧ ¬ nx = n' ∧ ¬ n' = nx := by omega
  by_cases he : r.2 = 0
  case neg =>
    simp [zch, runV, he]
    exact hQ _ _ (kp _)
  have hfu := fu he
  have hw : IntKind.i64.wrap (m.fuel + more) = m.fuel + more := i64w (by omega)
  by_cases c : 2000 < m.fuel + more
  · simp [zch, runV, he, z1, m1, hw, c]
    exact hQ _ _ (kp _)
  obtain ⟨_, he2, hor⟩ := more' he (by omega)
  simp [zch, runV, he, z0, z1, m1, hw, c, pt]
  refine QC.call rq ?_
  generalize hY : Heap.put _ (nx + 1) _ = Y
  have y1 : Y n' = some (.row 3 [.int .i64 0, .str r.1.2.1, .int .i64 r.1.2.2]) := by rw [← hY, Heap.put_ne _ _ (by omega), Heap.put_at]
  have yk : Keep nx Y H := fun y hy => by rw [← hY, Heap.put_ne _ _ (by omega), Heap.put_ne _ _ (by omega)]; exact zk y hy
  clear hY
  have yk2 : ∀ o, Keep nx (Y.put (n' + 1) o) H := fun o y hy => by rw [Heap.put_ne _ _ (by omega)]; exact yk y hy
  have hpre : r.1.1 <+: r2.1.1 := by
    rcases hor with h | h
    · exact h.2
    · rw [h]; exact List.prefix_refl _
  have hle := hpre.length_le
  have hle' : ¬ (r2.1.1.length : Int) < r.1.1.length := by omega
  have e1 : (r2.1.1.map fun w => [AV.str w]) = Txt r2.1.1 := rfl
  have e0 : (r.1.1.map fun w => [AV.str w]) = Txt r.1.1 := rfl
  have l1 : (Txt r2.1.1).length = r2.1.1.length := by simp [Txt]
  have l0 : (Txt r.1.1).length = r.1.1.length := by simp [Txt]
  have m2 : ¬ n' = n' + 1 ∧ ¬ n' + 1 = n' := by omega
  unfold runV
  rw [e1, e0]
  simp [zgx, he2, hle', l1, l0]
  refine zaey (fun x hx => by obtain ⟨w, _, rfl⟩ := List.mem_map.1 hx; rfl) (by rw [l1]; omega) ?_
  have e2 : (Txt r2.1.1).take r.1.1.length = Txt r.1.1 := by
    have := zaet hpre
    show (r2.1.1.map _).take _ = r.1.1.map _
    rw [← List.map_take, this]
  rw [e2]
  refine QC.call (zahr _ (by omega)) ?_
  rcases hor with h | h
  · simp [zci, y1, m2, h.1]
    exact hQ _ _ (yk2 _)
  · rw [h]
    have g := zabr
    by_cases h12 : r.1.2.2 = 12
    · simp [zci, y1, m2, h12]
      exact hQ _ _ (yk2 _)
    · simp [zci, y1, m2, h12, zabr]
      exact hQ _ _ (yk2 _)
end Go.Proofs.YtdmibdjokofclaaGreatDoor
set_option maxRecDepth 8000
namespace Go.Proofs.YtdmibdjokofclaaGreatDoor
open Go Go.RowKit
theorem LayE.of_var {n : String} {w : World} {t : TypeId} {p : Value} (h : w.var? Tryz.prog n = some #[.iface t p]) : LayE n (fun b => w.heap[b]?) := fun g hg => by
  unfold World.var? at h
  rw [hg, Option.bind_some] at h
  split at h
  · rename_i cs e m hc
    cases h
    exact ⟨_, _, e, m, hc⟩
  · cases h
theorem zzj : "*" ++ "errors.errorString" = "*errors.errorString" := by decide
theorem zabq (u : TypeId) (h : Tryz.prog.typeName? 3 u = some "*errors.errorString") : u = 186 :=
  typeName_ptr_named (nm := "errors.errorString") (by rw [zzj]; kernel_rfl) (by kernel_rfl) (by decide) u (by rw [zzj]; exact h)
theorem zadl {r : List (String × DataW Unit)} {text : List UInt8} {W : World} (h : laidMet Tryz.prog (("strconv.ErrRange", .iface "*errors.errorString" (.ptr (.agg [.lit (.string text)]))) :: r) W) : LayE "strconv.ErrRange" (fun b => W.heap[b]?) := by
  obtain ⟨a, s, h1, _⟩ := laid_sentinel (g := 2) (ti := 152) (tp := 186) (te := 188) (ts := 9) h (by kernel_rfl) (by kernel_rfl) Tryz.underlying152 zabq Tryz.underlying186 Tryz.underlying188 rfl rfl Tryz.underlying9 (by kernel_rfl) (by kernel_rfl)
  exact .of_var h1
theorem zaat {r : List (String × DataW Unit)} {text : List UInt8} {W : World} (h : laidMet Tryz.prog (("strconv.ErrSyntax", .iface "*errors.errorString" (.ptr (.agg [.lit (.string text)]))) :: r) W) : LayE "strconv.ErrSyntax" (fun b => W.heap[b]?) := by
  obtain ⟨a, s, h1, _⟩ := laid_sentinel (g := 1) (ti := 152) (tp := 186) (te := 188) (ts := 9) h (by kernel_rfl) (by kernel_rfl) Tryz.underlying152 zabq Tryz.underlying186 Tryz.underlying188 rfl rfl Tryz.underlying9 (by kernel_rfl) (by kernel_rfl)
  exact .of_var h1
end Go.Proofs.YtdmibdjokofclaaGreatDoor
