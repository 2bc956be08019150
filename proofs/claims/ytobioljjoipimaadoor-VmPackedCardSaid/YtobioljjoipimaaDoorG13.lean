/- Programs: what the document's function says is wrong with them. Agents: what the document's function says is wrong with one. Agents: what the document's function says is wrong with one, on. Agents: what the document's function says is wrong with one, whole. A copy; and which agents, at which places, may be. How great an agent is behind so many steps. VmTells, walked. The structs that laws are handed, read as data. Packed, it goes on the same: in plain words. Right agents, that go on or are away: what is asked of them, and how they pass into one another. What is right never gets stuck; who begins is right: in plain words. -/
import Derived.Test.YtobioljjoipimaaDoorG12
import Derived.Test.YtobioljjoipimaaDoorG6
import Derived.Test.YtobioljjoipimaaDoorG9
import Derived.Test.YtobioljjoipimaaDoorG7
set_option linter.unusedSimpArgs false
set_option linter.unusedVariables false
set_option maxRecDepth 8000
namespace Go.Proofs.YtobioljjoipimaaDoor
open Go Go.RowKit
def lm (p : Prg) (c : Cod) (i : Ins) : Int × Int :=
  if i.op = 1 then (-1073741824, 1073741824) else if i.op = 2 then (0, p.words.length - 1) else if i.op = 3 then (0, c.vars - 1) else if i.op = 4 then (0, c.vars - 1) else if i.op = 5 then (1, 5)
  else if i.op = 15 then (0, c.ins.length - 1) else if i.op = 16 then (0, c.ins.length - 1) else if i.op = 17 then (0, p.codes.length - 1) else (0, 0)
theorem zacz (p : Prg) (c : Cod) (i : Ins) (h1 : 1 ≤ i.op) (h2 : i.op ≤ 19) : VM.numbers p c i = if i.a < (lm p c i).1 ∨ (lm p c i).2 < i.a ∨ (i.op = 17 ∧ some i.b ≠ (p.codes[i.a.toNat]?).map (·.params)) ∨ (i.op ≠ 17 ∧ i.b ≠ 0) then 3 else 0 := by
  unfold VM.numbers
  rw [if_neg (by omega)]
  have : (VM.numOk p c i = false ∨ (i.op ≠ 17 ∧ i.b ≠ 0)) ↔ (i.a < (lm p c i).1 ∨ (lm p c i).2 < i.a ∨ (i.op = 17 ∧ some i.b ≠ (p.codes[i.a.toNat]?).map (·.params)) ∨ (i.op ≠ 17 ∧ i.b ≠ 0)) := by
    unfold VM.numOk lm VM.isIn
    by_cases h17 : i.op = 17
    · simp [h17]
      by_cases hb : some i.b = (p.codes[i.a.toNat]?).map (·.params)
      · simp [hb]; omega
      · simp [hb]
    · simp only [h17, if_false]
      (repeat' split) <;> simp_all <;> omega
  by_cases hq : VM.numOk p c i = false ∨ (i.op ≠ 17 ∧ i.b ≠ 0)
  · rw [if_pos hq, if_pos (this.1 hq)]
  · rw [if_neg hq, if_neg (fun h => hq (this.2 h))]
set_option maxHeartbeats 4000000 in
theorem zaac (p : Prg) (hp : p.ok) : QC Tryd.prog 82 [.agg p.avs] (.int .i64 (VM.program p)) := by
  refine QC.of' fun H nx => znk _ H nx _ ?_
  simp [ziw, Prg.avs]
  have hb0 : (H.put nx (some (.row 2 [.ro (p.codes.map Cod.avs), .ro (p.words.map fun w => [.str w])]))) nx = some (.row 2 p.avs) := by simp [Prg.avs]
  have hK0 : Keep nx (H.put nx (some (.row 2 [.ro (p.codes.map Cod.avs), .ro (p.words.map fun w => [.str w])]))) H := by simp
  generalize (H.put nx (some (.row 2 [.ro (p.codes.map Cod.avs), .ro (p.words.map fun w => [.str w])]))) = H1 at *
  refine ⟨fun h1 => by unfold VM.program; rw [if_pos (by rw [h1]; simp)], fun h1 => ?_⟩
  have hpos : 0 < p.codes.length := List.length_pos_iff.2 h1
  refine ⟨fun h2 => by unfold VM.program; rw [if_pos (by omega)], fun h2 => ⟨fun h3 => by unfold VM.program; rw [if_neg (by omega), if_pos (by omega)], fun h3 => ?_⟩⟩
  have e0 : VM.program p = if p.words.all VM.word = false then 7 else if (p.codes.getD 0 ⟨0, 0, []⟩).params ≠ 0 then 10 else if p.codes.any VM.codeRange then 3 else VM.firstErr (VM.codeErr p) p.codes := by
    unfold VM.program; rw [if_neg (by omega), if_neg (by omega)]
  obtain ⟨c0, hc0⟩ : ∃ c0, p.codes[0]? = some c0 := ⟨p.codes[0]'(by omega), List.getElem?_eq_getElem _⟩
  refine LP.mk (fun m xs H' nx' => ∃ i : Nat, i ≤ p.words.length ∧ m = p.words.length - i ∧ xs = [.ptr nx 0, .ro (p.words.map fun w => [.str w]), .int .i64 p.words.length, .int .i64 i] ∧ H1 = H' ∧ nx + 1 = nx' ∧ p.words.all VM.word = (p.words.drop i).all VM.word) p.words.length
    ⟨0, by omega, by omega, by simp, rfl, rfl, rfl⟩ ?_
  rintro m xs H' nx' ⟨i, hi, rfl, rfl, rfl, rfl, hall⟩
  by_cases hlt : i < p.words.length
  · obtain ⟨w, hw⟩ : ∃ w, p.words[i]? = some w := ⟨_, List.getElem?_eq_getElem hlt⟩
    obtain ⟨_, hw'⟩ := List.getElem?_eq_some_iff.1 hw
    rw [zaji _ _ _ _ hw] at hall
    simp [zem, hlt, hw']
    refine QC.call (zahd w (hp w (List.mem_of_getElem? hw))) ?_
    simp [ziy]
    cases hx : VM.word w
    · rw [hx] at hall
      simp [hK0]
      rw [e0, hall]; rfl
    · rw [hx] at hall
      simp
      rw [i64w (by omega)]
      exact ⟨p.words.length - (i + 1), by omega, i + 1, by omega, rfl, rfl, by simpa using hall⟩
  obtain rfl : i = p.words.length := by omega
  have hall' : p.words.all VM.word = true := by rw [hall]; simp
  rw [hall'] at e0
  simp only [Bool.true_eq_false, if_false] at e0
  obtain ⟨_, hc0'⟩ := List.getElem?_eq_some_iff.1 hc0
  have h01 : 0 < p.codes.length := by omega
  simp [zem, hb0, Prg.avs, hc0', Cod.avs, h01]
  have hcg : p.codes.getD 0 ⟨0, 0, []⟩ = c0 := by simp [List.getD_eq_getElem?_getD, hc0]
  rw [hcg] at e0
  refine ⟨fun h4 => ⟨by rw [e0, if_pos h4], hK0⟩, fun h4 => ?_⟩
  rw [if_neg (by simpa using h4)] at e0
  refine LP.mk (fun m xs H' nx' => ∃ i : Nat, i ≤ p.codes.length ∧ m = p.codes.length - i ∧ xs = [.ptr nx 0, .ro (p.codes.map Cod.avs), .int .i64 p.codes.length, .int .i64 i] ∧ H' nx = some (.row 2 p.avs) ∧ Keep nx H' H ∧ nx < nx' ∧ p.codes.any VM.codeRange = (p.codes.drop i).any VM.codeRange) p.codes.length
    ⟨0, by omega, by omega, by simp, hb0, hK0, by omega, rfl⟩ ?_
  rintro m xs H2 n2 ⟨i, hi, rfl, rfl, hb2, hK2, hn2, hany⟩
  have hne2 : nx ≠ n2 := by omega
  by_cases hlt : i < p.codes.length
  · obtain ⟨c, hc⟩ : ∃ c, p.codes[i]? = some c := ⟨_, List.getElem?_eq_getElem hlt⟩
    obtain ⟨_, hc'⟩ := List.getElem?_eq_some_iff.1 hc
    rw [zajh _ _ _ _ hc] at hany
    have hK3 : Keep nx (H2.put n2 (some (.row 3 [.int .i64 c.params, .int .i64 c.vars, .ro (c.ins.map Ins.avs)]))) H := by rw [Keep.put (by omega)]; exact hK2
    simp [zen, hlt, hc', Cod.avs, hK3]
    have w0 : IntKind.i64.wrap ((i : Int) + 1) = (i : Int) + 1 := i64w (by omega)
    rw [w0]
    cases hx : VM.codeRange c
    · have hx' := hx
      unfold VM.codeRange at hx'
      rw [decide_eq_false_iff_not] at hx'
      rw [hx] at hany
      refine ⟨fun _ => by omega, fun _ => ⟨fun _ => by omega, fun _ => ⟨fun _ => by omega, fun _ => ⟨fun _ => by omega, fun _ => ⟨fun he => ?_, fun _ => ⟨fun _ => by omega, fun _ => ?_⟩⟩⟩⟩⟩⟩
      · exfalso; rw [he] at hx'; simp at hx'
      · exact ⟨p.codes.length - (i + 1), by omega, i + 1, by omega, rfl, rfl, by rw [if_neg hne2, if_neg hne2]; exact hb2, by omega, by simpa using hany⟩
    · have hx' := hx
      unfold VM.codeRange at hx'
      rw [decide_eq_true_eq] at hx'
      rw [hx, Bool.true_or] at hany
      rw [hany] at e0
      simp only [if_true] at e0
      rw [e0]
      simp only [← List.length_eq_zero_iff]
      repeat' first | apply And.intro | intro _
      all_goals first | rfl | trivial | (exfalso; omega)
  obtain rfl : i = p.codes.length := by omega
  have hany' : p.codes.any VM.codeRange = false := by rw [hany]; simp
  rw [hany'] at e0
  simp only [Bool.false_eq_true, if_false] at e0
  simp [zen, hb2, Prg.avs]
  have hr : ∀ x ∈ p.codes, VM.codeRange x = false := by simpa using hany'
  clear hany hany' hall hall' hlt hi
  refine LP.mk (fun m xs H' nx' => ∃ i : Nat, i ≤ p.codes.length ∧ m = p.codes.length - i ∧ xs = [.ptr nx 0, .ro (p.codes.map Cod.avs), .int .i64 p.codes.length, .int .i64 i] ∧ H' nx = some (.row 2 p.avs) ∧ Keep nx H' H ∧ nx < nx' ∧ VM.program p = VM.firstErr (VM.codeErr p) (p.codes.drop i)) p.codes.length
    ⟨0, by omega, by omega, by simp, hb2, hK2, by omega, by simpa using e0⟩ ?_
  clear hb2 hK2 hn2 hne2
  clear H2 n2
  rintro m xs H2 n2 ⟨k, hk, rfl, rfl, hb2, hK2, hn2, hfe⟩
  by_cases hlt : k < p.codes.length
  case neg =>
    obtain rfl : k = p.codes.length := by omega
    simp [zeo, hK2]
    rw [hfe]; simp [VM.firstErr]
  obtain ⟨c, hc⟩ : ∃ c, p.codes[k]? = some c := ⟨_, List.getElem?_eq_getElem hlt⟩
  obtain ⟨_, hc'⟩ := List.getElem?_eq_some_iff.1 hc
  have hcr := hr c (List.mem_of_getElem? hc)
  have hlen : c.ins.length ≤ 200 := by
    unfold VM.codeRange at hcr
    rw [decide_eq_false_iff_not] at hcr
    omega
  have hvars : 0 ≤ c.vars ∧ c.vars ≤ 8 := by
    unfold VM.codeRange at hcr
    rw [decide_eq_false_iff_not] at hcr
    omega
  rw [zdf _ _ _ _ hc] at hfe
  have hne2 : nx ≠ n2 := by omega
  simp [zeo, hb2, Prg.avs, hlt, hc', Cod.avs]
  refine LP.mk (fun m xs H' nx' => ∃ j : Nat, j ≤ c.ins.length ∧ m = c.ins.length - j ∧ xs = [.ptr nx 0, .ptr n2 0, .ro (p.codes.map Cod.avs), .int .i64 p.codes.length, .int .i64 k, .ro (c.ins.map Ins.avs), .int .i64 c.ins.length, .int .i64 j] ∧ H' nx = some (.row 2 p.avs) ∧ H' n2 = some (.row 3 c.avs) ∧ Keep nx H' H ∧ n2 < nx' ∧ VM.firstErr (VM.numbers p c) c.ins = VM.firstErr (VM.numbers p c) (c.ins.drop j)) c.ins.length
    ⟨0, by omega, by omega, by simp, by rw [Heap.put_ne _ _ hne2]; exact hb2, by rw [Heap.put_at]; rfl, by rw [Keep.put (by omega)]; exact hK2, by omega, by simp⟩ ?_
  rintro m xs H3 n3 ⟨j, hj, rfl, rfl, hb3, hc3, hK3, hn3, hfj⟩
  have hne : nx ≠ n3 := by omega
  have hne' : n2 ≠ n3 := by omega
  by_cases hjl : j < c.ins.length
  · obtain ⟨i, hi⟩ : ∃ i, c.ins[j]? = some i := ⟨_, List.getElem?_eq_getElem hjl⟩
    obtain ⟨_, hi'⟩ := List.getElem?_eq_some_iff.1 hi
    rw [zdf _ _ _ _ hi] at hfj
    have hK4 : Keep nx (H3.put n3 (some (.row 3 [.int .i64 i.op, .int .i64 i.a, .int .i64 i.b]))) H := by rw [Keep.put (by omega)]; exact hK3
    have hb4 : (H3.put n3 (some (.row 3 [.int .i64 i.op, .int .i64 i.a, .int .i64 i.b]))) nx = some (.row 2 p.avs) := by rw [Heap.put_ne _ _ hne]; exact hb3
    have hc4 : (H3.put n3 (some (.row 3 [.int .i64 i.op, .int .i64 i.a, .int .i64 i.b]))) n2 = some (.row 3 c.avs) := by rw [Heap.put_ne _ _ hne']; exact hc3
    have hi4 : (H3.put n3 (some (.row 3 [.int .i64 i.op, .int .i64 i.a, .int .i64 i.b]))) n3 = some (.row 3 [.int .i64 i.op, .int .i64 i.a, .int .i64 i.b]) := by rw [Heap.put_at]
    simp [zep, hjl, hi', Ins.avs]
    generalize (H3.put n3 (some (.row 3 [.int .i64 i.op, .int .i64 i.a, .int .i64 i.b]))) = H4 at *
    have hbad : VM.numbers p c i ≠ 0 → VM.program p = VM.numbers p c i := by
      intro hz
      rw [if_pos hz] at hfj
      have : VM.codeErr p c = VM.numbers p c i := by unfold VM.codeErr; rw [hfj, if_pos hz]
      rw [hfe, this, if_pos hz]
    refine ⟨fun ho => ?_, fun ho1 => ⟨fun ho => ?_, fun ho2 => ?_⟩⟩
    · have e : VM.numbers p c i = 1 := by unfold VM.numbers; rw [if_pos (by omega)]
      exact ⟨by rw [hbad (by omega), e], hK4⟩
    · have e : VM.numbers p c i = 1 := by unfold VM.numbers; rw [if_pos (by omega)]
      exact ⟨by rw [hbad (by omega), e], hK4⟩
    refine JN.cut (fun xs H' nx' => xs = [.ptr nx 0, .ptr n2 0, .ptr n3 0, .int .i64 (lm p c i).1, .int .i64 (lm p c i).2, .ro (p.codes.map Cod.avs), .int .i64 p.codes.length, .int .i64 k, .ro (c.ins.map Ins.avs), .int .i64 c.ins.length, .int .i64 j] ∧ H4 = H' ∧ n3 + 1 = nx') ?_ ?_
    · rintro xs H' nx' ⟨rfl, rfl, rfl⟩
      have hnl := zacz p c i ho1 ho2
      have hgo : VM.numbers p c i = 0 → ∃ m, m < c.ins.length - j ∧ ∃ j', j' ≤ c.ins.length ∧ m = c.ins.length - j' ∧ (j : Int) + 1 = j' ∧ H4 nx = some (.row 2 p.avs) ∧ H4 n2 = some (.row 3 c.avs) ∧ Keep nx H4 H ∧ n2 < n3 + 1 ∧ VM.firstErr (VM.numbers p c) c.ins = VM.firstErr (VM.numbers p c) (List.drop j' c.ins) := by
        intro hz
        rw [if_neg (by simpa using hz)] at hfj
        exact ⟨c.ins.length - (j + 1), by omega, j + 1, by omega, rfl, rfl, hb4, hc4, hK4, by omega, hfj⟩
      have w0 : IntKind.i64.wrap ((j : Int) + 1) = (j : Int) + 1 := i64w (by omega)
      have hbad3 : VM.numbers p c i = 3 → VM.program p = 3 := fun hz => by rw [hbad (by omega), hz]
      by_cases h17 : i.op = 17
      · have hl1 : (lm p c i).1 = 0 := by simp [lm, h17]
        have hl2 : (lm p c i).2 = (p.codes.length : Int) - 1 := by simp [lm, h17]
        simp [zeq, hi4, hb4, Prg.avs, w0, h17]
        rw [hl1, hl2] at hnl ⊢
        refine ⟨fun ha => ⟨hbad3 (by rw [hnl, if_pos (.inl ha)]), hK4⟩, fun ha => ⟨fun hb => ⟨hbad3 (by rw [hnl, if_pos (.inr (.inl hb))]), hK4⟩, fun hb => ⟨ha, by omega, zakd (by omega) fun x hx => ?_⟩⟩⟩
        simp [Cod.avs]
        refine ⟨fun hp' => ⟨hbad3 (by rw [hnl, if_pos (.inr (.inr (.inl ⟨h17, by rw [hx]; simpa using hp'⟩)))]), hK4⟩, fun hp' => ?_⟩
        have hz : VM.numbers p c i = 0 := by rw [hnl, if_neg (by rw [hx]; simp [hp', h17]; omega)]
        have := hgo hz
        simpa [hb4, Prg.avs, Cod.avs] using this
      · simp [zeq, hi4, hb4, Prg.avs, w0, h17]
        refine ⟨fun ha => ⟨hbad3 (by rw [hnl, if_pos (.inl ha)]), hK4⟩, fun ha => ⟨fun hb => ⟨hbad3 (by rw [hnl, if_pos (.inr (.inl hb))]), hK4⟩, fun hb => ⟨fun hp' => ⟨hbad3 (by rw [hnl, if_pos (.inr (.inr (.inr ⟨h17, hp'⟩)))]), hK4⟩, fun hp' => ?_⟩⟩⟩
        have hz : VM.numbers p c i = 0 := by rw [hnl, if_neg (by simp [hp', h17]; omega)]
        have := hgo hz
        simpa [hb4, Prg.avs] using this
    · have q1 : IntKind.i64.wrap ((p.words.length : Int) - 1) = (p.words.length : Int) - 1 := i64w (by omega)
      have q2 : IntKind.i64.wrap (c.vars - 1) = c.vars - 1 := i64w (by omega)
      have q3 : IntKind.i64.wrap ((c.ins.length : Int) - 1) = (c.ins.length : Int) - 1 := i64w (by omega)
      have q4 : IntKind.i64.wrap ((p.codes.length : Int) - 1) = (p.codes.length : Int) - 1 := i64w (by omega)
      simp [ziz, hb4, hc4, Prg.avs, Cod.avs, q1, q2, q3, q4]
      repeat' first | apply And.intro | intro _
      all_goals simp [lm, *]
  obtain rfl : j = c.ins.length := by omega
  have hz : VM.firstErr (VM.numbers p c) c.ins = 0 := by rw [hfj]; simp [VM.firstErr]
  have hce : VM.codeErr p c = (VM.heights c.ins).2 := by unfold VM.codeErr; rw [if_neg (by simpa using hz)]
  rw [hce] at hfe
  simp [zep, hb3, hc3, Prg.avs, hlt, hc', Cod.avs]
  refine QC.call (zsk c (by omega) (zabm hr (zbd hz))) ?_
  simp [zix]
  refine ⟨fun h0 => ⟨?_, hK3⟩, fun h0 => ?_⟩
  · rw [if_pos h0] at hfe; exact hfe
  · rw [if_neg (by simpa using h0)] at hfe
    rw [i64w (by omega)]
    exact ⟨p.codes.length - (k + 1), by omega, k + 1, by omega, rfl, rfl, hb3, hK3, by omega, hfe⟩
end Go.Proofs.YtobioljjoipimaaDoor
set_option maxRecDepth 8000
namespace Go.Proofs.YtobioljjoipimaaDoor
open Go Go.RowKit
def fl (l : List Val) : List AV := (l.map Val.avs).flatten
theorem zabi (v : Val) (l : List Val) : fl (v :: l) = v.avs ++ fl l := rfl
theorem zafj (l m : List Val) : fl (l ++ m) = fl l ++ fl m := by simp [fl]
theorem zyz (l : List Val) : (fl l).length = l.length * 3 := by
  induction l with
  | nil => rfl
  | cons v r ih => rw [zabi, List.length_append, ih, zabq, List.length_cons]; omega
theorem zafi (l : List Val) : ∀ x ∈ fl l, x.one = true := by
  intro x hx
  simp [fl] at hx
  obtain ⟨_, ⟨v, _, rfl⟩, h⟩ := hx
  unfold Val.avs at h
  simp at h
  rcases h with rfl | rfl | rfl <;> rfl
theorem zamp (l : List Val) (j : Nat) (v : Val) (h : l[j]? = some v) : ((fl l).drop (j * 3)).take 3 = v.avs := by
  induction l generalizing j with
  | nil => simp at h
  | cons w r ih =>
    cases j with
    | zero => simp at h; subst h; rfl
    | succ j =>
      rw [zabi, List.drop_append, List.drop_of_length_le (by simp; omega), zabq, show (j + 1) * 3 - 3 = j * 3 by omega, List.nil_append]
      exact ih j (by simpa using h)
set_option maxHeartbeats 4000000 in
theorem zsl (a : Agt) (k : Nat) (f : Frm) (hv : Int) (away : Bool) (r1 r2 : AV) (H H0 : Heap) (nx n0 g b0 : Nat) (K : J3) (R : Int) (hg : H g = some (.row 9 a.avs)) (hgn : g < nx) (hb : H b0 = some (.row 4 f.avs)) (hbn : b0 < nx) (hn0 : n0 ≤ nx) (hK : Keep n0 H H0) (hvl : f.vars.length ≤ 8) (hb16 : hv ≤ 16) (hk12 : k ≤ 12)
    (hbad : zci a f.vars f.stack hv ≠ 0 → R = zci a f.vars f.stack hv)
    (hgo : zci a f.vars f.stack hv = 0 → ∀ H' nx', H' g = some (.row 9 a.avs) → Keep n0 H' H0 → nx ≤ nx' → K [.bool away, .ptr g 0, r1, r2, .int .i64 (k + 1)] H' nx') :
    zaz (fun v H' _ => Frz H' n0 v (.int .i64 R) ∧ Keep n0 H' H0) K [.bool away, .ptr g 0, .ptr b0 0, .int .i64 hv, r1, r2, .int .i64 k] H nx := by
  by_cases h1 : hv < 0 ∨ (f.stack.length : Int) ≠ hv
  · have e : zci a f.vars f.stack hv = 10 := by unfold zci; rw [if_pos h1]
    have hR := hbad (by omega)
    rw [hR, e]
    by_cases h2 : hv < 0
    · simp [zaz, h2, hK]
    · have h3 : ¬ hv = (f.stack.length : Int) := by omega
      simp [zaz, h2, h3, hK, hb, Frm.avs]
  have e : zci a f.vars f.stack hv = VM.firstErr (fun v => VM.wrong v a.heap.length) (f.vars ++ f.stack) := by unfold zci; rw [if_neg h1]
  rw [e] at hbad hgo
  have h2 : ¬ hv < 0 := by omega
  have h3 : hv = (f.stack.length : Int) := by omega
  have n1' : b0 ≠ nx := by omega
  have n2' : b0 ≠ nx + 1 := by omega
  have hs1 : ∀ H : Heap, zi 3 H (.ro (f.vars.map Val.avs)) = some (f.vars.length, fl f.vars, []) := fun H => by rw [zqf (by simp)]; simp [fl]
  have hs2 : ∀ H : Heap, zi 3 H (.ro (f.stack.map Val.avs)) = some (f.stack.length, fl f.stack, []) := fun H => by rw [zqf (by simp)]; simp [fl]
  simp [zaz, h2, h3, hb, Frm.avs, n1', n2', -zqf, hs1, hs2]
  have htk : List.take (f.vars.length * 3) (fl f.vars) = fl f.vars := List.take_of_length_le (by rw [zyz]; omega)
  rw [htk, ← zafj]
  refine ⟨fun h => by omega, zafi _, by omega, zafi _, by rw [zyz]; omega, by omega, by omega, by omega, ?_⟩
  have hll : (f.vars ++ f.stack).length = f.vars.length + f.stack.length := by simp
  generalize f.vars ++ f.stack = l at *
  refine LP.mk (fun m xs H' nx' => ∃ (j : Nat), j ≤ l.length ∧ m = l.length - j ∧ xs = [.bool away, .ptr g 0, r1, r2, .int .i64 k, .slc (nx + 1 + 1) 0 l.length, .int .i64 l.length, .int .i64 j] ∧ H' (nx + 1 + 1) = some (.row 3 (fl l)) ∧ H' g = some (.row 9 a.avs) ∧ Keep n0 H' H0 ∧ nx + 2 < nx' ∧
    VM.firstErr (fun v => VM.wrong v a.heap.length) l = VM.firstErr (fun v => VM.wrong v a.heap.length) (l.drop j)) l.length
    ⟨0, by omega, by omega, by simp [hll], by simp, ?_, ?_, by omega, rfl⟩ ?_
  · rw [Heap.put_ne _ _ (by omega), Heap.put_ne _ _ (by omega), Heap.put_ne _ _ (by omega)]; exact hg
  · rw [Keep.put (by omega), Keep.put (by omega), Keep.put (by omega)]; exact hK
  rintro m xs H2 n2 ⟨j, hj, rfl, rfl, hb2, hg2, hK2, hn2, hfj⟩
  by_cases hjl : j < l.length
  · obtain ⟨v, hv'⟩ : ∃ v, l[j]? = some v := ⟨_, List.getElem?_eq_getElem hjl⟩
    have m1 : g ≠ n2 := by omega
    have m2 : nx + 1 + 1 ≠ n2 := by omega
    have hfa := zamp l j v hv'
    have hlen3 : j * 3 + 3 ≤ (fl l).length := by rw [zyz]; omega
    simp only [Val.avs] at hfa
    simp [zge, hjl, hb2, hfa, hg2, m1, Agt.avs, hlen3]
    refine QC.call (zlw v _) ?_
    simp [zls]
    rw [zdf _ _ _ _ hv'] at hfj
    have hK3 : Keep n0 (H2.put n2 (some (.row 3 [.int .i64 v.kind, .int .i64 v.n, .str v.text]))) H0 := by rw [Keep.put (by omega)]; exact hK2
    refine ⟨fun hz => ⟨?_, hK3⟩, fun hz => ?_⟩
    · rw [if_pos hz] at hfj
      rw [hbad (by rw [hfj]; exact hz), hfj]
    · rw [if_neg (by simpa using hz)] at hfj
      rw [i64w (by omega)]
      exact ⟨l.length - (j + 1), by omega, j + 1, by omega, rfl, rfl, by rw [if_neg m2]; exact hb2, by rw [if_neg m1]; exact hg2, hK3, by omega, hfj⟩
  obtain rfl : j = l.length := by omega
  have hz : VM.firstErr (fun v => VM.wrong v a.heap.length) l = 0 := by rw [hfj]; simp [VM.firstErr]
  simp [zge]
  rw [i64w (by omega)]
  exact hgo hz _ _ hg2 hK2 (by omega)
end Go.Proofs.YtobioljjoipimaaDoor
set_option maxRecDepth 8000
namespace Go.Proofs.YtobioljjoipimaaDoor
open Go Go.RowKit
set_option maxHeartbeats 4000000 in
theorem zaaj (a : Agt) (k : Nat) (away : Bool) (H H0 : Heap) (nx n0 g : Nat) (K : J3) (R : Int) (hg : H g = some (.row 9 a.avs)) (hgn : g < nx) (hn0 : n0 ≤ nx) (hK : Keep n0 H H0) (hk : k < a.frames.length) (hl : a.frames.length ≤ 12) (hp : VM.program a.prog = 0)
    (hbad : VM.frame a k away ≠ 0 → R = VM.frame a k away)
    (hgo : VM.frame a k away = 0 → ∀ H' nx', H' g = some (.row 9 a.avs) → Keep n0 H' H0 → nx ≤ nx' → K [.bool away, .ptr g 0, .ro (a.frames.map Frm.avs), .int .i64 a.frames.length, .int .i64 (k + 1)] H' nx') :
    zan (fun v H' _ => Frz H' n0 v (.int .i64 R) ∧ Keep n0 H' H0) K [.bool away, .ptr g 0, .ro (a.frames.map Frm.avs), .int .i64 a.frames.length, .int .i64 k] H nx := by
  obtain ⟨f, hf⟩ : ∃ f, a.frames[k]? = some f := ⟨_, List.getElem?_eq_getElem hk⟩
  obtain ⟨_, hf'⟩ := List.getElem?_eq_some_iff.1 hf
  obtain ⟨fn, at_, vs, st⟩ := f
  have hgx : g ≠ nx := by omega
  have hgx1 : g ≠ nx + 1 := by omega
  have hKf : ∀ o, Keep n0 (H.put nx o) H0 := fun o => by rw [Keep.put (by omega)]; exact hK
  have hKf2 : ∀ o o', Keep n0 ((H.put nx o).put (nx + 1) o') H0 := fun o o' => by rw [Keep.put (by omega), Keep.put (by omega)]; exact hK
  by_cases h1 : 0 ≤ fn ∧ fn < a.prog.codes.length
  case neg =>
    have e : VM.frame a k away = 3 := by
      unfold VM.frame
      rw [hf]
      have : (if 0 ≤ fn then a.prog.codes[fn.toNat]? else none) = none := by
        split
        · exact List.getElem?_eq_none (by omega)
        · rfl
      simp only [this]
    have hR := hbad (by omega)
    rw [hR, e]
    by_cases h0 : fn < 0
    · simp [zan, hg, Agt.avs, hk, hf', Frm.avs, h0, hKf]
    · have : (a.prog.codes.length : Int) ≤ fn := by omega
      simp [zan, hg, Agt.avs, hk, hf', Frm.avs, h0, this, hKf, hgx]
  obtain ⟨h10, h11⟩ := h1
  obtain ⟨n, rfl⟩ : ∃ n : Nat, fn = n := ⟨fn.toNat, by omega⟩
  have hnl : n < a.prog.codes.length := by omega
  obtain ⟨c, hc⟩ : ∃ c, a.prog.codes[n]? = some c := ⟨_, List.getElem?_eq_getElem hnl⟩
  obtain ⟨_, hc'⟩ := List.getElem?_eq_some_iff.1 hc
  obtain ⟨hcr, hcalm, hch⟩ := (zw hp).1 c (List.mem_of_getElem? hc)
  have hcr' : ¬ (c.params < 0 ∨ 4 < c.params ∨ c.vars < c.params ∨ 8 < c.vars ∨ c.ins.length < 1 ∨ 200 < c.ins.length) := by
    unfold VM.codeRange at hcr
    rwa [decide_eq_false_iff_not] at hcr
  have hnn : ¬ (a.prog.codes.length ≤ n) := by omega
  have hn0' : ¬ ((n : Int) < 0) := by omega
  by_cases h2 : (0 ≤ at_ ∧ at_ < c.ins.length) ∧ (vs.length : Int) = c.vars
  case neg =>
    have e : VM.frame a k away = 3 := by
      unfold VM.frame
      rw [hf]
      simp only [Int.toNat_natCast]
      rw [if_pos (by omega), hc]
      simp only
      by_cases hat : 0 ≤ at_ ∧ at_ < c.ins.length
      · rw [if_pos hat.1, List.getElem?_eq_getElem (by omega)]
        simp only
        rw [if_pos (by omega)]
      · have : (if 0 ≤ at_ then c.ins[at_.toNat]? else none) = none := by
          split
          · exact List.getElem?_eq_none (by omega)
          · rfl
        simp only [this]
    have hR := hbad (by omega)
    rw [hR, e]
    by_cases h0 : at_ < 0
    · simp [zan, hg, Agt.avs, hk, hf', Frm.avs, hn0', hnn, hnl, hc', h0, Cod.avs, hKf, hKf2, hgx, hgx1]
    · by_cases h3 : (c.ins.length : Int) ≤ at_
      · simp [zan, hg, Agt.avs, hk, hf', Frm.avs, hn0', hnn, hnl, hc', h0, h3, Cod.avs, hKf, hKf2, hgx, hgx1]
      · have h4 : ¬ (vs.length : Int) = c.vars := by omega
        simp [zan, hg, Agt.avs, hk, hf', Frm.avs, hn0', hnn, hnl, hc', h0, h3, h4, Cod.avs, hKf, hKf2, hgx, hgx1]
  obtain ⟨⟨h20, h21⟩, h22⟩ := h2
  obtain ⟨m, rfl⟩ : ∃ m : Nat, at_ = m := ⟨at_.toNat, by omega⟩
  have hml : m < c.ins.length := by omega
  have hm0' : ¬ ((m : Int) < 0) := by omega
  obtain ⟨hhl, hhb⟩ := zcm hcalm hch
  obtain ⟨h, hh⟩ : ∃ h, (VM.heights c.ins).1[m]? = some h := ⟨_, List.getElem?_eq_getElem (by omega)⟩
  obtain ⟨hm1, hh'⟩ := List.getElem?_eq_some_iff.1 hh
  have hhb' := hhb h (List.mem_of_getElem? hh)
  have hfe := zaib (away := away) hf hc hml h22 rfl hh
  have hnm : ¬ (c.ins.length ≤ m) := by omega
  simp [zan, hg, Agt.avs, hk, hf', Frm.avs, hn0', hnn, hnl, hc', h22, Cod.avs, hm0', hml, hnm, hgx, hgx1]
  refine QC.call (zsk c (by omega) hcalm) ?_
  have hg2 : ((H.put nx (some (.row 4 [.int .i64 n, .int .i64 m, .ro (vs.map Val.avs), .ro (st.map Val.avs)]))).put (nx + 1) (some (.row 3 [.int .i64 c.params, .int .i64 c.vars, .ro (c.ins.map Ins.avs)]))) g = some (.row 9 a.avs) := by rw [Heap.put_ne _ _ hgx1, Heap.put_ne _ _ hgx]; exact hg
  have hf2 : ((H.put nx (some (.row 4 [.int .i64 n, .int .i64 m, .ro (vs.map Val.avs), .ro (st.map Val.avs)]))).put (nx + 1) (some (.row 3 [.int .i64 c.params, .int .i64 c.vars, .ro (c.ins.map Ins.avs)]))) nx = some (.row 4 [.int .i64 n, .int .i64 m, .ro (vs.map Val.avs), .ro (st.map Val.avs)]) := by rw [Heap.put_ne _ _ (by omega), Heap.put_at]
  have hc2 : ((H.put nx (some (.row 4 [.int .i64 n, .int .i64 m, .ro (vs.map Val.avs), .ro (st.map Val.avs)]))).put (nx + 1) (some (.row 3 [.int .i64 c.params, .int .i64 c.vars, .ro (c.ins.map Ins.avs)]))) (nx + 1) = some (.row 3 [.int .i64 c.params, .int .i64 c.vars, .ro (c.ins.map Ins.avs)]) := Heap.put_at _ _ _
  have hK2 := hKf2 (some (.row 4 [.int .i64 n, .int .i64 m, .ro (vs.map Val.avs), .ro (st.map Val.avs)])) (some (.row 3 [.int .i64 c.params, .int .i64 c.vars, .ro (c.ins.map Ins.avs)]))
  generalize ((H.put nx (some (.row 4 [.int .i64 n, .int .i64 m, .ro (vs.map Val.avs), .ro (st.map Val.avs)]))).put (nx + 1) (some (.row 3 [.int .i64 c.params, .int .i64 c.vars, .ro (c.ins.map Ins.avs)]))) = H1 at *
  have w1 : IntKind.i64.wrap ((a.frames.length : Int) - 1) = (a.frames.length : Int) - 1 := i64w (by omega)
  have hvl : vs.length ≤ 8 := by omega
  simp [zlr, hf2, hm1, hh', hg2, Agt.avs, w1]
  refine JN.same ?_
  simp [zlt]
  refine JN.same ?_
  have key : zbq (fun v H' _ => Frz H' n0 v (.int .i64 R) ∧ Keep n0 H' H0) (zaz (fun v H' _ => Frz H' n0 v (.int .i64 R) ∧ Keep n0 H' H0) K)
      [.bool away, .ptr g 0, .int .i64 k, .ptr nx 0, .ptr (nx + 1) 0, .ro ((VM.heights c.ins).1.map fun n => [.int .i64 n]), .int .i64 h, .bool (decide (k + 1 = a.frames.length)), .ro (a.frames.map Frm.avs), .int .i64 a.frames.length, .int .i64 k, .bool (!decide (k + 1 = a.frames.length) || away)] H1 (nx + 2) := by
    cases hw : (!decide (k + 1 = a.frames.length) || away)
    · rw [hw] at hfe
      simp only [Bool.false_and, Bool.false_eq_true, if_false] at hfe
      rw [hfe] at hbad hgo
      simp [zbq]
      exact zsl a k ⟨n, m, vs, st⟩ h away _ _ H1 H0 (nx + 2) n0 g nx K R hg2 (by omega) hf2 (by omega) (by omega) hK2 hvl hhb'.2 (by omega) hbad fun h0 H' nx' q1 q2 q3 => hgo h0 H' nx' q1 q2 (by omega)
    rw [hw] at hfe
    simp only [Bool.true_and, if_true] at hfe
    cases m with
    | zero =>
      have e10 : VM.frame a k away = 10 := by rw [hfe]; simp
      have hR := hbad (by omega)
      rw [hR, e10]
      have w2 : IntKind.i64.wrap (h - 1) = h - 1 := i64w (by omega)
      simp [zbq, hf2, hK2]
    | succ m =>
    have h00 : ¬ ((m : Int) + 1 = 0) := by omega
    have w2 : IntKind.i64.wrap (h - 1) = h - 1 := i64w (by omega)
    have w3 : IntKind.i64.wrap (m : Int) = m := i64w (by omega)
    have hml' : m < c.ins.length := by omega
    obtain ⟨i, hi⟩ : ∃ i, c.ins[m]? = some i := ⟨_, List.getElem?_eq_getElem hml'⟩
    obtain ⟨_, hi'⟩ := List.getElem?_eq_some_iff.1 hi
    obtain ⟨q, hq⟩ : ∃ q, (VM.heights c.ins).1[m]? = some q := ⟨_, List.getElem?_eq_getElem (by omega)⟩
    obtain ⟨hqm, hq'⟩ := List.getElem?_eq_some_iff.1 hq
    have z1 : nx ≠ nx + 2 := by omega
    have z2 : nx + 1 ≠ nx + 2 := by omega
    have z3 : g ≠ nx + 2 := by omega
    have hg3 : (H1.put (nx + 2) (some (.row 3 [.int .i64 i.op, .int .i64 i.a, .int .i64 i.b]))) g = some (.row 9 a.avs) := by rw [Heap.put_ne _ _ z3]; exact hg2
    have hf3 : (H1.put (nx + 2) (some (.row 3 [.int .i64 i.op, .int .i64 i.a, .int .i64 i.b]))) nx = some (.row 4 [.int .i64 n, .int .i64 ((m + 1 : Nat) : Int), .ro (vs.map Val.avs), .ro (st.map Val.avs)]) := by rw [Heap.put_ne _ _ z1]; exact hf2
    have hi3 : (H1.put (nx + 2) (some (.row 3 [.int .i64 i.op, .int .i64 i.a, .int .i64 i.b]))) (nx + 2) = some (.row 3 [.int .i64 i.op, .int .i64 i.a, .int .i64 i.b]) := Heap.put_at _ _ _
    have hK3 : Keep n0 (H1.put (nx + 2) (some (.row 3 [.int .i64 i.op, .int .i64 i.a, .int .i64 i.b]))) H0 := by rw [Keep.put (by omega)]; exact hK2
    have hbp : zng a k c (VM.heights c.ins).1 (m + 1) = ((!decide (k + 1 = a.frames.length) && (decide (i.op ≠ 17) || decide (i.a ≠ ((a.frames[k + 1]?).map (·.fn)).getD 0))) || (decide (k + 1 = a.frames.length) && decide (i.op ≠ 13)) || decide (q < 0)) := by
      unfold zng
      simp only [Nat.add_sub_cancel, List.getD_eq_getElem?_getD, hi, hq, Option.getD_some]
    have hbadv : zng a k c (VM.heights c.ins).1 (m + 1) = true → R = 10 := fun hb => by
      have : VM.frame a k away = 10 := by rw [hfe, if_pos (by simp [hb])]
      rw [hbad (by omega), this]
    have hfin : zng a k c (VM.heights c.ins).1 (m + 1) = false → zaz (fun v H' _ => Frz H' n0 v (.int .i64 R) ∧ Keep n0 H' H0) K [.bool away, .ptr g 0, .ptr nx 0, .int .i64 (h - 1), .ro (a.frames.map Frm.avs), .int .i64 a.frames.length, .int .i64 k] (H1.put (nx + 2) (some (.row 3 [.int .i64 i.op, .int .i64 i.a, .int .i64 i.b]))) (nx + 2 + 1) := by
      intro hb
      have e : VM.frame a k away = zci a vs st (h - 1) := by rw [hfe, if_neg (by simp [hb]; omega)]
      rw [e] at hbad hgo
      exact zsl a k ⟨n, ((m + 1 : Nat) : Int), vs, st⟩ (h - 1) away _ _ _ H0 (nx + 2 + 1) n0 g nx K R hg3 (by omega) hf3 (by omega) (by omega) hK3 hvl (by omega) (by omega) hbad fun h0 H' nx' q1 q2 q3 => hgo h0 H' nx' q1 q2 (by omega)
    rw [hbp] at hfin hbadv
    by_cases hlast : k + 1 = a.frames.length
    · simp [hlast] at hfin hbadv
      simp [zbq, hf2, hc2, h00, w2, w3, hml', hi', Ins.avs, z1, z2, hqm, hq', hlast]
      refine ⟨fun hq0 => ⟨fun h13 => ⟨hbadv (.inl h13), hK3⟩, fun h13 => hfin h13 hq0⟩, fun hq0 => ⟨hbadv (.inr hq0), hK3⟩⟩
    · have hk2 : k + 1 < a.frames.length := by omega
      obtain ⟨f2, hf2'⟩ : ∃ f2, a.frames[k + 1]? = some f2 := ⟨_, List.getElem?_eq_getElem hk2⟩
      obtain ⟨_, hf2''⟩ := List.getElem?_eq_some_iff.1 hf2'
      rw [hf2'] at hfin hbadv
      simp [hlast] at hfin hbadv
      have w4 : IntKind.i64.wrap ((k : Int) + 1) = (k : Int) + 1 := i64w (by omega)
      have hk2i : (k : Int) + 1 < a.frames.length := by omega
      have hk0 : (0 : Int) ≤ (k : Int) + 1 := by omega
      have htn : ((k : Int) + 1).toNat = k + 1 := by omega
      simp [zbq, hf2, hc2, h00, w2, w3, w4, hml', hi', Ins.avs, z1, z2, z3, hqm, hq', hlast, hg2, Agt.avs, hk2i, hk0, htn, hk2, hf2'', Frm.avs]
      refine ⟨fun hq0 => ⟨fun h17 => ⟨fun ha => ⟨hbadv (.inl (.inr ha)), hK3⟩, fun ha => hfin h17 ha hq0⟩, fun h17 => ⟨hbadv (.inl (.inl h17)), hK3⟩⟩, fun hq0 => ⟨hbadv (.inr hq0), hK3⟩⟩
  by_cases hlast : k + 1 = a.frames.length
  · have l2 : (k : Int) = (a.frames.length : Int) - 1 := by omega
    simp [zgg, l2]
    simp [hlast, l2] at key
    exact key
  · have l2 : ¬ (k : Int) = (a.frames.length : Int) - 1 := by omega
    simp [zgg, l2]
    simp [hlast] at key
    exact key
end Go.Proofs.YtobioljjoipimaaDoor
set_option maxRecDepth 8000
namespace Go.Proofs.YtobioljjoipimaaDoor
open Go Go.RowKit
set_option maxHeartbeats 4000000 in
theorem zagm (a : Agt) (away : Bool) (ha : a.prog.ok) (hhl : a.heap.length ≤ 4611686018427387904) : QC Tryd.prog 56 [.agg a.avs, .bool away] (.int .i64 (VM.agent a away)) := by
  refine QC.of' fun H nx => zpk _ _ H nx _ ?_
  simp [zlo, Agt.avs]
  refine QC.call (zaac a.prog ha) ?_
  have hg : (H.put nx (some (.row 9 [.int .i64 a.id, .int .i64 a.trip, .ro (a.prog.codes.map Cod.avs), .ro (a.prog.words.map fun w => [.str w]), .ro (a.frames.map Frm.avs), .ro (a.heap.map Cl.avs), .int .i64 a.permit.fuel, .int .i64 a.permit.room, .int .i64 a.permit.hops]))) nx = some (.row 9 a.avs) := Heap.put_at _ _ _
  have hK : Keep nx (H.put nx (some (.row 9 [.int .i64 a.id, .int .i64 a.trip, .ro (a.prog.codes.map Cod.avs), .ro (a.prog.words.map fun w => [.str w]), .ro (a.frames.map Frm.avs), .ro (a.heap.map Cl.avs), .int .i64 a.permit.fuel, .int .i64 a.permit.room, .int .i64 a.permit.hops]))) H := by simp
  generalize (H.put nx (some (.row 9 [.int .i64 a.id, .int .i64 a.trip, .ro (a.prog.codes.map Cod.avs), .ro (a.prog.words.map fun w => [.str w]), .ro (a.frames.map Frm.avs), .ro (a.heap.map Cl.avs), .int .i64 a.permit.fuel, .int .i64 a.permit.room, .int .i64 a.permit.hops]))) = H1 at *
  by_cases hp : VM.program a.prog = 0
  case neg =>
    have e : VM.agent a away = VM.program a.prog := by unfold VM.agent; rw [if_pos hp]
    rw [e]
    simp [zgf, hp, hK]
  simp [zgf, hp, hg, Agt.avs]
  have e3 : (a.id < 0 ∨ 1073741824 < a.id ∨ a.trip < 0 ∨ 1073741824 < a.trip ∨ a.permit.fuel < 0 ∨ 2000 < a.permit.fuel ∨ a.permit.room < 0 ∨ 60 < a.permit.room ∨ a.permit.hops < 0 ∨ 12 < a.permit.hops) → VM.agent a away = 3 := fun h => by
    unfold VM.agent; rw [if_neg (by simpa using hp), if_pos h]
  refine LP.mk (fun m xs H' nx' => ∃ i : Nat, i ≤ 5 ∧ m = 5 - i ∧ xs = [.bool away, .ptr nx 0, .slc (nx + 1) 0 5, .int .i64 5, .int .i64 i] ∧ H' nx = some (.row 9 a.avs) ∧
    H' (nx + 1) = some (.row 2 [.int .i64 a.id, .int .i64 1073741824, .int .i64 a.trip, .int .i64 1073741824, .int .i64 a.permit.fuel, .int .i64 2000, .int .i64 a.permit.room, .int .i64 60, .int .i64 a.permit.hops, .int .i64 12]) ∧ Keep nx H' H ∧ nx + 1 < nx' ∧
    (1 ≤ i → 0 ≤ a.id ∧ a.id ≤ 1073741824) ∧ (2 ≤ i → 0 ≤ a.trip ∧ a.trip ≤ 1073741824) ∧ (3 ≤ i → 0 ≤ a.permit.fuel ∧ a.permit.fuel ≤ 2000) ∧ (4 ≤ i → 0 ≤ a.permit.room ∧ a.permit.room ≤ 60) ∧ (5 ≤ i → 0 ≤ a.permit.hops ∧ a.permit.hops ≤ 12)) 5
    ⟨0, by omega, by omega, by simp, by rw [Heap.put_ne _ _ (by omega)]; exact hg, by simp, by simp [hK], by omega, by omega, by omega, by omega, by omega, by omega⟩ ?_
  rintro m xs H2 n2 ⟨i, hi, rfl, rfl, hg2, hr2, hK2, hn2, i1, i2, i3, i4, i5⟩
  have z1 : nx ≠ n2 := by omega
  have z2 : nx + 1 ≠ n2 := by omega
  have hKf : ∀ o, Keep nx (H2.put n2 o) H := fun o => by rw [Keep.put (by omega)]; exact hK2
  have hic : i = 5 ∨ i = 0 ∨ i = 1 ∨ i = 2 ∨ i = 3 ∨ i = 4 := by omega
  rcases hic with rfl | hic
  · have e0 : VM.agent a away = if a.frames.length < 1 ∨ 12 < a.frames.length then 5 else if 60 - a.permit.room < a.heap.length then 4 else if VM.framesErr a away ≠ 0 then VM.framesErr a away else VM.firstErr (VM.cellErr a.heap.length) a.heap := by
      unfold VM.agent; rw [if_neg (by simpa using hp), if_neg (by have := i1 (by omega); have := i2 (by omega); have := i3 (by omega); have := i4 (by omega); have := i5 (by omega); omega)]
    have i4' := i4 (by omega)
    have w1 : IntKind.i64.wrap ((a.heap.length : Int) + a.permit.room) = (a.heap.length : Int) + a.permit.room := i64w (by omega)
    simp [zay, hg2, Agt.avs, w1]
    refine ⟨fun h => ⟨by rw [e0, if_pos (by rw [h]; simp)], hK2⟩, fun f1 => ?_⟩
    have hpos : 0 < a.frames.length := List.length_pos_iff.2 f1
    refine ⟨fun h => ⟨by rw [e0, if_pos (by omega)], hK2⟩, fun f2 => ⟨fun h => ⟨by rw [e0, if_neg (by omega), if_pos (by omega)], hK2⟩, fun f3 => ?_⟩⟩
    rw [if_neg (by omega), if_neg (by omega)] at e0
    refine LP.mk (fun m xs H' nx' => ∃ i : Nat, i ≤ a.frames.length ∧ m = a.frames.length - i ∧ xs = [.bool away, .ptr nx 0, .ro (a.frames.map Frm.avs), .int .i64 a.frames.length, .int .i64 i] ∧ H' nx = some (.row 9 a.avs) ∧ Keep nx H' H ∧ nx < nx' ∧ VM.framesErr a away = VM.firstErr (fun k => VM.frame a k away) ((List.range a.frames.length).drop i)) a.frames.length
      ⟨0, by omega, by omega, by simp, hg2, hK2, by omega, rfl⟩ ?_
    rintro m xs H3 n3 ⟨k, hk, rfl, rfl, hg3, hK3, hn3, hfe⟩
    by_cases hlt : k < a.frames.length
    · have hr : (List.range a.frames.length)[k]? = some k := by simp [hlt]
      rw [zdf _ _ _ _ hr] at hfe
      refine zaaj a k away H3 H n3 nx nx _ _ hg3 hn3 (by omega) hK3 hlt (by omega) hp (fun hz => ?_) fun hz H' nx' q1 q2 q3 => ?_
      · rw [if_pos hz] at hfe
        rw [e0, hfe, if_pos hz]
      · rw [if_neg (by simpa using hz)] at hfe
        exact ⟨a.frames.length - (k + 1), by omega, k + 1, by omega, rfl, rfl, q1, q2, by omega, hfe⟩
    obtain rfl : k = a.frames.length := by omega
    have hz : VM.framesErr a away = 0 := by rw [hfe, List.drop_of_length_le (by simp)]; rfl
    rw [if_neg (by simpa using hz)] at e0
    simp [zan, hg3, Agt.avs]
    refine LP.mk (fun m xs H' nx' => ∃ i : Nat, i ≤ a.heap.length ∧ m = a.heap.length - i ∧ xs = [.ptr nx 0, .ro (a.heap.map Cl.avs), .int .i64 a.heap.length, .int .i64 i] ∧ H' nx = some (.row 9 a.avs) ∧ Keep nx H' H ∧ nx < nx' ∧ VM.agent a away = VM.firstErr (VM.cellErr a.heap.length) (a.heap.drop i)) a.heap.length
      ⟨0, by omega, by omega, by simp, hg3, hK3, by omega, e0⟩ ?_
    rintro m xs H4 n4 ⟨k, hk, rfl, rfl, hg4, hK4, hn4, hfe⟩
    by_cases hlt : k < a.heap.length
    case neg =>
      obtain rfl : k = a.heap.length := by omega
      simp [zgd, hK4]
      rw [hfe]; simp [VM.firstErr]
    obtain ⟨c, hc⟩ : ∃ c, a.heap[k]? = some c := ⟨_, List.getElem?_eq_getElem hlt⟩
    obtain ⟨_, hc'⟩ := List.getElem?_eq_some_iff.1 hc
    rw [zdf _ _ _ _ hc] at hfe
    obtain ⟨l, r⟩ := c
    have m1 : nx ≠ n4 := by omega
    have hce : VM.cellErr a.heap.length ⟨l, r⟩ = if VM.wrong l a.heap.length ≠ 0 then VM.wrong l a.heap.length else VM.wrong r a.heap.length := rfl
    rw [hce] at hfe
    have hg5 : (H4.put n4 (some (.row 6 [.int .i64 l.kind, .int .i64 l.n, .str l.text, .int .i64 r.kind, .int .i64 r.n, .str r.text]))) nx = some (.row 9 a.avs) := by rw [Heap.put_ne _ _ m1]; exact hg4
    have hc5 : (H4.put n4 (some (.row 6 [.int .i64 l.kind, .int .i64 l.n, .str l.text, .int .i64 r.kind, .int .i64 r.n, .str r.text]))) n4 = some (.row 6 [.int .i64 l.kind, .int .i64 l.n, .str l.text, .int .i64 r.kind, .int .i64 r.n, .str r.text]) := Heap.put_at _ _ _
    have hK5 : Keep nx (H4.put n4 (some (.row 6 [.int .i64 l.kind, .int .i64 l.n, .str l.text, .int .i64 r.kind, .int .i64 r.n, .str r.text]))) H := by rw [Keep.put (by omega)]; exact hK4
    simp [zgd, hlt, hc', Cl.avs, Val.avs, hg4, m1, Agt.avs]
    generalize (H4.put n4 (some (.row 6 [.int .i64 l.kind, .int .i64 l.n, .str l.text, .int .i64 r.kind, .int .i64 r.n, .str r.text]))) = H5 at *
    refine QC.call (zlw l _) ?_
    simp [zlp, hc5, hg5, Agt.avs]
    refine ⟨fun hz => ⟨by rw [hfe, if_pos hz, if_pos hz], hK5⟩, fun hz => ?_⟩
    refine QC.call (zlw r _) ?_
    rw [hz] at hfe
    simp at hfe
    simp [zlq]
    refine ⟨fun hz2 => ⟨by rw [hfe]; simp [hz2], hK5⟩, fun hz2 => ?_⟩
    rw [hz2] at hfe
    simp at hfe
    rw [i64w (by omega)]
    exact ⟨a.heap.length - (k + 1), by omega, k + 1, by omega, rfl, rfl, hg5, hK5, by omega, hfe⟩
  rcases hic with rfl | rfl | rfl | rfl | rfl
  · simp [zay, hr2, hKf]
    refine ⟨fun h => e3 (by omega), fun h => ⟨fun h' => e3 (by omega), fun h' => ?_⟩⟩
    exact ⟨5 - 1, by omega, 1, by omega, rfl, by rw [i64w (by omega)]; rfl, by simp [z1, hg2], by simp [z2], by omega, by omega, by omega, by omega, by omega, by omega⟩
  · simp [zay, hr2, hKf]
    refine ⟨fun h => e3 (by omega), fun h => ⟨fun h' => e3 (by omega), fun h' => ?_⟩⟩
    exact ⟨5 - 2, by omega, 2, by omega, rfl, by rw [i64w (by omega)]; rfl, by simp [z1, hg2], by simp [z2], by omega, by omega, by omega, by omega, by omega, by omega⟩
  · simp [zay, hr2, hKf]
    refine ⟨fun h => e3 (by omega), fun h => ⟨fun h' => e3 (by omega), fun h' => ?_⟩⟩
    exact ⟨5 - 3, by omega, 3, by omega, rfl, by rw [i64w (by omega)]; rfl, by simp [z1, hg2], by simp [z2], by omega, by omega, by omega, by omega, by omega, by omega⟩
  · simp [zay, hr2, hKf]
    refine ⟨fun h => e3 (by omega), fun h => ⟨fun h' => e3 (by omega), fun h' => ?_⟩⟩
    exact ⟨5 - 4, by omega, 4, by omega, rfl, by rw [i64w (by omega)]; rfl, by simp [z1, hg2], by simp [z2], by omega, by omega, by omega, by omega, by omega, by omega⟩
  · simp [zay, hr2, hKf]
    refine ⟨fun h => e3 (by omega), fun h => ⟨fun h' => e3 (by omega), fun h' => ?_⟩⟩
    exact ⟨5, by omega, by omega, by rw [i64w (by omega)]; rfl, by simp [z1, hg2], by simp [z2], by omega, by omega, by omega, by omega, by omega, by omega⟩
end Go.Proofs.YtobioljjoipimaaDoor
set_option maxRecDepth 8000
namespace Go.Proofs.YtobioljjoipimaaDoor
open Go Go.RowKit
theorem zael {a : Agt} {fs : List Frm} {f : Frm} (l : VM.Live a fs f) : f.stack.length ≤ 17 := by
  have nw := l.now
  have ok := l.ok f (by simp)
  have hst := l.still
  unfold VM.Still VM.hts at hst
  have hm := (zcm ((zw l.prog).1 _ (VM.code_mem ok.code)).2.1 ((zw l.prog).1 _ (VM.code_mem ok.code)).2.2).2 _ (List.mem_of_getElem? hst)
  omega
theorem zakv {A : Nat → Prop} (f : Frm) : ∀ (j : Nat) (v : AV), f.avs[j]? = some v → Bel A v := fun j v hv => by
  match j, hv with
  | 0, hv => cases hv; exact .int _ _
  | 1, hv => cases hv; exact .int _ _
  | 2, hv => cases hv; exact zgp (zfw _)
  | 3, hv => cases hv; exact zgp (zfw _)
  | j + 4, hv => simp [Frm.avs] at hv
theorem zaku {A : Nat → Prop} (fs : List Frm) : Bel A (.ro (fs.map Frm.avs)) := by
  refine .ro _ fun i x j v hx hv => ?_
  rw [List.getElem?_map] at hx
  obtain ⟨f, _, rfl⟩ := Option.map_eq_some_iff.1 hx
  exact zakv f j v hv
theorem zrg (a : Agt) : a.avs.drop 9 = [] ∧ a.avs.take 9 = a.avs ∧ a.avs.length = 9 := ⟨rfl, rfl, rfl⟩
theorem zabc (a : Agt) : ∀ x ∈ a.avs, x.one = true := fun x hx => by
  simp [Agt.avs] at hx
  rcases hx with rfl | rfl | rfl | rfl | rfl | rfl | rfl | rfl | rfl <;> rfl
theorem eavs (e : Evt) : e.avs = [.int .i64 e.kind, .str e.text, .int .i64 e.err] := rfl
def zej (a : Agt) (s : Spt) : Bool := s.facts.all (fun f => decide (VM.wrong f.val 0 = 0)) && (decide (s.name.length ≤ 12) && decide (VM.agent a false = 0))
theorem zxh {α : Type} {p : α → Bool} {l : List α} {i : Nat} {x : α} (h : l[i]? = some x) : (l.drop i).all p = (p x && (l.drop (i + 1)).all p) := by
  obtain ⟨hi, rfl⟩ := List.getElem?_eq_some_iff.1 h
  rw [List.drop_eq_getElem_cons hi, List.all_cons]
set_option maxRecDepth 20000 in
set_option maxHeartbeats 1000000 in
theorem zaeu (a : Agt) (s : Spt) (ha : a.prog.ok) (hhl : a.heap.length ≤ 4611686018427387904) (hf : s.facts.length ≤ 4611686018427387903) : QC Tryd.prog 22 [.agg a.avs, .agg s.avs] (.bool (zej a s)) := by
  refine QC.of' fun H nx => ?_
  suffices main : ∀ Q : AV → Heap → Nat → Prop, (∀ H' n', Keep nx H' H → Q (.bool (zej a s)) H' n') → za Tryd.prog 22 [.agg a.avs, .agg s.avs] H nx Q from main _ fun H' n' h => ⟨zol, h⟩
  intro Q hQ
  refine zpl _ _ H nx _ ?_
  have al : a.avs.length = 9 := rfl
  have sl : s.avs = [.str s.name, .ro (s.facts.map Fct.avs), .int .i64 s.fuel, .int .i64 s.cells] := rfl
  have at9 : a.avs.take 9 = a.avs := rfl
  have hsu : (AV.agg a.avs).sure = true := by simp [Agt.avs]
  unfold zlu
  rw [sl]
  refine ⟨hsu, by simp, ?_⟩
  generalize hX : Heap.put _ (nx + 1) _ = X
  have x0 : X nx = some (.row 9 a.avs) := by rw [← hX, Heap.put_ne _ _ (by omega), Heap.put_at]; rfl
  have x1 : X (nx + 1) = some (.row 4 [.str s.name, .ro (s.facts.map Fct.avs), .int .i64 s.fuel, .int .i64 s.cells]) := by rw [← hX, Heap.put_at]; rfl
  have xk : Keep nx X H := fun g hg => by rw [← hX, Heap.put_ne _ _ (by omega), Heap.put_ne _ _ (by omega)]
  clear hX
  simp [x1]
  refine LP.mk (fun k xs H' n' => ∃ i : Nat, xs = [.ptr nx 0, .ptr (nx + 1) 0, .ro (s.facts.map Fct.avs), .int .i64 s.facts.length, .int .i64 i] ∧ i ≤ s.facts.length ∧ k = s.facts.length - i ∧ (∀ g, g < nx + 2 → H' g = X g) ∧ nx + 2 ≤ n' ∧ s.facts.all (fun f => decide (VM.wrong f.val 0 = 0)) = (s.facts.drop i).all (fun f => decide (VM.wrong f.val 0 = 0))) s.facts.length ⟨0, rfl, by omega, by omega, fun _ _ => rfl, by omega, rfl⟩ ?_
  rintro k xs H' n' ⟨i, rfl, hi, rfl, hk, hn, hall⟩
  by_cases hlt : i < s.facts.length
  · have hadd : IntKind.i64.wrap ((i : Int) + 1) = ((i + 1 : Nat) : Int) := by rw [i64w (by omega)]; rfl
    rw [zxh (List.getElem?_eq_getElem hlt)] at hall
    generalize hcc : s.facts[i] = c at *
    simp [zdo, hlt, hcc, Fct.avs, Val.avs]
    refine QC.call (zlw c.val 0) ?_
    by_cases hw : VM.wrong c.val 0 = 0
    · simp [zgi, hw, hadd]
      refine ⟨s.facts.length - (i + 1), by omega, i + 1, rfl, by omega, rfl, fun g hg => ?_, by omega, by rw [hall]; simp [hw]⟩
      rw [if_neg (by omega)]; exact hk g hg
    · simp [zgi, hw]
      have e : zej a s = false := by unfold zej; rw [hall]; simp [hw]
      have := hQ ((H'.put n' (some (AObj.row 4 [.str c.key, .int .i64 c.val.kind, .int .i64 c.val.n, .str c.val.text])))) (n' + 1) fun g hg => by rw [Heap.put_ne _ _ (by omega), hk g (by omega)]; exact xk g hg
      rw [e] at this
      exact this
  · have hge : ¬ (i : Int) < s.facts.length := by omega
    rw [List.drop_of_length_le (by omega)] at hall
    have y0 : H' nx = some (.row 9 a.avs) := by rw [hk _ (by omega)]; exact x0
    have y1 : H' (nx + 1) = some (.row 4 [.str s.name, .ro (s.facts.map Fct.avs), .int .i64 s.fuel, .int .i64 s.cells]) := by rw [hk _ (by omega)]; exact x1
    have fin := fun n' => hQ H' n' fun g hg => (hk g (by omega)).trans (xk g hg)
    have e : zej a s = (decide (s.name.length ≤ 12) && decide (VM.agent a false = 0)) := by unfold zej; rw [hall]; simp
    rw [e] at fin
    by_cases hnm : s.name.length ≤ 12
    · have hnm' : (s.name.length : Int) ≤ 12 := by omega
      simp [zdo, hge, y0, y1, al, at9, hnm']
      refine QC.call (zagm a false ha hhl) ?_
      simp [zlv]
      have := fin n'
      rw [decide_eq_true hnm, Bool.true_and] at this
      exact this
    · have hnm' : ¬ (s.name.length : Int) ≤ 12 := by omega
      simp [zdo, hge, y0, y1, al, at9, hnm']
      have := fin n'
      rw [decide_eq_false hnm, Bool.false_and] at this
      exact this
end Go.Proofs.YtobioljjoipimaaDoor
set_option maxRecDepth 8000
namespace Go.Proofs.YtobioljjoipimaaDoor
open Go Go.RowKit
structure Fits (p : Prg) (b : Agt) : Prop where
  prog : b.prog = p
  frames : b.frames.length ≤ 4096
  heap : b.heap.length ≤ 4096
  stk : ∀ f ∈ b.frames, f.vars.length ≤ 4096 ∧ f.stack.length ≤ 4096
theorem zaax {p : Prg} (h : VM.program p = 0) (n : Int) : (VM.codeAt p n).vars ≤ 8 := by
  by_cases hn : n.toNat < p.codes.length
  · obtain ⟨crange, _, _⟩ := (zw h).1 _ (VM.code_mem hn)
    unfold VM.codeRange at crange
    rw [decide_eq_false_iff_not] at crange
    omega
  · unfold VM.codeAt
    rw [List.getD_eq_getElem?_getD, List.getElem?_eq_none (by omega)]
    simp
theorem zaif {p : Prg} {c : Prop} [Decidable c] {x y : Agt} (h1 : c → Fits p x) (h2 : ¬ c → Fits p y) : Fits p (if c then x else y) := by
  by_cases h : c
  · rw [if_pos h]; exact h1 h
  · rw [if_neg h]; exact h2 h
theorem zaez {b : Agt} {s : Spt} {fs : List Frm} {f : Frm} {i : Ins} (hp : VM.program b.prog = 0) (h1 : fs.length ≤ 100) (h2 : ∀ g ∈ fs, g.vars.length ≤ 100 ∧ g.stack.length ≤ 100) (h3 : f.vars.length ≤ 100) (h4 : f.stack.length ≤ 100) (h5 : b.heap.length ≤ 100) (hi : i.op = 17 → 0 ≤ i.b) : Fits b.prog (VM.opDo b s fs f i).1 := by
  have hv := zaax hp i.a
  have key : ∀ {a : Agt} {gs : List Frm} {g : Frm}, a.prog = b.prog → gs.length ≤ 200 → (∀ g ∈ gs, g.vars.length ≤ 200 ∧ g.stack.length ≤ 200) → g.vars.length ≤ 300 → g.stack.length ≤ 300 → a.heap.length ≤ 200 → Fits b.prog (VM.toF a gs g) := by
    intro a gs g e1 e2 e3 e4 e5 e6
    refine ⟨e1, by simp [VM.toF]; omega, by simp [VM.toF]; omega, fun x hx => ?_⟩
    simp [VM.toF] at hx
    rcases hx with hx | rfl
    · have := e3 x hx; omega
    · omega
  have lw : ∀ k, (VM.low k f.stack).length ≤ f.stack.length := fun k => by rw [VM.low_len]; omega
  have l1 := lw 1
  have l2 := lw 2
  have h2' : ∀ g ∈ fs, g.vars.length ≤ 200 ∧ g.stack.length ≤ 200 := fun g hg => by have := h2 g hg; omega
  unfold VM.opDo VM.push
  simp only [apply_ite Prod.fst]
  repeat' (refine zaif (fun _ => ?_) (fun _ => ?_))
  all_goals first
    | exact key rfl (by omega) h2' (by first | (simp only [List.length_append, List.length_singleton, List.length_set]; omega) | (simp only []; omega) | omega) (by first | (simp only [List.length_append, List.length_singleton, List.length_set]; omega) | (simp only []; omega) | omega) (by first | (simp only [List.length_append, List.length_singleton, List.length_set]; omega) | (simp only []; omega) | omega)
    | skip
  · refine key rfl (by simp; omega) (fun g hg => ?_) ?_ (by simp) (by omega)
    · simp at hg
      rcases hg with hg | rfl
      · exact h2' g hg
      · have := lw i.b.toNat; simp only; omega
    · simp; omega
  · split
    · exact ⟨rfl, by simp, by simp only; omega, fun g hg => by simp at hg⟩
    · rename_i g hg
      have hm := List.mem_of_getLast? hg
      refine key rfl (by simp; omega) (fun x hx => h2' x (List.dropLast_subset _ hx)) (by have := h2 g hm; simp only; omega) (by have := h2 g hm; simp; omega) (by omega)
theorem zaek {a : Agt} {fs : List Frm} {f : Frm} (l : VM.Live a fs f) (s : Spt) : Fits a.prog (VM.step a s).1 := by
  have flen := l.flen
  have hlen := l.hlen
  have hroom := l.room
  have sk := Live.stk l
  by_cases hf : a.permit.fuel = 0
  · have e : VM.step a s = (a, VM.dead 12) := by unfold VM.step; rw [if_pos hf]
    rw [e]
    exact ⟨rfl, by rw [l.fr]; simp; omega, by simp only; omega, fun g hg => by have := sk g hg; simp only at hg; omega⟩
  · rw [zaay l hf]
    have ok := l.ok f (by simp)
    have nw := l.now
    obtain ⟨o1, o2, o3, o4⟩ := VM.numbers_ok nw.num
    have slen := zael l
    have key := zaez (b := { a with permit := { a.permit with fuel := a.permit.fuel - 1 } }) (s := s) (fs := fs) (f := { f with at_ := f.at_ + 1 }) (i := VM.insAt a.prog f) l.prog (by omega) (fun g hg => by have := sk g (by rw [l.fr]; simp [hg]); omega) (by have := sk f (by rw [l.fr]; simp); simp only; omega) (by simp only; omega) (by simp only; omega) fun h17 => ?_
    · exact key
    · exact (((zw l.prog).1 _ (VM.code_mem ok.code)).2.1 _ (List.mem_of_getElem? nw.at_) h17).1
theorem zafd {a : Agt} {fs : List Frm} {f : Frm} (l : VM.Live a fs f) : Fits a.prog a := by
  have flen := l.flen
  have hlen := l.hlen
  have hroom := l.room
  exact ⟨rfl, by rw [l.fr]; simp; omega, by omega, fun g hg => by have := Live.stk l g hg; omega⟩
theorem zth (s : Spt) (hw : ∀ x ∈ s.facts, VM.WrongOk x.val (0 : Int)) : ∀ (n : Nat) {a : Agt} {fs : List Frm} {f : Frm}, VM.Live a fs f → Fits a.prog (VM.run s n a).1
  | 0, a, fs, f, l => zafd l
  | n + 1, a, fs, f, l => by
    rw [zyi]
    have sf := zaek l s
    split
    · exact sf
    · rename_i h
      obtain ⟨gs, g, l'⟩ := VM.step_live l hw (by simpa using h)
      have := zth s hw n l'
      rw [sf.prog] at this
      exact this
end Go.Proofs.YtobioljjoipimaaDoor
set_option maxRecDepth 8000
namespace Go.Proofs.YtobioljjoipimaaDoor
open Go Go.RowKit
theorem zadd {a : Agt} {fs : List Frm} {f : Frm} (l : VM.Live a fs f) : VM.right a.heap (ze a.frames) = true := by
  unfold VM.right
  rw [Bool.and_eq_true, List.all_eq_true, List.all_eq_true]
  refine ⟨fun v hv => ?_, fun c hc => ?_⟩
  · unfold ze at hv
    obtain ⟨g, hg, hv⟩ := List.mem_flatMap.1 hv
    rw [l.fr] at hg
    have ok := l.ok g hg
    rw [decide_eq_true_eq]
    rcases List.mem_append.1 hv with h | h
    · exact VM.ok_wrong (ok.vv v h)
    · exact VM.ok_wrong (ok.sv v h)
  · obtain ⟨h1, h2⟩ := l.cells c hc
    rw [Bool.and_eq_true, decide_eq_true_eq, decide_eq_true_eq]
    exact ⟨VM.ok_wrong h1, VM.ok_wrong h2⟩
theorem zadc {a : Agt} {fs : List Frm} {f : Frm} (l : VM.Live a fs f) : (ze a.frames).length ≤ 4096 := by
  have sk := Live.stk l
  have fl : a.frames.length ≤ 12 := by rw [l.fr]; simp; have := l.flen; omega
  have key : ∀ gs : List Frm, (∀ g ∈ gs, g.vars.length ≤ 8 ∧ g.stack.length ≤ 16) → (ze gs).length ≤ gs.length * 24 := by
    intro gs
    induction gs with
    | nil => intro _; simp [ze]
    | cons g r ih =>
      intro h
      have := ih fun x hx => h x (by simp [hx])
      have h0 := h g (by simp)
      simp [ze] at this ⊢
      omega
  have := key a.frames sk
  omega
theorem zaep {a b : Agt} {fs : List Frm} {f : Frm} (l : VM.Live a fs f) (ft : Fits a.prog b) : QC Tryd.prog 24 [.agg b.avs, .agg b.avs] (.bool true) := by
  obtain ⟨c1, c2, c3⟩ := Live.codes l
  obtain ⟨h1, h2, h3, h4⟩ := ft
  refine zahl b (by rw [h1]; omega) (by rw [h1]; omega) (fun c hc => by rw [h1] at hc; have := c3 c hc; omega) (by omega) (by omega) fun g hg => by have := h4 g hg; omega
theorem zakp : eqsT 48 = true := by kernel_rfl
theorem zrr {A : Nat → Prop} (a : Agt) : Bel A (.agg a.avs) := by
  refine .agg _ fun j v hv => ?_
  match j, hv with
  | 0, hv => cases hv; exact .int _ _
  | 1, hv => cases hv; exact .int _ _
  | 2, hv => cases hv; exact zwx _
  | 3, hv => cases hv; exact zww _
  | 4, hv => cases hv; exact zaku _
  | 5, hv => cases hv; exact zgp (zcy _)
  | 6, hv => cases hv; exact .int _ _
  | 7, hv => cases hv; exact .int _ _
  | 8, hv => cases hv; exact .int _ _
  | j + 9, hv => simp [Agt.avs] at hv
end Go.Proofs.YtobioljjoipimaaDoor
set_option maxRecDepth 8000
namespace Go.Proofs.YtobioljjoipimaaDoor
open Go Go.RowKit
theorem zvn : Tryd.prog.cellsOf 96 = 3 := by kernel_rfl
def Ins.rd (x : Ins) : Prop := zck x.op ∧ zck x.a ∧ zck x.b
theorem oIns : OpA Tryd.prog 96 Ins.avs Ins.rd :=
  ⟨fun _ _ => zvn.symm, fun enc w base sp held fuel cs x h hw => by
    obtain ⟨hl, hf⟩ := zat Tryd.underlying96 h hw
    rw [zvn] at hl
    obtain ⟨x0, h0, r0⟩ := hf 0 3 0 1 (by kernel_rfl) cInt oInt
    obtain ⟨x1, h1, r1⟩ := hf 1 3 1 1 (by kernel_rfl) cInt oInt
    obtain ⟨x2, h2, r2⟩ := hf 2 3 2 1 (by kernel_rfl) cInt oInt
    match cs, hl with
    | [c0, c1, c2], _ => exact ⟨⟨x0, x1, x2⟩, ⟨h0, h1, h2⟩, fun ρ A => ((r0 ρ A).append ((r1 ρ A).append (r2 ρ A)))⟩⟩
theorem zzl : Tryd.prog.cellsOf 81 = 1 := by kernel_rfl
theorem zame : OpA Tryd.prog 81 (fun l : List Ins => [.ro (l.map Ins.avs)]) (rdL Ins.rd (Tryd.prog.bytesOf 96)) := zdw Tryd.underlying81 zzl oIns (by rw [zvn]; decide)
theorem zzo : Tryd.prog.cellsOf 90 = 3 := by kernel_rfl
def Cod.rd (x : Cod) : Prop := zck x.params ∧ zck x.vars ∧ rdL Ins.rd (Tryd.prog.bytesOf 96) x.ins
theorem oCod : OpA Tryd.prog 90 Cod.avs Cod.rd :=
  ⟨fun _ _ => zzo.symm, fun enc w base sp held fuel cs x h hw => by
    obtain ⟨hl, hf⟩ := zat Tryd.underlying90 h hw
    rw [zzo] at hl
    obtain ⟨x0, h0, r0⟩ := hf 0 3 0 1 (by kernel_rfl) cInt oInt
    obtain ⟨x1, h1, r1⟩ := hf 1 3 1 1 (by kernel_rfl) cInt oInt
    obtain ⟨x2, h2, r2⟩ := hf 2 81 2 1 (by kernel_rfl) zzl zame
    match cs, hl with
    | [c0, c1, c2], _ => exact ⟨⟨x0, x1, x2⟩, ⟨h0, h1, h2⟩, fun ρ A => ((r0 ρ A).append ((r1 ρ A).append (r2 ρ A)))⟩⟩
theorem zabo : Tryd.prog.cellsOf 27 = 1 := by kernel_rfl
theorem zamh : OpA Tryd.prog 27 (fun l : List Cod => [.ro (l.map Cod.avs)]) (rdL Cod.rd (Tryd.prog.bytesOf 90)) := zdw Tryd.underlying27 zabo oCod (by rw [zzo]; decide)
theorem zwu : Tryd.prog.cellsOf 28 = 1 := by kernel_rfl
theorem zamd : OpA Tryd.prog 28 (fun l : List (List UInt8) => [.ro (l.map (fun w => [.str w]))]) (rdL (fun s => s.length ≤ reachBytes) (Tryd.prog.bytesOf 9)) := zdw Tryd.underlying28 zwu oStr (by rw [cStr]; decide)
theorem zrd : Tryd.prog.cellsOf 30 = 2 := by kernel_rfl
def Prg.rd (x : Prg) : Prop := rdL Cod.rd (Tryd.prog.bytesOf 90) x.codes ∧ rdL (fun s => s.length ≤ reachBytes) (Tryd.prog.bytesOf 9) x.words
theorem oPrg : OpA Tryd.prog 30 Prg.avs Prg.rd :=
  ⟨fun _ _ => zrd.symm, fun enc w base sp held fuel cs x h hw => by
    obtain ⟨hl, hf⟩ := zat Tryd.underlying30 h hw
    rw [zrd] at hl
    obtain ⟨x0, h0, r0⟩ := hf 0 27 0 1 (by kernel_rfl) zabo zamh
    obtain ⟨x1, h1, r1⟩ := hf 1 28 1 1 (by kernel_rfl) zwu zamd
    match cs, hl with
    | [c0, c1], _ => exact ⟨⟨x0, x1⟩, ⟨h0, h1⟩, fun ρ A => ((r0 ρ A).append (r1 ρ A))⟩⟩
theorem zvo : Tryd.prog.cellsOf 104 = 4 := by kernel_rfl
def Frm.rd (x : Frm) : Prop := zck x.fn ∧ zck x.at_ ∧ rdL Val.rd (Tryd.prog.bytesOf 108) x.vars ∧ rdL Val.rd (Tryd.prog.bytesOf 108) x.stack
theorem oFrm : OpA Tryd.prog 104 Frm.avs Frm.rd :=
  ⟨fun _ _ => zvo.symm, fun enc w base sp held fuel cs x h hw => by
    obtain ⟨hl, hf⟩ := zat Tryd.underlying104 h hw
    rw [zvo] at hl
    obtain ⟨x0, h0, r0⟩ := hf 0 3 0 1 (by kernel_rfl) cInt oInt
    obtain ⟨x1, h1, r1⟩ := hf 1 3 1 1 (by kernel_rfl) cInt oInt
    obtain ⟨x2, h2, r2⟩ := hf 2 102 2 1 (by kernel_rfl) zadw zajl
    obtain ⟨x3, h3, r3⟩ := hf 3 102 3 1 (by kernel_rfl) zadw zajl
    match cs, hl with
    | [c0, c1, c2, c3], _ => exact ⟨⟨x0, x1, x2, x3⟩, ⟨h0, h1, h2, h3⟩, fun ρ A => ((r0 ρ A).append ((r1 ρ A).append ((r2 ρ A).append (r3 ρ A))))⟩⟩
theorem zzm : Tryd.prog.cellsOf 35 = 1 := by kernel_rfl
theorem zamf : OpA Tryd.prog 35 (fun l : List Frm => [.ro (l.map Frm.avs)]) (rdL Frm.rd (Tryd.prog.bytesOf 104)) := zdw Tryd.underlying35 zzm oFrm (by rw [zvo]; decide)
theorem zts : Tryd.prog.cellsOf 38 = 3 := by kernel_rfl
def Pmt.rd (x : Pmt) : Prop := zck x.fuel ∧ zck x.room ∧ zck x.hops
theorem oPmt : OpA Tryd.prog 38 Pmt.avs Pmt.rd :=
  ⟨fun _ _ => zts.symm, fun enc w base sp held fuel cs x h hw => by
    obtain ⟨hl, hf⟩ := zat Tryd.underlying38 h hw
    rw [zts] at hl
    obtain ⟨x0, h0, r0⟩ := hf 0 3 0 1 (by kernel_rfl) cInt oInt
    obtain ⟨x1, h1, r1⟩ := hf 1 3 1 1 (by kernel_rfl) cInt oInt
    obtain ⟨x2, h2, r2⟩ := hf 2 3 2 1 (by kernel_rfl) cInt oInt
    match cs, hl with
    | [c0, c1, c2], _ => exact ⟨⟨x0, x1, x2⟩, ⟨h0, h1, h2⟩, fun ρ A => ((r0 ρ A).append ((r1 ρ A).append (r2 ρ A)))⟩⟩
theorem zabp : Tryd.prog.cellsOf 40 = 9 := by kernel_rfl
def Agt.rd (x : Agt) : Prop := zck x.id ∧ zck x.trip ∧ x.prog.rd ∧ rdL Frm.rd (Tryd.prog.bytesOf 104) x.frames ∧ rdL Cl.rd (Tryd.prog.bytesOf 110) x.heap ∧ x.permit.rd
theorem oAgt : OpA Tryd.prog 40 Agt.avs Agt.rd :=
  ⟨fun _ _ => zabp.symm, fun enc w base sp held fuel cs x h hw => by
    obtain ⟨hl, hf⟩ := zat Tryd.underlying40 h hw
    rw [zabp] at hl
    obtain ⟨x0, h0, r0⟩ := hf 0 3 0 1 (by kernel_rfl) cInt oInt
    obtain ⟨x1, h1, r1⟩ := hf 1 3 1 1 (by kernel_rfl) cInt oInt
    obtain ⟨x2, h2, r2⟩ := hf 2 30 2 2 (by kernel_rfl) zrd oPrg
    obtain ⟨x3, h3, r3⟩ := hf 3 35 4 1 (by kernel_rfl) zzm zamf
    obtain ⟨x4, h4, r4⟩ := hf 4 36 5 1 (by kernel_rfl) cCls oCls
    obtain ⟨x5, h5, r5⟩ := hf 5 38 6 3 (by kernel_rfl) zts oPmt
    match cs, hl with
    | [c0, c1, c2, c3, c4, c5, c6, c7, c8], _ => exact ⟨⟨x0, x1, x2, x3, x4, x5⟩, ⟨h0, h1, h2, h3, h4, h5⟩, fun ρ A => ((r0 ρ A).append ((r1 ρ A).append ((r2 ρ A).append ((r3 ρ A).append ((r4 ρ A).append (r5 ρ A))))))⟩⟩
theorem zzn : Tryd.prog.cellsOf 113 = 4 := by kernel_rfl
def Fct.rd (x : Fct) : Prop := x.key.length ≤ reachBytes ∧ x.val.rd
theorem oFct : OpA Tryd.prog 113 Fct.avs Fct.rd :=
  ⟨fun _ _ => zzn.symm, fun enc w base sp held fuel cs x h hw => by
    obtain ⟨hl, hf⟩ := zat Tryd.underlying113 h hw
    rw [zzn] at hl
    obtain ⟨x0, h0, r0⟩ := hf 0 9 0 1 (by kernel_rfl) cStr oStr
    obtain ⟨x1, h1, r1⟩ := hf 1 108 1 3 (by kernel_rfl) cVal oVal
    match cs, hl with
    | [c0, c1, c2, c3], _ => exact ⟨⟨x0, x1⟩, ⟨h0, h1⟩, fun ρ A => ((r0 ρ A).append (r1 ρ A))⟩⟩
theorem zabn : Tryd.prog.cellsOf 41 = 1 := by kernel_rfl
theorem zamg : OpA Tryd.prog 41 (fun l : List Fct => [.ro (l.map Fct.avs)]) (rdL Fct.rd (Tryd.prog.bytesOf 113)) := zdw Tryd.underlying41 zabn oFct (by rw [zzn]; decide)
theorem zagg : Tryd.prog.cellsOf 43 = 4 := by kernel_rfl
def Spt.rd (x : Spt) : Prop := x.name.length ≤ reachBytes ∧ rdL Fct.rd (Tryd.prog.bytesOf 113) x.facts ∧ zck x.fuel ∧ zck x.cells
theorem oSpt : OpA Tryd.prog 43 Spt.avs Spt.rd :=
  ⟨fun _ _ => zagg.symm, fun enc w base sp held fuel cs x h hw => by
    obtain ⟨hl, hf⟩ := zat Tryd.underlying43 h hw
    rw [zagg] at hl
    obtain ⟨x0, h0, r0⟩ := hf 0 9 0 1 (by kernel_rfl) cStr oStr
    obtain ⟨x1, h1, r1⟩ := hf 1 41 1 1 (by kernel_rfl) zabn zamg
    obtain ⟨x2, h2, r2⟩ := hf 2 3 2 1 (by kernel_rfl) cInt oInt
    obtain ⟨x3, h3, r3⟩ := hf 3 3 3 1 (by kernel_rfl) cInt oInt
    match cs, hl with
    | [c0, c1, c2, c3], _ => exact ⟨⟨x0, x1, x2, x3⟩, ⟨h0, h1, h2, h3⟩, fun ρ A => ((r0 ρ A).append ((r1 ρ A).append ((r2 ρ A).append (r3 ρ A))))⟩⟩
end Go.Proofs.YtobioljjoipimaaDoor
set_option maxRecDepth 8000
namespace Go.Proofs.YtobioljjoipimaaDoor
namespace VM
def renF (π : Nat → Nat) (f : Frm) : Frm := { f with vars := f.vars.map (ren π), stack := f.stack.map (ren π) }
def InD (D : Nat → Prop) (v : Val) : Prop := v.kind = 2 → 0 ≤ v.n ∧ D v.n.toNat
structure FrD (D : Nat → Prop) (f : Frm) : Prop where
  vars : ∀ v ∈ f.vars, InD D v
  stack : ∀ v ∈ f.stack, InD D v
structure Bs (a b : Agt) (π : Nat → Nat) (D : Nat → Prop) : Prop where
  id : b.id = a.id
  trip : b.trip = a.trip
  prog : b.prog = a.prog
  permit : b.permit = a.permit
  turn : Turn a.heap b.heap π D
structure Al (a b : Agt) (π : Nat → Nat) (D : Nat → Prop) : Prop where
  bs : Bs a b π D
  frames : b.frames = a.frames.map (renF π)
  dom : ∀ f ∈ a.frames, FrD D f
def AlR (r q : Agt × Evt) : Prop := q.2 = r.2 ∧ ∃ π D, Al r.1 q.1 π D
section
variable {a b : Agt} {π : Nat → Nat} {D : Nat → Prop}
theorem ren_zero : ren π vzero = vzero := rfl
theorem ren_flat {v : Val} (h : v.kind ≠ 2) : ren π v = v := by unfold ren; rw [if_neg h]
theorem low_map (k : Nat) (l : List Val) : low k (l.map (ren π)) = (low k l).map (ren π) := by unfold low; simp [List.map_take]
theorem getD_ren (l : List Val) (i : Nat) : (l.map (ren π)).getD i vzero = ren π (l.getD i vzero) := by
  rw [List.getD_eq_getElem?_getD, List.getD_eq_getElem?_getD, List.getElem?_map]
  cases l[i]? <;> simp [ren_zero]
theorem top1_ren (l : List Val) : top1 (l.map (ren π)) = ren π (top1 l) := by unfold top1; rw [List.length_map, getD_ren]
theorem top2_ren (l : List Val) : top2 (l.map (ren π)) = ren π (top2 l) := by unfold top2; rw [List.length_map, getD_ren]
theorem inD_flat {v : Val} (h : v.kind ≠ 2) : InD D v := fun k => absurd k h
theorem inD_getD {l : List Val} (h : ∀ v ∈ l, InD D v) (i : Nat) : InD D (l.getD i vzero) := by
  rw [List.getD_eq_getElem?_getD]
  cases e : l[i]? with
  | none => exact inD_flat (by simp [vzero])
  | some v => exact h v (List.mem_of_getElem? e)
theorem inD_low {l : List Val} (h : ∀ v ∈ l, InD D v) (k : Nat) : ∀ v ∈ low k l, InD D v := fun v hv => h v (low_mem hv)
theorem inD_snoc {l : List Val} (h : ∀ v ∈ l, InD D v) {x : Val} (hx : InD D x) : ∀ v ∈ l ++ [x], InD D v := fun v hv => by
  rcases List.mem_append.1 hv with h' | h'
  · exact h v h'
  · simp at h'; rw [h']; exact hx
theorem ren_same (t : ∀ a b, D a → D b → π a = π b → a = b) {x y : Val} (hx : InD D x) (hy : InD D y) : ren π x = ren π y ↔ x = y := by
  constructor
  · intro e
    by_cases h1 : x.kind = 2
    · by_cases h2 : y.kind = 2
      · unfold ren at e
        rw [if_pos h1, if_pos h2] at e
        obtain ⟨xk, xn, xt⟩ := x
        obtain ⟨yk, yn, yt⟩ := y
        simp only [Val.mk.injEq] at e
        obtain ⟨e1, e2, e3⟩ := e
        have p1 := hx h1
        have p2 := hy h2
        simp only at p1 p2
        have := t _ _ p1.2 p2.2 (by omega)
        simp only [Val.mk.injEq]
        exact ⟨e1, by omega, e3⟩
      · have := congrArg Val.kind e
        rw [ren_kind, ren_kind] at this
        omega
    · by_cases h2 : y.kind = 2
      · have := congrArg Val.kind e
        rw [ren_kind, ren_kind] at this
        omega
      · rwa [ren_flat h1, ren_flat h2] at e
  · intro e; rw [e]
theorem ren_text (v : Val) : (ren π v).text = v.text := by unfold ren; split <;> rfl
theorem two_flat (op : Int) (x y : Val) : (two op x y).1.kind ≠ 2 := by
  unfold two bit cText cInt
  repeat' split
  all_goals simp [vzero]
theorem two_ren (t : ∀ a b, D a → D b → π a = π b → a = b) {x y : Val} (hx : InD D x) (hy : InD D y) (op : Int) : two op (ren π x) (ren π y) = two op x y := by
  unfold two
  rw [ren_kind, ren_kind, ren_text, ren_text]
  by_cases h1 : op < 1 ∨ 5 < op
  · rw [if_pos h1, if_pos h1]
  rw [if_neg h1, if_neg h1]
  by_cases h5 : op = 5
  · rw [if_pos h5, if_pos h5]
    have : decide (ren π x = ren π y) = decide (x = y) := by rw [decide_eq_decide]; exact ren_same t hx hy
    rw [this]
  rw [if_neg h5, if_neg h5]
  by_cases ha : (x.kind = 1 ∧ y.kind = 1) ∧ op = 1
  · rw [if_pos ha, if_pos ha]
  rw [if_neg ha, if_neg ha]
  by_cases hb : (x.kind = 1 ∧ y.kind = 1) ∧ op = 4
  · rw [if_pos hb, if_pos hb]
  rw [if_neg hb, if_neg hb]
  by_cases hk : x.kind ≠ 0 ∨ y.kind ≠ 0
  · rw [if_pos hk, if_pos hk]
  rw [if_neg hk, if_neg hk, ren_flat (by omega), ren_flat (by omega)]
theorem AlR.toF (hb : Bs a b π D) {fs : List Frm} (hfs : ∀ f ∈ fs, FrD D f) {f : Frm} (hf : FrD D f) {e : Evt} {g : Frm} (hg : g = renF π f) : AlR (toF a fs f, e) (toF b (fs.map (renF π)) g, e) := by
  subst hg
  refine ⟨rfl, π, D, ⟨hb.id, hb.trip, hb.prog, hb.permit, hb.turn⟩, by simp [VM.toF], fun x hx => ?_⟩
  simp only [VM.toF] at hx
  rcases List.mem_append.1 hx with h | h
  · exact hfs x h
  · simp at h; rw [h]; exact hf
theorem AlR.push (hb : Bs a b π D) {fs : List Frm} (hfs : ∀ f ∈ fs, FrD D f) {f : Frm} (hf : FrD D f) {st : List Val} (hs : ∀ v ∈ st, InD D v) {v : Val} (hv : InD D v) {st' : List Val} {v' : Val} (h1 : st' = st.map (ren π)) (h2 : v' = ren π v) : AlR (push a fs f st v) (push b (fs.map (renF π)) (renF π f) st' v') := by
  subst h1; subst h2
  unfold VM.push
  exact AlR.toF hb hfs (f := { f with stack := st ++ [v] }) ⟨hf.vars, inD_snoc hs hv⟩ (by simp [renF])
theorem turn_more (t : Turn a.heap b.heap π D) {l r : Val} (hl : InD D l) (hr : InD D r) :
    Turn (a.heap ++ [⟨l, r⟩]) (b.heap ++ [⟨ren π l, ren π r⟩]) (fun n => if n = a.heap.length then b.heap.length else π n) (fun n => D n ∨ n = a.heap.length) ∧
    (∀ v : Val, InD D v → ren (fun n => if n = a.heap.length then b.heap.length else π n) v = ren π v) := by
  have lt : ∀ n, D n → n < a.heap.length := fun n hn => by
    obtain ⟨c, hc, _⟩ := t.cell n hn
    exact (List.getElem?_eq_some_iff.1 hc).1
  have lt' : ∀ n, D n → π n < b.heap.length := fun n hn => by
    obtain ⟨c, _, hc, _⟩ := t.cell n hn
    exact (List.getElem?_eq_some_iff.1 hc).1
  have same : ∀ v : Val, InD D v → ren (fun n => if n = a.heap.length then b.heap.length else π n) v = ren π v := fun v hv => by
    by_cases hk : v.kind = 2
    · unfold ren
      rw [if_pos hk, if_pos hk]
      have := lt _ (hv hk).2
      simp only [if_neg (Nat.ne_of_lt this)]
    · rw [ren_flat hk, ren_flat hk]
  refine ⟨⟨fun x y hx hy e => ?_, fun n hn => ?_⟩, same⟩
  · rcases hx with hx | hx
    · rcases hy with hy | hy
      · rw [if_neg (Nat.ne_of_lt (lt x hx)), if_neg (Nat.ne_of_lt (lt y hy))] at e
        exact t.inj x y hx hy e
      · rw [if_neg (Nat.ne_of_lt (lt x hx)), if_pos hy] at e
        have := lt' x hx; omega
    · rcases hy with hy | hy
      · rw [if_pos hx, if_neg (Nat.ne_of_lt (lt y hy))] at e
        have := lt' y hy; omega
      · omega
  · rcases hn with hn | hn
    · obtain ⟨c, h1, h2, h3, h4⟩ := t.cell n hn
      have hb := lt n hn
      have hb' := lt' n hn
      have e1 : ren (fun n => if n = a.heap.length then b.heap.length else π n) c.left = ren π c.left := by
        by_cases hk : c.left.kind = 2
        · unfold ren
          rw [if_pos hk, if_pos hk]
          have := lt _ (h3 hk)
          simp only [if_neg (Nat.ne_of_lt this)]
        · rw [ren_flat hk, ren_flat hk]
      have e2 : ren (fun n => if n = a.heap.length then b.heap.length else π n) c.right = ren π c.right := by
        by_cases hk : c.right.kind = 2
        · unfold ren
          rw [if_pos hk, if_pos hk]
          have := lt _ (h4 hk)
          simp only [if_neg (Nat.ne_of_lt this)]
        · rw [ren_flat hk, ren_flat hk]
      refine ⟨c, by rw [List.getElem?_append_left hb]; exact h1, ?_, fun k => .inl (h3 k), fun k => .inl (h4 k)⟩
      simp only [if_neg (Nat.ne_of_lt hb)]
      rw [List.getElem?_append_left hb', h2, e1, e2]
    · subst hn
      refine ⟨⟨l, r⟩, by simp, ?_, fun k => .inl (hl k).2, fun k => .inl (hr k).2⟩
      simp only [if_true]
      rw [same l hl, same r hr]
      simp
theorem turn_set (t : Turn a.heap b.heap π D) {n : Nat} (hn : D n) {l r : Val} (hl : InD D l) (hr : InD D r) : Turn (a.heap.set n ⟨l, r⟩) (b.heap.set (π n) ⟨ren π l, ren π r⟩) π D := by
  refine ⟨t.inj, fun m hm => ?_⟩
  obtain ⟨c, h1, h2, h3, h4⟩ := t.cell m hm
  have b1 := (List.getElem?_eq_some_iff.1 h1).1
  have b2 := (List.getElem?_eq_some_iff.1 h2).1
  by_cases e : m = n
  · subst e
    exact ⟨⟨l, r⟩, by rw [List.getElem?_set_self b1], by rw [List.getElem?_set_self b2], fun k => (hl k).2, fun k => (hr k).2⟩
  · have e' : π m ≠ π n := fun h => e (t.inj m n hm hn h)
    exact ⟨c, by rw [List.getElem?_set_ne (Ne.symm e)]; exact h1, by rw [List.getElem?_set_ne (Ne.symm e')]; exact h2, h3, h4⟩
end
theorem FrD.mono {D D' : Nat → Prop} {f : Frm} (h : FrD D f) (k : ∀ n, D n → D' n) : FrD D' f := ⟨fun v hv hk => ⟨(h.vars v hv hk).1, k _ (h.vars v hv hk).2⟩, fun v hv hk => ⟨(h.stack v hv hk).1, k _ (h.stack v hv hk).2⟩⟩
theorem renF_congr {π π' : Nat → Nat} {D : Nat → Prop} (h : ∀ v : Val, InD D v → ren π' v = ren π v) {f : Frm} (hf : FrD D f) : renF π' f = renF π f := by
  unfold renF
  rw [List.map_congr_left fun v hv => h v (hf.vars v hv), List.map_congr_left fun v hv => h v (hf.stack v hv)]
set_option maxHeartbeats 2000000 in
theorem opDo_al {a b : Agt} {π : Nat → Nat} {D : Nat → Prop} (hb : Bs a b π D) {s : Spt} (hs : ∀ x ∈ s.facts, WrongOk x.val (0 : Int)) {fs : List Frm} (hfs : ∀ f ∈ fs, FrD D f) {f : Frm} (hf : FrD D f) (hc : ∀ c ∈ a.heap, WrongOk c.left a.heap.length ∧ WrongOk c.right a.heap.length) (hst : ∀ v ∈ f.stack, WrongOk v a.heap.length) {i : Ins} (hop : 1 ≤ i.op ∧ i.op ≤ 19) :
    AlR (opDo a s fs f i) (opDo b s (fs.map (renF π)) (renF π f) i) := by
  obtain ⟨op, ia, ib⟩ := i
  simp only at hop
  have t := hb.turn
  have e1 : (renF π f).stack = f.stack.map (ren π) := rfl
  have e2 : (renF π f).vars = f.vars.map (ren π) := rfl
  have q1 : InD D (top1 f.stack) := inD_getD hf.stack _
  have q2 : InD D (top2 f.stack) := inD_getD hf.stack _
  have hlow : ∀ k, FrD D { f with stack := low k f.stack } := fun k => ⟨hf.vars, inD_low hf.stack k⟩
  have rlow : ∀ k, { renF π f with stack := low k (f.stack.map (ren π)) } = renF π { f with stack := low k f.stack } := fun k => by simp [renF, low_map]
  have cellq : ∀ v : Val, v.kind = 2 → InD D v → ∃ c, a.heap.getD v.n.toNat cl0 = c ∧ b.heap.getD (ren π v).n.toNat cl0 = ⟨ren π c.left, ren π c.right⟩ ∧ InD D c.left ∧ InD D c.right ∧ (ren π v).n.toNat = π v.n.toNat ∧ D v.n.toNat := fun v hk hv => by
    obtain ⟨c, h1, h2, h3, h4⟩ := t.cell _ (hv hk).2
    have hm := hc c (List.mem_of_getElem? h1)
    have er : (ren π v).n.toNat = π v.n.toNat := by unfold ren; rw [if_pos hk]; simp
    refine ⟨c, by rw [List.getD_eq_getElem?_getD, h1]; rfl, by rw [er, List.getD_eq_getElem?_getD, h2]; rfl, fun k => ⟨?_, h3 k⟩, fun k => ⟨?_, h4 k⟩, er, (hv hk).2⟩
    · have := hm.1.cell k; omega
    · have := hm.2.cell k; omega
  have shows : vshow b.heap 4 (ren π (top1 f.stack)) = vshow a.heap 4 (top1 f.stack) := by
    have kinds : ∀ {v : Val} {N : Int}, WrongOk v N → InD D v → v.kind = 0 ∨ v.kind = 1 ∨ (v.kind = 2 ∧ 0 ≤ v.n ∧ D v.n.toNat) := fun h hv => by
      rcases h.kind with k | k | k
      · exact .inl k
      · exact .inr (.inl k)
      · exact .inr (.inr ⟨k, hv k⟩)
    have kt : (top1 f.stack).kind = 0 ∨ (top1 f.stack).kind = 1 ∨ ((top1 f.stack).kind = 2 ∧ 0 ≤ (top1 f.stack).n ∧ D (top1 f.stack).n.toNat) := by
      by_cases hl : 1 ≤ f.stack.length
      · exact kinds (hst _ (top1_mem hl)) q1
      · left
        unfold top1
        rw [List.getD_eq_getElem?_getD, List.getElem?_eq_none (by omega)]
        rfl
    refine vshow_turn t 4 kt fun n c hn => ?_
    have hm := hc c (List.mem_of_getElem? hn)
    constructor
    · rcases hm.1.kind with k | k | k
      · exact .inl k
      · exact .inr (.inl k)
      · exact .inr (.inr ⟨k, (hm.1.cell k).1⟩)
    · rcases hm.2.kind with k | k | k
      · exact .inl k
      · exact .inr (.inl k)
      · exact .inr (.inr ⟨k, (hm.2.cell k).1⟩)
  have hops : op = 1 ∨ op = 2 ∨ op = 3 ∨ op = 4 ∨ op = 5 ∨ op = 6 ∨ op = 7 ∨ op = 8 ∨ op = 9 ∨ op = 10 ∨ op = 11 ∨ op = 12 ∨ op = 13 ∨ op = 14 ∨ op = 15 ∨ op = 16 ∨ op = 17 ∨ op = 18 ∨ op = 19 := by omega
  rcases hops with rfl | rfl | rfl | rfl | rfl | rfl | rfl | rfl | rfl | rfl | rfl | rfl | rfl | rfl | rfl | rfl | rfl | rfl | rfl
  · rw [opDo_1, opDo_1]
    exact AlR.push hb hfs hf hf.stack (inD_flat (by simp)) e1 rfl
  · rw [opDo_2, opDo_2, hb.prog]
    exact AlR.push hb hfs hf hf.stack (inD_flat (by simp [cText])) e1 (ren_flat (by simp [cText])).symm
  · rw [opDo_3, opDo_3]
    exact AlR.push hb hfs hf hf.stack (inD_getD hf.vars _) e1 (by rw [e2, getD_ren])
  · rw [opDo_4, opDo_4]
    refine AlR.toF hb hfs ⟨fun v hv => ?_, inD_low hf.stack 1⟩ ?_
    · rcases List.mem_or_eq_of_mem_set hv with h | h
      · exact hf.vars v h
      · rw [h]; exact q1
    · simp [renF, low_map, top1_ren, List.map_set]
  · rw [opDo_5, opDo_5, e1, top1_ren, top2_ren, two_ren t.inj q2 q1]
    by_cases h : (two ia (top2 f.stack) (top1 f.stack)).2 = 0
    · rw [if_pos h, if_pos h]
      exact AlR.push hb hfs hf (inD_low hf.stack 2) (inD_flat (two_flat _ _ _)) (low_map 2 _) (ren_flat (two_flat _ _ _)).symm
    · rw [if_neg h, if_neg h]
      exact AlR.toF hb hfs (hlow 2) (rlow 2)
  · rw [opDo_6, opDo_6, e1, top1_ren, top2_ren, hb.permit]
    by_cases h : a.permit.room = 0
    · rw [if_pos h, if_pos h]
      exact AlR.toF hb hfs (hlow 2) (rlow 2)
    · rw [if_neg h, if_neg h]
      obtain ⟨t2, same⟩ := turn_more t q2 q1
      have up : ∀ {g : Frm}, FrD D g → FrD (fun n => D n ∨ n = a.heap.length) g := fun h => h.mono fun n hn => .inl hn
      have efs : fs.map (renF π) = fs.map (renF fun n => if n = a.heap.length then b.heap.length else π n) := List.map_congr_left fun g hg => (renF_congr same (hfs g hg)).symm
      rw [efs, ← renF_congr same hf]
      refine AlR.push (a := { a with heap := a.heap ++ [⟨top2 f.stack, top1 f.stack⟩], permit := { a.permit with room := a.permit.room - 1 } }) (b := { b with heap := b.heap ++ [⟨ren π (top2 f.stack), ren π (top1 f.stack)⟩], permit := { a.permit with room := a.permit.room - 1 } }) ⟨hb.id, hb.trip, hb.prog, rfl, t2⟩ (fun g hg => up (hfs g hg)) (up hf) (fun v hv k => ⟨((inD_low hf.stack 2) v hv k).1, .inl ((inD_low hf.stack 2) v hv k).2⟩) (v := ⟨2, a.heap.length, []⟩) (fun _ => ⟨by simp, .inr (by simp)⟩) ?_ ?_
      · rw [low_map]; exact List.map_congr_left fun v hv => (same v (inD_low hf.stack 2 v hv)).symm
      · unfold ren; simp
  · rw [opDo_7, opDo_7, e1, top1_ren, ren_kind]
    by_cases h : (top1 f.stack).kind = 2
    · rw [if_neg (by simpa using h), if_neg (by simpa using h)]
      obtain ⟨c, c1, c2, c3, c4, _⟩ := cellq _ h q1
      rw [c1, c2]
      exact AlR.push hb hfs hf (inD_low hf.stack 1) c3 (low_map 1 _) rfl
    · rw [if_pos h, if_pos h]
      exact AlR.toF hb hfs (hlow 1) (rlow 1)
  · rw [opDo_8, opDo_8, e1, top1_ren, ren_kind]
    by_cases h : (top1 f.stack).kind = 2
    · rw [if_neg (by simpa using h), if_neg (by simpa using h)]
      obtain ⟨c, c1, c2, c3, c4, _⟩ := cellq _ h q1
      rw [c1, c2]
      exact AlR.push hb hfs hf (inD_low hf.stack 1) c4 (low_map 1 _) rfl
    · rw [if_pos h, if_pos h]
      exact AlR.toF hb hfs (hlow 1) (rlow 1)
  · rw [opDo_9, opDo_9, e1, top1_ren, top2_ren, ren_kind]
    by_cases h : (top2 f.stack).kind = 2
    · rw [if_neg (by simpa using h), if_neg (by simpa using h)]
      obtain ⟨c, c1, c2, c3, c4, c5, c6⟩ := cellq _ h q2
      rw [c1, c2, c5]
      exact AlR.toF (a := { a with heap := a.heap.set (top2 f.stack).n.toNat { c with left := top1 f.stack } }) (b := { b with heap := b.heap.set (π (top2 f.stack).n.toNat) ⟨ren π (top1 f.stack), ren π c.right⟩ }) ⟨hb.id, hb.trip, hb.prog, hb.permit, turn_set t c6 q1 c4⟩ hfs (hlow 2) (rlow 2)
    · rw [if_pos h, if_pos h]
      exact AlR.toF hb hfs (hlow 2) (rlow 2)
  · rw [opDo_10, opDo_10, e1, top1_ren, top2_ren, ren_kind]
    by_cases h : (top2 f.stack).kind = 2
    · rw [if_neg (by simpa using h), if_neg (by simpa using h)]
      obtain ⟨c, c1, c2, c3, c4, c5, c6⟩ := cellq _ h q2
      rw [c1, c2, c5]
      exact AlR.toF (a := { a with heap := a.heap.set (top2 f.stack).n.toNat { c with right := top1 f.stack } }) (b := { b with heap := b.heap.set (π (top2 f.stack).n.toNat) ⟨ren π c.left, ren π (top1 f.stack)⟩ }) ⟨hb.id, hb.trip, hb.prog, hb.permit, turn_set t c6 c3 q1⟩ hfs (hlow 2) (rlow 2)
    · rw [if_pos h, if_pos h]
      exact AlR.toF hb hfs (hlow 2) (rlow 2)
  · rw [opDo_11, opDo_11, e1, top1_ren, ren_kind, ren_text]
    by_cases h : (top1 f.stack).kind = 1
    · rw [if_neg (by simpa using h), if_neg (by simpa using h)]
      have hk : (ask s.facts (top1 f.stack).text).kind ≠ 2 := fun k => by
        have := (ask_ok hs (top1 f.stack).text 0).cell k
        omega
      exact AlR.push hb hfs hf (inD_low hf.stack 1) (inD_flat hk) (low_map 1 _) (ren_flat hk).symm
    · rw [if_pos h, if_pos h]
      exact AlR.toF hb hfs (hlow 1) (rlow 1)
  · rw [opDo_12, opDo_12]
    exact AlR.push hb hfs hf hf.stack (inD_flat (by simp [cText])) e1 (ren_flat (by simp [cText])).symm
  · rw [opDo_13, opDo_13, e1, top1_ren, ren_kind, ren_text, hb.permit]
    by_cases h : (top1 f.stack).kind = 1
    · have hne : ¬ ((top1 f.stack).kind ≠ 1) := by simpa using h
      simp only [if_neg hne]
      by_cases hh : a.permit.hops = 0
      · simp only [if_pos hh]
        exact AlR.push hb hfs hf (inD_low hf.stack 1) (inD_flat (by simp [vzero])) (low_map 1 _) rfl
      · simp only [if_neg hh]
        exact AlR.toF (a := { a with permit := { a.permit with hops := a.permit.hops - 1 } }) (b := { b with permit := { a.permit with hops := a.permit.hops - 1 } }) ⟨hb.id, hb.trip, hb.prog, rfl, t⟩ hfs (hlow 1) (rlow 1)
    · rw [if_pos h, if_pos h]
      exact AlR.toF hb hfs (hlow 1) (rlow 1)
  · rw [opDo_14, opDo_14, e1, top1_ren, shows]
    exact AlR.toF hb hfs (hlow 1) (rlow 1)
  · rw [opDo_15, opDo_15]
    exact AlR.toF hb hfs (f := { f with at_ := ia }) ⟨hf.vars, hf.stack⟩ rfl
  · rw [opDo_16, opDo_16, e1, top1_ren, ren_kind]
    have e0 : ((top1 f.stack).kind = 0 ∧ (ren π (top1 f.stack)).n = 0) = ((top1 f.stack).kind = 0 ∧ (top1 f.stack).n = 0) := by
      rw [eq_iff_iff]
      constructor
      · rintro ⟨h1, h2⟩; rw [ren_flat (by omega)] at h2; exact ⟨h1, h2⟩
      · rintro ⟨h1, h2⟩; rw [ren_flat (by omega)]; exact ⟨h1, h2⟩
    simp only [e0]
    exact AlR.toF hb hfs (f := { f with stack := low 1 f.stack, at_ := if (top1 f.stack).kind = 0 ∧ (top1 f.stack).n = 0 then ia else f.at_ }) ⟨hf.vars, inD_low hf.stack 1⟩ (by simp [renF, low_map])
  · rw [opDo_17, opDo_17, e1, List.length_map, hb.prog]
    by_cases h : 12 ≤ fs.length + 1
    · rw [if_pos h, if_pos h]
      exact AlR.toF hb hfs hf rfl
    · rw [if_neg h, if_neg h]
      have := AlR.toF (e := ev0) hb (fs := fs ++ [{ f with stack := low ib.toNat f.stack }]) (fun g hg => by
        rcases List.mem_append.1 hg with hg | hg
        · exact hfs g hg
        · simp at hg; rw [hg]; exact hlow _) (f := ⟨ia, 0, f.stack.drop (f.stack.length - ib.toNat) ++ List.replicate ((codeAt a.prog ia).vars - ib).toNat vzero, []⟩) ⟨fun v hv => by
          rcases List.mem_append.1 hv with hv | hv
          · exact hf.stack v (List.mem_of_mem_drop hv)
          · rw [List.eq_of_mem_replicate hv]; exact inD_flat (by simp [vzero]), fun v hv => by cases hv⟩ rfl
      have ef : (fs ++ [{ f with stack := low ib.toNat f.stack }]).map (renF π) = fs.map (renF π) ++ [{ renF π f with stack := low ib.toNat (f.stack.map (ren π)) }] := by
        rw [List.map_append, rlow]; rfl
      rw [ef] at this
      have eg : renF π ⟨ia, 0, f.stack.drop (f.stack.length - ib.toNat) ++ List.replicate ((codeAt a.prog ia).vars - ib).toNat vzero, []⟩ = ⟨ia, 0, (f.stack.map (ren π)).drop (f.stack.length - ib.toNat) ++ List.replicate ((codeAt a.prog ia).vars - ib).toNat vzero, []⟩ := by
        simp [renF, ren_zero, List.map_drop]
      rw [eg] at this
      rw [List.length_map]
      exact this
  · rw [opDo_18, opDo_18, e1, top1_ren, List.getLast?_map]
    cases hg : fs.getLast? with
    | none =>
      simp only [Option.map_none]
      rw [shows]
      exact ⟨rfl, π, D, ⟨hb.id, hb.trip, hb.prog, hb.permit, t⟩, rfl, fun g hg => by cases hg⟩
    | some g =>
      simp only [Option.map_some]
      have hgm := List.mem_of_getLast? hg
      have hgd := hfs g hgm
      have ed : (fs.map (renF π)).dropLast = fs.dropLast.map (renF π) := List.map_dropLast.symm
      rw [ed]
      exact AlR.push hb (fun x hx => hfs x (List.dropLast_subset _ hx)) hgd hgd.stack q1 rfl rfl
  · rw [opDo_19, opDo_19, e1]
    exact AlR.toF hb hfs (hlow 1) (rlow 1)
end VM
end Go.Proofs.YtobioljjoipimaaDoor
set_option maxRecDepth 8000
namespace Go.Proofs.YtobioljjoipimaaDoor
namespace VM
structure Went (p : Prg) (f : Frm) : Prop where
  pos : 0 < f.at_
  op : ((codeAt p f.fn).ins.getD (f.at_.toNat - 1) ⟨0, 0, 0⟩).op = 13
  seen : 0 ≤ (hts p f).getD (f.at_.toNat - 1) 0
  hei : (hts p f)[f.at_.toNat]? = some ((f.stack.length : Int) + 1)
section
variable {a : Agt} {k : Nat} {f : Frm}
end
structure Gone (a : Agt) (fs : List Frm) (f : Frm) : Prop where
  fr : a.frames = fs ++ [f]
  prog : program a.prog = 0
  id : 0 ≤ a.id ∧ a.id ≤ 1073741824
  trip : 0 ≤ a.trip ∧ a.trip ≤ 1073741824
  fuel : 0 ≤ a.permit.fuel ∧ a.permit.fuel ≤ 2000
  room : 0 ≤ a.permit.room
  hops : 0 ≤ a.permit.hops ∧ a.permit.hops ≤ 12
  flen : fs.length < 12
  hlen : (a.heap.length : Int) + a.permit.room ≤ 60
  ok : ∀ g ∈ fs ++ [f], FrOk a.prog a.heap.length g
  chain : WChain a.prog fs f.fn
  went : Went a.prog f
  cells : ∀ c ∈ a.heap, WrongOk c.left a.heap.length ∧ WrongOk c.right a.heap.length
end VM
end Go.Proofs.YtobioljjoipimaaDoor
set_option maxRecDepth 8000
namespace Go.Proofs.YtobioljjoipimaaDoor
namespace VM
theorem iteK {c : Prop} [Decidable c] {x y : Agt × Evt} {k : Int} {Pp : Prop} (h1 : c → x.2.kind = k → Pp) (h2 : ¬ c → y.2.kind = k → Pp) : (if c then x else y).2.kind = k → Pp := by
  by_cases h : c
  · rw [if_pos h]; exact h1 h
  · rw [if_neg h]; exact h2 h
theorem opDo_says {a : Agt} {s : Spt} {fs : List Frm} {f : Frm} {i : Ins} : (opDo a s fs f i).2.kind = 2 → i.op = 14 := by
  unfold opDo push
  repeat' (refine iteK (fun _ => ?_) (fun _ => ?_))
  all_goals first
    | (simp [ev0, dead]; done)
    | (intro _; assumption)
    | skip
  split <;> simp [ev0]
theorem opDo_goes {a : Agt} {s : Spt} {fs : List Frm} {f : Frm} {i : Ins} : (opDo a s fs f i).2.kind = 3 → i.op = 13 ∧ (top1 f.stack).kind = 1 ∧ a.permit.hops ≠ 0 := by
  unfold opDo push
  repeat' (refine iteK (fun _ => ?_) (fun _ => ?_))
  all_goals first
    | (simp [ev0, dead]; done)
    | (intro _; exact ⟨by assumption, by simp_all, by assumption⟩)
    | skip
  split <;> simp [ev0]
theorem ite_kinds {c : Prop} [Decidable c] {x y : Int} (h1 : c → x = 0 ∨ x = 2 ∨ x = 3 ∨ x = 4 ∨ x = 5) (h2 : ¬ c → y = 0 ∨ y = 2 ∨ y = 3 ∨ y = 4 ∨ y = 5) : (if c then x else y) = 0 ∨ (if c then x else y) = 2 ∨ (if c then x else y) = 3 ∨ (if c then x else y) = 4 ∨ (if c then x else y) = 5 := by
  by_cases h : c
  · rw [if_pos h]; exact h1 h
  · rw [if_neg h]; exact h2 h
theorem opDo_kinds (a : Agt) (s : Spt) (fs : List Frm) (f : Frm) (i : Ins) : (opDo a s fs f i).2.kind = 0 ∨ (opDo a s fs f i).2.kind = 2 ∨ (opDo a s fs f i).2.kind = 3 ∨ (opDo a s fs f i).2.kind = 4 ∨ (opDo a s fs f i).2.kind = 5 := by
  unfold opDo push
  simp only [apply_ite Prod.snd, apply_ite Evt.kind]
  repeat' (refine ite_kinds (fun _ => ?_) (fun _ => ?_))
  all_goals first
    | (simp [ev0, dead]; done)
    | (split <;> simp [ev0]; done)
    | skip
theorem step_kinds (a : Agt) (s : Spt) : (step a s).2.kind = 0 ∨ (step a s).2.kind = 2 ∨ (step a s).2.kind = 3 ∨ (step a s).2.kind = 4 ∨ (step a s).2.kind = 5 := by
  unfold step
  split
  · simp [dead]
  · split
    · simp [ev0]
    · exact opDo_kinds _ _ _ _ _
theorem step_open {a : Agt} {fs : List Frm} {f : Frm} {s : Spt} (l : Live a fs f) (h : (step a s).2.kind ≠ 5 ) (hf : a.permit.fuel ≠ 0) : step a s = opDo { a with permit := { a.permit with fuel := a.permit.fuel - 1 } } s fs { f with at_ := f.at_ + 1 } (insAt a.prog f) := by
  unfold step at h ⊢
  rw [if_neg hf]
  have e1 : a.frames.getLast? = some f := by rw [l.fr]; simp
  have e2 : a.frames.dropLast = fs := by rw [l.fr]; simp
  rw [e1]
  simp only [e2]
theorem step_fuel {a : Agt} {s : Spt} (h : (step a s).2.kind ≠ 5) : a.permit.fuel ≠ 0 := by
  intro e
  unfold step at h
  rw [if_pos e] at h
  exact h rfl
theorem low1_len {st : List Val} (h : 1 ≤ st.length) : ((low 1 st).length : Int) = st.length - 1 := by rw [low_len]; omega
theorem step_says {a : Agt} {fs : List Frm} {f : Frm} {s : Spt} (l : Live a fs f) (h : (step a s).2.kind = 2) : ∃ gs g, Live (step a s).1 gs g := by
  have hf := step_fuel (by rw [h]; omega : (step a s).2.kind ≠ 5)
  have e := step_open l (by rw [h]; omega) hf
  rw [e] at h ⊢
  have ho := opDo_says h
  have n := l.now
  generalize hi : insAt a.prog f = i at n ho ⊢
  obtain ⟨op, ia, ib⟩ := i
  simp only at ho
  subst ho
  rw [opDo_14]
  have pops : 1 ≤ f.stack.length := by have := n.pops; simp [effect] at this; omega
  have ok := l.ok f (by simp)
  have b1 := l.fuel
  have nx := n.go (by simp) (by simp)
  have ea : after (⟨14, ia, ib⟩ : Ins) f.stack.length = (f.stack.length : Int) - 1 := by simp [after, effect]
  rw [ea] at nx
  exact ⟨fs, _, l.on (k := f.at_ + 1) (vs := f.vars) (st := low 1 f.stack) (h := a.heap) (m := { a.permit with fuel := a.permit.fuel - 1 }) (by rw [low1_len pops]; exact nx) rfl ok.vv (fun v hv => ok.sv v (low_mem hv)) (Nat.le_refl _) l.cells (by simp only; omega) l.room l.hops l.hlen⟩
theorem step_goes {a : Agt} {fs : List Frm} {f : Frm} {s : Spt} (l : Live a fs f) (h : (step a s).2.kind = 3) {yes : Int} (hy : 0 ≤ yes ∧ yes ≤ 1) : ∃ g, Gone (step a s).1 fs g ∧ g.stack.length ≤ f.stack.length ∧ ∃ g', Live (answer (step a s).1 yes) fs g' := by
  have hf := step_fuel (by rw [h]; omega : (step a s).2.kind ≠ 5)
  have e := step_open l (by rw [h]; omega) hf
  rw [e] at h ⊢
  obtain ⟨ho, hk, hh⟩ := opDo_goes h
  have n := l.now
  have nat := n.at_
  generalize hi : insAt a.prog f = i at n ho nat ⊢
  obtain ⟨op, ia, ib⟩ := i
  simp only at ho hk hh
  subst ho
  rw [opDo_13, if_neg (by simpa using hk), if_neg hh]
  have pops : 1 ≤ f.stack.length := by have := n.pops; simp [effect] at this; omega
  have ok := l.ok f (by simp)
  have b1 := l.fuel
  have b3 := l.hops
  have nx := n.go (by simp) (by simp)
  have ea : after (⟨13, ia, ib⟩ : Ins) f.stack.length = (f.stack.length : Int) := by simp [after, effect]
  rw [ea] at nx
  obtain ⟨nx0, nx1⟩ := nx
  have klt := (List.getElem?_eq_some_iff.1 nx1).1
  rw [hts_len l.prog ok.code] at klt
  have ok0 := ok.at0
  have still := l.still
  have ll := low1_len pops
  have at1 : (f.at_ + 1).toNat - 1 = f.at_.toNat := by omega
  have okn : ∀ (st : List Val), (∀ v ∈ st, WrongOk v a.heap.length) → FrOk a.prog a.heap.length ⟨f.fn, f.at_ + 1, f.vars, st⟩ := fun st hs => ⟨ok.fn0, by simp only; omega, ok.code, klt, ok.vars, ok.vv, hs⟩
  refine ⟨⟨f.fn, f.at_ + 1, f.vars, low 1 f.stack⟩, ⟨rfl, l.prog, l.id, l.trip, by simp only [toF]; omega, l.room, by simp only [toF]; omega, l.flen, l.hlen, fun g hg => ?_, l.chain, ⟨by simp only; omega, ?_, ?_, ?_⟩, l.cells⟩, by simp only [low_len]; omega, ⟨f.fn, f.at_ + 1, f.vars, low 1 f.stack ++ [⟨0, yes, []⟩]⟩, ?_⟩
  · rcases List.mem_append.1 hg with hg | hg
    · exact l.ok g (by simp [hg])
    · simp only [List.mem_singleton] at hg
      subst hg
      exact okn _ fun v hv => ok.sv v (low_mem hv)
  · show ((codeAt a.prog f.fn).ins.getD ((f.at_ + 1).toNat - 1) ⟨0, 0, 0⟩).op = 13
    rw [at1, List.getD_eq_getElem?_getD, nat]; rfl
  · show 0 ≤ (hts a.prog f).getD ((f.at_ + 1).toNat - 1) 0
    rw [at1, List.getD_eq_getElem?_getD, still]
    simp
  · show (hts a.prog f)[(f.at_ + 1).toNat]? = some (((low 1 f.stack).length : Int) + 1)
    rw [nx1, ll]; congr 1; omega
  · have ean : answer (toF { a with permit := { a.permit with fuel := a.permit.fuel - 1, hops := a.permit.hops - 1 } } fs ⟨f.fn, f.at_ + 1, f.vars, low 1 f.stack⟩) yes = { a with frames := fs ++ [⟨f.fn, f.at_ + 1, f.vars, low 1 f.stack ++ [⟨0, yes, []⟩]⟩], permit := { a.permit with fuel := a.permit.fuel - 1, hops := a.permit.hops - 1 } } := by
      unfold answer toF
      simp
    rw [ean]
    refine l.on (k := f.at_ + 1) (vs := f.vars) (h := a.heap) (m := { a.permit with fuel := a.permit.fuel - 1, hops := a.permit.hops - 1 }) ?_ rfl ok.vv (fun v hv => ?_) (Nat.le_refl _) l.cells (by simp only; omega) l.room (by simp only; omega) l.hlen
    · refine ⟨nx0, ?_⟩
      rw [List.length_append, List.length_singleton]
      have : (((low 1 f.stack).length + 1 : Nat) : Int) = f.stack.length := by omega
      rw [this]; exact nx1
    · rcases List.mem_append.1 hv with hv | hv
      · exact ok.sv v (low_mem hv)
      · simp only [List.mem_singleton] at hv
        subst hv
        exact num_ok (by omega) _
end VM
end Go.Proofs.YtobioljjoipimaaDoor
