/- Words, and values: what the program's functions, and the document's, make of them. -/
import Derived.Test.YtckhbfbbpdjmdaaVa
import Derived.Test.YtckhbfbbpdjmdaaUse3
import Derived.Test.YtckhbfbbpdjmdaaVerifyM
namespace Go.Proofs.Ytckhbfbbpdjmdaa
open Go Go.RowKit

def Val.avs (v : Val) : List AV := [.int .i64 v.kind, .int .i64 v.n, .str v.text]
def Ins.avs (i : Ins) : List AV := [.int .i64 i.op, .int .i64 i.a, .int .i64 i.b]

theorem wrong1_qc (v : Val) (n : Int) : QC Try.prog 29 [.agg v.avs, .int .i64 n] (.int .i64 (VM.wrong v n)) := by
  refine QC.of' fun H nx => zwref1_WrongValue_calls _ _ H nx _ ?_
  obtain ⟨kind, m, text⟩ := v
  simp [zwref1_WrongValue_vc, Val.avs]
  simp only [← List.length_eq_zero_iff]
  repeat' first | apply And.intro | intro _
  all_goals (simp only [VM.wrong, ne_eq, ← List.length_eq_zero_iff]; (repeat' split) <;> omega)
set_option maxHeartbeats 2000000 in
theorem wrong_qc (v : Val) (n : Int) : QC Try.prog 28 [.agg v.avs, .int .i64 n] (.int .i64 (VM.wrong v n)) := by
  refine QC.of' fun H nx => cell_Wrong_calls _ _ H nx _ ?_
  obtain ⟨kind, m, text⟩ := v
  by_cases ht : text = []
  all_goals
    simp [cell_Wrong_vc, Val.avs, ht]
    repeat' first | apply And.intro | intro _ | (refine JN.same ?_; simp [ht, cell_Wrong_b1, cell_Wrong_b2, cell_Wrong_b3, cell_Wrong_j1, cell_Wrong_j2, cell_Wrong_j3])
  all_goals (simp only [VM.wrong, ht, ne_eq, not_true_eq_false, not_false_eq_true, and_true, and_false, or_false, List.length_nil]; (repeat' split) <;> omega)
theorem effect_qc (i : Ins) : QC Try.prog 30 [.agg i.avs] (.tup [.int .i64 (VM.effect i).1, .int .i64 (VM.effect i).2]) := by
  refine QC.of' fun H nx => verify_effect_calls _ H nx _ ?_
  obtain ⟨op, a, b⟩ := i
  simp [verify_effect_vc, Ins.avs]
  repeat' first | apply And.intro | intro _
  all_goals simp [VM.effect, *]
theorem shape_qc (i : Ins) : QC Try.prog 31 [.agg i.avs] (.tup [.int .i64 (VM.effect i).1, .int .i64 (VM.effect i).2]) := by
  refine QC.of' fun H nx => zwref6_Shape_calls _ H nx _ ?_
  obtain ⟨op, a, b⟩ := i
  unfold zwref6_Shape_vc
  simp only [Ins.avs, sure_agg, cells_agg, true_and, List.length_cons, List.length_nil, ld_p, Heap.put_at, rowk, List.getElem?_cons_zero, optk, bi_eql, cnd, decide_eq_true_eq, decide_eq_false_iff_not]
  refine ⟨fun h => ?_, fun h => ?_⟩
  · simp [VM.effect, h]
  have hx : op ≠ 17 := by simpa using h
  have hH : ((H.put nx (some (.row 3 [.int .i64 op, .int .i64 a, .int .i64 b]))).put (nx + 1) (some (.mp []))) (nx + 1) = some (.mp []) := Heap.put_at _ _ _
  have hK : Keep nx ((H.put nx (some (.row 3 [.int .i64 op, .int .i64 a, .int .i64 b]))).put (nx + 1) (some (.mp []))) H := by simp
  have hop : ((H.put nx (some (.row 3 [.int .i64 op, .int .i64 a, .int .i64 b]))).put (nx + 1) (some (.mp []))) nx = some (.row 3 [.int .i64 op, .int .i64 a, .int .i64 b]) := by simp
  simp only [Nat.zero_add, Nat.reduceAdd]
  generalize ((H.put nx (some (.row 3 [.int .i64 op, .int .i64 a, .int .i64 b]))).put (nx + 1) (some (.mp []))) = H1 at *
  repeat (refine ⟨rfl, mu_new hH hop (by omega) hK (by omega) (by simp only [findK_int, findK_nil, List.nil_append, List.cons_append, Int.reduceEq, if_false, Option.map_some, Option.map_none]) ?_⟩; clear hH hK hop; clear H1; intro H1 hH hop hK)
  simp only [List.nil_append, List.cons_append] at hH
  have hcases : op < 1 ∨ 19 < op ∨ op = 1 ∨ op = 2 ∨ op = 3 ∨ op = 4 ∨ op = 5 ∨ op = 6 ∨ op = 7 ∨ op = 8 ∨ op = 9 ∨ op = 10 ∨ op = 11 ∨ op = 12 ∨ op = 13 ∨ op = 14 ∨ op = 15 ∨ op = 16 ∨ op = 18 ∨ op = 19 := by omega
  have hs : ∀ p q : Int, (∃ r, findK (.int .i64 op) [(.int .i64 1, .agg [.int .i64 0, .int .i64 1]), (.int .i64 2, .agg [.int .i64 0, .int .i64 1]), (.int .i64 3, .agg [.int .i64 0, .int .i64 1]), (.int .i64 4, .agg [.int .i64 1, .int .i64 0]), (.int .i64 5, .agg [.int .i64 2, .int .i64 1]), (.int .i64 6, .agg [.int .i64 2, .int .i64 1]), (.int .i64 7, .agg [.int .i64 1, .int .i64 1]), (.int .i64 8, .agg [.int .i64 1, .int .i64 1]), (.int .i64 9, .agg [.int .i64 2, .int .i64 0]), (.int .i64 10, .agg [.int .i64 2, .int .i64 0]), (.int .i64 11, .agg [.int .i64 1, .int .i64 1]), (.int .i64 12, .agg [.int .i64 0, .int .i64 1]), (.int .i64 13, .agg [.int .i64 1, .int .i64 1]), (.int .i64 14, .agg [.int .i64 1, .int .i64 0]), (.int .i64 15, .agg [.int .i64 0, .int .i64 0]), (.int .i64 16, .agg [.int .i64 1, .int .i64 0]), (.int .i64 18, .agg [.int .i64 1, .int .i64 0]), (.int .i64 19, .agg [.int .i64 1, .int .i64 0])] = some r ∧
      (match r with | some (_, v) => v | none => .agg [.int .i64 0, .int .i64 0]) = .agg [.int .i64 (VM.effect ⟨op, a, b⟩).1, .int .i64 (VM.effect ⟨op, a, b⟩).2]) := by
    intro _ _
    rcases hcases with h | h | h
    · have e : VM.effect ⟨op, a, b⟩ = (0, 0) := by unfold VM.effect; simp only; (repeat' split) <;> first | omega | rfl
      refine ⟨none, ?_, by rw [e]⟩
      simp only [findK_int, findK_nil]
      repeat rw [if_neg (by omega)]
      rfl
    · have e : VM.effect ⟨op, a, b⟩ = (0, 0) := by unfold VM.effect; simp only; (repeat' split) <;> first | omega | rfl
      refine ⟨none, ?_, by rw [e]⟩
      simp only [findK_int, findK_nil]
      repeat rw [if_neg (by omega)]
      rfl
    · rcases h with h | h | h | h | h | h | h | h | h | h | h | h | h | h | h | h | h | h
      all_goals subst h; exact ⟨_, by simp only [findK_int, Int.reduceEq, if_false, if_true, Option.map_some]; rfl, rfl⟩
  obtain ⟨r, h1, h2⟩ := hs 0 0
  rw [hop, rowk]
  simp only [List.getElem?_cons_zero, optk, keyFit_int, true_and, lk_p, hH, mapk, h1, cond_true, cond_false]
  cases r with
  | none => simp only at h2; simp [hK, h2]
  | some pr => obtain ⟨i, v⟩ := pr; simp only at h2; simp [hK, h2]

theorem word_go (s : Str) (i : Nat) : (s.drop i).all VM.wordByte = if h : i < s.length then VM.wordByte s[i] && (s.drop (i + 1)).all VM.wordByte else true := by
  split
  · rename_i h
    rw [List.drop_eq_getElem_cons h, List.all_cons]
  · rename_i h
    rw [List.drop_of_length_le (by omega)]; rfl

theorem word_qc (s : Str) (hs : s.length ≤ maxLen) : QC Try.prog 25 [.str s] (.bool (VM.word s)) := by
  refine fun H nx => text_Word_calls _ H nx _ ?_
  simp only [maxLen] at hs
  simp [text_Word_vc]
  refine ⟨fun h => by simp [VM.word]; omega, fun h => ?_⟩
  have hl : s.length ≤ 12 := by omega
  have hw : VM.word s = s.all VM.wordByte := by simp [VM.word, hl]
  refine LP.mk (fun n xs H' nx' => ∃ i : Nat, i ≤ s.length ∧ n = s.length - i ∧ xs = [.str s, .int .i64 s.length, .int .i64 i] ∧ H = H' ∧ nx = nx' ∧ s.all VM.wordByte = (s.drop i).all VM.wordByte) s.length ⟨0, by omega, by omega, rfl, rfl, rfl, rfl⟩ ?_
  rintro n xs H' nx' ⟨i, hi, rfl, rfl, rfl, rfl, hall⟩
  rw [word_go] at hall
  simp [text_Word_l1]
  refine ⟨fun h => ?_, fun h => ?_⟩
  · rw [dif_pos h] at hall
    have hg : s.getD i 0 = s[i] := by simp [List.getD, h]
    simp [h]
    have hb : VM.wordByte s[i] = false → VM.word s = false := fun hb => by rw [hw, hall, hb]; rfl
    refine ⟨fun h1 => hb (by simp [VM.wordByte]; omega), fun h1 => ⟨fun h2 => hb (by simp [VM.wordByte]; omega), fun h2 => ⟨fun h3 => hb (by simp [VM.wordByte]; omega), fun h3 => ?_⟩⟩⟩
    rw [i64w (by omega)]
    refine ⟨s.length - (i + 1), by omega, i + 1, by omega, rfl, by simp, ?_⟩
    have : VM.wordByte s[i] = true := by simp [VM.wordByte]; omega
    rw [hall, this]; rfl
  · rw [dif_neg (by omega)] at hall
    rw [hw, hall]

theorem word1_qc (s : Str) (hs : s.length ≤ maxLen) : QC Try.prog 24 [.str s] (.bool (VM.word s)) := by
  refine fun H nx => zwref1_Word_calls _ H nx _ ?_
  simp only [maxLen] at hs
  simp [zwref1_Word_vc]
  refine LP.mk (fun n xs H' nx' => ∃ i : Nat, i ≤ s.length ∧ n = s.length - i ∧ xs = [.str s, .int .i64 s.length, .int .i64 i] ∧ H = H' ∧ nx = nx' ∧ s.all VM.wordByte = (s.drop i).all VM.wordByte) s.length ⟨0, by omega, by omega, rfl, rfl, rfl, rfl⟩ ?_
  rintro n xs H' nx' ⟨i, hi, rfl, rfl, rfl, rfl, hall⟩
  rw [word_go] at hall
  simp [zwref1_Word_l1]
  refine ⟨fun h => ?_, fun h => ?_⟩
  · rw [dif_pos h] at hall
    have hb : VM.wordByte s[i] = false → VM.word s = false := fun hb => by simp [VM.word, hall, hb]
    simp [h]
    refine ⟨fun h1 => hb (by simp [VM.wordByte]; omega), fun h1 => ⟨fun h2 => hb (by simp [VM.wordByte]; omega), fun h2 => ⟨fun h3 => hb (by simp [VM.wordByte]; omega), fun h3 => ?_⟩⟩⟩
    rw [i64w (by omega)]
    refine ⟨s.length - (i + 1), by omega, i + 1, by omega, rfl, by simp, ?_⟩
    have : VM.wordByte s[i] = true := by simp [VM.wordByte]; omega
    rw [hall, this]; rfl
  · rw [dif_neg (by omega)] at hall
    simp only [VM.word, hall, Bool.and_true]
    rw [Bool.eq_iff_iff]; simp; omega
end Go.Proofs.Ytckhbfbbpdjmdaa
