/- Words, and instructions: what the document's functions make of them. Words, and values: what the program's functions, and the document's, make of them. Numbers of instructions. Rows of numbers. Heights: what the program's function makes of a code. Heights: what the document's function makes of a code. Programs: what the program's function says is wrong with them. Programs: what the document's function says is wrong with them. Frames: what the program's function says is wrong with one. Agents: what the program's function says is wrong with one. Rows of one's own, by value from now on: cell by cell. The agent of bytes: its end. -/
import Derived.Test.YtpbnaaoilgohkaaG9
import Derived.Test.YtpbnaaoilgohkaaG5
import Derived.Test.YtpbnaaoilgohkaaG6
import Derived.Test.YtpbnaaoilgohkaaG13
set_option linter.unusedSimpArgs false
set_option linter.unusedVariables false
set_option maxRecDepth 8000
namespace Go.Proofs.Ytpbnaaoilgohkaa
open Go Go.RowKit
theorem zaly (i : Ins) : QC Try.prog 40 [.agg i.avs] (.tup [.int .i64 (VM.effect i).1, .int .i64 (VM.effect i).2]) := by
  refine QC.of' fun H nx => zwf _ H nx _ ?_
  obtain ⟨op, a, b⟩ := i
  unfold zqc
  simp only [Ins.avs, zalv, zald, true_and, List.length_cons, List.length_nil, ld_p, Heap.put_at, rowk, List.getElem?_cons_zero, optk, zaqj, cnd, cndc, decide_eq_true_eq, decide_eq_false_iff_not]
  refine ⟨fun h => ?_, fun h => ?_⟩
  · simp [VM.effect, h]
  have hx : op ≠ 17 := by simpa using h
  have hH : ((H.put nx (some (.row 3 [.int .i64 op, .int .i64 a, .int .i64 b]))).put (nx + 1) (some (.mp []))) (nx + 1) = some (.mp []) := Heap.put_at _ _ _
  have hK : Keep nx ((H.put nx (some (.row 3 [.int .i64 op, .int .i64 a, .int .i64 b]))).put (nx + 1) (some (.mp []))) H := by simp
  have hop : ((H.put nx (some (.row 3 [.int .i64 op, .int .i64 a, .int .i64 b]))).put (nx + 1) (some (.mp []))) nx = some (.row 3 [.int .i64 op, .int .i64 a, .int .i64 b]) := by simp
  simp only [Nat.zero_add, Nat.reduceAdd]
  generalize ((H.put nx (some (.row 3 [.int .i64 op, .int .i64 a, .int .i64 b]))).put (nx + 1) (some (.mp []))) = H1 at *
  repeat (refine ⟨rfl, zapr hH hop (by omega) hK (by omega) (by simp only [zmt, zxq, List.nil_append, List.cons_append, Int.reduceEq, if_false, Option.map_some, Option.map_none]) ?_⟩; clear hH hK hop; clear H1; intro H1 hH hop hK)
  simp only [List.nil_append, List.cons_append] at hH
  have hcases : op < 1 ∨ 19 < op ∨ op = 1 ∨ op = 2 ∨ op = 3 ∨ op = 4 ∨ op = 5 ∨ op = 6 ∨ op = 7 ∨ op = 8 ∨ op = 9 ∨ op = 10 ∨ op = 11 ∨ op = 12 ∨ op = 13 ∨ op = 14 ∨ op = 15 ∨ op = 16 ∨ op = 18 ∨ op = 19 := by omega
  have hs : ∀ p q : Int, (∃ r, zaq (.int .i64 op) [(.int .i64 1, .agg [.int .i64 0, .int .i64 1]), (.int .i64 2, .agg [.int .i64 0, .int .i64 1]), (.int .i64 3, .agg [.int .i64 0, .int .i64 1]), (.int .i64 4, .agg [.int .i64 1, .int .i64 0]), (.int .i64 5, .agg [.int .i64 2, .int .i64 1]), (.int .i64 6, .agg [.int .i64 2, .int .i64 1]), (.int .i64 7, .agg [.int .i64 1, .int .i64 1]), (.int .i64 8, .agg [.int .i64 1, .int .i64 1]), (.int .i64 9, .agg [.int .i64 2, .int .i64 0]), (.int .i64 10, .agg [.int .i64 2, .int .i64 0]), (.int .i64 11, .agg [.int .i64 1, .int .i64 1]), (.int .i64 12, .agg [.int .i64 0, .int .i64 1]), (.int .i64 13, .agg [.int .i64 1, .int .i64 1]), (.int .i64 14, .agg [.int .i64 1, .int .i64 0]), (.int .i64 15, .agg [.int .i64 0, .int .i64 0]), (.int .i64 16, .agg [.int .i64 1, .int .i64 0]), (.int .i64 18, .agg [.int .i64 1, .int .i64 0]), (.int .i64 19, .agg [.int .i64 1, .int .i64 0])] = some r ∧
      (match r with | some (_, v) => v | none => .agg [.int .i64 0, .int .i64 0]) = .agg [.int .i64 (VM.effect ⟨op, a, b⟩).1, .int .i64 (VM.effect ⟨op, a, b⟩).2]) := by
    intro _ _
    rcases hcases with h | h | h
    · have e : VM.effect ⟨op, a, b⟩ = (0, 0) := by unfold VM.effect; simp only; (repeat' split) <;> first | omega | rfl
      refine ⟨none, ?_, by rw [e]⟩
      simp only [zmt, zxq]
      repeat rw [if_neg (by omega)]
      rfl
    · have e : VM.effect ⟨op, a, b⟩ = (0, 0) := by unfold VM.effect; simp only; (repeat' split) <;> first | omega | rfl
      refine ⟨none, ?_, by rw [e]⟩
      simp only [zmt, zxq]
      repeat rw [if_neg (by omega)]
      rfl
    · rcases h with h | h | h | h | h | h | h | h | h | h | h | h | h | h | h | h | h | h
      all_goals subst h; exact ⟨_, by simp only [zmt, Int.reduceEq, if_false, if_true, Option.map_some]; rfl, rfl⟩
  obtain ⟨r, h1, h2⟩ := hs 0 0
  rw [hop, rowk]
  simp only [List.getElem?_cons_zero, optk, zaio, true_and, lk_p, hH, mapk, h1, cond_true, cond_false]
  cases r with
  | none => simp only at h2; simp [hK, h2]
  | some pr => obtain ⟨i, v⟩ := pr; simp only at h2; simp [hK, h2]
theorem zagy (s : Str) (i : Nat) : (s.drop i).all VM.wordByte = if h : i < s.length then VM.wordByte s[i] && (s.drop (i + 1)).all VM.wordByte else true := by
  split
  · rename_i h
    rw [List.drop_eq_getElem_cons h, List.all_cons]
  · rename_i h
    rw [List.drop_of_length_le (by omega)]; rfl
theorem zalq (s : Str) (hs : s.length ≤ maxLen) : QC Try.prog 39 [.str s] (.bool (VM.word s)) := by
  refine fun H nx => zyt _ H nx _ ?_
  simp only [maxLen] at hs
  simp [ztf]
  refine LP.mk (fun n xs H' nx' => ∃ i : Nat, i ≤ s.length ∧ n = s.length - i ∧ xs = [.str s, .int .i64 s.length, .int .i64 i] ∧ H = H' ∧ nx = nx' ∧ s.all VM.wordByte = (s.drop i).all VM.wordByte) s.length ⟨0, by omega, by omega, rfl, rfl, rfl, rfl⟩ ?_
  rintro n xs H' nx' ⟨i, hi, rfl, rfl, rfl, rfl, hall⟩
  rw [zagy] at hall
  simp [ztg]
  refine ⟨fun h => ?_, fun h => ?_⟩
  · rw [dif_pos h] at hall
    have hb : VM.wordByte s[i] = false → VM.word s = false := fun hb => by simp [VM.word, hall, hb]
    simp [h]
    refine ⟨fun h1 => hb (by simp [VM.wordByte]; omega), fun h1 => ⟨fun h2 => hb (by simp [VM.wordByte]; omega), fun h2 => ⟨fun h3 => hb (by simp [VM.wordByte]; omega), fun h3 => ?_⟩⟩⟩
    rw [i64w (by omega)]
    refine ⟨s.length - (i + 1), by omega, i + 1, by omega, rfl, by simp, ?_⟩
    have : VM.wordByte s[i] = true := by simp [VM.wordByte]; omega
    rw [hall, this]; rfl
  · rw [dif_neg (by omega)] at hall
    simp only [VM.word, hall, Bool.and_true]
    rw [Bool.eq_iff_iff]; simp; omega
end Go.Proofs.Ytpbnaaoilgohkaa
set_option maxRecDepth 8000
namespace Go.Proofs.Ytpbnaaoilgohkaa
open Go Go.RowKit
theorem zakl (i : Ins) : QC Try.prog 66 [.agg i.avs] (.tup [.int .i64 (VM.effect i).1, .int .i64 (VM.effect i).2]) := by
  refine QC.of' fun H nx => zwe _ H nx _ ?_
  obtain ⟨op, a, b⟩ := i
  simp [zpe, Ins.avs]
  repeat' first | apply And.intro | intro _
  all_goals simp [VM.effect, *]
theorem zaot (s : Str) (hs : s.length ≤ maxLen) : QC Try.prog 62 [.str s] (.bool (VM.word s)) := by
  refine fun H nx => zaal _ H nx _ ?_
  simp only [maxLen] at hs
  simp [zwt]
  refine ⟨fun h => by simp [VM.word]; omega, fun h => ?_⟩
  have hl : s.length ≤ 12 := by omega
  have hw : VM.word s = s.all VM.wordByte := by simp [VM.word, hl]
  refine LP.mk (fun n xs H' nx' => ∃ i : Nat, i ≤ s.length ∧ n = s.length - i ∧ xs = [.str s, .int .i64 s.length, .int .i64 i] ∧ H = H' ∧ nx = nx' ∧ s.all VM.wordByte = (s.drop i).all VM.wordByte) s.length ⟨0, by omega, by omega, rfl, rfl, rfl, rfl⟩ ?_
  rintro n xs H' nx' ⟨i, hi, rfl, rfl, rfl, rfl, hall⟩
  rw [zagy] at hall
  simp [zwu]
  refine ⟨fun h => ?_, fun h => ?_⟩
  · rw [dif_pos h] at hall
    have hg : s.getD i 0 = s[i] := by simp [List.getD, h]
    simp [h]
    have hb : VM.wordByte s[i] = false → VM.word s = false := fun hb => by rw [hw, hall, hb]; rfl
    refine ⟨fun h1 => hb (by simp [VM.wordByte]; omega), fun h1 => ⟨fun h2 => hb (by simp [VM.wordByte]; omega), fun h2 => ⟨fun h3 => hb (by simp [VM.wordByte]; omega), fun h3 => ?_⟩⟩⟩
    rw [i64w (by omega)]
    refine ⟨s.length - (i + 1), by omega, i + 1, by omega, rfl, by simp, ?_⟩
    have : VM.wordByte s[i] = true := by simp [VM.wordByte]; omega
    rw [hall, this]; rfl
  · rw [dif_neg (by omega)] at hall
    rw [hw, hall]
end Go.Proofs.Ytpbnaaoilgohkaa
set_option maxRecDepth 8000
namespace Go.Proofs.Ytpbnaaoilgohkaa
open Go Go.RowKit
theorem zarh (n m : Int) : QC Try.prog 65 [.int .i64 n, .int .i64 m] (.bool (VM.isIn n m)) := by
  refine QC.of' fun H nx => zss _ _ H nx _ ?_
  simp [zll, VM.isIn]
  constructor <;> intros <;> omega
set_option maxHeartbeats 2000000 in
theorem zaij (p : Prg) (c : Cod) (i : Ins) (H : Heap) (nx g : Nat) (hg : H g = some (.row 2 p.avs)) (hgn : g < nx) :
    za Try.prog 63 [.ptr g 0, .rop c.avs 0, .agg i.avs] H nx fun v H' nx' => Frz H' nx v (.int .i64 (VM.numbers p c i)) ∧ Keep nx H' H := by
  refine zuw _ _ _ H nx _ ?_
  obtain ⟨op, a, b⟩ := i
  have hne : g ≠ nx := by omega
  simp [znt, Ins.avs, hg, hne, Prg.avs, Cod.avs]
  refine JN.cut (fun xs H' nx' => xs = [.ptr nx 0, .bool (VM.numOk p c ⟨op, a, b⟩)] ∧ H' = H.put nx (some (.row 3 [.int .i64 op, .int .i64 a, .int .i64 b])) ∧ nx' = nx + 1) ?_ ?_
  · rintro xs H' nx' ⟨rfl, rfl, rfl⟩
    simp only [VM.numbers]
    cases hk : VM.numOk p c ⟨op, a, b⟩
    all_goals simp [zce, zcd, zcc, zcb, zca, zbz, zby, zbx, zbw]
    all_goals repeat' first | apply And.intro | intro _
    all_goals ((repeat' split) <;> omega)
  · simp [hg, hne, Prg.avs, Cod.avs, zce, zcd, zcc, zcb, zca, zbz, zby, zbx, zbw]
    repeat' first | apply And.intro | intro _ | (refine JN.same ?_; simp [hg, hne, Prg.avs, Cod.avs, zce, zcd, zcc, zcb, zca, zbz, zby, zbx, zbw]) | (refine zj.of_qc (zarh _ _) (.bool _) ?_; simp [hg, hne, Prg.avs, Cod.avs, zce, zcd, zcc, zcb, zca, zbz, zby, zbx, zbw]) | (simp [hg, hne, Prg.avs, Cod.avs, zce, zcd, zcc, zcb, zca, zbz, zby, zbx, zbw]; done)
    all_goals try (simp [VM.numOk, *]; done)
    all_goals try (simp [VM.numOk, *]; omega)
    · rename_i h; simp [VM.isIn] at h; omega
    · rename_i h; simp [VM.isIn] at h; omega
    · rename_i h
      have h' : 0 ≤ a ∧ a < p.codes.length := by simpa [VM.isIn] using h
      refine zahd (by omega) fun x hx => ?_
      obtain ⟨_, e⟩ := List.getElem?_eq_some_iff.1 hx
      subst e
      simp [VM.numOk, *]
end Go.Proofs.Ytpbnaaoilgohkaa
set_option maxRecDepth 8000
namespace Go.Proofs.Ytpbnaaoilgohkaa
open Go Go.RowKit
def zm (l : List Int) : List AV := l.map (AV.int .i64)
def prs : List (Int × Int) → List AV
  | [] => []
  | (a, b) :: r => .int .i64 a :: .int .i64 b :: prs r
theorem ztk (l : List (Int × Int)) : (prs l).length = l.length * 2 := by
  induction l with
  | nil => rfl
  | cons x r ih => obtain ⟨a, b⟩ := x; simp [prs, ih, Nat.succ_mul]
theorem zvc (l m : List (Int × Int)) : prs (l ++ m) = prs l ++ prs m := by
  induction l with
  | nil => rfl
  | cons x r ih => obtain ⟨a, b⟩ := x; simp [prs, ih]
section
variable {k : AV → Prop} {ki : IntKind}
@[simp ↓] theorem zauo {s g off len : Nat} {a : Int} {H : Heap} : SL s (.slc g off len) (some (.int ki a)) none H k = ROWK (H g) fun sz _ => sz = s ∧ 0 ≤ a ∧ a ≤ len ∧ k (.slc g (off + a.toNat * s) ((len : Int) - a).toNat) := by
  simp only [SL, zbb, lohi, qk]
  refine zgv (fun sz cs h => ?_) fun h => ?_
  · simp [h]
  · intro ha
    split at ha
    · rename_i sz cs he; exact h _ _ he
    · exact ha
end
theorem zacx (n i : Nat) (h : i < n) : List.take i (zm (List.replicate i (-1) ++ List.replicate (n - i) 0)) ++ AV.int .i64 (-1) :: List.drop (i + 1) (zm (List.replicate i (-1) ++ List.replicate (n - i) 0)) = zm (List.replicate (i + 1) (-1) ++ List.replicate (n - (i + 1)) 0) := by
  have e : n - i = (n - (i + 1)) + 1 := by omega
  rw [e, List.replicate_succ, List.replicate_succ']
  simp [zm, List.take_append, List.drop_append]
theorem zee (l : List Int) (i : Nat) : (zm l)[i]? = (l[i]?).map (AV.int .i64) := by simp [zm]
theorem zabn (l : List Int) (i : Nat) (x : Int) (h : i < l.length) : List.take i (zm l) ++ AV.int .i64 x :: List.drop (i + 1) (zm l) = zm (l.set i x) := by
  rw [zm, zm, List.map_set, List.set_eq_take_append_cons_drop]; simp [h]
@[simp] theorem zaru (l : List Int) : (zm l).length = l.length := by simp [zm]
theorem zzm (l : List Int) : (l.map fun n => [AV.int .i64 n]).flatten = zm l := by
  induction l with
  | nil => rfl
  | cons x r ih => simp [zm] at ih ⊢; exact ih
end Go.Proofs.Ytpbnaaoilgohkaa
set_option maxRecDepth 8000
namespace Go.Proofs.Ytpbnaaoilgohkaa
open Go Go.RowKit
def QAt (H : Heap) (nx : Nat) (lo : Nat) (v : AV) (q : List (Int × Int)) : Prop := ∃ g off cells, v = .slc g off q.length ∧ H g = some (.row 2 cells) ∧ cells.drop off = prs q ∧ off ≤ cells.length ∧ lo ≤ g ∧ g < nx
def HInv (c : Cod) (H0 : Heap) (n0 : Nat) (f : Nat) (xs : List AV) (H : Heap) (nx : Nat) : Prop := ∃ (q : List (Int × Int)) (out : List Int) (v : AV),
  xs = [.ptr n0 0, .slc (n0 + 1) 0 c.ins.length, v] ∧ QAt H nx (n0 + 2) v q ∧ H n0 = some (.row 3 c.avs) ∧ H (n0 + 1) = some (.row 1 (zm out)) ∧ out.length = c.ins.length ∧ Keep n0 H H0 ∧ n0 + 2 < nx ∧
  VM.heightsGo c.ins f q out = VM.heights c.ins ∧ q.length + 2 * zkv out < f ∧ f ≤ 2 * c.ins.length + 2 ∧ (∀ x ∈ q, 0 ≤ x.2 ∧ x.2 ≤ 16) ∧ (∀ x ∈ out, -1 ≤ x ∧ x ≤ 16)
set_option maxHeartbeats 2000000 in
theorem zabd (c : Cod) (hlen : c.ins.length ≤ 1048576) (hcalm : Calm c.ins) :
    QC Try.prog 64 [.agg c.avs] (.tup [.ro ((VM.heights c.ins).1.map fun n => [.int .i64 n]), .int .i64 (VM.heights c.ins).2]) := by
  refine QC.of' fun H nx => zuy _ H nx _ ?_
  simp [zny, Cod.avs]
  refine ⟨by omega, by omega, ?_⟩
  refine LP.mk (fun m xs H' nx' => ∃ i : Nat, i ≤ c.ins.length ∧ m = c.ins.length - i ∧ xs = [.ptr nx 0, .slc (nx + 1) 0 c.ins.length, .int .i64 c.ins.length, .int .i64 i] ∧ nx' = nx + 2 ∧
    H' = (H.put nx (some (.row 3 c.avs))).put (nx + 1) (some (.row 1 (zm (List.replicate i (-1) ++ List.replicate (c.ins.length - i) 0))))) c.ins.length
    ⟨0, by omega, by omega, by simp, rfl, by simp [zm, Cod.avs]⟩ ?_
  rintro m xs H' nx' ⟨i, hi, rfl, rfl, rfl, rfl⟩
  simp [znz]
  refine ⟨fun h => ?_, fun h => ?_⟩
  · refine ⟨h, by omega, ?_⟩
    rw [i64w (by omega)]
    refine ⟨c.ins.length - (i + 1), by omega, i + 1, by omega, rfl, by simp, ?_⟩
    rw [zacx _ _ h]
  obtain rfl : i = c.ins.length := by omega
  refine LP.mk (HInv c H nx) (2 * c.ins.length + 2) ⟨[(0, 0)], List.replicate c.ins.length (-1), .slc (nx + 2) 0 1, rfl, ⟨nx + 2, 0, [.int .i64 0, .int .i64 0], rfl, by simp, by simp [prs], by simp, by omega, by omega⟩, by simp, by simp, by simp, by simp, by omega, rfl, ?_, by omega, ?_, ?_⟩ ?_
  · unfold zkv; simp [List.countP_replicate]; omega
  · intro x hx; simp at hx; subst hx; simp
  · intro x hx; have := List.eq_of_mem_replicate hx; omega
  rintro f xs H1 n1 ⟨q, out, v, rfl, ⟨g, off, cells, rfl, hg, hcells, hoff, hlo, hhi⟩, hb, ho, hol, hK, hn, hgo, hmeas, hf, hq, hout⟩
  cases q with
  | nil =>
    simp [zba]
    cases f with
    | zero => simp at hmeas
    | succ f =>
      have e : VM.heights c.ins = (out, 0) := by rw [← hgo]; rfl
      rw [e]
      refine ⟨⟨Frz.row (sz := 1) (cells := zm out) (by omega) ho (by simp [hol]) (by simp) ?_ ?_, rfl⟩, hK⟩
      · exact zzm out
      · intro x hx; simp [zm] at hx; obtain ⟨a, _, rfl⟩ := hx; exact .int _ _
  | cons x q =>
    obtain ⟨at_, h⟩ := x
    have hc0 : cells[off]? = some (.int .i64 at_) := by have := congrArg (·[0]?) hcells; simpa [prs] using this
    have hc1 : cells[off + 1]? = some (.int .i64 h) := by have := congrArg (·[1]?) hcells; simpa [prs] using this
    have hdrop : cells.drop (off + 2) = prs q := by
      have := congrArg (List.drop 2) hcells
      simpa [prs] using this
    have hoff2 : off + 2 ≤ cells.length := by
      have := congrArg List.length hcells
      simp [prs, ztk] at this; omega
    cases f with
    | zero => simp at hmeas
    | succ f =>
    have hh := hq (at_, h) (by simp)
    simp only at hh
    have hq' : ∀ x ∈ q, 0 ≤ x.2 ∧ x.2 ≤ 16 := fun x hx => hq x (by simp [hx])
    simp only [List.length_cons] at hmeas
    simp only [VM.heightsGo] at hgo
    by_cases hr : 0 ≤ at_ ∧ at_ < c.ins.length
    case neg =>
      have e : (if 0 ≤ at_ then c.ins[at_.toNat]? else none) = none := by
        split
        · exact List.getElem?_eq_none (by omega)
        · rfl
      rw [e] at hgo
      simp only at hgo
      rw [← hgo]
      by_cases h0 : at_ < 0
      · simp [zba, hg, hc0, hc1, h0, hK]; omega
      · have : (c.ins.length : Int) ≤ at_ := by omega
        simp [zba, hg, hc0, hc1, h0, this, hK]; omega
    case pos =>
    obtain ⟨hr0, hr1⟩ := hr
    have hlt : at_.toNat < c.ins.length := by omega
    obtain ⟨i, hi⟩ : ∃ i, c.ins[at_.toNat]? = some i := ⟨_, List.getElem?_eq_getElem hlt⟩
    obtain ⟨o, ho'⟩ : ∃ o, out[at_.toNat]? = some o := ⟨_, List.getElem?_eq_getElem (by omega)⟩
    have hod : out.getD at_.toNat 0 = o := by simp [List.getD_eq_getElem?_getD, ho']
    rw [if_pos hr0, hi, hod] at hgo
    simp only at hgo
    by_cases hs : 0 ≤ o
    · rw [if_pos hs] at hgo
      by_cases hne : o = h
      · subst hne
        rw [if_neg (by simp)] at hgo
        simp [zba, hg, hc0, hc1, ho, hr0, hr1, zee, ho', hs, Int.not_lt.2 hr0, Int.not_le.2 hr1, Int.not_lt.2 hs]
        refine ⟨by omega, f, by omega, q, out, _, rfl, ⟨g, off + 2, cells, rfl, hg, hdrop, hoff2, hlo, hhi⟩, hb, ho, hol, hK, hn, hgo, by omega, by omega, hq', hout⟩
      · rw [if_pos hne] at hgo
        rw [← hgo]
        simp [zba, hg, hc0, hc1, ho, hr0, hr1, zee, ho', hs, hne, hK]
        omega
    rw [if_neg hs] at hgo
    have hbd := zmu i (hcalm i (List.mem_of_getElem? hi))
    have n1' : g ≠ nx := by omega
    have n2' : g ≠ nx + 1 := by omega
    have n3' : g ≠ n1 := by omega
    have n4' : nx ≠ n1 := by omega
    have n5' : nx + 1 ≠ n1 := by omega
    have hns : o < 0 := by omega
    obtain ⟨_, hi'⟩ := List.getElem?_eq_some_iff.1 hi
    simp [zba, hg, hc0, hc1, ho, hb, hr0, hr1, zee, ho', hs, hns, hi', Cod.avs, Ins.avs, Int.not_lt.2 hr0, Int.not_le.2 hr1]
    refine ⟨by omega, by omega, QC.call (zakl i) ?_⟩
    rw [zabn _ _ _ (by omega)]
    have h2g : ((H1.put (nx + 1) (some (.row 1 (zm (out.set at_.toNat h))))).put n1 (some (.row 3 [.int .i64 i.op, .int .i64 i.a, .int .i64 i.b]))) g = some (.row 2 cells) := by simp [n2', n3', hg]
    have h2b : ((H1.put (nx + 1) (some (.row 1 (zm (out.set at_.toNat h))))).put n1 (some (.row 3 [.int .i64 i.op, .int .i64 i.a, .int .i64 i.b]))) nx = some (.row 3 c.avs) := by simp [n4', hb]
    have h2o : ((H1.put (nx + 1) (some (.row 1 (zm (out.set at_.toNat h))))).put n1 (some (.row 3 [.int .i64 i.op, .int .i64 i.a, .int .i64 i.b]))) (nx + 1) = some (.row 1 (zm (out.set at_.toNat h))) := by simp [n5']
    have h2n : ((H1.put (nx + 1) (some (.row 1 (zm (out.set at_.toNat h))))).put n1 (some (.row 3 [.int .i64 i.op, .int .i64 i.a, .int .i64 i.b]))) n1 = some (.row 3 [.int .i64 i.op, .int .i64 i.a, .int .i64 i.b]) := by simp
    have h2K : Keep nx ((H1.put (nx + 1) (some (.row 1 (zm (out.set at_.toNat h))))).put n1 (some (.row 3 [.int .i64 i.op, .int .i64 i.a, .int .i64 i.b]))) H := by rw [Keep.put (by omega), Keep.put (by omega)]; exact hK
    generalize ((H1.put (nx + 1) (some (.row 1 (zm (out.set at_.toNat h))))).put n1 (some (.row 3 [.int .i64 i.op, .int .i64 i.a, .int .i64 i.b]))) = H2 at *
    have hu := zru (out := out) (k := at_.toNat) (h := h) (by omega) (by omega) hh.1
    generalize hE : VM.effect i = E at *
    obtain ⟨nd, gv⟩ := E
    simp only at hbd hgo
    have w1 : IntKind.i64.wrap (gv - nd) = gv - nd := i64w (by omega)
    have w2 : IntKind.i64.wrap (h + (gv - nd)) = h + (gv - nd) := i64w (by omega)
    have w3 : IntKind.i64.wrap (at_ + 1) = at_ + 1 := i64w (by omega)
    by_cases hc1 : h < nd ∨ (i.op = 18 ∧ h ≠ 1)
    · rw [if_pos hc1] at hgo
      rw [← hgo]
      by_cases hc2 : h < nd
      · simp [zaf, hc2, h2K]
      · have h18 : i.op = 18 := by omega
        have h1 : h ≠ 1 := by omega
        simp [zaf, hc2, h2n, h18, h1, h2K]
    rw [if_neg hc1] at hgo
    have hc2 : ¬ h < nd := by omega
    have hc2' : nd ≤ h := by omega
    by_cases hc3 : 16 < h + gv - nd
    · rw [if_pos hc3] at hgo
      rw [← hgo]
      have hc3' : 16 < h + (gv - nd) := by omega
      by_cases h18 : i.op = 18
      · have h1 : h = 1 := by omega
        subst h1
        simp [zaf, hc2, h2n, h18, w1, w2, hc3', h2K]
      · simp [zaf, hc2, h2n, h18, w1, w2, hc3', h2K]
    rw [if_neg hc3] at hgo
    have hc4 : ¬ 16 < h + (gv - nd) := by omega
    have e4 : h + gv - nd = h + (gv - nd) := by omega
    rw [e4] at hgo
    have fin : ∀ (l : List (Int × Int)) (v : AV) (H3 : Heap) (n3 : Nat), VM.heightsGo c.ins f (q ++ l) (out.set at_.toNat h) = VM.heights c.ins → l.length ≤ 2 → (∀ x ∈ l, 0 ≤ x.2 ∧ x.2 ≤ 16) →
        QAt H3 n3 (nx + 2) v (q ++ l) → H3 nx = some (.row 3 c.avs) → H3 (nx + 1) = some (.row 1 (zm (out.set at_.toNat h))) → Keep nx H3 H → nx + 2 < n3 →
        ∃ m, m < f + 1 ∧ HInv c H nx m [.ptr nx 0, .slc (nx + 1) 0 c.ins.length, v] H3 n3 := by
      intro l v H3 n3 p1 p2 p3 p4 p5 p6 p7 p8
      refine ⟨f, by omega, q ++ l, _, v, rfl, p4, p5, p6, by simpa using hol, p7, p8, p1, by simp; omega, by omega, fun x hx => ?_, fun x hx => ?_⟩
      · rcases List.mem_append.1 hx with hx | hx
        · exact hq' x hx
        · exact p3 x hx
      · rcases List.mem_or_eq_of_mem_set hx with h9 | h9
        · exact hout x h9
        · omega
    have hq0 : QAt H2 (n1 + 1) (nx + 2) (.slc g (off + 2) q.length) q := ⟨g, off + 2, cells, rfl, h2g, hdrop, hoff2, hlo, by omega⟩
    have n6' : g ≠ n1 + 1 := by omega
    have n7' : n1 ≠ g := by omega
    have n8' : nx ≠ g := by omega
    have n9' : nx + 1 ≠ g := by omega
    have htake : List.take (q.length * 2) (List.drop (off + 2) cells) = prs q := by rw [hdrop]; exact List.take_of_length_le (by rw [ztk]; exact Nat.le_refl _)
    have hclen : off + 2 + q.length * 2 = cells.length := by
      have := congrArg List.length hdrop
      simp [ztk] at this; omega
    have hql : q.length < 2097156 := by omega
    by_cases h15 : i.op = 15
    · simp [zaf, hc2, hc2', h2n, h15, w1, w2, w3, hc4, h2g, n6', htake]
      refine ⟨by omega, by omega, fin [(i.a, h + (gv - nd))] _ _ _ (by simpa [h15] using hgo) (by simp) (by simp; omega) ⟨n1 + 1 + 1, 0, prs q ++ [.int .i64 i.a, .int .i64 (h + (gv - nd))], by simp, by simp, by simp [zvc, prs], by simp, by omega, by omega⟩ ?_ ?_ ?_ (by omega)⟩
      · rw [Heap.put_ne _ _ (by omega), Heap.put_ne _ _ (by omega), Heap.put_ne _ _ (by omega)]; exact h2b
      · rw [Heap.put_ne _ _ (by omega), Heap.put_ne _ _ (by omega), Heap.put_ne _ _ (by omega)]; exact h2o
      · rw [Keep.put (by omega), Keep.put (by omega), Keep.put (by omega)]; exact h2K
    by_cases h18 : i.op = 18
    · have h1 : h = 1 := by omega
      subst h1
      simp [zaf, hc2, hc2', h2n, h18, w1, w2, w3, hc4, h2g]
      have := fin [] (.slc g (off + 2) q.length) H2 (n1 + 1) (by simpa [h15, h18] using hgo) (by simp) (by simp) (by simpa using hq0) h2b h2o h2K (by omega)
      exact this
    have n10 : ¬ n1 = n1 + 1 + 1 := by omega
    by_cases h16 : i.op = 16
    · simp [zaf, hc2, hc2', h2n, h16, w1, w2, w3, hc4, h2g, n6', n7', n10, htake, ztk]
      have htake2 : List.take ((q.length + 1) * 2) (prs q ++ [AV.int .i64 (at_ + 1), AV.int .i64 (h + (gv - nd))]) = prs q ++ [AV.int .i64 (at_ + 1), AV.int .i64 (h + (gv - nd))] := List.take_of_length_le (by simp [ztk]; omega)
      rw [htake2]
      refine ⟨by omega, by omega, by omega, by omega, fin [(at_ + 1, h + (gv - nd)), (i.a, h + (gv - nd))] (.slc (n1 + 1 + 1 + 1 + 1) 0 (q.length + 1 + 1)) _ _ (by simpa [h15, h16, h18] using hgo) (by simp) (by simp; omega) ⟨n1 + 1 + 1 + 1 + 1, 0, prs q ++ [.int .i64 (at_ + 1), .int .i64 (h + (gv - nd))] ++ [.int .i64 i.a, .int .i64 (h + (gv - nd))], by simp, by simp, by simp [zvc, prs], by simp, by omega, by omega⟩ ?_ ?_ ?_ (by omega)⟩
      · rw [Heap.put_ne _ _ (by omega), Heap.put_ne _ _ (by omega), Heap.put_ne _ _ (by omega), Heap.put_ne _ _ (by omega), Heap.put_ne _ _ (by omega), Heap.put_ne _ _ (by omega)]; exact h2b
      · rw [Heap.put_ne _ _ (by omega), Heap.put_ne _ _ (by omega), Heap.put_ne _ _ (by omega), Heap.put_ne _ _ (by omega), Heap.put_ne _ _ (by omega), Heap.put_ne _ _ (by omega)]; exact h2o
      · rw [Keep.put (by omega), Keep.put (by omega), Keep.put (by omega), Keep.put (by omega), Keep.put (by omega), Keep.put (by omega)]; exact h2K
    · simp [zaf, hc2, hc2', h2n, h15, h16, h18, w1, w2, w3, hc4, h2g, n6', n7', n10, htake]
      refine ⟨by omega, by omega, fin [(at_ + 1, h + (gv - nd))] (.slc (n1 + 1 + 1) 0 (q.length + 1)) _ _ (by simpa [h15, h16, h18] using hgo) (by simp) (by simp; omega) ⟨n1 + 1 + 1, 0, prs q ++ [.int .i64 (at_ + 1), .int .i64 (h + (gv - nd))], by simp, by simp, by simp [zvc, prs], by simp, by omega, by omega⟩ ?_ ?_ ?_ (by omega)⟩
      · rw [Heap.put_ne _ _ (by omega), Heap.put_ne _ _ (by omega), Heap.put_ne _ _ (by omega)]; exact h2b
      · rw [Heap.put_ne _ _ (by omega), Heap.put_ne _ _ (by omega), Heap.put_ne _ _ (by omega)]; exact h2o
      · rw [Keep.put (by omega), Keep.put (by omega), Keep.put (by omega)]; exact h2K
end Go.Proofs.Ytpbnaaoilgohkaa
set_option maxRecDepth 8000
namespace Go.Proofs.Ytpbnaaoilgohkaa
open Go Go.RowKit
theorem app1 {g len s : Nat} {x : Int} {H : Heap} {kk : AV → Heap → Nat → Prop} {A : List Int} (hg : H g = some (.row 1 (zm A))) (hl : A.length = len) (hgs : g ≠ s) (hb : len ≤ 4194304)
    (hk : ∀ H', H' (s + 1) = some (.row 1 (zm (A ++ [x]))) → (∀ y, y ≠ g → y ≠ s → y ≠ s + 1 → H' y = H y) → kk (.slc (s + 1) 0 (len + 1)) H' (s + 1 + 1)) :
    APP 1 8 (.slc g 0 len) (.slc s 0 1) (H.put s (some (.row 1 [.int .i64 x]))) (s + 1) kk := by
  simp [hgs, hg]
  refine ⟨by omega, by omega, hk _ ?_ ?_⟩
  · simp [hl, zm]
    rw [List.take_of_length_le (by simp; omega)]
  · intro y h1 h2 h3
    simp [h1, h2, h3]
theorem app2 {ga gb la s : Nat} {x y : Int} {H : Heap} {kk : AV → AV → Heap → Nat → Prop} {A B : List Int} (hga : H ga = some (.row 1 (zm A))) (hgb : H gb = some (.row 1 (zm B))) (hA : A.length = la) (hB : B.length = la) (hab : ga ≠ gb) (ha : ga < s) (hb : gb < s) (hl : la ≤ 4194304)
    (hk : ∀ H', H' (s + 1) = some (.row 1 (zm (A ++ [x]))) → H' (s + 3) = some (.row 1 (zm (B ++ [y]))) → (∀ z, z ≠ ga → z ≠ gb → z < s → H' z = H z) → kk (.slc (s + 1) 0 (la + 1)) (.slc (s + 3) 0 (la + 1)) H' (s + 4)) :
    APP 1 8 (.slc ga 0 la) (.slc s 0 1) (H.put s (some (.row 1 [.int .i64 x]))) (s + 1) fun v H' n => APP 1 8 (.slc gb 0 la) (.slc n 0 1) (H'.put n (some (.row 1 [.int .i64 y]))) (n + 1) fun w H'' n' => kk v w H'' n' := by
  refine app1 hga hA (by omega) hl fun H1 h1 h2 => ?_
  refine app1 (A := B) (by rw [h2 gb (by omega) (by omega) (by omega)]; exact hgb) hB (by omega) hl fun H3 h3 h4 => ?_
  refine hk H3 ?_ h3 fun z p q r => ?_
  · rw [h4 _ (by omega) (by omega) (by omega)]; exact h1
  · rw [h4 _ (by omega) (by omega) (by omega), h2 _ (by omega) (by omega) (by omega)]
def RInv (c : Cod) (H0 : Heap) (n0 : Nat) (f : Nat) (xs : List AV) (H : Heap) (nx : Nat) : Prop := ∃ (q : List (Int × Int)) (out A B : List Int) (ga gb k la : Nat),
  xs = [.ptr n0 0, .slc (n0 + 1) 0 c.ins.length, .slc ga 0 la, .slc gb 0 la, .int .i64 k] ∧ A.length = la ∧ B.length = la ∧ H ga = some (.row 1 (zm A)) ∧ H gb = some (.row 1 (zm B)) ∧ A.drop k = q.map (·.1) ∧ B.drop k = q.map (·.2) ∧ k ≤ la ∧
  n0 + 1 < ga ∧ n0 + 1 < gb ∧ ga ≠ gb ∧ ga < nx ∧ gb < nx ∧ k + f = 2 * c.ins.length + 2 ∧
  H n0 = some (.row 3 c.avs) ∧ H (n0 + 1) = some (.row 1 (zm out)) ∧ out.length = c.ins.length ∧ Keep n0 H H0 ∧
  VM.heightsGo c.ins f q out = VM.heights c.ins ∧ q.length + 2 * zkv out < f ∧ (∀ x ∈ q, 0 ≤ x.2 ∧ x.2 ≤ 16) ∧ (∀ x ∈ out, -1 ≤ x ∧ x ≤ 16)
set_option maxHeartbeats 4000000 in
theorem zzi (c : Cod) (hlen : c.ins.length ≤ 1048576) (hcalm : Calm c.ins) :
    QC Try.prog 11 [.agg c.avs] (.tup [.ro ((VM.heights c.ins).1.map fun n => [.int .i64 n]), .int .i64 (VM.heights c.ins).2]) := by
  refine QC.of' fun H nx => zup _ H nx _ ?_
  simp [znq, Cod.avs]
  refine ⟨by omega, by omega, ?_⟩
  refine LP.mk (fun m xs H' nx' => ∃ i : Nat, i ≤ c.ins.length ∧ m = c.ins.length - i ∧ xs = [.ptr nx 0, .slc (nx + 1) 0 c.ins.length, .int .i64 c.ins.length, .int .i64 i] ∧ nx' = nx + 2 ∧
    H' = (H.put nx (some (.row 3 c.avs))).put (nx + 1) (some (.row 1 (zm (List.replicate i (-1) ++ List.replicate (c.ins.length - i) 0))))) c.ins.length
    ⟨0, by omega, by omega, by simp, rfl, by simp [zm, Cod.avs]⟩ ?_
  rintro m xs H' nx' ⟨i, hi, rfl, rfl, rfl, rfl⟩
  simp [znr]
  refine ⟨fun h => ?_, fun h => ?_⟩
  · refine ⟨h, by omega, ?_⟩
    rw [i64w (by omega)]
    refine ⟨c.ins.length - (i + 1), by omega, i + 1, by omega, rfl, by simp, ?_⟩
    rw [zacx _ _ h]
  obtain rfl : i = c.ins.length := by omega
  refine LP.mk (RInv c H nx) (2 * c.ins.length + 2) ⟨[(0, 0)], List.replicate c.ins.length (-1), [0], [0], nx + 2, nx + 3, 0, 1, by simp, rfl, rfl, by simp [zm], by simp [zm], rfl, rfl, by omega, by omega, by omega, by omega, by omega, by omega, by omega, by simp; omega, by simp, by simp, ?_, rfl, ?_, ?_, ?_⟩ ?_
  · rw [Keep.put (by omega), Keep.put (by omega), Keep.put (by omega), Keep.put (by omega)]; simp
  · unfold zkv; simp [List.countP_replicate]; omega
  · intro x hx; simp at hx; subst hx; simp
  · intro x hx; have := List.eq_of_mem_replicate hx; omega
  rintro f xs H1 n1 ⟨q, out, A, B, ga, gb, k, la, rfl, hAl, hBl, hga, hgb, hA, hB, hk, g1, g2, g3, g4, g5, hkf, hb, ho, hol, hK, hgo, hmeas, hq, hout⟩
  cases f with
  | zero => simp at hmeas
  | succ f =>
  cases q with
  | nil =>
    have hkl : la ≤ k := by have := congrArg List.length hA; simp at this; omega
    have e : VM.heights c.ins = (out, 0) := by rw [← hgo]; rfl
    have : ¬ k < la := by omega
    simp [zaz, this, e]
    refine ⟨Frz.row (sz := 1) (cells := zm out) (by omega) ho (by simp [hol]) (by simp) (zzm out) ?_, hK⟩
    intro x hx; simp [zm] at hx; obtain ⟨a, _, rfl⟩ := hx; exact .int _ _
  | cons x q =>
    obtain ⟨at_, h⟩ := x
    have hkl : k < la := by have := congrArg List.length hA; simp at this; omega
    have hA0 : A[k]? = some at_ := by have := congrArg (·[0]?) hA; simpa using this
    have hB0 : B[k]? = some h := by have := congrArg (·[0]?) hB; simpa using this
    have hA1 : A.drop (k + 1) = q.map (·.1) := by have := congrArg (List.drop 1) hA; simpa using this
    have hB1 : B.drop (k + 1) = q.map (·.2) := by have := congrArg (List.drop 1) hB; simpa using this
    have hh := hq (at_, h) (by simp)
    simp only at hh
    have hq' : ∀ x ∈ q, 0 ≤ x.2 ∧ x.2 ≤ 16 := fun x hx => hq x (by simp [hx])
    have hlaq : la = k + 1 + q.length := by have := congrArg List.length hA; simp at this; omega
    simp only [List.length_cons] at hmeas
    simp only [VM.heightsGo] at hgo
    have w0 : IntKind.i64.wrap ((k : Int) + 1) = ((k + 1 : Nat) : Int) := by rw [i64w (by omega)]; simp
    by_cases hr : 0 ≤ at_ ∧ at_ < c.ins.length
    case neg =>
      have e : (if 0 ≤ at_ then c.ins[at_.toNat]? else none) = none := by
        split
        · exact List.getElem?_eq_none (by omega)
        · rfl
      rw [e] at hgo
      simp only at hgo
      rw [← hgo]
      by_cases h0 : at_ < 0
      · simp [zaz, hkl, hga, hgb, zee, hA0, hB0, h0, hK]
      · have : (c.ins.length : Int) ≤ at_ := by omega
        simp [zaz, hkl, hga, hgb, zee, hA0, hB0, h0, this, hK]
    case pos =>
    obtain ⟨hr0, hr1⟩ := hr
    have hlt : at_.toNat < c.ins.length := by omega
    obtain ⟨i, hi⟩ : ∃ i, c.ins[at_.toNat]? = some i := ⟨_, List.getElem?_eq_getElem hlt⟩
    obtain ⟨o, ho'⟩ : ∃ o, out[at_.toNat]? = some o := ⟨_, List.getElem?_eq_getElem (by omega)⟩
    have hod : out.getD at_.toNat 0 = o := by simp [List.getD_eq_getElem?_getD, ho']
    rw [if_pos hr0, hi, hod] at hgo
    simp only at hgo
    by_cases hs : 0 ≤ o
    · rw [if_pos hs] at hgo
      by_cases hne : o = h
      · subst hne
        rw [if_neg (by simp)] at hgo
        simp [zaz, hkl, hga, hgb, zee, hA0, hB0, ho, hr0, hr1, ho', hs, Int.not_lt.2 hr0, Int.not_le.2 hr1, w0, Int.not_lt.2 hs]
        exact ⟨f, by omega, q, out, A, B, ga, gb, k + 1, la, rfl, hAl, hBl, hga, hgb, hA1, hB1, by omega, g1, g2, g3, g4, g5, by omega, hb, ho, hol, hK, hgo, by omega, hq', hout⟩
      · rw [if_pos hne] at hgo
        rw [← hgo]
        simp [zaz, hkl, hga, hgb, zee, hA0, hB0, ho, hr0, hr1, ho', hs, hne, Int.not_lt.2 hr0, Int.not_le.2 hr1, hK]
    rw [if_neg hs] at hgo
    have hbd := zmu i (hcalm i (List.mem_of_getElem? hi))
    have n1' : ga ≠ nx := by omega
    have n2' : ga ≠ nx + 1 := by omega
    have n3' : ga ≠ n1 := by omega
    have n4' : nx ≠ n1 := by omega
    have n5' : nx + 1 ≠ n1 := by omega
    have m2' : gb ≠ nx + 1 := by omega
    have m3' : gb ≠ n1 := by omega
    have hns : o < 0 := by omega
    obtain ⟨_, hi'⟩ := List.getElem?_eq_some_iff.1 hi
    simp [zaz, hkl, hga, hgb, zee, hA0, hB0, ho, hb, hr0, hr1, ho', hs, hns, hi', Cod.avs, Ins.avs, Int.not_lt.2 hr0, Int.not_le.2 hr1]
    refine ⟨by omega, QC.call (zaly i) ?_⟩
    rw [zabn _ _ _ (by omega)]
    have h2a : ((H1.put (nx + 1) (some (.row 1 (zm (out.set at_.toNat h))))).put n1 (some (.row 3 [.int .i64 i.op, .int .i64 i.a, .int .i64 i.b]))) ga = some (.row 1 (zm A)) := by simp [n2', n3', hga]
    have h2c : ((H1.put (nx + 1) (some (.row 1 (zm (out.set at_.toNat h))))).put n1 (some (.row 3 [.int .i64 i.op, .int .i64 i.a, .int .i64 i.b]))) gb = some (.row 1 (zm B)) := by simp [m2', m3', hgb]
    have h2b : ((H1.put (nx + 1) (some (.row 1 (zm (out.set at_.toNat h))))).put n1 (some (.row 3 [.int .i64 i.op, .int .i64 i.a, .int .i64 i.b]))) nx = some (.row 3 c.avs) := by simp [n4', hb]
    have h2o : ((H1.put (nx + 1) (some (.row 1 (zm (out.set at_.toNat h))))).put n1 (some (.row 3 [.int .i64 i.op, .int .i64 i.a, .int .i64 i.b]))) (nx + 1) = some (.row 1 (zm (out.set at_.toNat h))) := by simp [n5']
    have h2n : ((H1.put (nx + 1) (some (.row 1 (zm (out.set at_.toNat h))))).put n1 (some (.row 3 [.int .i64 i.op, .int .i64 i.a, .int .i64 i.b]))) n1 = some (.row 3 [.int .i64 i.op, .int .i64 i.a, .int .i64 i.b]) := by simp
    have h2K : Keep nx ((H1.put (nx + 1) (some (.row 1 (zm (out.set at_.toNat h))))).put n1 (some (.row 3 [.int .i64 i.op, .int .i64 i.a, .int .i64 i.b]))) H := by rw [Keep.put (by omega), Keep.put (by omega)]; exact hK
    generalize ((H1.put (nx + 1) (some (.row 1 (zm (out.set at_.toNat h))))).put n1 (some (.row 3 [.int .i64 i.op, .int .i64 i.a, .int .i64 i.b]))) = H2 at *
    have hu := zru (out := out) (k := at_.toNat) (h := h) (by omega) (by omega) hh.1
    generalize hE : VM.effect i = E at *
    obtain ⟨nd, gv⟩ := E
    simp only at hbd hgo
    have w1 : IntKind.i64.wrap (h - nd) = h - nd := i64w (by omega)
    have w2 : IntKind.i64.wrap (h - nd + gv) = h - nd + gv := i64w (by omega)
    have w3 : IntKind.i64.wrap (at_ + 1) = at_ + 1 := i64w (by omega)
    by_cases hc1 : h < nd ∨ (i.op = 18 ∧ h ≠ 1)
    · rw [if_pos hc1] at hgo
      rw [← hgo]
      by_cases hc2 : h < nd
      · simp [zae, hc2, h2K]
      · have h18 : i.op = 18 := by omega
        have hnd : nd = 1 := by simp [VM.effect, h18] at hE; omega
        have h1 : 1 < h := by omega
        simp [zae, hc2, h2n, h18, h1, h2K]
    rw [if_neg hc1] at hgo
    have hc2 : ¬ h < nd := by omega
    have hc2' : nd ≤ h := by omega
    by_cases hc3 : 16 < h + gv - nd
    · rw [if_pos hc3] at hgo
      rw [← hgo]
      have hc3' : 16 < h - nd + gv := by omega
      by_cases h18 : i.op = 18
      · have h1 : h = 1 := by omega
        subst h1
        simp [zae, hc2, h2n, h18, w1, w2, hc3', h2K]
      · simp [zae, hc2, h2n, h18, w1, w2, hc3', h2K]
    rw [if_neg hc3] at hgo
    have hc4 : ¬ 16 < h - nd + gv := by omega
    have e4 : h + gv - nd = h - nd + gv := by omega
    rw [e4] at hgo
    have fin : ∀ (l : List (Int × Int)) (ga' gb' : Nat) (H3 : Heap) (n3 : Nat), VM.heightsGo c.ins f (q ++ l) (out.set at_.toNat h) = VM.heights c.ins → l.length ≤ 2 → (∀ x ∈ l, 0 ≤ x.2 ∧ x.2 ≤ 16) →
        H3 ga' = some (.row 1 (zm (A ++ l.map (·.1)))) → H3 gb' = some (.row 1 (zm (B ++ l.map (·.2)))) → nx + 1 < ga' → nx + 1 < gb' → ga' ≠ gb' → ga' < n3 → gb' < n3 →
        H3 nx = H2 nx → H3 (nx + 1) = H2 (nx + 1) → Keep nx H3 H →
        ∃ m, m < f + 1 ∧ RInv c H nx m [.ptr nx 0, .slc (nx + 1) 0 c.ins.length, .slc ga' 0 (la + l.length), .slc gb' 0 (la + l.length), .int .i64 ((k + 1 : Nat) : Int)] H3 n3 := by
      intro l ga' gb' H3 n3 p1 p2 p3 p4 p5 p6 p7 p8 p9 p10 p11 p12 p13
      refine ⟨f, by omega, q ++ l, _, A ++ l.map (·.1), B ++ l.map (·.2), ga', gb', k + 1, la + l.length, rfl, by simp [hAl], by simp [hBl], p4, p5, ?_, ?_, by omega, p6, p7, p8, p9, p10, by omega, p11.trans h2b, p12.trans h2o, by simpa using hol, p13, p1, by simp; omega, fun x hx => ?_, fun x hx => ?_⟩
      · rw [List.drop_append_of_le_length (by omega), hA1]; simp
      · rw [List.drop_append_of_le_length (by omega), hB1]; simp
      · rcases List.mem_append.1 hx with hx | hx
        · exact hq' x hx
        · exact p3 x hx
      · rcases List.mem_or_eq_of_mem_set hx with h9 | h9
        · exact hout x h9
        · omega
    have hlab : la ≤ 4194000 := by omega
    have kp : ∀ H3 : Heap, (∀ z, z ≠ ga → z ≠ gb → z < n1 + 1 → H3 z = H2 z) → Keep nx H3 H := fun H3 h3 g hg => (h3 g (by omega) (by omega) (by omega)).trans (h2K g hg)
    by_cases h15 : i.op = 15
    · simp [zae, hc2, hc2', h2n, h15, w0, w1, w2, w3, hc4, -zjx]
      refine app2 h2a h2c hAl hBl g3 (by omega) (by omega) (by omega) fun H3 q1 q2 q3 => ?_
      exact fin [(i.a, h - nd + gv)] _ _ _ _ (by simpa [h15] using hgo) (by simp) (by simp; omega) (by simpa using q1) (by simpa using q2) (by omega) (by omega) (by omega) (by omega) (by omega) (q3 _ (by omega) (by omega) (by omega)) (q3 _ (by omega) (by omega) (by omega)) (kp _ q3)
    by_cases h18 : i.op = 18
    · have h1 : h = 1 := by omega
      subst h1
      simp [zae, hc2, hc2', h2n, h18, w1, w2, w3, w0, hc4, -zjx]
      have := fin [] ga gb H2 (n1 + 1) (by simpa [h15, h18] using hgo) (by simp) (by simp) (by simpa using h2a) (by simpa using h2c) (by omega) (by omega) (by omega) (by omega) (by omega) rfl rfl h2K
      exact this
    by_cases h16 : i.op = 16
    · simp [zae, hc2, hc2', h2n, h16, w0, w1, w2, w3, hc4, -zjx]
      refine app2 h2a h2c hAl hBl g3 (by omega) (by omega) (by omega) fun H3 q1 q2 q3 => ?_
      have hn3 : H3 n1 = some (.row 3 [.int .i64 16, .int .i64 i.a, .int .i64 i.b]) := by rw [q3 _ (by omega) (by omega) (by omega), h2n, h16]
      simp [hn3, -zjx]
      refine app2 q1 q2 (by simp [hAl]) (by simp [hBl]) (by omega) (by omega) (by omega) (by omega) fun H4 r1 r2 r3 => ?_
      have q4 : ∀ z, z ≠ ga → z ≠ gb → z < n1 + 1 → H4 z = H2 z := fun z z1 z2 z3 => (r3 z (by omega) (by omega) (by omega)).trans (q3 z z1 z2 z3)
      exact fin [(at_ + 1, h - nd + gv), (i.a, h - nd + gv)] _ _ _ _ (by simpa [h15, h16, h18] using hgo) (by simp) (by simp; omega) (by simpa using r1) (by simpa using r2) (by omega) (by omega) (by omega) (by omega) (by omega) (q4 _ (by omega) (by omega) (by omega)) (q4 _ (by omega) (by omega) (by omega)) (kp _ q4)
    · simp [zae, hc2, hc2', h2n, h15, h16, h18, w0, w1, w2, w3, hc4, -zjx]
      refine app2 h2a h2c hAl hBl g3 (by omega) (by omega) (by omega) fun H3 q1 q2 q3 => ?_
      have hn3 : H3 n1 = some (.row 3 [.int .i64 i.op, .int .i64 i.a, .int .i64 i.b]) := by rw [q3 _ (by omega) (by omega) (by omega), h2n]
      simp [hn3, h15, h16, -zjx]
      exact fin [(at_ + 1, h - nd + gv)] _ _ _ _ (by simpa [h15, h16, h18] using hgo) (by simp) (by simp; omega) (by simpa using q1) (by simpa using q2) (by omega) (by omega) (by omega) (by omega) (by omega) (q3 _ (by omega) (by omega) (by omega)) (q3 _ (by omega) (by omega) (by omega)) (kp _ q3)
end Go.Proofs.Ytpbnaaoilgohkaa
set_option maxRecDepth 8000
namespace Go.Proofs.Ytpbnaaoilgohkaa
open Go Go.RowKit
set_option maxHeartbeats 4000000 in
theorem zaif (p : Prg) (hp : p.ok) : QC Try.prog 49 [.agg p.avs] (.int .i64 (VM.program p)) := by
  refine QC.of' fun H nx => zux _ H nx _ ?_
  simp [znu, Prg.avs]
  have hb0 : (H.put nx (some (.row 2 [.ro (p.codes.map Cod.avs), .ro (p.words.map fun w => [.str w])]))) nx = some (.row 2 p.avs) := by simp [Prg.avs]
  have hK0 : Keep nx (H.put nx (some (.row 2 [.ro (p.codes.map Cod.avs), .ro (p.words.map fun w => [.str w])]))) H := by simp
  generalize (H.put nx (some (.row 2 [.ro (p.codes.map Cod.avs), .ro (p.words.map fun w => [.str w])]))) = H1 at *
  refine ⟨fun h1 => by unfold VM.program; rw [if_pos (by omega)], fun h1 => ⟨fun h2 => by unfold VM.program; rw [if_pos (by omega)], fun h2 => ⟨fun h3 => by unfold VM.program; rw [if_neg (by omega), if_pos (by omega)], fun h3 => ?_⟩⟩⟩
  have e0 : VM.program p = if p.words.all VM.word = false then 7 else if (p.codes.getD 0 ⟨0, 0, []⟩).params ≠ 0 then 10 else if p.codes.any VM.codeRange then 3 else VM.firstErr (VM.codeErr p) p.codes := by
    unfold VM.program; rw [if_neg (by omega), if_neg (by omega)]
  obtain ⟨c0, hc0⟩ : ∃ c0, p.codes[0]? = some c0 := ⟨p.codes[0]'(by omega), List.getElem?_eq_getElem _⟩
  refine LP.mk (fun m xs H' nx' => ∃ i : Nat, i ≤ p.words.length ∧ m = p.words.length - i ∧ xs = [.ptr nx 0, .ro (p.words.map fun w => [.str w]), .int .i64 p.words.length, .int .i64 i] ∧ H1 = H' ∧ nx + 1 = nx' ∧ p.words.all VM.word = (p.words.drop i).all VM.word) p.words.length
    ⟨0, by omega, by omega, by simp, rfl, rfl, rfl⟩ ?_
  rintro m xs H' nx' ⟨i, hi, rfl, rfl, rfl, rfl, hall⟩
  by_cases hlt : i < p.words.length
  · obtain ⟨w, hw⟩ : ∃ w, p.words[i]? = some w := ⟨_, List.getElem?_eq_getElem hlt⟩
    obtain ⟨_, hw'⟩ := List.getElem?_eq_some_iff.1 hw
    rw [zafo _ _ _ _ hw] at hall
    simp [zia, hlt, hw']
    refine QC.call (zaot w (hp w (List.mem_of_getElem? hw))) ?_
    simp [znx]
    cases hx : VM.word w
    · rw [hx] at hall
      simp [hK0]
      rw [e0, hall]; rfl
    · rw [hx] at hall
      simp
      rw [i64w (by omega)]
      exact ⟨p.words.length - (i + 1), by omega, i + 1, by omega, rfl, rfl, by simpa using hall⟩
  obtain rfl : i = p.words.length := by omega
  have hall' : p.words.all VM.word = true := by rw [hall]; simp
  rw [hall'] at e0
  simp only [Bool.true_eq_false, if_false] at e0
  obtain ⟨_, hc0'⟩ := List.getElem?_eq_some_iff.1 hc0
  have h01 : 0 < p.codes.length := by omega
  simp [zia, hb0, Prg.avs, hc0', Cod.avs, h01]
  have hcg : p.codes.getD 0 ⟨0, 0, []⟩ = c0 := by simp [List.getD_eq_getElem?_getD, hc0]
  rw [hcg] at e0
  refine ⟨fun h4 => ⟨by rw [e0, if_pos h4], hK0⟩, fun h4 => ?_⟩
  rw [if_neg (by simpa using h4)] at e0
  refine LP.mk (fun m xs H' nx' => ∃ i : Nat, i ≤ p.codes.length ∧ m = p.codes.length - i ∧ xs = [.ptr nx 0, .int .i64 p.codes.length, .int .i64 i] ∧ H1 = H' ∧ nx + 1 = nx' ∧ p.codes.any VM.codeRange = (p.codes.drop i).any VM.codeRange) p.codes.length
    ⟨0, by omega, by omega, by simp, rfl, rfl, rfl⟩ ?_
  rintro m xs H' nx' ⟨i, hi, rfl, rfl, rfl, rfl, hany⟩
  by_cases hlt : i < p.codes.length
  · obtain ⟨c, hc⟩ : ∃ c, p.codes[i]? = some c := ⟨_, List.getElem?_eq_getElem hlt⟩
    obtain ⟨_, hc'⟩ := List.getElem?_eq_some_iff.1 hc
    rw [zafm _ _ _ _ hc] at hany
    simp [zib, hb0, Prg.avs, hlt, hc', Cod.avs, hK0]
    have w0 : IntKind.i64.wrap ((i : Int) + 1) = (i : Int) + 1 := i64w (by omega)
    rw [w0]
    cases hx : VM.codeRange c
    · have hx' := hx
      unfold VM.codeRange at hx'
      rw [decide_eq_false_iff_not] at hx'
      rw [hx] at hany
      refine ⟨fun _ => by omega, fun _ => ⟨fun _ => by omega, fun _ => ⟨fun _ => by omega, fun _ => ⟨fun _ => by omega, fun _ => ⟨fun _ => ?_, fun _ => ⟨fun _ => by omega, fun _ => ?_⟩⟩⟩⟩⟩⟩
      · exfalso; omega
      · exact ⟨p.codes.length - (i + 1), by omega, i + 1, by omega, rfl, rfl, by simpa using hany⟩
    · have hx' := hx
      unfold VM.codeRange at hx'
      rw [decide_eq_true_eq] at hx'
      rw [hx, Bool.true_or] at hany
      rw [hany] at e0
      simp only [if_true] at e0
      rw [e0]
      repeat' first | apply And.intro | intro _
      all_goals first | rfl | (exfalso; omega)
  obtain rfl : i = p.codes.length := by omega
  have hany' : p.codes.any VM.codeRange = false := by rw [hany]; simp
  rw [hany'] at e0
  simp only [Bool.false_eq_true, if_false] at e0
  simp [zib, hb0, Prg.avs]
  have hr : ∀ x ∈ p.codes, VM.codeRange x = false := by simpa using hany'
  clear hany hany' hall hall' hlt hi
  refine LP.mk (fun m xs H' nx' => ∃ i : Nat, i ≤ p.codes.length ∧ m = p.codes.length - i ∧ xs = [.ptr nx 0, .int .i64 p.codes.length, .int .i64 i] ∧ H' nx = some (.row 2 p.avs) ∧ Keep nx H' H ∧ nx < nx' ∧ VM.program p = VM.firstErr (VM.codeErr p) (p.codes.drop i)) p.codes.length
    ⟨0, by omega, by omega, by simp, hb0, hK0, by omega, by simpa using e0⟩ ?_
  rintro m xs H2 n2 ⟨k, hk, rfl, rfl, hb2, hK2, hn2, hfe⟩
  by_cases hlt : k < p.codes.length
  case neg =>
    obtain rfl : k = p.codes.length := by omega
    simp [zic, hK2]
    rw [hfe]; simp [VM.firstErr]
  obtain ⟨c, hc⟩ : ∃ c, p.codes[k]? = some c := ⟨_, List.getElem?_eq_getElem hlt⟩
  obtain ⟨_, hc'⟩ := List.getElem?_eq_some_iff.1 hc
  have hcr := hr c (List.mem_of_getElem? hc)
  have hlen : c.ins.length ≤ 200 := by
    unfold VM.codeRange at hcr
    rw [decide_eq_false_iff_not] at hcr
    omega
  rw [zbg _ _ _ _ hc] at hfe
  simp [zic, hb2, Prg.avs, hlt, hc', Cod.avs]
  refine LP.mk (fun m xs H' nx' => ∃ j : Nat, j ≤ c.ins.length ∧ m = c.ins.length - j ∧ xs = [.ptr nx 0, .int .i64 k, .int .i64 p.codes.length, .int .i64 k, .ro (c.ins.map Ins.avs), .int .i64 c.ins.length, .int .i64 j] ∧ H' nx = some (.row 2 p.avs) ∧ Keep nx H' H ∧ nx < nx' ∧ VM.firstErr (VM.numbers p c) c.ins = VM.firstErr (VM.numbers p c) (c.ins.drop j)) c.ins.length
    ⟨0, by omega, by omega, by simp, hb2, hK2, hn2, by simp⟩ ?_
  rintro m xs H3 n3 ⟨j, hj, rfl, rfl, hb3, hK3, hn3, hfj⟩
  have hne : nx ≠ n3 := by omega
  by_cases hjl : j < c.ins.length
  · obtain ⟨i, hi⟩ : ∃ i, c.ins[j]? = some i := ⟨_, List.getElem?_eq_getElem hjl⟩
    obtain ⟨_, hi'⟩ := List.getElem?_eq_some_iff.1 hi
    rw [zbg _ _ _ _ hi] at hfj
    simp [zid, hb3, Prg.avs, hlt, hc', Cod.avs, hjl, hi', Ins.avs, hne]
    refine zj.of_qcr [nx] (by simp [hne, hb3]) (r := .int .i64 (VM.numbers p c i)) (fun H' n' hag => ?_) (.int _ _) ?_
    · have := hag nx (by simp)
      exact (zaij p c i H' n' nx (by rw [this.1]; simp [hne, hb3]) this.2).pure
    · simp [znw]
      have hK4 : Keep nx (H3.put n3 (some (.row 3 [.int .i64 i.op, .int .i64 i.a, .int .i64 i.b]))) H := by rw [Keep.put (by omega)]; exact hK3
      refine ⟨fun hz => ⟨?_, hK4⟩, fun hz => ?_⟩
      · rw [if_pos hz] at hfj
        rw [hfe]
        have : VM.codeErr p c = VM.numbers p c i := by unfold VM.codeErr; rw [hfj, if_pos hz]
        rw [this, if_pos hz]
      · rw [i64w (by omega)]
        rw [if_neg (by simpa using hz)] at hfj
        exact ⟨c.ins.length - (j + 1), by omega, j + 1, by omega, rfl, rfl, by rw [if_neg hne]; exact hb3, hK4, by omega, hfj⟩
  obtain rfl : j = c.ins.length := by omega
  have hz : VM.firstErr (VM.numbers p c) c.ins = 0 := by rw [hfj]; simp [VM.firstErr]
  have hce : VM.codeErr p c = (VM.heights c.ins).2 := by unfold VM.codeErr; rw [if_neg (by simpa using hz)]
  rw [hce] at hfe
  simp [zid, hb3, Prg.avs, hlt, hc', Cod.avs]
  refine QC.call (zabd c (by omega) (zacb hr (zbf hz))) ?_
  simp [znv]
  refine ⟨fun h0 => ⟨?_, hK3⟩, fun h0 => ?_⟩
  · rw [if_pos h0] at hfe; exact hfe
  · rw [if_neg (by simpa using h0)] at hfe
    rw [i64w (by omega)]
    exact ⟨p.codes.length - (k + 1), by omega, k + 1, by omega, rfl, rfl, hb3, hK3, hn3, hfe⟩
end Go.Proofs.Ytpbnaaoilgohkaa
set_option maxRecDepth 8000
namespace Go.Proofs.Ytpbnaaoilgohkaa
open Go Go.RowKit
def lm (p : Prg) (c : Cod) (i : Ins) : Int × Int :=
  if i.op = 1 then (-1073741824, 1073741824) else if i.op = 2 then (0, p.words.length - 1) else if i.op = 3 then (0, c.vars - 1) else if i.op = 4 then (0, c.vars - 1) else if i.op = 5 then (1, 5)
  else if i.op = 15 then (0, c.ins.length - 1) else if i.op = 16 then (0, c.ins.length - 1) else if i.op = 17 then (0, p.codes.length - 1) else (0, 0)
theorem zaii (p : Prg) (c : Cod) (i : Ins) (h1 : 1 ≤ i.op) (h2 : i.op ≤ 19) : VM.numbers p c i = if i.a < (lm p c i).1 ∨ (lm p c i).2 < i.a ∨ (i.op = 17 ∧ some i.b ≠ (p.codes[i.a.toNat]?).map (·.params)) ∨ (i.op ≠ 17 ∧ i.b ≠ 0) then 3 else 0 := by
  unfold VM.numbers
  rw [if_neg (by omega)]
  have : (VM.numOk p c i = false ∨ (i.op ≠ 17 ∧ i.b ≠ 0)) ↔ (i.a < (lm p c i).1 ∨ (lm p c i).2 < i.a ∨ (i.op = 17 ∧ some i.b ≠ (p.codes[i.a.toNat]?).map (·.params)) ∨ (i.op ≠ 17 ∧ i.b ≠ 0)) := by
    unfold VM.numOk lm VM.isIn
    by_cases h17 : i.op = 17
    · simp [h17]
      by_cases hb : some i.b = (p.codes[i.a.toNat]?).map (·.params)
      · simp [hb]; omega
      · simp [hb]
    · simp only [h17, if_false]
      (repeat' split) <;> simp_all <;> omega
  by_cases hq : VM.numOk p c i = false ∨ (i.op ≠ 17 ∧ i.b ≠ 0)
  · rw [if_pos hq, if_pos (this.1 hq)]
  · rw [if_neg hq, if_neg (fun h => hq (this.2 h))]
set_option maxHeartbeats 4000000 in
theorem zagg (p : Prg) (hp : p.ok) : QC Try.prog 10 [.agg p.avs] (.int .i64 (VM.program p)) := by
  refine QC.of' fun H nx => zum _ H nx _ ?_
  simp [znj, Prg.avs]
  have hb0 : (H.put nx (some (.row 2 [.ro (p.codes.map Cod.avs), .ro (p.words.map fun w => [.str w])]))) nx = some (.row 2 p.avs) := by simp [Prg.avs]
  have hK0 : Keep nx (H.put nx (some (.row 2 [.ro (p.codes.map Cod.avs), .ro (p.words.map fun w => [.str w])]))) H := by simp
  generalize (H.put nx (some (.row 2 [.ro (p.codes.map Cod.avs), .ro (p.words.map fun w => [.str w])]))) = H1 at *
  refine ⟨fun h1 => by unfold VM.program; rw [if_pos (by rw [h1]; simp)], fun h1 => ?_⟩
  have hpos : 0 < p.codes.length := List.length_pos_iff.2 h1
  refine ⟨fun h2 => by unfold VM.program; rw [if_pos (by omega)], fun h2 => ⟨fun h3 => by unfold VM.program; rw [if_neg (by omega), if_pos (by omega)], fun h3 => ?_⟩⟩
  have e0 : VM.program p = if p.words.all VM.word = false then 7 else if (p.codes.getD 0 ⟨0, 0, []⟩).params ≠ 0 then 10 else if p.codes.any VM.codeRange then 3 else VM.firstErr (VM.codeErr p) p.codes := by
    unfold VM.program; rw [if_neg (by omega), if_neg (by omega)]
  obtain ⟨c0, hc0⟩ : ∃ c0, p.codes[0]? = some c0 := ⟨p.codes[0]'(by omega), List.getElem?_eq_getElem _⟩
  refine LP.mk (fun m xs H' nx' => ∃ i : Nat, i ≤ p.words.length ∧ m = p.words.length - i ∧ xs = [.ptr nx 0, .ro (p.words.map fun w => [.str w]), .int .i64 p.words.length, .int .i64 i] ∧ H1 = H' ∧ nx + 1 = nx' ∧ p.words.all VM.word = (p.words.drop i).all VM.word) p.words.length
    ⟨0, by omega, by omega, by simp, rfl, rfl, rfl⟩ ?_
  rintro m xs H' nx' ⟨i, hi, rfl, rfl, rfl, rfl, hall⟩
  by_cases hlt : i < p.words.length
  · obtain ⟨w, hw⟩ : ∃ w, p.words[i]? = some w := ⟨_, List.getElem?_eq_getElem hlt⟩
    obtain ⟨_, hw'⟩ := List.getElem?_eq_some_iff.1 hw
    rw [zafo _ _ _ _ hw] at hall
    simp [zhr, hlt, hw']
    refine QC.call (zalq w (hp w (List.mem_of_getElem? hw))) ?_
    simp [znl]
    cases hx : VM.word w
    · rw [hx] at hall
      simp [hK0]
      rw [e0, hall]; rfl
    · rw [hx] at hall
      simp
      rw [i64w (by omega)]
      exact ⟨p.words.length - (i + 1), by omega, i + 1, by omega, rfl, rfl, by simpa using hall⟩
  obtain rfl : i = p.words.length := by omega
  have hall' : p.words.all VM.word = true := by rw [hall]; simp
  rw [hall'] at e0
  simp only [Bool.true_eq_false, if_false] at e0
  obtain ⟨_, hc0'⟩ := List.getElem?_eq_some_iff.1 hc0
  have h01 : 0 < p.codes.length := by omega
  simp [zhr, hb0, Prg.avs, hc0', Cod.avs, h01]
  have hcg : p.codes.getD 0 ⟨0, 0, []⟩ = c0 := by simp [List.getD_eq_getElem?_getD, hc0]
  rw [hcg] at e0
  refine ⟨fun h4 => ⟨by rw [e0, if_pos h4], hK0⟩, fun h4 => ?_⟩
  rw [if_neg (by simpa using h4)] at e0
  refine LP.mk (fun m xs H' nx' => ∃ i : Nat, i ≤ p.codes.length ∧ m = p.codes.length - i ∧ xs = [.ptr nx 0, .ro (p.codes.map Cod.avs), .int .i64 p.codes.length, .int .i64 i] ∧ H' nx = some (.row 2 p.avs) ∧ Keep nx H' H ∧ nx < nx' ∧ p.codes.any VM.codeRange = (p.codes.drop i).any VM.codeRange) p.codes.length
    ⟨0, by omega, by omega, by simp, hb0, hK0, by omega, rfl⟩ ?_
  rintro m xs H2 n2 ⟨i, hi, rfl, rfl, hb2, hK2, hn2, hany⟩
  have hne2 : nx ≠ n2 := by omega
  by_cases hlt : i < p.codes.length
  · obtain ⟨c, hc⟩ : ∃ c, p.codes[i]? = some c := ⟨_, List.getElem?_eq_getElem hlt⟩
    obtain ⟨_, hc'⟩ := List.getElem?_eq_some_iff.1 hc
    rw [zafm _ _ _ _ hc] at hany
    have hK3 : Keep nx (H2.put n2 (some (.row 3 [.int .i64 c.params, .int .i64 c.vars, .ro (c.ins.map Ins.avs)]))) H := by rw [Keep.put (by omega)]; exact hK2
    simp [zhs, hlt, hc', Cod.avs, hK3]
    have w0 : IntKind.i64.wrap ((i : Int) + 1) = (i : Int) + 1 := i64w (by omega)
    rw [w0]
    cases hx : VM.codeRange c
    · have hx' := hx
      unfold VM.codeRange at hx'
      rw [decide_eq_false_iff_not] at hx'
      rw [hx] at hany
      refine ⟨fun _ => by omega, fun _ => ⟨fun _ => by omega, fun _ => ⟨fun _ => by omega, fun _ => ⟨fun _ => by omega, fun _ => ⟨fun he => ?_, fun _ => ⟨fun _ => by omega, fun _ => ?_⟩⟩⟩⟩⟩⟩
      · exfalso; rw [he] at hx'; simp at hx'
      · exact ⟨p.codes.length - (i + 1), by omega, i + 1, by omega, rfl, rfl, by rw [if_neg hne2, if_neg hne2]; exact hb2, by omega, by simpa using hany⟩
    · have hx' := hx
      unfold VM.codeRange at hx'
      rw [decide_eq_true_eq] at hx'
      rw [hx, Bool.true_or] at hany
      rw [hany] at e0
      simp only [if_true] at e0
      rw [e0]
      simp only [← List.length_eq_zero_iff]
      repeat' first | apply And.intro | intro _
      all_goals first | rfl | trivial | (exfalso; omega)
  obtain rfl : i = p.codes.length := by omega
  have hany' : p.codes.any VM.codeRange = false := by rw [hany]; simp
  rw [hany'] at e0
  simp only [Bool.false_eq_true, if_false] at e0
  simp [zhs, hb2, Prg.avs]
  have hr : ∀ x ∈ p.codes, VM.codeRange x = false := by simpa using hany'
  clear hany hany' hall hall' hlt hi
  refine LP.mk (fun m xs H' nx' => ∃ i : Nat, i ≤ p.codes.length ∧ m = p.codes.length - i ∧ xs = [.ptr nx 0, .ro (p.codes.map Cod.avs), .int .i64 p.codes.length, .int .i64 i] ∧ H' nx = some (.row 2 p.avs) ∧ Keep nx H' H ∧ nx < nx' ∧ VM.program p = VM.firstErr (VM.codeErr p) (p.codes.drop i)) p.codes.length
    ⟨0, by omega, by omega, by simp, hb2, hK2, by omega, by simpa using e0⟩ ?_
  clear hb2 hK2 hn2 hne2
  clear H2 n2
  rintro m xs H2 n2 ⟨k, hk, rfl, rfl, hb2, hK2, hn2, hfe⟩
  by_cases hlt : k < p.codes.length
  case neg =>
    obtain rfl : k = p.codes.length := by omega
    simp [zht, hK2]
    rw [hfe]; simp [VM.firstErr]
  obtain ⟨c, hc⟩ : ∃ c, p.codes[k]? = some c := ⟨_, List.getElem?_eq_getElem hlt⟩
  obtain ⟨_, hc'⟩ := List.getElem?_eq_some_iff.1 hc
  have hcr := hr c (List.mem_of_getElem? hc)
  have hlen : c.ins.length ≤ 200 := by
    unfold VM.codeRange at hcr
    rw [decide_eq_false_iff_not] at hcr
    omega
  have hvars : 0 ≤ c.vars ∧ c.vars ≤ 8 := by
    unfold VM.codeRange at hcr
    rw [decide_eq_false_iff_not] at hcr
    omega
  rw [zbg _ _ _ _ hc] at hfe
  have hne2 : nx ≠ n2 := by omega
  simp [zht, hb2, Prg.avs, hlt, hc', Cod.avs]
  refine LP.mk (fun m xs H' nx' => ∃ j : Nat, j ≤ c.ins.length ∧ m = c.ins.length - j ∧ xs = [.ptr nx 0, .ptr n2 0, .ro (p.codes.map Cod.avs), .int .i64 p.codes.length, .int .i64 k, .ro (c.ins.map Ins.avs), .int .i64 c.ins.length, .int .i64 j] ∧ H' nx = some (.row 2 p.avs) ∧ H' n2 = some (.row 3 c.avs) ∧ Keep nx H' H ∧ n2 < nx' ∧ VM.firstErr (VM.numbers p c) c.ins = VM.firstErr (VM.numbers p c) (c.ins.drop j)) c.ins.length
    ⟨0, by omega, by omega, by simp, by rw [Heap.put_ne _ _ hne2]; exact hb2, by rw [Heap.put_at]; rfl, by rw [Keep.put (by omega)]; exact hK2, by omega, by simp⟩ ?_
  rintro m xs H3 n3 ⟨j, hj, rfl, rfl, hb3, hc3, hK3, hn3, hfj⟩
  have hne : nx ≠ n3 := by omega
  have hne' : n2 ≠ n3 := by omega
  by_cases hjl : j < c.ins.length
  · obtain ⟨i, hi⟩ : ∃ i, c.ins[j]? = some i := ⟨_, List.getElem?_eq_getElem hjl⟩
    obtain ⟨_, hi'⟩ := List.getElem?_eq_some_iff.1 hi
    rw [zbg _ _ _ _ hi] at hfj
    have hK4 : Keep nx (H3.put n3 (some (.row 3 [.int .i64 i.op, .int .i64 i.a, .int .i64 i.b]))) H := by rw [Keep.put (by omega)]; exact hK3
    have hb4 : (H3.put n3 (some (.row 3 [.int .i64 i.op, .int .i64 i.a, .int .i64 i.b]))) nx = some (.row 2 p.avs) := by rw [Heap.put_ne _ _ hne]; exact hb3
    have hc4 : (H3.put n3 (some (.row 3 [.int .i64 i.op, .int .i64 i.a, .int .i64 i.b]))) n2 = some (.row 3 c.avs) := by rw [Heap.put_ne _ _ hne']; exact hc3
    have hi4 : (H3.put n3 (some (.row 3 [.int .i64 i.op, .int .i64 i.a, .int .i64 i.b]))) n3 = some (.row 3 [.int .i64 i.op, .int .i64 i.a, .int .i64 i.b]) := by rw [Heap.put_at]
    simp [zhu, hjl, hi', Ins.avs]
    generalize (H3.put n3 (some (.row 3 [.int .i64 i.op, .int .i64 i.a, .int .i64 i.b]))) = H4 at *
    have hbad : VM.numbers p c i ≠ 0 → VM.program p = VM.numbers p c i := by
      intro hz
      rw [if_pos hz] at hfj
      have : VM.codeErr p c = VM.numbers p c i := by unfold VM.codeErr; rw [hfj, if_pos hz]
      rw [hfe, this, if_pos hz]
    refine ⟨fun ho => ?_, fun ho1 => ⟨fun ho => ?_, fun ho2 => ?_⟩⟩
    · have e : VM.numbers p c i = 1 := by unfold VM.numbers; rw [if_pos (by omega)]
      exact ⟨by rw [hbad (by omega), e], hK4⟩
    · have e : VM.numbers p c i = 1 := by unfold VM.numbers; rw [if_pos (by omega)]
      exact ⟨by rw [hbad (by omega), e], hK4⟩
    refine JN.cut (fun xs H' nx' => xs = [.ptr nx 0, .ptr n2 0, .ptr n3 0, .int .i64 (lm p c i).1, .int .i64 (lm p c i).2, .ro (p.codes.map Cod.avs), .int .i64 p.codes.length, .int .i64 k, .ro (c.ins.map Ins.avs), .int .i64 c.ins.length, .int .i64 j] ∧ H4 = H' ∧ n3 + 1 = nx') ?_ ?_
    · rintro xs H' nx' ⟨rfl, rfl, rfl⟩
      have hnl := zaii p c i ho1 ho2
      have hgo : VM.numbers p c i = 0 → ∃ m, m < c.ins.length - j ∧ ∃ j', j' ≤ c.ins.length ∧ m = c.ins.length - j' ∧ (j : Int) + 1 = j' ∧ H4 nx = some (.row 2 p.avs) ∧ H4 n2 = some (.row 3 c.avs) ∧ Keep nx H4 H ∧ n2 < n3 + 1 ∧ VM.firstErr (VM.numbers p c) c.ins = VM.firstErr (VM.numbers p c) (List.drop j' c.ins) := by
        intro hz
        rw [if_neg (by simpa using hz)] at hfj
        exact ⟨c.ins.length - (j + 1), by omega, j + 1, by omega, rfl, rfl, hb4, hc4, hK4, by omega, hfj⟩
      have w0 : IntKind.i64.wrap ((j : Int) + 1) = (j : Int) + 1 := i64w (by omega)
      have hbad3 : VM.numbers p c i = 3 → VM.program p = 3 := fun hz => by rw [hbad (by omega), hz]
      by_cases h17 : i.op = 17
      · have hl1 : (lm p c i).1 = 0 := by simp [lm, h17]
        have hl2 : (lm p c i).2 = (p.codes.length : Int) - 1 := by simp [lm, h17]
        simp [zhv, hi4, hb4, Prg.avs, w0, h17]
        rw [hl1, hl2] at hnl ⊢
        refine ⟨fun ha => ⟨hbad3 (by rw [hnl, if_pos (.inl ha)]), hK4⟩, fun ha => ⟨fun hb => ⟨hbad3 (by rw [hnl, if_pos (.inr (.inl hb))]), hK4⟩, fun hb => ⟨ha, by omega, zahd (by omega) fun x hx => ?_⟩⟩⟩
        simp [Cod.avs]
        refine ⟨fun hp' => ⟨hbad3 (by rw [hnl, if_pos (.inr (.inr (.inl ⟨h17, by rw [hx]; simpa using hp'⟩)))]), hK4⟩, fun hp' => ?_⟩
        have hz : VM.numbers p c i = 0 := by rw [hnl, if_neg (by rw [hx]; simp [hp', h17]; omega)]
        have := hgo hz
        simpa [hb4, Prg.avs, Cod.avs] using this
      · simp [zhv, hi4, hb4, Prg.avs, w0, h17]
        refine ⟨fun ha => ⟨hbad3 (by rw [hnl, if_pos (.inl ha)]), hK4⟩, fun ha => ⟨fun hb => ⟨hbad3 (by rw [hnl, if_pos (.inr (.inl hb))]), hK4⟩, fun hb => ⟨fun hp' => ⟨hbad3 (by rw [hnl, if_pos (.inr (.inr (.inr ⟨h17, hp'⟩)))]), hK4⟩, fun hp' => ?_⟩⟩⟩
        have hz : VM.numbers p c i = 0 := by rw [hnl, if_neg (by simp [hp', h17]; omega)]
        have := hgo hz
        simpa [hb4, Prg.avs] using this
    · have q1 : IntKind.i64.wrap ((p.words.length : Int) - 1) = (p.words.length : Int) - 1 := i64w (by omega)
      have q2 : IntKind.i64.wrap (c.vars - 1) = c.vars - 1 := i64w (by omega)
      have q3 : IntKind.i64.wrap ((c.ins.length : Int) - 1) = (c.ins.length : Int) - 1 := i64w (by omega)
      have q4 : IntKind.i64.wrap ((p.codes.length : Int) - 1) = (p.codes.length : Int) - 1 := i64w (by omega)
      simp [znm, hb4, hc4, Prg.avs, Cod.avs, q1, q2, q3, q4]
      repeat' first | apply And.intro | intro _
      all_goals simp [lm, *]
  obtain rfl : j = c.ins.length := by omega
  have hz : VM.firstErr (VM.numbers p c) c.ins = 0 := by rw [hfj]; simp [VM.firstErr]
  have hce : VM.codeErr p c = (VM.heights c.ins).2 := by unfold VM.codeErr; rw [if_neg (by simpa using hz)]
  rw [hce] at hfe
  simp [zhu, hb3, hc3, Prg.avs, hlt, hc', Cod.avs]
  refine QC.call (zzi c (by omega) (zacb hr (zbf hz))) ?_
  simp [znk]
  refine ⟨fun h0 => ⟨?_, hK3⟩, fun h0 => ?_⟩
  · rw [if_pos h0] at hfe; exact hfe
  · rw [if_neg (by simpa using h0)] at hfe
    rw [i64w (by omega)]
    exact ⟨p.codes.length - (k + 1), by omega, k + 1, by omega, rfl, rfl, hb3, hK3, by omega, hfe⟩
end Go.Proofs.Ytpbnaaoilgohkaa
set_option maxRecDepth 8000
namespace Go.Proofs.Ytpbnaaoilgohkaa
open Go Go.RowKit
set_option maxHeartbeats 2000000 in
theorem zabh (a : Agt) (f : Frm) (h' : Int) (H H0 : Heap) (nx n0 g : Nat) (hg : H g = some (.row 9 a.avs)) (hgn : g < nx) (hn0 : n0 ≤ nx) (hK : Keep n0 H H0) (hv : f.vars.length ≤ 8) (hb : h' ≤ 16) :
    zcw (fun v H' _ => Frz H' n0 v (.int .i64 (zam a f.vars f.stack h')) ∧ Keep n0 H' H0) [.ptr g 0, .rop f.avs 0, .int .i64 h'] H nx := by
  by_cases h1 : h' < 0 ∨ (f.stack.length : Int) ≠ h'
  · have e : zam a f.vars f.stack h' = 10 := by unfold zam; rw [if_pos h1]
    rw [e]
    by_cases h2 : h' < 0
    · simp [zcw, h2, hK]
    · have h3 : ¬ (f.stack.length : Int) = h' := by omega
      simp [zcw, h2, h3, hK, Frm.avs]
  have e : zam a f.vars f.stack h' = VM.firstErr (fun v => VM.wrong v a.heap.length) (f.vars ++ f.stack) := by unfold zam; rw [if_neg h1]
  rw [e]
  have h2 : ¬ h' < 0 := by omega
  have h3 : (f.stack.length : Int) = h' := by omega
  have hne : g ≠ nx := by omega
  simp [zcw, h2, h3, Frm.avs]
  refine LP.mk (fun m xs H' nx' => ∃ (t : Nat) (l : List Val), t ≤ 2 ∧ m = 2 - t ∧ xs = [.ptr g 0, .slc nx 0 2, .int .i64 2, .int .i64 t] ∧ H' nx = some (.row 1 [.ro (f.vars.map Val.avs), .ro (f.stack.map Val.avs)]) ∧ H' g = some (.row 9 a.avs) ∧ Keep n0 H' H0 ∧ nx < nx' ∧
    l = (if t = 0 then f.vars ++ f.stack else if t = 1 then f.stack else []) ∧ VM.firstErr (fun v => VM.wrong v a.heap.length) (f.vars ++ f.stack) = VM.firstErr (fun v => VM.wrong v a.heap.length) l) 2
    ⟨0, _, by omega, by omega, by simp, by simp, by simp [hne, hg], by rw [Keep.put (by omega)]; exact hK, by omega, rfl, rfl⟩ ?_
  rintro m xs H1 n1 ⟨t, l, ht, rfl, rfl, hb1, hg1, hK1, hn1, hl, hfe⟩
  by_cases ht2 : t = 2
  · subst ht2
    simp at hl
    subst hl
    simp [zkp, hK1]
    rw [hfe]; rfl
  have hone : ∃ (cur rest : List Val), (([.ro (f.vars.map Val.avs), .ro (f.stack.map Val.avs)] : List AV)[t]? = some (.ro (cur.map Val.avs))) ∧ l = cur ++ rest ∧ cur.length ≤ 16 ∧ rest = (if t + 1 = 0 then f.vars ++ f.stack else if t + 1 = 1 then f.stack else []) := by
    have : t = 0 ∨ t = 1 := by omega
    rcases this with rfl | rfl
    · exact ⟨f.vars, f.stack, rfl, by simpa using hl, by omega, by simp⟩
    · exact ⟨f.stack, [], rfl, by simpa using hl, by omega, by simp⟩
  obtain ⟨cur, rest, hcur, hlr, hcl, hrest⟩ := hone
  have hlt : t < 2 := by omega
  obtain ⟨_, hcur'⟩ := List.getElem?_eq_some_iff.1 hcur
  have hlt' : (t : Int) < 2 := by omega
  simp [zkp, hlt, hlt', Int.not_le.2 hlt', hb1, hcur']
  refine LP.mk (fun m xs H' nx' => ∃ (j : Nat), j ≤ cur.length ∧ m = cur.length - j ∧ xs = [.ptr g 0, .slc nx 0 2, .int .i64 2, .int .i64 t, .ro (cur.map Val.avs), .int .i64 cur.length, .int .i64 j] ∧ H' nx = some (.row 1 [.ro (f.vars.map Val.avs), .ro (f.stack.map Val.avs)]) ∧ H' g = some (.row 9 a.avs) ∧ Keep n0 H' H0 ∧ nx < nx' ∧
    VM.firstErr (fun v => VM.wrong v a.heap.length) (f.vars ++ f.stack) = VM.firstErr (fun v => VM.wrong v a.heap.length) (cur.drop j ++ rest)) cur.length
    ⟨0, by omega, by omega, by simp, hb1, hg1, hK1, hn1, by rw [hfe, hlr]; rfl⟩ ?_
  rintro m xs H2 n2 ⟨j, hj, rfl, rfl, hb2, hg2, hK2, hn2, hfj⟩
  by_cases hjl : j < cur.length
  · obtain ⟨v, hv⟩ : ∃ v, cur[j]? = some v := ⟨_, List.getElem?_eq_getElem hjl⟩
    obtain ⟨_, hv'⟩ := List.getElem?_eq_some_iff.1 hv
    have m1 : g ≠ n2 := by omega
    have m2 : nx ≠ n2 := by omega
    simp [zkq, hjl, hv', Val.avs, hg2, m1, Agt.avs]
    refine zj.of_qc (zzq v _) (.int _ _) ?_
    simp [zro]
    rw [List.drop_eq_getElem_cons hjl, hv', List.cons_append] at hfj
    simp only [VM.firstErr] at hfj
    have hK3 : Keep n0 (H2.put n2 (some (.row 3 [.int .i64 v.kind, .int .i64 v.n, .str v.text]))) H0 := by rw [Keep.put (by omega)]; exact hK2
    refine ⟨fun hz => ⟨?_, hK3⟩, fun hz => ?_⟩
    · rw [if_pos hz] at hfj; exact hfj
    · rw [if_neg (by simpa using hz)] at hfj
      rw [i64w (by omega)]
      exact ⟨cur.length - (j + 1), by omega, j + 1, by omega, rfl, rfl, by rw [if_neg m2]; exact hb2, by rw [if_neg m1]; exact hg2, hK3, by omega, hfj⟩
  obtain rfl : j = cur.length := by omega
  simp [zkq]
  rw [i64w (by omega)]
  exact ⟨2 - (t + 1), by omega, t + 1, by omega, rfl, rfl, hb2, hg2, hK2, by omega, by rw [← hrest]; simpa using hfj⟩
set_option maxHeartbeats 4000000 in
theorem zamy (a : Agt) (k : Nat) (away : Bool) (H : Heap) (nx g : Nat) (hg : H g = some (.row 9 a.avs)) (hgn : g < nx) (hk : k < a.frames.length) (hl : a.frames.length ≤ 12) (hp : VM.program a.prog = 0) :
    za Try.prog 50 [.ptr g 0, .int .i64 k, .bool away] H nx fun v H' nx' => Frz H' nx v (.int .i64 (VM.frame a k away)) ∧ Keep nx H' H := by
  refine zwq _ _ _ H nx _ ?_
  obtain ⟨f, hf⟩ : ∃ f, a.frames[k]? = some f := ⟨_, List.getElem?_eq_getElem hk⟩
  obtain ⟨_, hf'⟩ := List.getElem?_eq_some_iff.1 hf
  obtain ⟨fn, at_, vs, st⟩ := f
  by_cases h1 : 0 ≤ fn ∧ fn < a.prog.codes.length
  case neg =>
    have e : VM.frame a k away = 3 := by
      unfold VM.frame
      rw [hf]
      have : (if 0 ≤ fn then a.prog.codes[fn.toNat]? else none) = none := by
        split
        · exact List.getElem?_eq_none (by omega)
        · rfl
      simp only [this]
    rw [e]
    by_cases h0 : fn < 0
    · simp [zbo, hg, Agt.avs, hk, hf', Frm.avs, h0]
    · have : (a.prog.codes.length : Int) ≤ fn := by omega
      simp [zbo, hg, Agt.avs, hk, hf', Frm.avs, h0, this]
  obtain ⟨h10, h11⟩ := h1
  obtain ⟨n, rfl⟩ : ∃ n : Nat, fn = n := ⟨fn.toNat, by omega⟩
  have hnl : n < a.prog.codes.length := by omega
  obtain ⟨c, hc⟩ : ∃ c, a.prog.codes[n]? = some c := ⟨_, List.getElem?_eq_getElem hnl⟩
  obtain ⟨_, hc'⟩ := List.getElem?_eq_some_iff.1 hc
  obtain ⟨hcr, hcalm, hch⟩ := (zch hp).1 c (List.mem_of_getElem? hc)
  have hcr' : ¬ (c.params < 0 ∨ 4 < c.params ∨ c.vars < c.params ∨ 8 < c.vars ∨ c.ins.length < 1 ∨ 200 < c.ins.length) := by
    unfold VM.codeRange at hcr
    rwa [decide_eq_false_iff_not] at hcr
  by_cases h2 : (0 ≤ at_ ∧ at_ < c.ins.length) ∧ (vs.length : Int) = c.vars
  case neg =>
    have e : VM.frame a k away = 3 := by
      unfold VM.frame
      rw [hf]
      simp only [Int.toNat_natCast]
      rw [if_pos (by omega), hc]
      simp only
      by_cases hat : 0 ≤ at_ ∧ at_ < c.ins.length
      · rw [if_pos hat.1, List.getElem?_eq_getElem (by omega)]
        simp only
        rw [if_pos (by omega)]
      · have : (if 0 ≤ at_ then c.ins[at_.toNat]? else none) = none := by
          split
          · exact List.getElem?_eq_none (by omega)
          · rfl
        simp only [this]
    rw [e]
    by_cases h0 : at_ < 0
    · simp [zbo, hg, Agt.avs, hk, hf', Frm.avs, Int.not_le.2 h11, hnl, hc', h0, Cod.avs]
    · by_cases h3 : (c.ins.length : Int) ≤ at_
      · simp [zbo, hg, Agt.avs, hk, hf', Frm.avs, Int.not_le.2 h11, hnl, hc', h0, h3, Cod.avs]
      · have h4 : ¬ (vs.length : Int) = c.vars := by omega
        simp [zbo, hg, Agt.avs, hk, hf', Frm.avs, Int.not_le.2 h11, hnl, hc', h0, h3, h4, Cod.avs]
  obtain ⟨⟨h20, h21⟩, h22⟩ := h2
  obtain ⟨m, rfl⟩ : ∃ m : Nat, at_ = m := ⟨at_.toNat, by omega⟩
  have hml : m < c.ins.length := by omega
  obtain ⟨hhl, hhb⟩ := zfo hcalm hch
  obtain ⟨h, hh⟩ : ∃ h, (VM.heights c.ins).1[m]? = some h := ⟨_, List.getElem?_eq_getElem (by omega)⟩
  obtain ⟨hm1, hh'⟩ := List.getElem?_eq_some_iff.1 hh
  have hhb' := hhb h (List.mem_of_getElem? hh)
  have hfe := zzy (away := away) hf hc hml h22 rfl hh
  have hnm : ¬ (c.ins.length ≤ m) := by omega
  have hnn : ¬ (a.prog.codes.length ≤ n) := by omega
  simp [zbo, hg, Agt.avs, hk, hf', Frm.avs, hnl, hc', h22, Cod.avs, hml, hnm, hnn]
  refine ⟨fun h => by omega, fun h => by omega, QC.call (zabd c (by omega) hcalm) ?_⟩
  simp [zrn, hm1, hh']
  refine JN.same ?_
  have w1 : IntKind.i64.wrap ((a.frames.length : Int) - 1) = (a.frames.length : Int) - 1 := i64w (by omega)
  simp [zrq, hg, Agt.avs, w1]
  have key : zrp (fun v H' nx' => Frz H' nx v (.int .i64 (VM.frame a k away)) ∧ Keep nx H' H) [.ptr g 0, .int .i64 k, .rop [.int .i64 n, .int .i64 m, .ro (vs.map Val.avs), .ro (st.map Val.avs)] 0,
      .rop [.int .i64 c.params, .int .i64 c.vars, .ro (c.ins.map Ins.avs)] 0, .ro ((VM.heights c.ins).1.map fun n => [.int .i64 n]), .int .i64 h, .bool (!decide (k + 1 = a.frames.length) || away)] H nx := by
    refine JN.same ?_
    have hvl : vs.length ≤ 8 := by omega
    cases hw : (!decide (k + 1 = a.frames.length) || away)
    · rw [hw] at hfe
      simp only [Bool.false_and, Bool.false_eq_true, if_false] at hfe
      rw [hfe]
      simp [zgf]
      exact zabh a ⟨n, m, vs, st⟩ h H H nx nx g hg hgn (Nat.le_refl _) (by simp) hvl hhb'.2
    rw [hw] at hfe
    simp only [Bool.true_and, if_true] at hfe
    cases m with
    | zero =>
      simp [zgf]
      rw [hfe]; simp
    | succ m =>
    have h00 : ¬ ((m : Int) + 1 = 0) := by omega
    have w2 : IntKind.i64.wrap (h - 1) = h - 1 := i64w (by omega)
    have w3 : IntKind.i64.wrap (m : Int) = m := i64w (by omega)
    have hml' : m < c.ins.length := by omega
    obtain ⟨i, hi⟩ : ∃ i, c.ins[m]? = some i := ⟨_, List.getElem?_eq_getElem hml'⟩
    obtain ⟨_, hi'⟩ := List.getElem?_eq_some_iff.1 hi
    obtain ⟨q, hq⟩ : ∃ q, (VM.heights c.ins).1[m]? = some q := ⟨_, List.getElem?_eq_getElem (by omega)⟩
    obtain ⟨hqm, hq'⟩ := List.getElem?_eq_some_iff.1 hq
    simp [zgf, h00, w2]
    refine JN.same ?_
    simp [zrr, w3, hml', hi', Ins.avs]
    have hn1 : g ≠ nx := by omega
    have hg2 : (H.put nx (some (.row 3 [.int .i64 i.op, .int .i64 i.a, .int .i64 i.b]))) g = some (.row 9 a.avs) := by rw [Heap.put_ne _ _ hn1]; exact hg
    have hi2 : (H.put nx (some (.row 3 [.int .i64 i.op, .int .i64 i.a, .int .i64 i.b]))) nx = some (.row 3 [.int .i64 i.op, .int .i64 i.a, .int .i64 i.b]) := Heap.put_at _ _ _
    have hK2 : Keep nx (H.put nx (some (.row 3 [.int .i64 i.op, .int .i64 i.a, .int .i64 i.b]))) H := by simp
    generalize (H.put nx (some (.row 3 [.int .i64 i.op, .int .i64 i.a, .int .i64 i.b]))) = H2 at *
    have hfin : zfp a k c (VM.heights c.ins).1 (m + 1) = false → zcw (fun v H' nx' => Frz H' nx v (.int .i64 (VM.frame a k away)) ∧ Keep nx H' H) [.ptr g 0, .rop [.int .i64 n, .int .i64 (m + 1), .ro (vs.map Val.avs), .ro (st.map Val.avs)] 0, .int .i64 (h - 1)] H2 (nx + 1) := by
      intro hb
      have : VM.frame a k away = zam a vs st (h - 1) := by rw [hfe, if_neg (by simp [hb]; omega)]
      rw [this]
      exact zabh a ⟨n, m + 1, vs, st⟩ (h - 1) H2 H (nx + 1) nx g hg2 (by omega) (by omega) hK2 hvl (by omega)
    have hbadv : zfp a k c (VM.heights c.ins).1 (m + 1) = true → VM.frame a k away = 10 := fun hb => by rw [hfe, if_pos (by simp [hb])]
    have hbp : zfp a k c (VM.heights c.ins).1 (m + 1) = ((!decide (k + 1 = a.frames.length) && (decide (i.op ≠ 17) || decide (i.a ≠ ((a.frames[k + 1]?).map (·.fn)).getD 0))) || (decide (k + 1 = a.frames.length) && decide (i.op ≠ 13)) || decide (q < 0)) := by
      unfold zfp
      simp only [Nat.add_sub_cancel, List.getD_eq_getElem?_getD, hi, hq, Option.getD_some]
    rw [hbp] at hfin hbadv
    by_cases hlast : k + 1 = a.frames.length
    · have l1 : ¬ ((k : Int) < (a.frames.length : Int) - 1) := by omega
      have l2 : (k : Int) = (a.frames.length : Int) - 1 := by omega
      simp [hlast] at hfin hbadv
      simp [zkr, hg2, hi2, Agt.avs, w1, l2, w3, hqm, hq']
      refine ⟨fun h13 => ⟨hbadv (.inl h13), hK2⟩, fun h13 => ⟨fun hq0 => ⟨hbadv (.inr hq0), hK2⟩, fun hq0 => hfin h13 hq0⟩⟩
    · have l1 : (k : Int) < (a.frames.length : Int) - 1 := by omega
      have l2 : ¬ ((k : Int) = (a.frames.length : Int) - 1) := by omega
      have hk2 : k + 1 < a.frames.length := by omega
      obtain ⟨f2, hf2⟩ : ∃ f2, a.frames[k + 1]? = some f2 := ⟨_, List.getElem?_eq_getElem hk2⟩
      obtain ⟨_, hf2'⟩ := List.getElem?_eq_some_iff.1 hf2
      rw [hf2] at hfin hbadv
      simp [hlast] at hfin hbadv
      have w4 : IntKind.i64.wrap ((k : Int) + 1) = (k : Int) + 1 := i64w (by omega)
      have hk2i : (k : Int) + 1 < a.frames.length := by omega
      have hk0 : (0 : Int) ≤ (k : Int) + 1 := by omega
      have htn : ((k : Int) + 1).toNat = k + 1 := by omega
      simp [zkr, hg2, hi2, Agt.avs, w1, l1, l2, w3, w4, hqm, hq', hk2i, hk0, htn, hk2, hf2', Frm.avs]
      refine ⟨fun h17 => ⟨hbadv (.inl (.inl h17)), hK2⟩, fun h17 => ⟨fun ha => ⟨hbadv (.inl (.inr ha)), hK2⟩, fun ha => ⟨fun hq0 => ⟨hbadv (.inr hq0), hK2⟩, fun hq0 => hfin h17 ha hq0⟩⟩⟩
  refine ⟨fun hlt => ?_, fun hge => ?_⟩
  · have : (!decide (k + 1 = a.frames.length) || away) = true := by simp; left; omega
    rw [this] at key; exact key
  · have : (!decide (k + 1 = a.frames.length) || away) = away := by simp; intro; omega
    rw [this] at key; exact key
end Go.Proofs.Ytpbnaaoilgohkaa
set_option maxRecDepth 8000
namespace Go.Proofs.Ytpbnaaoilgohkaa
open Go Go.RowKit
set_option maxHeartbeats 4000000 in
theorem zaof (a : Agt) (away : Bool) (ha : a.prog.ok) : QC Try.prog 31 [.agg a.avs, .bool away] (.int .i64 (VM.agent a away)) := by
  refine QC.of' fun H nx => zwr _ _ H nx _ ?_
  simp [zrs, Agt.avs]
  refine QC.call (zaif a.prog ha) ?_
  have hg : (H.put nx (some (.row 9 [.int .i64 a.id, .int .i64 a.trip, .ro (a.prog.codes.map Cod.avs), .ro (a.prog.words.map fun w => [.str w]), .ro (a.frames.map Frm.avs), .ro (a.heap.map Cl.avs), .int .i64 a.permit.fuel, .int .i64 a.permit.room, .int .i64 a.permit.hops]))) nx = some (.row 9 a.avs) := Heap.put_at _ _ _
  have hK : Keep nx (H.put nx (some (.row 9 [.int .i64 a.id, .int .i64 a.trip, .ro (a.prog.codes.map Cod.avs), .ro (a.prog.words.map fun w => [.str w]), .ro (a.frames.map Frm.avs), .ro (a.heap.map Cl.avs), .int .i64 a.permit.fuel, .int .i64 a.permit.room, .int .i64 a.permit.hops]))) H := by simp
  generalize (H.put nx (some (.row 9 [.int .i64 a.id, .int .i64 a.trip, .ro (a.prog.codes.map Cod.avs), .ro (a.prog.words.map fun w => [.str w]), .ro (a.frames.map Frm.avs), .ro (a.heap.map Cl.avs), .int .i64 a.permit.fuel, .int .i64 a.permit.room, .int .i64 a.permit.hops]))) = H1 at *
  by_cases hp : VM.program a.prog = 0
  case neg =>
    have e : VM.agent a away = VM.program a.prog := by unfold VM.agent; rw [if_pos hp]
    rw [e]
    simp [zgh, hp, hK]
  have hn1 : nx ≠ nx + 1 := by omega
  have hg2 : (H1.put (nx + 1) (some (.row 3 [.int .i64 a.permit.fuel, .int .i64 a.permit.room, .int .i64 a.permit.hops]))) nx = some (.row 9 a.avs) := by rw [Heap.put_ne _ _ hn1]; exact hg
  have hK2 : Keep nx (H1.put (nx + 1) (some (.row 3 [.int .i64 a.permit.fuel, .int .i64 a.permit.room, .int .i64 a.permit.hops]))) H := by rw [Keep.put (by omega)]; exact hK
  have hr2 : (H1.put (nx + 1) (some (.row 3 [.int .i64 a.permit.fuel, .int .i64 a.permit.room, .int .i64 a.permit.hops]))) (nx + 1) = some (.row 3 [.int .i64 a.permit.fuel, .int .i64 a.permit.room, .int .i64 a.permit.hops]) := Heap.put_at _ _ _
  have e3 : (a.id < 0 ∨ 1073741824 < a.id ∨ a.trip < 0 ∨ 1073741824 < a.trip ∨ a.permit.fuel < 0 ∨ 2000 < a.permit.fuel ∨ a.permit.room < 0 ∨ 60 < a.permit.room ∨ a.permit.hops < 0 ∨ 12 < a.permit.hops) → VM.agent a away = 3 := fun h => by
    unfold VM.agent; rw [if_neg (by simpa using hp), if_pos h]
  by_cases hr : (a.id < 0 ∨ 1073741824 < a.id ∨ a.trip < 0 ∨ 1073741824 < a.trip ∨ a.permit.fuel < 0 ∨ 2000 < a.permit.fuel ∨ a.permit.room < 0 ∨ 60 < a.permit.room ∨ a.permit.hops < 0 ∨ 12 < a.permit.hops)
  · have e := e3 hr
    simp [zgh, hp, hg, Agt.avs]
    generalize (H1.put (nx + 1) (some (.row 3 [.int .i64 a.permit.fuel, .int .i64 a.permit.room, .int .i64 a.permit.hops]))) = H2 at *
    simp only [e]
    repeat' first | exact hK | exact hK2 | apply And.intro | intro _
    all_goals first | trivial | (exfalso; omega)
  have w1 : IntKind.i64.wrap (60 - a.permit.room) = 60 - a.permit.room := i64w (by omega)
  have e0 : VM.agent a away = if a.frames.length < 1 ∨ 12 < a.frames.length then 5 else if 60 - a.permit.room < a.heap.length then 4 else if VM.framesErr a away ≠ 0 then VM.framesErr a away else VM.firstErr (VM.cellErr a.heap.length) a.heap := by
    unfold VM.agent; rw [if_neg (by simpa using hp), if_neg hr]
  simp [zgh, hp, hg, Agt.avs, w1]
  generalize (H1.put (nx + 1) (some (.row 3 [.int .i64 a.permit.fuel, .int .i64 a.permit.room, .int .i64 a.permit.hops]))) = H2 at *
  refine ⟨fun h => by omega, fun _ => ⟨fun h => by omega, fun _ => ⟨fun h => by omega, fun _ => ⟨fun h => by omega, fun _ => ⟨fun h => by omega, fun _ => ⟨fun h => by omega, fun _ => ⟨fun h => by omega, fun _ => ⟨fun h => by omega, fun _ => ⟨fun h => by omega, fun _ => ⟨fun h => by omega, fun _ => ?_⟩⟩⟩⟩⟩⟩⟩⟩⟩⟩
  refine ⟨fun h => ⟨by rw [e0, if_pos (by omega)], hK⟩, fun f1 => ⟨fun h => ⟨by rw [e0, if_pos (by omega)], hK⟩, fun f2 => ⟨fun h => ⟨by rw [e0, if_neg (by omega), if_pos h], hK⟩, fun f3 => ?_⟩⟩⟩
  rw [if_neg (by omega), if_neg (by omega)] at e0
  refine LP.mk (fun m xs H' nx' => ∃ i : Nat, i ≤ a.frames.length ∧ m = a.frames.length - i ∧ xs = [.bool away, .ptr nx 0, .int .i64 a.frames.length, .int .i64 i] ∧ H' nx = some (.row 9 a.avs) ∧ Keep nx H' H ∧ nx < nx' ∧ VM.framesErr a away = VM.firstErr (fun k => VM.frame a k away) ((List.range a.frames.length).drop i)) a.frames.length
    ⟨0, by omega, by omega, by simp, hg2, hK2, by omega, rfl⟩ ?_
  rintro m xs H3 n3 ⟨k, hk, rfl, rfl, hg3, hK3, hn3, hfe⟩
  by_cases hlt : k < a.frames.length
  · have hr : (List.range a.frames.length)[k]? = some k := by simp [hlt]
    rw [zbg _ _ _ _ hr] at hfe
    simp [zks, hlt]
    refine za.pure_call (zamy a k away H3 n3 nx hg3 hn3 hlt (by omega) hp) ?_
    simp [zrt]
    refine ⟨fun hz => ⟨?_, hK3⟩, fun hz => ?_⟩
    · rw [if_pos hz] at hfe
      rw [e0, hfe, if_pos hz]
    · rw [if_neg (by simpa using hz)] at hfe
      rw [i64w (by omega)]
      exact ⟨a.frames.length - (k + 1), by omega, k + 1, by omega, rfl, rfl, hg3, hK3, hn3, hfe⟩
  obtain rfl : k = a.frames.length := by omega
  have hz : VM.framesErr a away = 0 := by rw [hfe, List.drop_of_length_le (by simp)]; rfl
  rw [if_neg (by simpa using hz)] at e0
  simp [zks, hg3, Agt.avs]
  refine LP.mk (fun m xs H' nx' => ∃ i : Nat, i ≤ a.heap.length ∧ m = a.heap.length - i ∧ xs = [.ptr nx 0, .ro (a.heap.map Cl.avs), .int .i64 a.heap.length, .int .i64 i] ∧ H' nx = some (.row 9 a.avs) ∧ Keep nx H' H ∧ nx < nx' ∧ VM.agent a away = VM.firstErr (VM.cellErr a.heap.length) (a.heap.drop i)) a.heap.length
    ⟨0, by omega, by omega, by simp, hg3, hK3, by omega, e0⟩ ?_
  rintro m xs H4 n4 ⟨k, hk, rfl, rfl, hg4, hK4, hn4, hfe⟩
  by_cases hlt : k < a.heap.length
  case neg =>
    obtain rfl : k = a.heap.length := by omega
    simp [zkt, hK4]
    rw [hfe]; simp [VM.firstErr]
  obtain ⟨c, hc⟩ : ∃ c, a.heap[k]? = some c := ⟨_, List.getElem?_eq_getElem hlt⟩
  obtain ⟨_, hc'⟩ := List.getElem?_eq_some_iff.1 hc
  rw [zbg _ _ _ _ hc] at hfe
  obtain ⟨l, r⟩ := c
  simp [zkt, hlt, hc', Cl.avs, Val.avs]
  have m1 : nx ≠ n4 := by omega
  have m2 : nx ≠ n4 + 1 := by omega
  have hlen : a.heap.length ≤ 60 := by omega
  refine LP.mk (fun m xs H' nx' => ∃ j : Nat, j ≤ 2 ∧ m = 2 - j ∧ xs = [.ptr nx 0, .ro (a.heap.map Cl.avs), .int .i64 a.heap.length, .int .i64 k, .slc (n4 + 1) 0 2, .int .i64 2, .int .i64 j] ∧ H' nx = some (.row 9 a.avs) ∧ Keep nx H' H ∧ n4 + 1 < nx' ∧
    H' (n4 + 1) = some (.row 3 [.int .i64 l.kind, .int .i64 l.n, .str l.text, .int .i64 r.kind, .int .i64 r.n, .str r.text]) ∧ (1 ≤ j → VM.wrong l a.heap.length = 0) ∧ (2 ≤ j → VM.wrong r a.heap.length = 0)) 2
    ⟨0, by omega, by omega, by simp, ?_, ?_, by omega, by simp, by omega, by omega⟩ ?_
  · rw [Heap.put_ne _ _ m2, Heap.put_ne _ _ m1]; exact hg4
  · rw [Keep.put (by omega), Keep.put (by omega)]; exact hK4
  rintro m xs H5 n5 ⟨j, hj, rfl, rfl, hg5, hK5, hn5, hr5, hj1, hj2⟩
  have hce : VM.cellErr a.heap.length ⟨l, r⟩ = if VM.wrong l a.heap.length ≠ 0 then VM.wrong l a.heap.length else VM.wrong r a.heap.length := rfl
  rw [hce] at hfe
  have m3 : nx ≠ n5 := by omega
  have m4 : n4 + 1 ≠ n5 := by omega
  have hj3 : j = 0 ∨ j = 1 ∨ j = 2 := by omega
  rcases hj3 with rfl | rfl | rfl
  · simp [zgg, hr5, hg5, m3, m4, Agt.avs]
    refine QC.call (zzq l _) ?_
    simp [zku]
    have hK6 : Keep nx (H5.put n5 (some (.row 3 [.int .i64 l.kind, .int .i64 l.n, .str l.text]))) H := by rw [Keep.put (by omega)]; exact hK5
    refine ⟨fun hz => ⟨by rw [hfe, if_pos hz, if_pos hz], hK6⟩, fun hz => ?_⟩
    exact ⟨2 - 1, by omega, 1, by omega, rfl, by rw [i64w (by omega)]; rfl, by rw [if_neg m3]; exact hg5, hK6, by omega, by rw [if_neg m4]; exact hr5, fun _ => hz, by omega⟩
  · simp [zgg, hr5, hg5, m3, m4, Agt.avs]
    refine QC.call (zzq r _) ?_
    simp [zku]
    have hK6 : Keep nx (H5.put n5 (some (.row 3 [.int .i64 r.kind, .int .i64 r.n, .str r.text]))) H := by rw [Keep.put (by omega)]; exact hK5
    have hz1 := hj1 (by omega)
    rw [hz1] at hfe
    simp at hfe
    refine ⟨fun hz => ⟨by rw [hfe]; simp [hz], hK6⟩, fun hz => ?_⟩
    exact ⟨2, by omega, by omega, by rw [i64w (by omega)]; rfl, by rw [if_neg m3]; exact hg5, hK6, by omega, by rw [if_neg m4]; exact hr5, fun _ => hz1, fun _ => hz⟩
  · simp [zgg]
    rw [i64w (by omega)]
    have hz1 := hj1 (by omega)
    have hz2 := hj2 (by omega)
    rw [hz1, hz2] at hfe
    simp at hfe
    exact ⟨a.heap.length - (k + 1), by omega, k + 1, by omega, rfl, rfl, hg5, hK5, by omega, hfe⟩
end Go.Proofs.Ytpbnaaoilgohkaa
set_option maxRecDepth 8000
namespace Go.Proofs.Ytpbnaaoilgohkaa
open Go Go.RowKit
inductive FL (H : Heap) (nx : Nat) : List AV → List AV → Prop
  | nil : FL H nx [] []
  | cons {u v : AV} {us vs : List AV} : Frz H nx u v → FL H nx us vs → FL H nx (u :: us) (v :: vs)
section
variable {H : Heap} {nx : Nat}
theorem FL.append : ∀ {us vs us' vs' : List AV}, FL H nx us vs → FL H nx us' vs' → FL H nx (us ++ us') (vs ++ vs')
  | _, _, _, _, .nil, k => k
  | _, _, _, _, .cons a b, k => .cons a (b.append k)
theorem FL.same : ∀ {l : List AV}, (∀ c ∈ l, Bel (· < nx) c) → FL H nx l l
  | [], _ => .nil
  | c :: r, h => .cons (.same _ (h c (by simp))) (FL.same fun x hx => h x (by simp [hx]))
theorem FL.get : ∀ {us vs : List AV}, FL H nx us vs → ∀ {j : Nat} {v : AV}, vs[j]? = some v → ∃ u, us[j]? = some u ∧ Frz H nx u v
  | _, _, .nil, j, v, h => by simp at h
  | _, _, .cons a b, 0, v, h => by simp at h; subst h; exact ⟨_, rfl, a⟩
  | _, _, .cons a b, j + 1, v, h => by simpa using b.get (j := j) (by simpa using h)
theorem FL.len : ∀ {us vs : List AV}, FL H nx us vs → us.length = vs.length
  | _, _, .nil => rfl
  | _, _, .cons a b => by simp [b.len]
theorem Frz.rowL {g off len sz : Nat} {cells : List AV} {xs : List (List AV)} (hg : nx ≤ g) (hH : H g = some (.row sz cells)) (hl : xs.length = len) (hs : ∀ x ∈ xs, x.length = sz) (hb : off + len * sz ≤ cells.length) (hc : FL H nx ((cells.drop off).take (len * sz)) xs.flatten) :
    Frz H nx (.slc g off len) (.ro xs) := by
  have key : ∀ (i : Nat) (x : List AV) (j : Nat) (v : AV), xs[i]? = some x → x[j]? = some v → ∃ u, cells[off + i * sz + j]? = some u ∧ Frz H nx u v := fun i x j v hx hv => by
    have e1 := zme hs hx
    have hj : j < sz := by rw [← hs x (List.mem_of_getElem? hx)]; exact (List.getElem?_eq_some_iff.1 hv).1
    have hv2 : xs.flatten[i * sz + j]? = some v := by
      have e2 := congrArg (·[j]?) e1
      simp only [List.getElem?_take, List.getElem?_drop, hj, if_true] at e2
      rw [e2]; exact hv
    obtain ⟨u, q1, q2⟩ := hc.get hv2
    refine ⟨u, ?_, q2⟩
    rw [List.getElem?_take] at q1
    split at q1
    · rw [List.getElem?_drop] at q1; rw [Nat.add_assoc]; exact q1
    · cases q1
  refine .slc g off _ sz cells _ hg hH hb hl hs (fun i j => (cells[off + i * sz + j]?).getD .junk) (fun i x j v hx hv => ?_) (fun i x j v hx hv => ?_)
  · obtain ⟨u, q1, q2⟩ := key i x j v hx hv; rw [q1]; rfl
  · obtain ⟨u, q1, q2⟩ := key i x j v hx hv; rw [q1]; exact q2
theorem Frz.rowW {g len sz : Nat} {cells : List AV} {xs : List (List AV)} (hg : nx ≤ g) (hH : H g = some (.row sz cells)) (hl : xs.length = len) (hs : ∀ x ∈ xs, x.length = sz) (hc : FL H nx cells xs.flatten) : Frz H nx (.slc g 0 len) (.ro xs) := by
  have e : cells.length = len * sz := by rw [hc.len, zej hs, hl]
  refine .rowL hg hH hl hs (by omega) ?_
  rw [List.drop_zero, List.take_of_length_le (by omega)]; exact hc
theorem FL.agg {us vs : List AV} (h : FL H nx us vs) : Frz H nx (.agg us) (.agg vs) := by
  refine .agg _ _ h.len.symm fun j v u hv hu => ?_
  obtain ⟨w, q1, q2⟩ := h.get hu
  rw [hv] at q1; cases q1; exact q2
theorem FL.tup {us vs : List AV} (h : FL H nx us vs) : Frz H nx (.tup us) (.tup vs) := by
  refine .tup _ _ h.len.symm fun j v u hv hu => ?_
  obtain ⟨w, q1, q2⟩ := h.get hu
  rw [hv] at q1; cases q1; exact q2
end
end Go.Proofs.Ytpbnaaoilgohkaa
set_option maxRecDepth 8000
namespace Go.Proofs.Ytpbnaaoilgohkaa
open Go Go.RowKit
theorem VM.rdText_len {most : Int} (h : 0 ≤ most) (st : VM.St) : ((VM.rdText most st).1.length : Int) ≤ most := by
  unfold VM.rdText
  split
  · simpa using h
  · split
    · simpa using h
    · unfold WM.getText
      repeat' split
      all_goals first
        | (simp; omega)
        | (simp only [List.length_take, List.length_drop]; omega)
theorem VM.many_all {α : Type} {m : VM.St → α × VM.St} {p : α → Prop} (h : ∀ st, p (m st).1) : ∀ (n : Nat) (st : VM.St), ∀ x ∈ (VM.rdMany m n st).1, p x
  | 0, _, x, hx => by simp [VM.rdMany] at hx
  | n + 1, st, x, hx => by
    simp only [VM.rdMany, List.mem_append, List.mem_singleton] at hx
    rcases hx with hx | rfl
    · exact VM.many_all h n st x hx
    · exact h _
theorem VM.prg_words (cnt : Int → VM.St → Int × VM.St) (st : VM.St) : ∀ w ∈ (VM.prgOf cnt st).1.words, w.length ≤ 12 := fun w hw => by
  have := VM.many_all (m := VM.rdText 12) (p := fun w => w.length ≤ 12) (fun st => by have := VM.rdText_len (most := 12) (by omega) st; omega) _ _ w hw
  exact this
theorem VM.agt_words (cnt : Int → VM.St → Int × VM.St) (st : VM.St) : (VM.agtOf cnt st).1.prog.ok := fun w hw => by
  have := VM.prg_words cnt _ w hw
  simp only [maxLen]; omega
theorem zaoc {A : Nat → Prop} (fs : List Frm) : Bel A (.ro (fs.map Frm.avs)) := .ro _ fun _ x j v hx hv => by
  rw [List.getElem?_map] at hx
  obtain ⟨f, _, rfl⟩ := Option.map_eq_some_iff.1 hx
  match j, hv with
  | 0, hv => cases hv; exact .int _ _
  | 1, hv => cases hv; exact .int _ _
  | 2, hv => cases hv; exact zgu (zjn _)
  | 3, hv => cases hv; exact zgu (zjn _)
  | j + 4, hv => simp [Frm.avs] at hv
theorem zafk {A : Nat → Prop} (a : Agt) : Bel A (.agg a.avs) := .agg _ fun j v hv => by
  match j, hv with
  | 0, hv => cases hv; exact .int _ _
  | 1, hv => cases hv; exact .int _ _
  | 2, hv => cases hv; exact zadh _
  | 3, hv => cases hv; exact zadg _
  | 4, hv => cases hv; exact zaoc _
  | 5, hv => cases hv; exact zgu (zwz _)
  | 6, hv => cases hv; exact .int _ _
  | 7, hv => cases hv; exact .int _ _
  | 8, hv => cases hv; exact .int _ _
  | j + 9, hv => simp [Agt.avs] at hv
theorem zago {H : Heap} {G : Nat → Prop} {id trip : Int} {p : Prg} {fs : List Frm} {h : List Cl} {m : Pmt} {fa ha : AV} (h1 : FrzP H G fa (.ro (fs.map Frm.avs))) (h2 : FrzP H G ha (.ro (h.map Cl.avs))) : FrzP H G (.agg (zaj id trip p fa ha m)) (.agg (Agt.avs ⟨id, trip, p, fs, h, m⟩)) := by
  refine .agg _ _ rfl fun j v u hv hu => ?_
  match j with
  | 0 => cases hv; cases hu; exact .same _
  | 1 => cases hv; cases hu; exact .same _
  | 2 => cases hv; cases hu; exact .same _
  | 3 => cases hv; cases hu; exact .same _
  | 4 => cases hv; cases hu; exact h1
  | 5 => cases hv; cases hu; exact h2
  | 6 => cases hv; cases hu; exact .same _
  | 7 => cases hv; cases hu; exact .same _
  | 8 => cases hv; cases hu; exact .same _
  | j + 9 => simp [zaj] at hv
theorem zalh (a b : Str) : QC Try.prog 32 [.ro (bsR a), .ro (bsR b)] (.bool (decide (a = b))) := by
  refine QC.of' fun H nx => zyy _ _ H nx _ ?_
  unfold zug
  refine zabm (zabm ?_)
  simp
theorem zacu {H : Heap} {nx : Nat} (e : Int) : Frz H nx (.tup [.agg zagt, .int .i64 e]) (.tup [.agg VM.agt0.avs, .int .i64 e]) :=
  FL.tup (.cons (FL.agg (.cons (.same _ (.int _ _)) (.cons (.same _ (.int _ _)) (.cons .nils (.cons .nils (.cons .nils (.cons .nils (.cons (.same _ (.int _ _)) (.cons (.same _ (.int _ _)) (.cons (.same _ (.int _ _)) .nil))))))))) ) (.cons (.same _ (.int _ _)) .nil))
section
variable {a0 : AV} {nx n : Nat} {H : Heap} {Q : QT} {s : Str} {e : Int}
theorem zaax (he : e ≠ 0) (h0 : ∃ z, H nx = some (.row 9 z) ∧ z.length = 9) (h1 : H (nx + 1) = some (PRd (s, e))) (hq : ∀ H', (∀ y, y ≠ nx → H' y = H y) → Q (.tup [.agg zagt, .int .i64 e]) H' n) :
    zha Q [a0, .ptr nx 0, .ptr (nx + 1) 0, .ptr (nx + 2) 0] H n := by
  obtain ⟨z, z1, z2⟩ := h0
  unfold PRd at h1
  simp [zha, h1, he, z1, z2]
  exact hq _ fun y hy => Heap.put_ne _ _ hy
theorem zaaw (he : e ≠ 0) (h0 : ∃ z, H nx = some (.row 9 z) ∧ z.length = 9) (h1 : H (nx + 1) = some (PRd (s, e))) (hq : ∀ H', (∀ y, y ≠ nx → H' y = H y) → Q (.tup [.agg zagt, .int .i64 e]) H' n) :
    zgz Q [a0, .ptr nx 0, .ptr (nx + 1) 0, .ptr (nx + 2) 0] H n := by
  unfold zgz
  refine JN.same ?_
  have h1' := h1
  unfold PRd at h1'
  simp [zma, h1', he]
  exact zaax he h0 h1 hq
end
set_option maxRecDepth 20000 in
set_option maxHeartbeats 4000000 in
theorem zaka {b : Str} {nx n : Nat} {H H0 : Heap} {Q : QT} {F C v : AV} {r : Agt × VM.St} (hr : r.1.prog.ok) (hn : nx + 3 ≤ n) (h1 : H (nx + 1) = some (PRd r.2)) (h2 : H (nx + 2) = some (.row 9 (zaj r.1.id r.1.trip r.1.prog F C r.1.permit)))
    (sf : Slot H 4 r.1.frames.length (zkx r.1.frames) F) (sc : Slot H 6 r.1.heap.length (zgi r.1.heap) C) (of : ∀ y ∈ own F, nx + 3 ≤ y ∧ y < n) (oc : ∀ y ∈ own C, nx + 3 ≤ y ∧ y < n) (h0 : H nx = some (.row 9 zagt)) (kp : Keep nx H H0) (x5 x6 : AV)
    (hq : ∀ v' H' n', Frz H' nx v' (.tup [.agg (VM.answerOf b r).1.avs, .int .i64 (VM.answerOf b r).2]) → Keep nx H' H0 → Q v' H' n') :
    zec Q [.ro (bsR b), .ptr nx 0, .ptr (nx + 1) 0, .ptr (nx + 2) 0, x5, x6] v H n := by
  have h1' := h1
  unfold PRd at h1'
  have err : ∀ {e : Int}, VM.answerOf b r = (VM.agt0, e) → ∀ H' : Heap, Keep nx H' H0 → Q (.tup [.agg zagt, .int .i64 e]) H' n := fun he H' hk => hq _ _ _ (by rw [he]; exact zacu _) hk
  unfold zec
  refine JN.same ?_
  by_cases he : r.2.2 = 0
  case neg =>
    simp [zhb, h1', he]
    refine zaaw (s := r.2.1) he ⟨_, h0, rfl⟩ h1 fun H' hk => err (by unfold VM.answerOf; rw [if_pos he]) H' fun y hy => ?_
    rw [hk y (by omega)]; exact kp y hy
  by_cases hl : r.2.1 = []
  case neg =>
    have hpos : 0 < r.2.1.length := List.length_pos_iff.2 hl
    simp [zhb, h1', he, zad, hpos]
    refine zjk h1 ?_
    simp [zgl]
    have e2 : VM.rdFail 2 r.2 = (r.2.1, 2) := by unfold VM.rdFail; rw [if_pos he]
    rw [e2]
    refine zaaw (s := r.2.1) (e := 2) (by decide) ⟨_, by rw [Heap.put_ne _ _ (by omega)]; exact h0, rfl⟩ (Heap.put_at _ _ _) fun H' hk => err (by unfold VM.answerOf; rw [if_neg (by simpa using he), if_pos hl]) H' fun y hy => ?_
    rw [hk y (by omega), Heap.put_ne _ _ (by omega)]; exact kp y hy
  simp [zhb, h1', he, hl, bsR]
  unfold zgz
  refine JN.same ?_
  have f1 := sf.one
  have c1 := sc.one
  simp [zma, h1', he, h2, zaj]
  let G : Nat → Prop := fun y => nx + 3 ≤ y
  let W : Heap := fun y => if y = nx + 2 then some (.row 9 r.1.avs) else if y < nx + 2 then H y else none
  have frz : FrzP H G (.agg (zaj r.1.id r.1.trip r.1.prog F C r.1.permit)) (.agg r.1.avs) := zago (Slot.frzP (sz := 4) (by simpa [zkx] using sf) (fun g hg => (of g hg).1) (fun x hx => by obtain ⟨f, _, rfl⟩ := List.mem_map.1 hx; rfl)) (Slot.frzP (sz := 6) (by simpa [zgi] using sc) (fun g hg => (oc g hg).1) (zfh _))
  have w0 : ∀ g o, W g = some o → ¬ G g ∧ FrzO H G g o := fun g o hg => by
    by_cases hg2 : g = nx + 2
    · subst hg2
      simp only [W, if_true] at hg
      cases hg
      refine ⟨by simp only [G]; omega, .inr ⟨9, _, _, h2, rfl, ?_⟩⟩
      cases frz with
      | same => exact ⟨rfl, fun j v u hv hu => by have hv' : r.1.avs[j]? = some v := hv; rw [hv'] at hu; cases hu; exact .same _⟩
      | agg _ _ q1 q2 => exact ⟨q1, q2⟩
    · by_cases hlt : g < nx + 2
      · simp only [W, if_neg hg2, if_pos hlt] at hg
        exact ⟨by simp only [G]; omega, .inl hg⟩
      · simp only [W, if_neg hg2, if_neg hlt] at hg; cases hg
  have w2 : W (nx + 2) = some (.row 9 r.1.avs) := by simp only [W, if_true]
  have wl : ∀ y, y < nx + 2 → W y = H y := fun y hy => by simp only [W, if_neg (show y ≠ nx + 2 by omega), if_pos hy]
  refine za.thawR (args := [.agg r.1.avs, .bool true]) (H0 := W) (G := G) ?_ (zav.cons frz (zav.cons (.same _) .nil)) w0
  clear_value W G
  refine QC.call (zaof r.1 true hr) ?_
  simp [zse]
  refine zjk (st := r.2) (by rw [wl _ (by omega)]; exact h1) ?_
  simp [zgl]
  have e3 : VM.rdFail (VM.agent r.1 true) r.2 = (r.2.1, VM.agent r.1 true) := by unfold VM.rdFail; rw [if_pos he]
  rw [e3]
  by_cases ha : VM.agent r.1 true = 0
  case neg =>
    refine zaax (s := r.2.1) (e := VM.agent r.1 true) ha ⟨_, by rw [Heap.put_ne _ _ (by omega), wl _ (by omega)]; exact h0, rfl⟩ (Heap.put_at _ _ _) fun H' hk => err (by unfold VM.answerOf; rw [if_neg (by simpa using he), if_neg (by simpa using hl), if_pos ha]) H' fun y hy => ?_
    rw [hk y (by omega), Heap.put_ne _ _ (by omega), wl y (by omega)]; exact kp y hy
  rw [ha]
  obtain ⟨fs, f, l⟩ := VM.agent_gone ha
  generalize hX : Heap.put W (nx + 1) _ = X
  have x1 : X (nx + 1) = some (.row 2 [.ro (bsR r.2.1), .int .i64 0]) := by rw [← hX, Heap.put_at]; rfl
  have x0 : X nx = some (.row 9 zagt) := by rw [← hX, Heap.put_ne _ _ (by omega), wl _ (by omega)]; exact h0
  have x2 : X (nx + 2) = some (.row 9 r.1.avs) := by rw [← hX, Heap.put_ne _ _ (by omega)]; exact w2
  have xk : Keep nx X H0 := fun y hy => by rw [← hX, Heap.put_ne _ _ (by omega), wl y (by omega)]; exact kp y hy
  clear hX
  have so : ∀ x ∈ r.1.avs, x.one = true := fun x hx => by
    simp [Agt.avs] at hx
    rcases hx with rfl | rfl | rfl | rfl | rfl | rfl | rfl | rfl | rfl <;> rfl
  have ht : r.1.avs.take 9 = r.1.avs ∧ r.1.avs.length = 9 ∧ r.1.avs.drop 9 = [] := ⟨rfl, rfl, rfl⟩
  have hsu : (AV.agg r.1.avs).sure = true := by simp [Agt.avs]
  simp [zha, x1, x2, ht, hsu]
  refine QC.call (zact l) ?_
  simp [ztm]
  refine QC.call (zalh _ _) ?_
  by_cases hb : VM.image r.1 = b
  case neg =>
    simp [zlz, hb]
    refine zjk (st := (r.2.1, 0)) x1 ?_
    have e4 : VM.rdFail 2 (r.2.1, 0) = (r.2.1, 2) := rfl
    rw [e4]
    generalize hY : Heap.put X (nx + 1) _ = Y
    have y1 : Y (nx + 1) = some (.row 2 [.ro (bsR r.2.1), .int .i64 2]) := by rw [← hY, Heap.put_at]; rfl
    have y0 : Y nx = some (.row 9 zagt) := by rw [← hY, Heap.put_ne _ _ (by omega)]; exact x0
    have z9 : zagt.length = 9 := rfl
    simp [ztn, y1, y0, z9]
    refine err (by unfold VM.answerOf; rw [if_neg (by simpa using he), if_neg (by simpa using hl), if_neg (by simpa using ha), if_pos hb]) _ fun y hy => ?_
    rw [Heap.put_ne _ _ (by omega), ← hY, Heap.put_ne _ _ (by omega)]; exact xk y hy
  have z9 : zagt.length = 9 := rfl
  have ans : VM.answerOf b r = (r.1, 0) := by unfold VM.answerOf; rw [if_neg (by simpa using he), if_neg (by simpa using hl), if_neg (by simpa using ha), if_neg (by simpa using hb)]
  simp [zlz, hb, x1, x2, x0, z9, ht, hsu]
  refine ⟨so, hq _ _ _ (by rw [ans]; exact FL.tup (.cons (.same _ (zafk _)) (.cons (.same _ (.int _ _)) .nil))) fun y hy => ?_⟩
  rw [Heap.put_ne _ _ (by omega)]; exact xk y hy
theorem zakg (b : Str) (hb : b.length ≤ 4611686018427387904) : QC Try.prog 7 [.ro (bsR b)] (.tup [.agg (VM.parse b).1.avs, .int .i64 (VM.parse b).2]) := by
  refine QC.of' fun H nx => zyw _ H nx _ (zagh hb fun H' n' F C v r hr hn h1 h2 sf sc of oc h0 kp => ?_)
  refine zaka (b := b) (by rw [hr]; exact VM.agt_words _ _) hn h1 h2 sf sc of oc h0 kp _ _ fun v' H2 n2 hf hk => ⟨?_, hk⟩
  rw [hr, VM.answer_parse VM.counts_rd] at hf
  exact hf
end Go.Proofs.Ytpbnaaoilgohkaa
