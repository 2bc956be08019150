/- Words, and instructions: what the document's functions make of them. The document's machine: a step. The document's machine: Run. Rows of numbers. Heights: what the document's function makes of a code. Programs: what the document's function says is wrong with them. Agents: what the document's function says is wrong with one. Agents: what the document's function says is wrong with one, on. Agents: what the document's function says is wrong with one, whole. A copy; and which agents, at which places, may be. How great an agent is behind so many steps. VmTells, walked. The structs that laws are handed, read as data. -/
import Derived.Test.YtejohcohkgcmhaaDoorG7
import Derived.Test.YtejohcohkgcmhaaDoorG10
import Derived.Test.YtejohcohkgcmhaaDoorG5
import Derived.Test.YtejohcohkgcmhaaDoorG9
namespace Go.Proofs.YtejohcohkgcmhaaDoor
open Go Go.RowKit
theorem zafh (i : Ins) : QC Tryd.prog 67 [.agg i.avs] (.tup [.int .i64 (VM.effect i).1, .int .i64 (VM.effect i).2]) := by
  refine QC.of' fun H nx => ztu _ H nx _ ?_
  obtain ⟨op, a, b⟩ := i
  unfold zht
  simp only [Ins.avs, zamq, zalv, true_and, List.length_cons, List.length_nil, ld_p, Heap.put_at, rowk, List.getElem?_cons_zero, optk, zarr, cnd, cndc, decide_eq_true_eq, decide_eq_false_iff_not]
  refine ⟨fun h => ?_, fun h => ?_⟩
  · simp [VM.effect, h]
  have hx : op ≠ 17 := by simpa using h
  have hH : ((H.put nx (some (.row 3 [.int .i64 op, .int .i64 a, .int .i64 b]))).put (nx + 1) (some (.mp []))) (nx + 1) = some (.mp []) := Heap.put_at _ _ _
  have hK : Keep nx ((H.put nx (some (.row 3 [.int .i64 op, .int .i64 a, .int .i64 b]))).put (nx + 1) (some (.mp []))) H := by simp
  have hop : ((H.put nx (some (.row 3 [.int .i64 op, .int .i64 a, .int .i64 b]))).put (nx + 1) (some (.mp []))) nx = some (.row 3 [.int .i64 op, .int .i64 a, .int .i64 b]) := by simp
  simp only [Nat.zero_add, Nat.reduceAdd]
  generalize ((H.put nx (some (.row 3 [.int .i64 op, .int .i64 a, .int .i64 b]))).put (nx + 1) (some (.mp []))) = H1 at *
  repeat (refine ⟨rfl, zarf hH hop (by omega) hK (by omega) (by simp only [zkl, zvh, List.nil_append, List.cons_append, Int.reduceEq, if_false, Option.map_some, Option.map_none]) ?_⟩; clear hH hK hop; clear H1; intro H1 hH hop hK)
  simp only [List.nil_append, List.cons_append] at hH
  have hcases : op < 1 ∨ 19 < op ∨ op = 1 ∨ op = 2 ∨ op = 3 ∨ op = 4 ∨ op = 5 ∨ op = 6 ∨ op = 7 ∨ op = 8 ∨ op = 9 ∨ op = 10 ∨ op = 11 ∨ op = 12 ∨ op = 13 ∨ op = 14 ∨ op = 15 ∨ op = 16 ∨ op = 18 ∨ op = 19 := by omega
  have hs : ∀ p q : Int, (∃ r, zax (.int .i64 op) [(.int .i64 1, .agg [.int .i64 0, .int .i64 1]), (.int .i64 2, .agg [.int .i64 0, .int .i64 1]), (.int .i64 3, .agg [.int .i64 0, .int .i64 1]), (.int .i64 4, .agg [.int .i64 1, .int .i64 0]), (.int .i64 5, .agg [.int .i64 2, .int .i64 1]), (.int .i64 6, .agg [.int .i64 2, .int .i64 1]), (.int .i64 7, .agg [.int .i64 1, .int .i64 1]), (.int .i64 8, .agg [.int .i64 1, .int .i64 1]), (.int .i64 9, .agg [.int .i64 2, .int .i64 0]), (.int .i64 10, .agg [.int .i64 2, .int .i64 0]), (.int .i64 11, .agg [.int .i64 1, .int .i64 1]), (.int .i64 12, .agg [.int .i64 0, .int .i64 1]), (.int .i64 13, .agg [.int .i64 1, .int .i64 1]), (.int .i64 14, .agg [.int .i64 1, .int .i64 0]), (.int .i64 15, .agg [.int .i64 0, .int .i64 0]), (.int .i64 16, .agg [.int .i64 1, .int .i64 0]), (.int .i64 18, .agg [.int .i64 1, .int .i64 0]), (.int .i64 19, .agg [.int .i64 1, .int .i64 0])] = some r ∧
      (match r with | some (_, v) => v | none => .agg [.int .i64 0, .int .i64 0]) = .agg [.int .i64 (VM.effect ⟨op, a, b⟩).1, .int .i64 (VM.effect ⟨op, a, b⟩).2]) := by
    intro _ _
    rcases hcases with h | h | h
    · have e : VM.effect ⟨op, a, b⟩ = (0, 0) := by unfold VM.effect; simp only; (repeat' split) <;> first | omega | rfl
      refine ⟨none, ?_, by rw [e]⟩
      simp only [zkl, zvh]
      repeat rw [if_neg (by omega)]
      rfl
    · have e : VM.effect ⟨op, a, b⟩ = (0, 0) := by unfold VM.effect; simp only; (repeat' split) <;> first | omega | rfl
      refine ⟨none, ?_, by rw [e]⟩
      simp only [zkl, zvh]
      repeat rw [if_neg (by omega)]
      rfl
    · rcases h with h | h | h | h | h | h | h | h | h | h | h | h | h | h | h | h | h | h
      all_goals subst h; exact ⟨_, by simp only [zkl, Int.reduceEq, if_false, if_true, Option.map_some]; rfl, rfl⟩
  obtain ⟨r, h1, h2⟩ := hs 0 0
  rw [hop, rowk]
  simp only [List.getElem?_cons_zero, optk, zajl, true_and, lk_p, hH, mapk, h1, cond_true, cond_false]
  cases r with
  | none => simp only at h2; simp [hK, h2]
  | some pr => obtain ⟨i, v⟩ := pr; simp only at h2; simp [hK, h2]
theorem zaoz (s : Str) (i : Nat) : (s.drop i).all VM.wordByte = if h : i < s.length then VM.wordByte s[i] && (s.drop (i + 1)).all VM.wordByte else true := by
  split
  · rename_i h
    rw [List.drop_eq_getElem_cons h, List.all_cons]
  · rename_i h
    rw [List.drop_of_length_le (by omega)]; rfl
theorem zamf (s : Str) (hs : s.length ≤ maxLen) : QC Tryd.prog 70 [.str s] (.bool (VM.word s)) := by
  refine fun H nx => zwu _ H nx _ ?_
  simp only [maxLen] at hs
  simp [zjb]
  refine LP.mk (fun n xs H' nx' => ∃ i : Nat, i ≤ s.length ∧ n = s.length - i ∧ xs = [.str s, .int .i64 s.length, .int .i64 i] ∧ H = H' ∧ nx = nx' ∧ s.all VM.wordByte = (s.drop i).all VM.wordByte) s.length ⟨0, by omega, by omega, rfl, rfl, rfl, rfl⟩ ?_
  rintro n xs H' nx' ⟨i, hi, rfl, rfl, rfl, rfl, hall⟩
  rw [zaoz] at hall
  simp [zql]
  refine ⟨fun h => ?_, fun h => ?_⟩
  · rw [dif_pos h] at hall
    have hb : VM.wordByte s[i] = false → VM.word s = false := fun hb => by simp [VM.word, hall, hb]
    simp [h]
    refine ⟨fun h1 => hb (by simp [VM.wordByte]; omega), fun h1 => ⟨fun h2 => hb (by simp [VM.wordByte]; omega), fun h2 => ⟨fun h3 => hb (by simp [VM.wordByte]; omega), fun h3 => ?_⟩⟩⟩
    rw [i64w (by omega)]
    refine ⟨s.length - (i + 1), by omega, i + 1, by omega, rfl, by simp, ?_⟩
    have : VM.wordByte s[i] = true := by simp [VM.wordByte]; omega
    rw [hall, this]; rfl
  · rw [dif_neg (by omega)] at hall
    simp only [VM.word, hall, Bool.and_true]
    rw [Bool.eq_iff_iff]; simp; omega
end Go.Proofs.YtejohcohkgcmhaaDoor
namespace Go.Proofs.YtejohcohkgcmhaaDoor
open Go Go.RowKit
section
variable {ki : IntKind}
@[simp ↓] theorem zavw {s : Nat} {xs : List (List AV)} {a : Int} {H : Heap} {k : AV → Prop} : SL s (.ro xs) (some (.int ki a)) none H k = (0 ≤ a ∧ a ≤ xs.length ∧ (∀ x ∈ xs, x.length = s) ∧ k (.ro (xs.drop a.toNat))) := by
  simp [SL, zay, lohi, PURE, qk]
@[simp ↓] theorem zavx {s : Nat} {xs : List (List AV)} {b : Int} {H : Heap} {k : AV → Prop} : SL s (.ro xs) none (some (.int ki b)) H k = (0 ≤ b ∧ b ≤ xs.length ∧ (∀ x ∈ xs, x.length = s) ∧ k (.ro (xs.take b.toNat))) := by
  simp [SL, zay, lohi, PURE, qk]
end
theorem zapp {H : Heap} {g : Nat} {xs ys : List AV} {k : Heap → Prop} (h : H g = some (.row 9 xs)) (h1 : xs.length = 9) (h2 : ys.length = 9) : ST 9 (.ptr g 0) (.agg ys) H k = ST 9 (.ptr g 0) (.agg ys) (H.put g (some (.row 9 ys))) k := by
  have e : ∀ o, (H.put g (some (.row 9 ys))).put g o = H.put g o := fun o => by
    funext x
    by_cases hx : x = g
    · subst hx; rw [Heap.put_at, Heap.put_at]
    · rw [Heap.put_ne _ _ hx, Heap.put_ne _ _ hx, Heap.put_ne _ _ hx]
  have t1 : xs.drop 9 = [] := List.drop_eq_nil_of_le (by omega)
  have t2 : ys.drop 9 = [] := List.drop_eq_nil_of_le (by omega)
  simp [ST, zad, h, h1, h2, Heap.apply, zav, Heap.put_at, e, t1, t2]
section
variable {a : Agt} {s : Spt} {fs : List Frm} {f : Frm}
theorem zacy {A : Nat → Prop} (fs : List Frm) : Bel A (.ro (fs.map Frm.avs)) := by
  refine .ro _ fun i x j v hx hv => ?_
  rw [List.getElem?_map] at hx
  obtain ⟨f, _, rfl⟩ := Option.map_eq_some_iff.1 hx
  exact zacz f j v hv
theorem Good.val {H : Heap} {nx : Nat} (a : Agt) : Good H nx (.agg a.avs) a := by
  refine ⟨_, rfl, rfl, fun x hx => ?_, ?_, fun H2 _ => zbs (fs := a.frames) (h := a.heap) (m := a.permit) (.same _ (zacy _)) (.same _ (zcc (zag _)))⟩
  · simp [Agt.avs] at hx
    rcases hx with rfl | rfl | rfl | rfl | rfl | rfl | rfl | rfl | rfl <;> rfl
  · simp [Agt.avs]
set_option maxRecDepth 20000 in
set_option maxHeartbeats 1000000 in
theorem zaiz (l : VM.Live a fs f) (hname : s.name.length ≤ maxLen) (hfacts : s.facts.length ≤ 4611686018427387903) :
    QC Tryd.prog 46 [.agg a.avs, .agg s.avs] (.tup [.agg (VM.step a s).1.avs, .agg (VM.step a s).2.avs]) := by
  refine QC.of' fun H nx => ?_
  refine zwp _ _ H nx _ ?_
  have av : (AV.agg a.avs).cells = a.avs := by simp
  have al : a.avs.length = 9 := rfl
  have sv : (AV.agg s.avs).cells = s.avs := by simp
  have sl : s.avs.length = 4 := rfl
  have hsu : (AV.agg a.avs).sure = true := by simp [Agt.avs]
  have hss : (AV.agg s.avs).sure = true := by simp [Spt.avs]
  unfold ziy
  rw [av, al, sv, sl]
  refine ⟨hsu, hss, ?_⟩
  have at6 : a.avs[6]'(by rw [al]; omega) = .int .i64 a.permit.fuel := rfl
  generalize hX : Heap.put _ (nx + 3) _ = X
  have x0 : X nx = some (.row 9 a.avs) := by rw [← hX, Heap.put_ne _ _ (by omega), Heap.put_ne _ _ (by omega), Heap.put_ne _ _ (by omega), Heap.put_at]
  have x1 : X (nx + 1) = some (.row 4 s.avs) := by rw [← hX, Heap.put_ne _ _ (by omega), Heap.put_ne _ _ (by omega), Heap.put_at]
  have o : Outs H X nx := ⟨⟨_, by rw [← hX, Heap.put_ne _ _ (by omega), Heap.put_at], rfl⟩, ⟨_, by rw [← hX, Heap.put_at], rfl⟩, fun g hg => by rw [← hX, Heap.put_ne _ _ (by omega), Heap.put_ne _ _ (by omega), Heap.put_ne _ _ (by omega), Heap.put_ne _ _ (by omega)]⟩
  by_cases hf : a.permit.fuel = 0
  · simp [x0, al, at6, hf]
    refine zajf 12 x0 rfl (fun x hx => ?_) (by omega) fun H' hk => ?_
    · simp [Agt.avs] at hx
      rcases hx with rfl | rfl | rfl | rfl | rfl | rfl | rfl | rfl | rfl <;> rfl
    · have e : VM.step a s = (a, VM.dead 12) := by unfold VM.step; rw [if_pos hf]
      rw [e]
      exact retE (n := nx + 4) (r := (a, VM.dead 12)) (Good.val a) (o.more fun g hg _ _ => hk g hg)
  · rw [zach l hf s]
    have flen := l.flen
    have ok := l.ok f (by simp)
    have nw := l.now
    have hins := nw.at_
    have pops := nw.pops
    have slen := zus l
    obtain ⟨crange, _, _⟩ := (zz l.prog).1 _ (VM.code_mem ok.code)
    unfold VM.codeRange at crange
    rw [decide_eq_false_iff_not] at crange
    have hcode := zms ok.code
    have b1 := l.fuel
    have hat0 := ok.at0
    have hfn0 := ok.fn0
    have okv := ok.vars
    have hfn1 : f.fn < (a.prog.codes.length : Int) := by have := ok.code; omega
    have hat1 : f.at_ < ((VM.codeAt a.prog f.fn).ins.length : Int) := by have := ok.ins; omega
    have hw1 : IntKind.i64.wrap (f.at_ + 1) = f.at_ + 1 := i64w (by omega)
    have hw2 : IntKind.i64.wrap (a.permit.fuel - 1) = a.permit.fuel - 1 := i64w (by omega)
    have hca : (VM.codeAt a.prog f.fn).avs = [.int .i64 (VM.codeAt a.prog f.fn).params, .int .i64 (VM.codeAt a.prog f.fn).vars, .ro ((VM.codeAt a.prog f.fn).ins.map Ins.avs)] := rfl
    have hw3 : IntKind.i64.wrap (fs.length : Int) = fs.length := i64w (by omega)
    have hfr := l.fr
    have hal : a.frames.length = fs.length + 1 := by rw [hfr]; simp
    have hlast : a.frames[fs.length]'(by rw [hal]; omega) = f := by
      have : a.frames[fs.length]? = some f := by rw [hfr]; simp
      exact (List.getElem?_eq_some_iff.1 this).2
    rw [show a.avs = [.int .i64 a.id, .int .i64 a.trip, .ro (a.prog.codes.map Cod.avs), .ro (a.prog.words.map fun w => [.str w]), .ro (a.frames.map Frm.avs), .ro (a.heap.map Cl.avs), .int .i64 a.permit.fuel, .int .i64 a.permit.room, .int .i64 a.permit.hops] from rfl] at x0
    generalize hi : VM.insAt a.prog f = i at *
    obtain ⟨iop, ia, ib⟩ := i
    have ne_0 : nx ≠ nx + 1 ∧ nx + 1 ≠ nx ∧ nx ≠ nx + 2 ∧ nx + 2 ≠ nx ∧ nx ≠ nx + 3 ∧ nx + 3 ≠ nx ∧ nx ≠ nx + 4 ∧ nx + 4 ≠ nx ∧ nx ≠ nx + 5 ∧ nx + 5 ≠ nx ∧ nx ≠ nx + 6 ∧ nx + 6 ≠ nx ∧ nx ≠ nx + 7 ∧ nx + 7 ≠ nx ∧ nx ≠ nx + 8 ∧ nx + 8 ≠ nx ∧ nx ≠ nx + 9 ∧ nx + 9 ≠ nx ∧ nx ≠ nx + 10 ∧ nx + 10 ≠ nx ∧ nx ≠ nx + 11 ∧ nx + 11 ≠ nx ∧ nx + 1 ≠ nx + 2 ∧ nx + 2 ≠ nx + 1 ∧ nx + 1 ≠ nx + 3 ∧ nx + 3 ≠ nx + 1 ∧ nx + 1 ≠ nx + 4 ∧ nx + 4 ≠ nx + 1 ∧ nx + 1 ≠ nx + 5 ∧ nx + 5 ≠ nx + 1 ∧ nx + 1 ≠ nx + 6 ∧ nx + 6 ≠ nx + 1 ∧ nx + 1 ≠ nx + 7 ∧ nx + 7 ≠ nx + 1 ∧ nx + 1 ≠ nx + 8 ∧ nx + 8 ≠ nx + 1 ∧ nx + 1 ≠ nx + 9 ∧ nx + 9 ≠ nx + 1 ∧ nx + 1 ≠ nx + 10 ∧ nx + 10 ≠ nx + 1 ∧ nx + 1 ≠ nx + 11 ∧ nx + 11 ≠ nx + 1 ∧ nx + 2 ≠ nx + 3 ∧ nx + 3 ≠ nx + 2 ∧ nx + 2 ≠ nx + 4 ∧ nx + 4 ≠ nx + 2 ∧ nx + 2 ≠ nx + 5 ∧ nx + 5 ≠ nx + 2 ∧ nx + 2 ≠ nx + 6 ∧ nx + 6 ≠ nx + 2 ∧ nx + 2 ≠ nx + 7 ∧ nx + 7 ≠ nx + 2 ∧ nx + 2 ≠ nx + 8 ∧ nx + 8 ≠ nx + 2 ∧ nx + 2 ≠ nx + 9 ∧ nx + 9 ≠ nx + 2 ∧ nx + 2 ≠ nx + 10 ∧ nx + 10 ≠ nx + 2 ∧ nx + 2 ≠ nx + 11 ∧ nx + 11 ≠ nx + 2 ∧ nx + 3 ≠ nx + 4 ∧ nx + 4 ≠ nx + 3 ∧ nx + 3 ≠ nx + 5 ∧ nx + 5 ≠ nx + 3 ∧ nx + 3 ≠ nx + 6 ∧ nx + 6 ≠ nx + 3 ∧ nx + 3 ≠ nx + 7 ∧ nx + 7 ≠ nx + 3 ∧ nx + 3 ≠ nx + 8 ∧ nx + 8 ≠ nx + 3 ∧ nx + 3 ≠ nx + 9 ∧ nx + 9 ≠ nx + 3 ∧ nx + 3 ≠ nx + 10 ∧ nx + 10 ≠ nx + 3 ∧ nx + 3 ≠ nx + 11 ∧ nx + 11 ≠ nx + 3 ∧ nx + 4 ≠ nx + 5 ∧ nx + 5 ≠ nx + 4 ∧ nx + 4 ≠ nx + 6 ∧ nx + 6 ≠ nx + 4 ∧ nx + 4 ≠ nx + 7 ∧ nx + 7 ≠ nx + 4 ∧ nx + 4 ≠ nx + 8 ∧ nx + 8 ≠ nx + 4 ∧ nx + 4 ≠ nx + 9 ∧ nx + 9 ≠ nx + 4 ∧ nx + 4 ≠ nx + 10 ∧ nx + 10 ≠ nx + 4 ∧ nx + 4 ≠ nx + 11 ∧ nx + 11 ≠ nx + 4 ∧ nx + 5 ≠ nx + 6 ∧ nx + 6 ≠ nx + 5 ∧ nx + 5 ≠ nx + 7 ∧ nx + 7 ≠ nx + 5 ∧ nx + 5 ≠ nx + 8 ∧ nx + 8 ≠ nx + 5 ∧ nx + 5 ≠ nx + 9 ∧ nx + 9 ≠ nx + 5 ∧ nx + 5 ≠ nx + 10 ∧ nx + 10 ≠ nx + 5 ∧ nx + 5 ≠ nx + 11 ∧ nx + 11 ≠ nx + 5 ∧ nx + 6 ≠ nx + 7 ∧ nx + 7 ≠ nx + 6 ∧ nx + 6 ≠ nx + 8 ∧ nx + 8 ≠ nx + 6 ∧ nx + 6 ≠ nx + 9 ∧ nx + 9 ≠ nx + 6 ∧ nx + 6 ≠ nx + 10 ∧ nx + 10 ≠ nx + 6 ∧ nx + 6 ≠ nx + 11 ∧ nx + 11 ≠ nx + 6 ∧ nx + 7 ≠ nx + 8 ∧ nx + 8 ≠ nx + 7 ∧ nx + 7 ≠ nx + 9 ∧ nx + 9 ≠ nx + 7 ∧ nx + 7 ≠ nx + 10 ∧ nx + 10 ≠ nx + 7 ∧ nx + 7 ≠ nx + 11 ∧ nx + 11 ≠ nx + 7 ∧ nx + 8 ≠ nx + 9 ∧ nx + 9 ≠ nx + 8 ∧ nx + 8 ≠ nx + 10 ∧ nx + 10 ≠ nx + 8 ∧ nx + 8 ≠ nx + 11 ∧ nx + 11 ≠ nx + 8 ∧ nx + 9 ≠ nx + 10 ∧ nx + 10 ≠ nx + 9 ∧ nx + 9 ≠ nx + 11 ∧ nx + 11 ≠ nx + 9 ∧ nx + 10 ≠ nx + 11 ∧ nx + 11 ≠ nx + 10 ∧ nx ≠ nx + 12 ∧ nx + 12 ≠ nx ∧ nx + 1 ≠ nx + 12 ∧ nx + 12 ≠ nx + 1 ∧ nx + 2 ≠ nx + 12 ∧ nx + 12 ≠ nx + 2 ∧ nx + 3 ≠ nx + 12 ∧ nx + 12 ≠ nx + 3 ∧ nx + 4 ≠ nx + 12 ∧ nx + 12 ≠ nx + 4 ∧ nx + 5 ≠ nx + 12 ∧ nx + 12 ≠ nx + 5 ∧ nx + 6 ≠ nx + 12 ∧ nx + 12 ≠ nx + 6 ∧ nx + 7 ≠ nx + 12 ∧ nx + 12 ≠ nx + 7 ∧ nx + 8 ≠ nx + 12 ∧ nx + 12 ≠ nx + 8 ∧ nx + 9 ≠ nx + 12 ∧ nx + 12 ≠ nx + 9 ∧ nx + 10 ≠ nx + 12 ∧ nx + 12 ≠ nx + 10 ∧ nx + 11 ≠ nx + 12 ∧ nx + 12 ≠ nx + 11 := ⟨by omega, by omega, by omega, by omega, by omega, by omega, by omega, by omega, by omega, by omega, by omega, by omega, by omega, by omega, by omega, by omega, by omega, by omega, by omega, by omega, by omega, by omega, by omega, by omega, by omega, by omega, by omega, by omega, by omega, by omega, by omega, by omega, by omega, by omega, by omega, by omega, by omega, by omega, by omega, by omega, by omega, by omega, by omega, by omega, by omega, by omega, by omega, by omega, by omega, by omega, by omega, by omega, by omega, by omega, by omega, by omega, by omega, by omega, by omega, by omega, by omega, by omega, by omega, by omega, by omega, by omega, by omega, by omega, by omega, by omega, by omega, by omega, by omega, by omega, by omega, by omega, by omega, by omega, by omega, by omega, by omega, by omega, by omega, by omega, by omega, by omega, by omega, by omega, by omega, by omega, by omega, by omega, by omega, by omega, by omega, by omega, by omega, by omega, by omega, by omega, by omega, by omega, by omega, by omega, by omega, by omega, by omega, by omega, by omega, by omega, by omega, by omega, by omega, by omega, by omega, by omega, by omega, by omega, by omega, by omega, by omega, by omega, by omega, by omega, by omega, by omega, by omega, by omega, by omega, by omega, by omega, by omega, by omega, by omega, by omega, by omega, by omega, by omega, by omega, by omega, by omega, by omega, by omega, by omega, by omega, by omega, by omega, by omega, by omega, by omega, by omega, by omega, by omega, by omega, by omega, by omega⟩
    simp [x0, hf, hw1, hw2, hw3, hal, hlast, hcode, hca, hins, Ins.avs, Frm.avs, ne_0]
    refine ⟨by omega, hfn0, hfn1, hat0, hat1, ?_⟩
    refine QC.call (zafh ⟨iop, ia, ib⟩) ?_
    have hbd := zho ⟨iop, ia, ib⟩ fun h17 => ((zz l.prog).1 _ (VM.code_mem ok.code)).2.1 _ (List.mem_of_getElem? hins) h17
    obtain ⟨p, hp⟩ : ∃ p : Nat, (VM.effect ⟨iop, ia, ib⟩).1 = p := ⟨_, (Int.toNat_of_nonneg hbd.1).symm⟩
    rw [hp] at pops
    have hpt : (VM.effect ⟨iop, ia, ib⟩).1.toNat = p := by rw [hp]; rfl
    have hw5 : IntKind.i64.wrap ((f.stack.length : Int) - p) = ((f.stack.length - p : Nat) : Int) := by rw [i64w (by omega)]; omega
    have srcV : ∀ (H : Heap) (l : List Val), zm 3 H (.ro (l.map Val.avs)) = some (l.length, rowV l, []) := fun H l => by rw [zcn (zbo l)]; simp [rowV]
    have srcD : ∀ (H : Heap) (l : List Val) (k : Nat), zm 3 H (.ro ((l.map Val.avs).drop k)) = some (l.length - k, rowV (l.drop k), []) := fun H l k => by rw [← List.map_drop, srcV, List.length_drop]
    have srcT : ∀ (H : Heap) (l : List Val) (k : Nat), zm 3 H (.ro ((l.map Val.avs).take k)) = some (min k l.length, rowV (l.take k), []) := fun H l k => by rw [← List.map_take, srcV, List.length_take]
    have al3 := zbo f.stack
    simp [zod, hp, hw5, srcV, srcD, srcT, ne_0]
    have om : ∀ l : List Val, ∀ x ∈ rowV l, x.one = true := fun l x hx => zaa (zbk l x hx)
    refine ⟨om _, by omega, om _, by omega, om _, by omega, ?_⟩
    generalize hY : Heap.put _ (nx + 4) _ = Y
    have yk : ∀ g, g < nx + 4 → g ≠ nx → Y g = X g := fun g h1 h2 => by
      rw [← hY]; repeat rw [Heap.put_ne _ _ (by omega)]
    have y0 : Y nx = some (.row 9 (zc a.id a.trip a.prog (.ro (a.frames.map Frm.avs)) (.ro (a.heap.map Cl.avs)) { a.permit with fuel := a.permit.fuel - 1 })) := by
      rw [← hY, Heap.put_ne _ _ (by omega), Heap.put_ne _ _ (by omega), Heap.put_ne _ _ (by omega), Heap.put_ne _ _ (by omega), Heap.put_ne _ _ (by omega), Heap.put_ne _ _ (by omega), Heap.put_ne _ _ (by omega), Heap.put_ne _ _ (by omega), Heap.put_ne _ _ (by omega), Heap.put_ne _ _ (by omega), Heap.put_ne _ _ (by omega), Heap.put_at]; rfl
    have y4 : Y (nx + 4) = some (.row 4 [.int .i64 f.fn, .int .i64 (f.at_ + 1), .slc (nx + 11) 0 f.vars.length, .slc (nx + 9) 0 (f.stack.length - p)]) := by rw [← hY, Heap.put_at]
    have y5 : Y (nx + 5) = some (.row 3 [.int .i64 iop, .int .i64 ia, .int .i64 ib]) := by
      rw [← hY, Heap.put_ne _ _ (by omega), Heap.put_ne _ _ (by omega), Heap.put_ne _ _ (by omega), Heap.put_ne _ _ (by omega), Heap.put_ne _ _ (by omega), Heap.put_ne _ _ (by omega), Heap.put_ne _ _ (by omega), Heap.put_ne _ _ (by omega), Heap.put_ne _ _ (by omega), Heap.put_at]
    have y7 : Y (nx + 7) = some (.row 3 (rowV (f.stack.drop (f.stack.length - p)))) := by
      rw [← hY, Heap.put_ne _ _ (by omega), Heap.put_ne _ _ (by omega), Heap.put_ne _ _ (by omega), Heap.put_ne _ _ (by omega), Heap.put_ne _ _ (by omega), Heap.put_ne _ _ (by omega), Heap.put_at]
    have y9 : Y (nx + 9) = some (.row 3 (rowV (VM.low p f.stack))) := by
      rw [← hY, Heap.put_ne _ _ (by omega), Heap.put_ne _ _ (by omega), Heap.put_ne _ _ (by omega), Heap.put_ne _ _ (by omega), Heap.put_at]; rfl
    have y11 : Y (nx + 11) = some (.row 3 (rowV f.vars)) := by
      rw [← hY, Heap.put_ne _ _ (by omega), Heap.put_at]
    have cp : zdy Y (nx + 12) 4 (fs.length + 1) ((a.frames.map Frm.avs).flatten) (.ro (a.frames.map Frm.avs)) := by rw [← hal]; exact zya a.frames
    refine zwb (va := .slc (nx + 11) 0 f.vars.length) (sa := .slc (nx + 9) 0 (f.stack.length - p)) (ha := .ro (a.heap.map Cl.avs)) (m := { a.permit with fuel := a.permit.fuel - 1 }) cp (by omega) ⟨rfl, rfl, rfl⟩ ⟨rfl, rfl⟩ ⟨rfl, rfl⟩ fun H' n' g' h1 h2 kp hr => ?_
    rw [hfr, zabh] at hr
    generalize hin : f.stack.drop (f.stack.length - p) = ins at *
    have hil : ins.length = f.stack.length - (f.stack.length - p) := by rw [← hin, List.length_drop]
    have q0 := (kp nx (by omega)).trans y0
    generalize hH : H'.put nx (some (.row 9 (zc a.id a.trip a.prog (.slc g' 0 (fs.length + 1)) (.ro (a.heap.map Cl.avs)) { a.permit with fuel := a.permit.fuel - 1 }))) = HH
    have hk : ∀ g, g ≠ nx → HH g = H' g := fun g hg => by rw [← hH, Heap.put_ne _ _ hg]
    have R : VSt H HH nx n' g' { a with permit := { a.permit with fuel := a.permit.fuel - 1 } } s fs { f with at_ := f.at_ + 1, stack := VM.low (VM.effect ⟨iop, ia, ib⟩).1.toNat f.stack } ins ⟨iop, ia, ib⟩ := by
      rw [hpt]
      have ll : (VM.low p f.stack).length = f.stack.length - p := VM.low_len p f.stack
      refine ⟨o.more fun g hg e1 e2 => by rw [hk g e1, kp g (by omega), yk g hg e1], by rw [← hH, Heap.put_at], ?_, ?_, ?_, ?_, ?_, ?_, ?_, ⟨h1, h2⟩, by omega, by simp only; omega⟩
      · rw [hk _ (by omega), kp _ (by omega), yk _ (by omega) (by omega)]; exact x1
      · rw [hk _ (by omega), kp _ (by omega)]; simp only [ll]; exact y4
      · rw [hk _ (by omega), kp _ (by omega)]; exact y5
      · rw [hk _ (by omega)]; simp only [ll]; exact hr
      · rw [hk _ (by omega), kp _ (by omega)]; exact y11
      · rw [hk _ (by omega), kp _ (by omega)]; exact y9
      · rw [hk _ (by omega), kp _ (by omega)]; exact y7
    have := zamg l hname hfacts hi.symm rfl rfl (by rw [hpt, hin]) R
    unfold Then zj at this
    rw [hil, ← hH, ← zapp q0 rfl rfl] at this
    exact this
end
end Go.Proofs.YtejohcohkgcmhaaDoor
namespace Go.Proofs.YtejohcohkgcmhaaDoor
open Go Go.RowKit
theorem eavs (e : Evt) : e.avs = [.int .i64 e.kind, .str e.text, .int .i64 e.err] := rfl
theorem zpr (a : Agt) : a.avs.drop 9 = [] ∧ a.avs.take 9 = a.avs ∧ a.avs.length = 9 := ⟨rfl, rfl, rfl⟩
theorem zaco (a : Agt) : ∀ x ∈ a.avs, x.one = true := fun x hx => by
  simp [Agt.avs] at hx
  rcases hx with rfl | rfl | rfl | rfl | rfl | rfl | rfl | rfl | rfl <;> rfl
theorem zaih {H : Heap} {nx : Nat} (a : Agt) : Frz H nx (.agg a.avs) (.agg a.avs) := zbs (fs := a.frames) (h := a.heap) (m := a.permit) (.same _ (zacy _)) (.same _ (zcc (zag _)))
structure RunI (H0 H : Heap) (nx n : Nat) (s : Spt) (b : Agt) : Prop where
  r0 : H nx = some (.row 9 b.avs)
  r1 : H (nx + 1) = some (.row 4 s.avs)
  r2 : ∃ z, H (nx + 2) = some (.row 9 z) ∧ z.length = 9
  r3 : ∃ z, H (nx + 3) = some (.row 3 z) ∧ z.length = 3
  keep : Keep nx H H0
  nn : nx + 4 ≤ n
set_option maxRecDepth 20000 in
set_option maxHeartbeats 1000000 in
theorem zakm {a : Agt} {fs : List Frm} {f : Frm} {s : Spt} {most : Int} (l : VM.Live a fs f) (hname : s.name.length ≤ maxLen) (hfacts : s.facts.length ≤ 4611686018427387903) (hw : ∀ x ∈ s.facts, VM.WrongOk x.val (0 : Int)) (hm : most ≤ 9223372036854775807) :
    QC Tryd.prog 26 [.agg a.avs, .agg s.avs, .int .i64 most] (.tup [.agg (VM.run s most.toNat a).1.avs, .agg (VM.run s most.toNat a).2.avs]) := by
  refine QC.of' fun H nx => ?_
  refine zyp _ _ _ H nx _ ?_
  have hsu : (AV.agg a.avs).sure = true := by simp [Agt.avs]
  have hss : (AV.agg s.avs).sure = true := by simp [Spt.avs]
  have hmx : max most 0 = (most.toNat : Int) := by omega
  unfold zkr
  rw [zarg, hmx]
  have hM : most.toNat ≤ 9223372036854775807 := by omega
  generalize most.toNat = M at *
  refine ⟨hsu, hss, ?_⟩
  generalize hX : Heap.put _ (nx + 3) _ = X
  generalize hr : VM.run s M a = r
  refine LP.mk (fun k xs H' n' => ∃ (i : Nat) (b : Agt) (gs : List Frm) (g : Frm), xs = [.ptr nx 0, .ptr (nx + 1) 0, .ptr (nx + 2) 0, .ptr (nx + 3) 0, .int .i64 (M : Int), .int .i64 i] ∧ i ≤ M ∧ k = M - i ∧ VM.Live b gs g ∧ RunI H H' nx n' s b ∧ VM.run s (M - i) b = r) M ⟨0, a, fs, f, rfl, by omega, by omega, l, ?_, hr⟩ ?_
  · refine ⟨?_, ?_, ⟨_, by rw [← hX, Heap.put_ne _ _ (by omega), Heap.put_at], rfl⟩, ⟨_, by rw [← hX, Heap.put_at], rfl⟩, fun g hg => by rw [← hX]; repeat rw [Heap.put_ne _ _ (by omega)], by omega⟩
    · rw [← hX, Heap.put_ne _ _ (by omega), Heap.put_ne _ _ (by omega), Heap.put_ne _ _ (by omega), Heap.put_at]; rfl
    · rw [← hX, Heap.put_ne _ _ (by omega), Heap.put_ne _ _ (by omega), Heap.put_at]; rfl
  rintro k xs H' n' ⟨i, b, gs, g, rfl, hi, rfl, lb, R, hrun⟩
  obtain ⟨r0, r1, ⟨z, z1, z2⟩, ⟨y, y1, y2⟩, keep, nn⟩ := R
  suffices key : ∀ K : J3, (∀ (b : Agt) (gs : List Frm) (g : Frm) H2 n2, i < M → VM.Live b gs g → RunI H H2 nx n2 s b → VM.run s (M - (i + 1)) b = r → K [.ptr nx 0, .ptr (nx + 1) 0, .ptr (nx + 2) 0, .ptr (nx + 3) 0, .int .i64 (M : Int), .int .i64 ((i : Int) + 1)] H2 n2) →
      zgp (fun v H' nx' => Frz H' nx v (.tup [.agg r.1.avs, .agg r.2.avs]) ∧ Keep nx H' H) K [.ptr nx 0, .ptr (nx + 1) 0, .ptr (nx + 2) 0, .ptr (nx + 3) 0, .int .i64 (M : Int), .int .i64 i] H' n' from
    key _ fun b gs g H2 n2 h1 h2 h3 h4 => ⟨M - (i + 1), by omega, i + 1, b, gs, g, rfl, by omega, rfl, h2, h3, h4⟩
  intro K hK
  obtain ⟨bd, bt, bl⟩ := zpr b
  have sl : s.avs.length = 4 := rfl
  have st4 : s.avs.take 4 = s.avs := rfl
  by_cases hlt : i < M
  · have hlt' : (i : Int) < (M : Int) := by omega
    have hadd : IntKind.i64.wrap ((i : Int) + 1) = (i : Int) + 1 := i64w (by omega)
    obtain ⟨j, hj⟩ : ∃ j, M - i = j + 1 := ⟨M - i - 1, by omega⟩
    rw [hj, zzf] at hrun
    obtain ⟨cd, ct, cl⟩ := zpr (VM.step b s).1
    have one1 := zaco (VM.step b s).1
    have su : ((AV.agg (VM.step b s).1.avs).sure = true) := by simp [Agt.avs]
    have ne_0 : nx ≠ nx + 1 ∧ nx + 1 ≠ nx ∧ nx ≠ nx + 2 ∧ nx + 2 ≠ nx ∧ nx ≠ nx + 3 ∧ nx + 3 ≠ nx ∧ nx + 1 ≠ nx + 2 ∧ nx + 2 ≠ nx + 1 ∧ nx + 1 ≠ nx + 3 ∧ nx + 3 ≠ nx + 1 ∧ nx + 2 ≠ nx + 3 ∧ nx + 3 ≠ nx + 2 ∧ nx ≠ n' ∧ n' ≠ nx ∧ nx ≠ n' + 1 ∧ n' + 1 ≠ nx ∧ nx + 1 ≠ n' ∧ n' ≠ nx + 1 ∧ nx + 1 ≠ n' + 1 ∧ n' + 1 ≠ nx + 1 ∧ nx + 2 ≠ n' ∧ n' ≠ nx + 2 ∧ nx + 2 ≠ n' + 1 ∧ n' + 1 ≠ nx + 2 ∧ nx + 3 ≠ n' ∧ n' ≠ nx + 3 ∧ nx + 3 ≠ n' + 1 ∧ n' + 1 ≠ nx + 3 := ⟨by omega, by omega, by omega, by omega, by omega, by omega, by omega, by omega, by omega, by omega, by omega, by omega, by omega, by omega, by omega, by omega, by omega, by omega, by omega, by omega, by omega, by omega, by omega, by omega, by omega, by omega, by omega, by omega⟩
    simp [zgp, hlt, hlt', r0, r1, bl, bt, sl, st4]
    refine QC.call (zaiz lb hname hfacts) ?_
    simp [zsr, r0, r1, z1, z2, y1, y2, cd, ct, cl, su, eavs, hadd, ne_0]
    refine ⟨one1, by omega, one1, fun hk => ?_, fun hk => ?_⟩
    · rw [if_pos (by simpa using hk)] at hrun
      subst hrun
      refine ⟨one1, ⟨zaih _, .same _ (zny _)⟩, fun g hg => ?_⟩
      repeat rw [Heap.put_ne _ _ (by omega)]
      exact keep g hg
    · rw [if_neg (by simpa using hk)] at hrun
      obtain ⟨gs', g', l'⟩ := VM.step_live lb hw hk
      refine hK _ gs' g' _ _ hlt l' ⟨?_, ?_, ⟨z, ?_, z2⟩, ⟨y, ?_, y2⟩, fun g hg => ?_, by omega⟩ (by rw [show M - (i + 1) = j by omega]; exact hrun)
      · rw [Heap.put_at, List.drop_eq_nil_of_le (by omega), List.append_nil]
      · rw [Heap.put_ne _ _ (by omega), Heap.put_ne _ _ (by omega), Heap.put_ne _ _ (by omega), Heap.put_ne _ _ (by omega), Heap.put_ne _ _ (by omega)]; exact r1
      · rw [Heap.put_ne _ _ (by omega), Heap.put_ne _ _ (by omega), Heap.put_ne _ _ (by omega), Heap.put_ne _ _ (by omega), Heap.put_ne _ _ (by omega)]; exact z1
      · rw [Heap.put_ne _ _ (by omega), Heap.put_ne _ _ (by omega), Heap.put_ne _ _ (by omega), Heap.put_ne _ _ (by omega), Heap.put_ne _ _ (by omega)]; exact y1
      · rw [Heap.put_ne _ _ (by omega), Heap.put_ne _ _ (by omega), Heap.put_ne _ _ (by omega), Heap.put_ne _ _ (by omega), Heap.put_ne _ _ (by omega)]; exact keep g hg
  · have he : M - i = 0 := by omega
    have hge : ¬ (i : Int) < (M : Int) := by omega
    rw [he, zafk] at hrun
    subst hrun
    have one1 := zaco b
    have ne_1 : nx ≠ nx + 1 ∧ nx + 1 ≠ nx ∧ nx ≠ nx + 2 ∧ nx + 2 ≠ nx ∧ nx ≠ nx + 3 ∧ nx + 3 ≠ nx ∧ nx + 1 ≠ nx + 2 ∧ nx + 2 ≠ nx + 1 ∧ nx + 1 ≠ nx + 3 ∧ nx + 3 ≠ nx + 1 ∧ nx + 2 ≠ nx + 3 ∧ nx + 3 ≠ nx + 2 ∧ nx ≠ n' ∧ n' ≠ nx ∧ nx ≠ n' + 1 ∧ n' + 1 ≠ nx ∧ nx + 1 ≠ n' ∧ n' ≠ nx + 1 ∧ nx + 1 ≠ n' + 1 ∧ n' + 1 ≠ nx + 1 ∧ nx + 2 ≠ n' ∧ n' ≠ nx + 2 ∧ nx + 2 ≠ n' + 1 ∧ n' + 1 ≠ nx + 2 ∧ nx + 3 ≠ n' ∧ n' ≠ nx + 3 ∧ nx + 3 ≠ n' + 1 ∧ n' + 1 ≠ nx + 3 := ⟨by omega, by omega, by omega, by omega, by omega, by omega, by omega, by omega, by omega, by omega, by omega, by omega, by omega, by omega, by omega, by omega, by omega, by omega, by omega, by omega, by omega, by omega, by omega, by omega, by omega, by omega, by omega, by omega⟩
    simp [zgp, hlt, hge, r0, r1, bl, bt, bd, z1, z2, y1, y2, eavs, ne_1]
    refine ⟨one1, ⟨zaih _, .same _ (zny ⟨1, [], 0⟩)⟩, fun g hg => ?_⟩
    exact keep g hg
end Go.Proofs.YtejohcohkgcmhaaDoor
namespace Go.Proofs.YtejohcohkgcmhaaDoor
open Go Go.RowKit
def zab (l : List Int) : List AV := l.map (AV.int .i64)
section
variable {k : AV → Prop} {ki : IntKind}
@[simp ↓] theorem zavy {s g off len : Nat} {a : Int} {H : Heap} : SL s (.slc g off len) (some (.int ki a)) none H k = ROWK (H g) fun sz _ => sz = s ∧ 0 ≤ a ∧ a ≤ len ∧ k (.slc g (off + a.toNat * s) ((len : Int) - a).toNat) := by
  simp only [SL, zay, lohi, qk]
  refine zfj (fun sz cs h => ?_) fun h => ?_
  · simp [h]
  · intro ha
    split at ha
    · rename_i sz cs he; exact h _ _ he
    · exact ha
end
theorem zalc (n i : Nat) (h : i < n) : List.take i (zab (List.replicate i (-1) ++ List.replicate (n - i) 0)) ++ AV.int .i64 (-1) :: List.drop (i + 1) (zab (List.replicate i (-1) ++ List.replicate (n - i) 0)) = zab (List.replicate (i + 1) (-1) ++ List.replicate (n - (i + 1)) 0) := by
  have e : n - i = (n - (i + 1)) + 1 := by omega
  rw [e, List.replicate_succ, List.replicate_succ']
  simp [zab, List.take_append, List.drop_append]
theorem zin (l : List Int) (i : Nat) : (zab l)[i]? = (l[i]?).map (AV.int .i64) := by simp [zab]
theorem zajz (l : List Int) (i : Nat) (x : Int) (h : i < l.length) : List.take i (zab l) ++ AV.int .i64 x :: List.drop (i + 1) (zab l) = zab (l.set i x) := by
  rw [zab, zab, List.map_set, List.set_eq_take_append_cons_drop]; simp [h]
@[simp] theorem zata (l : List Int) : (zab l).length = l.length := by simp [zab]
theorem zahw (l : List Int) : (l.map fun n => [AV.int .i64 n]).flatten = zab l := by
  induction l with
  | nil => rfl
  | cons x r ih => simp [zab] at ih ⊢; exact ih
end Go.Proofs.YtejohcohkgcmhaaDoor
namespace Go.Proofs.YtejohcohkgcmhaaDoor
open Go Go.RowKit
theorem app1 {g len s : Nat} {x : Int} {H : Heap} {kk : AV → Heap → Nat → Prop} {A : List Int} (hg : H g = some (.row 1 (zab A))) (hl : A.length = len) (hgs : g ≠ s) (hb : len ≤ 4194304)
    (hk : ∀ H', H' (s + 1) = some (.row 1 (zab (A ++ [x]))) → (∀ y, y ≠ g → y ≠ s → y ≠ s + 1 → H' y = H y) → kk (.slc (s + 1) 0 (len + 1)) H' (s + 1 + 1)) :
    APP 1 8 (.slc g 0 len) (.slc s 0 1) (H.put s (some (.row 1 [.int .i64 x]))) (s + 1) kk := by
  simp [hgs, hg]
  refine ⟨by omega, by omega, hk _ ?_ ?_⟩
  · simp [hl, zab]
    rw [List.take_of_length_le (by simp; omega)]
  · intro y h1 h2 h3
    simp [h1, h2, h3]
theorem app2 {ga gb la s : Nat} {x y : Int} {H : Heap} {kk : AV → AV → Heap → Nat → Prop} {A B : List Int} (hga : H ga = some (.row 1 (zab A))) (hgb : H gb = some (.row 1 (zab B))) (hA : A.length = la) (hB : B.length = la) (hab : ga ≠ gb) (ha : ga < s) (hb : gb < s) (hl : la ≤ 4194304)
    (hk : ∀ H', H' (s + 1) = some (.row 1 (zab (A ++ [x]))) → H' (s + 3) = some (.row 1 (zab (B ++ [y]))) → (∀ z, z ≠ ga → z ≠ gb → z < s → H' z = H z) → kk (.slc (s + 1) 0 (la + 1)) (.slc (s + 3) 0 (la + 1)) H' (s + 4)) :
    APP 1 8 (.slc ga 0 la) (.slc s 0 1) (H.put s (some (.row 1 [.int .i64 x]))) (s + 1) fun v H' n => APP 1 8 (.slc gb 0 la) (.slc n 0 1) (H'.put n (some (.row 1 [.int .i64 y]))) (n + 1) fun w H'' n' => kk v w H'' n' := by
  refine app1 hga hA (by omega) hl fun H1 h1 h2 => ?_
  refine app1 (A := B) (by rw [h2 gb (by omega) (by omega) (by omega)]; exact hgb) hB (by omega) hl fun H3 h3 h4 => ?_
  refine hk H3 ?_ h3 fun z p q r => ?_
  · rw [h4 _ (by omega) (by omega) (by omega)]; exact h1
  · rw [h4 _ (by omega) (by omega) (by omega), h2 _ (by omega) (by omega) (by omega)]
def RInv (c : Cod) (H0 : Heap) (n0 : Nat) (f : Nat) (xs : List AV) (H : Heap) (nx : Nat) : Prop := ∃ (q : List (Int × Int)) (out A B : List Int) (ga gb k la : Nat),
  xs = [.ptr n0 0, .slc (n0 + 1) 0 c.ins.length, .slc ga 0 la, .slc gb 0 la, .int .i64 k] ∧ A.length = la ∧ B.length = la ∧ H ga = some (.row 1 (zab A)) ∧ H gb = some (.row 1 (zab B)) ∧ A.drop k = q.map (·.1) ∧ B.drop k = q.map (·.2) ∧ k ≤ la ∧
  n0 + 1 < ga ∧ n0 + 1 < gb ∧ ga ≠ gb ∧ ga < nx ∧ gb < nx ∧ k + f = 2 * c.ins.length + 2 ∧
  H n0 = some (.row 3 c.avs) ∧ H (n0 + 1) = some (.row 1 (zab out)) ∧ out.length = c.ins.length ∧ Keep n0 H H0 ∧
  VM.heightsGo c.ins f q out = VM.heights c.ins ∧ q.length + 2 * zmi out < f ∧ (∀ x ∈ q, 0 ≤ x.2 ∧ x.2 ≤ 16) ∧ (∀ x ∈ out, -1 ≤ x ∧ x ≤ 16)
set_option maxHeartbeats 4000000 in
theorem zxz (c : Cod) (hlen : c.ins.length ≤ 1048576) (hcalm : Calm c.ins) :
    QC Tryd.prog 54 [.agg c.avs] (.tup [.ro ((VM.heights c.ins).1.map fun n => [.int .i64 n]), .int .i64 (VM.heights c.ins).2]) := by
  refine QC.of' fun H nx => zrc _ H nx _ ?_
  simp [zft, Cod.avs]
  refine ⟨by omega, by omega, ?_⟩
  refine LP.mk (fun m xs H' nx' => ∃ i : Nat, i ≤ c.ins.length ∧ m = c.ins.length - i ∧ xs = [.ptr nx 0, .slc (nx + 1) 0 c.ins.length, .int .i64 c.ins.length, .int .i64 i] ∧ nx' = nx + 2 ∧
    H' = (H.put nx (some (.row 3 c.avs))).put (nx + 1) (some (.row 1 (zab (List.replicate i (-1) ++ List.replicate (c.ins.length - i) 0))))) c.ins.length
    ⟨0, by omega, by omega, by simp, rfl, by simp [zab, Cod.avs]⟩ ?_
  rintro m xs H' nx' ⟨i, hi, rfl, rfl, rfl, rfl⟩
  simp [zlh]
  refine ⟨fun h => ?_, fun h => ?_⟩
  · refine ⟨h, by omega, ?_⟩
    rw [i64w (by omega)]
    refine ⟨c.ins.length - (i + 1), by omega, i + 1, by omega, rfl, by simp, ?_⟩
    rw [zalc _ _ h]
  obtain rfl : i = c.ins.length := by omega
  refine LP.mk (RInv c H nx) (2 * c.ins.length + 2) ⟨[(0, 0)], List.replicate c.ins.length (-1), [0], [0], nx + 2, nx + 3, 0, 1, by simp, rfl, rfl, by simp [zab], by simp [zab], rfl, rfl, by omega, by omega, by omega, by omega, by omega, by omega, by omega, by simp; omega, by simp, by simp, ?_, rfl, ?_, ?_, ?_⟩ ?_
  · rw [Keep.put (by omega), Keep.put (by omega), Keep.put (by omega), Keep.put (by omega)]; simp
  · unfold zmi; simp [List.countP_replicate]; omega
  · intro x hx; simp at hx; subst hx; simp
  · intro x hx; have := List.eq_of_mem_replicate hx; omega
  rintro f xs H1 n1 ⟨q, out, A, B, ga, gb, k, la, rfl, hAl, hBl, hga, hgb, hA, hB, hk, g1, g2, g3, g4, g5, hkf, hb, ho, hol, hK, hgo, hmeas, hq, hout⟩
  cases f with
  | zero => simp at hmeas
  | succ f =>
  cases q with
  | nil =>
    have hkl : la ≤ k := by have := congrArg List.length hA; simp at this; omega
    have e : VM.heights c.ins = (out, 0) := by rw [← hgo]; rfl
    have : ¬ k < la := by omega
    simp [zbc, this, e]
    refine ⟨Frz.row (sz := 1) (cells := zab out) (by omega) ho (by simp [hol]) (by simp) (zahw out) ?_, hK⟩
    intro x hx; simp [zab] at hx; obtain ⟨a, _, rfl⟩ := hx; exact .int _ _
  | cons x q =>
    obtain ⟨at_, h⟩ := x
    have hkl : k < la := by have := congrArg List.length hA; simp at this; omega
    have hA0 : A[k]? = some at_ := by have := congrArg (·[0]?) hA; simpa using this
    have hB0 : B[k]? = some h := by have := congrArg (·[0]?) hB; simpa using this
    have hA1 : A.drop (k + 1) = q.map (·.1) := by have := congrArg (List.drop 1) hA; simpa using this
    have hB1 : B.drop (k + 1) = q.map (·.2) := by have := congrArg (List.drop 1) hB; simpa using this
    have hh := hq (at_, h) (by simp)
    simp only at hh
    have hq' : ∀ x ∈ q, 0 ≤ x.2 ∧ x.2 ≤ 16 := fun x hx => hq x (by simp [hx])
    have hlaq : la = k + 1 + q.length := by have := congrArg List.length hA; simp at this; omega
    simp only [List.length_cons] at hmeas
    simp only [VM.heightsGo] at hgo
    have w0 : IntKind.i64.wrap ((k : Int) + 1) = ((k + 1 : Nat) : Int) := by rw [i64w (by omega)]; simp
    by_cases hr : 0 ≤ at_ ∧ at_ < c.ins.length
    case neg =>
      have e : (if 0 ≤ at_ then c.ins[at_.toNat]? else none) = none := by
        split
        · exact List.getElem?_eq_none (by omega)
        · rfl
      rw [e] at hgo
      simp only at hgo
      rw [← hgo]
      by_cases h0 : at_ < 0
      · simp [zbc, hkl, hga, hgb, zin, hA0, hB0, h0, hK]
      · have : (c.ins.length : Int) ≤ at_ := by omega
        simp [zbc, hkl, hga, hgb, zin, hA0, hB0, h0, this, hK]
    case pos =>
    obtain ⟨hr0, hr1⟩ := hr
    have hlt : at_.toNat < c.ins.length := by omega
    obtain ⟨i, hi⟩ : ∃ i, c.ins[at_.toNat]? = some i := ⟨_, List.getElem?_eq_getElem hlt⟩
    obtain ⟨o, ho'⟩ : ∃ o, out[at_.toNat]? = some o := ⟨_, List.getElem?_eq_getElem (by omega)⟩
    have hod : out.getD at_.toNat 0 = o := by simp [List.getD_eq_getElem?_getD, ho']
    rw [if_pos hr0, hi, hod] at hgo
    simp only at hgo
    by_cases hs : 0 ≤ o
    · rw [if_pos hs] at hgo
      by_cases hne : o = h
      · subst hne
        rw [if_neg (by simp)] at hgo
        simp [zbc, hkl, hga, hgb, zin, hA0, hB0, ho, hr0, hr1, ho', hs, Int.not_lt.2 hr0, Int.not_le.2 hr1, w0, Int.not_lt.2 hs]
        exact ⟨f, by omega, q, out, A, B, ga, gb, k + 1, la, rfl, hAl, hBl, hga, hgb, hA1, hB1, by omega, g1, g2, g3, g4, g5, by omega, hb, ho, hol, hK, hgo, by omega, hq', hout⟩
      · rw [if_pos hne] at hgo
        rw [← hgo]
        simp [zbc, hkl, hga, hgb, zin, hA0, hB0, ho, hr0, hr1, ho', hs, hne, Int.not_lt.2 hr0, Int.not_le.2 hr1, hK]
    rw [if_neg hs] at hgo
    have hbd := zho i (hcalm i (List.mem_of_getElem? hi))
    have n1' : ga ≠ nx := by omega
    have n2' : ga ≠ nx + 1 := by omega
    have n3' : ga ≠ n1 := by omega
    have n4' : nx ≠ n1 := by omega
    have n5' : nx + 1 ≠ n1 := by omega
    have m2' : gb ≠ nx + 1 := by omega
    have m3' : gb ≠ n1 := by omega
    have hns : o < 0 := by omega
    obtain ⟨_, hi'⟩ := List.getElem?_eq_some_iff.1 hi
    simp [zbc, hkl, hga, hgb, zin, hA0, hB0, ho, hb, hr0, hr1, ho', hs, hns, hi', Cod.avs, Ins.avs, Int.not_lt.2 hr0, Int.not_le.2 hr1]
    refine ⟨by omega, QC.call (zafh i) ?_⟩
    rw [zajz _ _ _ (by omega)]
    have h2a : ((H1.put (nx + 1) (some (.row 1 (zab (out.set at_.toNat h))))).put n1 (some (.row 3 [.int .i64 i.op, .int .i64 i.a, .int .i64 i.b]))) ga = some (.row 1 (zab A)) := by simp [n2', n3', hga]
    have h2c : ((H1.put (nx + 1) (some (.row 1 (zab (out.set at_.toNat h))))).put n1 (some (.row 3 [.int .i64 i.op, .int .i64 i.a, .int .i64 i.b]))) gb = some (.row 1 (zab B)) := by simp [m2', m3', hgb]
    have h2b : ((H1.put (nx + 1) (some (.row 1 (zab (out.set at_.toNat h))))).put n1 (some (.row 3 [.int .i64 i.op, .int .i64 i.a, .int .i64 i.b]))) nx = some (.row 3 c.avs) := by simp [n4', hb]
    have h2o : ((H1.put (nx + 1) (some (.row 1 (zab (out.set at_.toNat h))))).put n1 (some (.row 3 [.int .i64 i.op, .int .i64 i.a, .int .i64 i.b]))) (nx + 1) = some (.row 1 (zab (out.set at_.toNat h))) := by simp [n5']
    have h2n : ((H1.put (nx + 1) (some (.row 1 (zab (out.set at_.toNat h))))).put n1 (some (.row 3 [.int .i64 i.op, .int .i64 i.a, .int .i64 i.b]))) n1 = some (.row 3 [.int .i64 i.op, .int .i64 i.a, .int .i64 i.b]) := by simp
    have h2K : Keep nx ((H1.put (nx + 1) (some (.row 1 (zab (out.set at_.toNat h))))).put n1 (some (.row 3 [.int .i64 i.op, .int .i64 i.a, .int .i64 i.b]))) H := by rw [Keep.put (by omega), Keep.put (by omega)]; exact hK
    generalize ((H1.put (nx + 1) (some (.row 1 (zab (out.set at_.toNat h))))).put n1 (some (.row 3 [.int .i64 i.op, .int .i64 i.a, .int .i64 i.b]))) = H2 at *
    have hu := zur (out := out) (k := at_.toNat) (h := h) (by omega) (by omega) hh.1
    generalize hE : VM.effect i = E at *
    obtain ⟨nd, gv⟩ := E
    simp only at hbd hgo
    have w1 : IntKind.i64.wrap (h - nd) = h - nd := i64w (by omega)
    have w2 : IntKind.i64.wrap (h - nd + gv) = h - nd + gv := i64w (by omega)
    have w3 : IntKind.i64.wrap (at_ + 1) = at_ + 1 := i64w (by omega)
    by_cases hc1 : h < nd ∨ (i.op = 18 ∧ h ≠ 1)
    · rw [if_pos hc1] at hgo
      rw [← hgo]
      by_cases hc2 : h < nd
      · simp [zam, hc2, h2K]
      · have h18 : i.op = 18 := by omega
        have hnd : nd = 1 := by simp [VM.effect, h18] at hE; omega
        have h1 : 1 < h := by omega
        simp [zam, hc2, h2n, h18, h1, h2K]
    rw [if_neg hc1] at hgo
    have hc2 : ¬ h < nd := by omega
    have hc2' : nd ≤ h := by omega
    by_cases hc3 : 16 < h + gv - nd
    · rw [if_pos hc3] at hgo
      rw [← hgo]
      have hc3' : 16 < h - nd + gv := by omega
      by_cases h18 : i.op = 18
      · have h1 : h = 1 := by omega
        subst h1
        simp [zam, hc2, h2n, h18, w1, w2, hc3', h2K]
      · simp [zam, hc2, h2n, h18, w1, w2, hc3', h2K]
    rw [if_neg hc3] at hgo
    have hc4 : ¬ 16 < h - nd + gv := by omega
    have e4 : h + gv - nd = h - nd + gv := by omega
    rw [e4] at hgo
    have fin : ∀ (l : List (Int × Int)) (ga' gb' : Nat) (H3 : Heap) (n3 : Nat), VM.heightsGo c.ins f (q ++ l) (out.set at_.toNat h) = VM.heights c.ins → l.length ≤ 2 → (∀ x ∈ l, 0 ≤ x.2 ∧ x.2 ≤ 16) →
        H3 ga' = some (.row 1 (zab (A ++ l.map (·.1)))) → H3 gb' = some (.row 1 (zab (B ++ l.map (·.2)))) → nx + 1 < ga' → nx + 1 < gb' → ga' ≠ gb' → ga' < n3 → gb' < n3 →
        H3 nx = H2 nx → H3 (nx + 1) = H2 (nx + 1) → Keep nx H3 H →
        ∃ m, m < f + 1 ∧ RInv c H nx m [.ptr nx 0, .slc (nx + 1) 0 c.ins.length, .slc ga' 0 (la + l.length), .slc gb' 0 (la + l.length), .int .i64 ((k + 1 : Nat) : Int)] H3 n3 := by
      intro l ga' gb' H3 n3 p1 p2 p3 p4 p5 p6 p7 p8 p9 p10 p11 p12 p13
      refine ⟨f, by omega, q ++ l, _, A ++ l.map (·.1), B ++ l.map (·.2), ga', gb', k + 1, la + l.length, rfl, by simp [hAl], by simp [hBl], p4, p5, ?_, ?_, by omega, p6, p7, p8, p9, p10, by omega, p11.trans h2b, p12.trans h2o, by simpa using hol, p13, p1, by simp; omega, fun x hx => ?_, fun x hx => ?_⟩
      · rw [List.drop_append_of_le_length (by omega), hA1]; simp
      · rw [List.drop_append_of_le_length (by omega), hB1]; simp
      · rcases List.mem_append.1 hx with hx | hx
        · exact hq' x hx
        · exact p3 x hx
      · rcases List.mem_or_eq_of_mem_set hx with h9 | h9
        · exact hout x h9
        · omega
    have hlab : la ≤ 4194000 := by omega
    have kp : ∀ H3 : Heap, (∀ z, z ≠ ga → z ≠ gb → z < n1 + 1 → H3 z = H2 z) → Keep nx H3 H := fun H3 h3 g hg => (h3 g (by omega) (by omega) (by omega)).trans (h2K g hg)
    by_cases h15 : i.op = 15
    · simp [zam, hc2, hc2', h2n, h15, w0, w1, w2, w3, hc4, -zhq]
      refine app2 h2a h2c hAl hBl g3 (by omega) (by omega) (by omega) fun H3 q1 q2 q3 => ?_
      exact fin [(i.a, h - nd + gv)] _ _ _ _ (by simpa [h15] using hgo) (by simp) (by simp; omega) (by simpa using q1) (by simpa using q2) (by omega) (by omega) (by omega) (by omega) (by omega) (q3 _ (by omega) (by omega) (by omega)) (q3 _ (by omega) (by omega) (by omega)) (kp _ q3)
    by_cases h18 : i.op = 18
    · have h1 : h = 1 := by omega
      subst h1
      simp [zam, hc2, hc2', h2n, h18, w1, w2, w3, w0, hc4, -zhq]
      have := fin [] ga gb H2 (n1 + 1) (by simpa [h15, h18] using hgo) (by simp) (by simp) (by simpa using h2a) (by simpa using h2c) (by omega) (by omega) (by omega) (by omega) (by omega) rfl rfl h2K
      exact this
    by_cases h16 : i.op = 16
    · simp [zam, hc2, hc2', h2n, h16, w0, w1, w2, w3, hc4, -zhq]
      refine app2 h2a h2c hAl hBl g3 (by omega) (by omega) (by omega) fun H3 q1 q2 q3 => ?_
      have hn3 : H3 n1 = some (.row 3 [.int .i64 16, .int .i64 i.a, .int .i64 i.b]) := by rw [q3 _ (by omega) (by omega) (by omega), h2n, h16]
      simp [hn3, -zhq]
      refine app2 q1 q2 (by simp [hAl]) (by simp [hBl]) (by omega) (by omega) (by omega) (by omega) fun H4 r1 r2 r3 => ?_
      have q4 : ∀ z, z ≠ ga → z ≠ gb → z < n1 + 1 → H4 z = H2 z := fun z z1 z2 z3 => (r3 z (by omega) (by omega) (by omega)).trans (q3 z z1 z2 z3)
      exact fin [(at_ + 1, h - nd + gv), (i.a, h - nd + gv)] _ _ _ _ (by simpa [h15, h16, h18] using hgo) (by simp) (by simp; omega) (by simpa using r1) (by simpa using r2) (by omega) (by omega) (by omega) (by omega) (by omega) (q4 _ (by omega) (by omega) (by omega)) (q4 _ (by omega) (by omega) (by omega)) (kp _ q4)
    · simp [zam, hc2, hc2', h2n, h15, h16, h18, w0, w1, w2, w3, hc4, -zhq]
      refine app2 h2a h2c hAl hBl g3 (by omega) (by omega) (by omega) fun H3 q1 q2 q3 => ?_
      have hn3 : H3 n1 = some (.row 3 [.int .i64 i.op, .int .i64 i.a, .int .i64 i.b]) := by rw [q3 _ (by omega) (by omega) (by omega), h2n]
      simp [hn3, h15, h16, -zhq]
      exact fin [(at_ + 1, h - nd + gv)] _ _ _ _ (by simpa [h15, h16, h18] using hgo) (by simp) (by simp; omega) (by simpa using q1) (by simpa using q2) (by omega) (by omega) (by omega) (by omega) (by omega) (q3 _ (by omega) (by omega) (by omega)) (q3 _ (by omega) (by omega) (by omega)) (kp _ q3)
end Go.Proofs.YtejohcohkgcmhaaDoor
namespace Go.Proofs.YtejohcohkgcmhaaDoor
open Go Go.RowKit
def lm (p : Prg) (c : Cod) (i : Ins) : Int × Int :=
  if i.op = 1 then (-1073741824, 1073741824) else if i.op = 2 then (0, p.words.length - 1) else if i.op = 3 then (0, c.vars - 1) else if i.op = 4 then (0, c.vars - 1) else if i.op = 5 then (1, 5)
  else if i.op = 15 then (0, c.ins.length - 1) else if i.op = 16 then (0, c.ins.length - 1) else if i.op = 17 then (0, p.codes.length - 1) else (0, 0)
theorem zaje (p : Prg) (c : Cod) (i : Ins) (h1 : 1 ≤ i.op) (h2 : i.op ≤ 19) : VM.numbers p c i = if i.a < (lm p c i).1 ∨ (lm p c i).2 < i.a ∨ (i.op = 17 ∧ some i.b ≠ (p.codes[i.a.toNat]?).map (·.params)) ∨ (i.op ≠ 17 ∧ i.b ≠ 0) then 3 else 0 := by
  unfold VM.numbers
  rw [if_neg (by omega)]
  have : (VM.numOk p c i = false ∨ (i.op ≠ 17 ∧ i.b ≠ 0)) ↔ (i.a < (lm p c i).1 ∨ (lm p c i).2 < i.a ∨ (i.op = 17 ∧ some i.b ≠ (p.codes[i.a.toNat]?).map (·.params)) ∨ (i.op ≠ 17 ∧ i.b ≠ 0)) := by
    unfold VM.numOk lm VM.isIn
    by_cases h17 : i.op = 17
    · simp [h17]
      by_cases hb : some i.b = (p.codes[i.a.toNat]?).map (·.params)
      · simp [hb]; omega
      · simp [hb]
    · simp only [h17, if_false]
      (repeat' split) <;> simp_all <;> omega
  by_cases hq : VM.numOk p c i = false ∨ (i.op ≠ 17 ∧ i.b ≠ 0)
  · rw [if_pos hq, if_pos (this.1 hq)]
  · rw [if_neg hq, if_neg (fun h => hq (this.2 h))]
set_option maxHeartbeats 4000000 in
theorem zahk (p : Prg) (hp : p.ok) : QC Tryd.prog 53 [.agg p.avs] (.int .i64 (VM.program p)) := by
  refine QC.of' fun H nx => zrb _ H nx _ ?_
  simp [zfn, Prg.avs]
  have hb0 : (H.put nx (some (.row 2 [.ro (p.codes.map Cod.avs), .ro (p.words.map fun w => [.str w])]))) nx = some (.row 2 p.avs) := by simp [Prg.avs]
  have hK0 : Keep nx (H.put nx (some (.row 2 [.ro (p.codes.map Cod.avs), .ro (p.words.map fun w => [.str w])]))) H := by simp
  generalize (H.put nx (some (.row 2 [.ro (p.codes.map Cod.avs), .ro (p.words.map fun w => [.str w])]))) = H1 at *
  refine ⟨fun h1 => by unfold VM.program; rw [if_pos (by rw [h1]; simp)], fun h1 => ?_⟩
  have hpos : 0 < p.codes.length := List.length_pos_iff.2 h1
  refine ⟨fun h2 => by unfold VM.program; rw [if_pos (by omega)], fun h2 => ⟨fun h3 => by unfold VM.program; rw [if_neg (by omega), if_pos (by omega)], fun h3 => ?_⟩⟩
  have e0 : VM.program p = if p.words.all VM.word = false then 7 else if (p.codes.getD 0 ⟨0, 0, []⟩).params ≠ 0 then 10 else if p.codes.any VM.codeRange then 3 else VM.firstErr (VM.codeErr p) p.codes := by
    unfold VM.program; rw [if_neg (by omega), if_neg (by omega)]
  obtain ⟨c0, hc0⟩ : ∃ c0, p.codes[0]? = some c0 := ⟨p.codes[0]'(by omega), List.getElem?_eq_getElem _⟩
  refine LP.mk (fun m xs H' nx' => ∃ i : Nat, i ≤ p.words.length ∧ m = p.words.length - i ∧ xs = [.ptr nx 0, .ro (p.words.map fun w => [.str w]), .int .i64 p.words.length, .int .i64 i] ∧ H1 = H' ∧ nx + 1 = nx' ∧ p.words.all VM.word = (p.words.drop i).all VM.word) p.words.length
    ⟨0, by omega, by omega, by simp, rfl, rfl, rfl⟩ ?_
  rintro m xs H' nx' ⟨i, hi, rfl, rfl, rfl, rfl, hall⟩
  by_cases hlt : i < p.words.length
  · obtain ⟨w, hw⟩ : ∃ w, p.words[i]? = some w := ⟨_, List.getElem?_eq_getElem hlt⟩
    obtain ⟨_, hw'⟩ := List.getElem?_eq_some_iff.1 hw
    rw [zaop _ _ _ _ hw] at hall
    simp [zfo, hlt, hw']
    refine QC.call (zamf w (hp w (List.mem_of_getElem? hw))) ?_
    simp [zle]
    cases hx : VM.word w
    · rw [hx] at hall
      simp [hK0]
      rw [e0, hall]; rfl
    · rw [hx] at hall
      simp
      rw [i64w (by omega)]
      exact ⟨p.words.length - (i + 1), by omega, i + 1, by omega, rfl, rfl, by simpa using hall⟩
  obtain rfl : i = p.words.length := by omega
  have hall' : p.words.all VM.word = true := by rw [hall]; simp
  rw [hall'] at e0
  simp only [Bool.true_eq_false, if_false] at e0
  obtain ⟨_, hc0'⟩ := List.getElem?_eq_some_iff.1 hc0
  have h01 : 0 < p.codes.length := by omega
  simp [zfo, hb0, Prg.avs, hc0', Cod.avs, h01]
  have hcg : p.codes.getD 0 ⟨0, 0, []⟩ = c0 := by simp [List.getD_eq_getElem?_getD, hc0]
  rw [hcg] at e0
  refine ⟨fun h4 => ⟨by rw [e0, if_pos h4], hK0⟩, fun h4 => ?_⟩
  rw [if_neg (by simpa using h4)] at e0
  refine LP.mk (fun m xs H' nx' => ∃ i : Nat, i ≤ p.codes.length ∧ m = p.codes.length - i ∧ xs = [.ptr nx 0, .ro (p.codes.map Cod.avs), .int .i64 p.codes.length, .int .i64 i] ∧ H' nx = some (.row 2 p.avs) ∧ Keep nx H' H ∧ nx < nx' ∧ p.codes.any VM.codeRange = (p.codes.drop i).any VM.codeRange) p.codes.length
    ⟨0, by omega, by omega, by simp, hb0, hK0, by omega, rfl⟩ ?_
  rintro m xs H2 n2 ⟨i, hi, rfl, rfl, hb2, hK2, hn2, hany⟩
  have hne2 : nx ≠ n2 := by omega
  by_cases hlt : i < p.codes.length
  · obtain ⟨c, hc⟩ : ∃ c, p.codes[i]? = some c := ⟨_, List.getElem?_eq_getElem hlt⟩
    obtain ⟨_, hc'⟩ := List.getElem?_eq_some_iff.1 hc
    rw [zaoo _ _ _ _ hc] at hany
    have hK3 : Keep nx (H2.put n2 (some (.row 3 [.int .i64 c.params, .int .i64 c.vars, .ro (c.ins.map Ins.avs)]))) H := by rw [Keep.put (by omega)]; exact hK2
    simp [zfp, hlt, hc', Cod.avs, hK3]
    have w0 : IntKind.i64.wrap ((i : Int) + 1) = (i : Int) + 1 := i64w (by omega)
    rw [w0]
    cases hx : VM.codeRange c
    · have hx' := hx
      unfold VM.codeRange at hx'
      rw [decide_eq_false_iff_not] at hx'
      rw [hx] at hany
      refine ⟨fun _ => by omega, fun _ => ⟨fun _ => by omega, fun _ => ⟨fun _ => by omega, fun _ => ⟨fun _ => by omega, fun _ => ⟨fun he => ?_, fun _ => ⟨fun _ => by omega, fun _ => ?_⟩⟩⟩⟩⟩⟩
      · exfalso; rw [he] at hx'; simp at hx'
      · exact ⟨p.codes.length - (i + 1), by omega, i + 1, by omega, rfl, rfl, by rw [if_neg hne2, if_neg hne2]; exact hb2, by omega, by simpa using hany⟩
    · have hx' := hx
      unfold VM.codeRange at hx'
      rw [decide_eq_true_eq] at hx'
      rw [hx, Bool.true_or] at hany
      rw [hany] at e0
      simp only [if_true] at e0
      rw [e0]
      simp only [← List.length_eq_zero_iff]
      repeat' first | apply And.intro | intro _
      all_goals first | rfl | trivial | (exfalso; omega)
  obtain rfl : i = p.codes.length := by omega
  have hany' : p.codes.any VM.codeRange = false := by rw [hany]; simp
  rw [hany'] at e0
  simp only [Bool.false_eq_true, if_false] at e0
  simp [zfp, hb2, Prg.avs]
  have hr : ∀ x ∈ p.codes, VM.codeRange x = false := by simpa using hany'
  clear hany hany' hall hall' hlt hi
  refine LP.mk (fun m xs H' nx' => ∃ i : Nat, i ≤ p.codes.length ∧ m = p.codes.length - i ∧ xs = [.ptr nx 0, .ro (p.codes.map Cod.avs), .int .i64 p.codes.length, .int .i64 i] ∧ H' nx = some (.row 2 p.avs) ∧ Keep nx H' H ∧ nx < nx' ∧ VM.program p = VM.firstErr (VM.codeErr p) (p.codes.drop i)) p.codes.length
    ⟨0, by omega, by omega, by simp, hb2, hK2, by omega, by simpa using e0⟩ ?_
  clear hb2 hK2 hn2 hne2
  clear H2 n2
  rintro m xs H2 n2 ⟨k, hk, rfl, rfl, hb2, hK2, hn2, hfe⟩
  by_cases hlt : k < p.codes.length
  case neg =>
    obtain rfl : k = p.codes.length := by omega
    simp [zfq, hK2]
    rw [hfe]; simp [VM.firstErr]
  obtain ⟨c, hc⟩ : ∃ c, p.codes[k]? = some c := ⟨_, List.getElem?_eq_getElem hlt⟩
  obtain ⟨_, hc'⟩ := List.getElem?_eq_some_iff.1 hc
  have hcr := hr c (List.mem_of_getElem? hc)
  have hlen : c.ins.length ≤ 200 := by
    unfold VM.codeRange at hcr
    rw [decide_eq_false_iff_not] at hcr
    omega
  have hvars : 0 ≤ c.vars ∧ c.vars ≤ 8 := by
    unfold VM.codeRange at hcr
    rw [decide_eq_false_iff_not] at hcr
    omega
  rw [zem _ _ _ _ hc] at hfe
  have hne2 : nx ≠ n2 := by omega
  simp [zfq, hb2, Prg.avs, hlt, hc', Cod.avs]
  refine LP.mk (fun m xs H' nx' => ∃ j : Nat, j ≤ c.ins.length ∧ m = c.ins.length - j ∧ xs = [.ptr nx 0, .ptr n2 0, .ro (p.codes.map Cod.avs), .int .i64 p.codes.length, .int .i64 k, .ro (c.ins.map Ins.avs), .int .i64 c.ins.length, .int .i64 j] ∧ H' nx = some (.row 2 p.avs) ∧ H' n2 = some (.row 3 c.avs) ∧ Keep nx H' H ∧ n2 < nx' ∧ VM.firstErr (VM.numbers p c) c.ins = VM.firstErr (VM.numbers p c) (c.ins.drop j)) c.ins.length
    ⟨0, by omega, by omega, by simp, by rw [Heap.put_ne _ _ hne2]; exact hb2, by rw [Heap.put_at]; rfl, by rw [Keep.put (by omega)]; exact hK2, by omega, by simp⟩ ?_
  rintro m xs H3 n3 ⟨j, hj, rfl, rfl, hb3, hc3, hK3, hn3, hfj⟩
  have hne : nx ≠ n3 := by omega
  have hne' : n2 ≠ n3 := by omega
  by_cases hjl : j < c.ins.length
  · obtain ⟨i, hi⟩ : ∃ i, c.ins[j]? = some i := ⟨_, List.getElem?_eq_getElem hjl⟩
    obtain ⟨_, hi'⟩ := List.getElem?_eq_some_iff.1 hi
    rw [zem _ _ _ _ hi] at hfj
    have hK4 : Keep nx (H3.put n3 (some (.row 3 [.int .i64 i.op, .int .i64 i.a, .int .i64 i.b]))) H := by rw [Keep.put (by omega)]; exact hK3
    have hb4 : (H3.put n3 (some (.row 3 [.int .i64 i.op, .int .i64 i.a, .int .i64 i.b]))) nx = some (.row 2 p.avs) := by rw [Heap.put_ne _ _ hne]; exact hb3
    have hc4 : (H3.put n3 (some (.row 3 [.int .i64 i.op, .int .i64 i.a, .int .i64 i.b]))) n2 = some (.row 3 c.avs) := by rw [Heap.put_ne _ _ hne']; exact hc3
    have hi4 : (H3.put n3 (some (.row 3 [.int .i64 i.op, .int .i64 i.a, .int .i64 i.b]))) n3 = some (.row 3 [.int .i64 i.op, .int .i64 i.a, .int .i64 i.b]) := by rw [Heap.put_at]
    simp [zfr, hjl, hi', Ins.avs]
    generalize (H3.put n3 (some (.row 3 [.int .i64 i.op, .int .i64 i.a, .int .i64 i.b]))) = H4 at *
    have hbad : VM.numbers p c i ≠ 0 → VM.program p = VM.numbers p c i := by
      intro hz
      rw [if_pos hz] at hfj
      have : VM.codeErr p c = VM.numbers p c i := by unfold VM.codeErr; rw [hfj, if_pos hz]
      rw [hfe, this, if_pos hz]
    refine ⟨fun ho => ?_, fun ho1 => ⟨fun ho => ?_, fun ho2 => ?_⟩⟩
    · have e : VM.numbers p c i = 1 := by unfold VM.numbers; rw [if_pos (by omega)]
      exact ⟨by rw [hbad (by omega), e], hK4⟩
    · have e : VM.numbers p c i = 1 := by unfold VM.numbers; rw [if_pos (by omega)]
      exact ⟨by rw [hbad (by omega), e], hK4⟩
    refine JN.cut (fun xs H' nx' => xs = [.ptr nx 0, .ptr n2 0, .ptr n3 0, .int .i64 (lm p c i).1, .int .i64 (lm p c i).2, .ro (p.codes.map Cod.avs), .int .i64 p.codes.length, .int .i64 k, .ro (c.ins.map Ins.avs), .int .i64 c.ins.length, .int .i64 j] ∧ H4 = H' ∧ n3 + 1 = nx') ?_ ?_
    · rintro xs H' nx' ⟨rfl, rfl, rfl⟩
      have hnl := zaje p c i ho1 ho2
      have hgo : VM.numbers p c i = 0 → ∃ m, m < c.ins.length - j ∧ ∃ j', j' ≤ c.ins.length ∧ m = c.ins.length - j' ∧ (j : Int) + 1 = j' ∧ H4 nx = some (.row 2 p.avs) ∧ H4 n2 = some (.row 3 c.avs) ∧ Keep nx H4 H ∧ n2 < n3 + 1 ∧ VM.firstErr (VM.numbers p c) c.ins = VM.firstErr (VM.numbers p c) (List.drop j' c.ins) := by
        intro hz
        rw [if_neg (by simpa using hz)] at hfj
        exact ⟨c.ins.length - (j + 1), by omega, j + 1, by omega, rfl, rfl, hb4, hc4, hK4, by omega, hfj⟩
      have w0 : IntKind.i64.wrap ((j : Int) + 1) = (j : Int) + 1 := i64w (by omega)
      have hbad3 : VM.numbers p c i = 3 → VM.program p = 3 := fun hz => by rw [hbad (by omega), hz]
      by_cases h17 : i.op = 17
      · have hl1 : (lm p c i).1 = 0 := by simp [lm, h17]
        have hl2 : (lm p c i).2 = (p.codes.length : Int) - 1 := by simp [lm, h17]
        simp [zfs, hi4, hb4, Prg.avs, w0, h17]
        rw [hl1, hl2] at hnl ⊢
        refine ⟨fun ha => ⟨hbad3 (by rw [hnl, if_pos (.inl ha)]), hK4⟩, fun ha => ⟨fun hb => ⟨hbad3 (by rw [hnl, if_pos (.inr (.inl hb))]), hK4⟩, fun hb => ⟨ha, by omega, zapv (by omega) fun x hx => ?_⟩⟩⟩
        simp [Cod.avs]
        refine ⟨fun hp' => ⟨hbad3 (by rw [hnl, if_pos (.inr (.inr (.inl ⟨h17, by rw [hx]; simpa using hp'⟩)))]), hK4⟩, fun hp' => ?_⟩
        have hz : VM.numbers p c i = 0 := by rw [hnl, if_neg (by rw [hx]; simp [hp', h17]; omega)]
        have := hgo hz
        simpa [hb4, Prg.avs, Cod.avs] using this
      · simp [zfs, hi4, hb4, Prg.avs, w0, h17]
        refine ⟨fun ha => ⟨hbad3 (by rw [hnl, if_pos (.inl ha)]), hK4⟩, fun ha => ⟨fun hb => ⟨hbad3 (by rw [hnl, if_pos (.inr (.inl hb))]), hK4⟩, fun hb => ⟨fun hp' => ⟨hbad3 (by rw [hnl, if_pos (.inr (.inr (.inr ⟨h17, hp'⟩)))]), hK4⟩, fun hp' => ?_⟩⟩⟩
        have hz : VM.numbers p c i = 0 := by rw [hnl, if_neg (by simp [hp', h17]; omega)]
        have := hgo hz
        simpa [hb4, Prg.avs] using this
    · have q1 : IntKind.i64.wrap ((p.words.length : Int) - 1) = (p.words.length : Int) - 1 := i64w (by omega)
      have q2 : IntKind.i64.wrap (c.vars - 1) = c.vars - 1 := i64w (by omega)
      have q3 : IntKind.i64.wrap ((c.ins.length : Int) - 1) = (c.ins.length : Int) - 1 := i64w (by omega)
      have q4 : IntKind.i64.wrap ((p.codes.length : Int) - 1) = (p.codes.length : Int) - 1 := i64w (by omega)
      simp [zlf, hb4, hc4, Prg.avs, Cod.avs, q1, q2, q3, q4]
      repeat' first | apply And.intro | intro _
      all_goals simp [lm, *]
  obtain rfl : j = c.ins.length := by omega
  have hz : VM.firstErr (VM.numbers p c) c.ins = 0 := by rw [hfj]; simp [VM.firstErr]
  have hce : VM.codeErr p c = (VM.heights c.ins).2 := by unfold VM.codeErr; rw [if_neg (by simpa using hz)]
  rw [hce] at hfe
  simp [zfr, hb3, hc3, Prg.avs, hlt, hc', Cod.avs]
  refine QC.call (zxz c (by omega) (zain hr (zbt hz))) ?_
  simp [zld]
  refine ⟨fun h0 => ⟨?_, hK3⟩, fun h0 => ?_⟩
  · rw [if_pos h0] at hfe; exact hfe
  · rw [if_neg (by simpa using h0)] at hfe
    rw [i64w (by omega)]
    exact ⟨p.codes.length - (k + 1), by omega, k + 1, by omega, rfl, rfl, hb3, hK3, by omega, hfe⟩
end Go.Proofs.YtejohcohkgcmhaaDoor
namespace Go.Proofs.YtejohcohkgcmhaaDoor
open Go Go.RowKit
def fl (l : List Val) : List AV := (l.map Val.avs).flatten
theorem zail (v : Val) (l : List Val) : fl (v :: l) = v.avs ++ fl l := rfl
theorem zalb (l m : List Val) : fl (l ++ m) = fl l ++ fl m := by simp [fl]
theorem zagg (l : List Val) : (fl l).length = l.length * 3 := by
  induction l with
  | nil => rfl
  | cons v r ih => rw [zail, List.length_append, ih, zair, List.length_cons]; omega
theorem zala (l : List Val) : ∀ x ∈ fl l, x.one = true := by
  intro x hx
  simp [fl] at hx
  obtain ⟨_, ⟨v, _, rfl⟩, h⟩ := hx
  unfold Val.avs at h
  simp at h
  rcases h with rfl | rfl | rfl <;> rfl
theorem zasq (l : List Val) (j : Nat) (v : Val) (h : l[j]? = some v) : ((fl l).drop (j * 3)).take 3 = v.avs := by
  induction l generalizing j with
  | nil => simp at h
  | cons w r ih =>
    cases j with
    | zero => simp at h; subst h; rfl
    | succ j =>
      rw [zail, List.drop_append, List.drop_of_length_le (by simp; omega), zair, show (j + 1) * 3 - 3 = j * 3 by omega, List.nil_append]
      exact ih j (by simpa using h)
set_option maxHeartbeats 4000000 in
theorem zyb (a : Agt) (k : Nat) (f : Frm) (hv : Int) (away : Bool) (r1 r2 : AV) (H H0 : Heap) (nx n0 g b0 : Nat) (K : J3) (R : Int) (hg : H g = some (.row 9 a.avs)) (hgn : g < nx) (hb : H b0 = some (.row 4 f.avs)) (hbn : b0 < nx) (hn0 : n0 ≤ nx) (hK : Keep n0 H H0) (hvl : f.vars.length ≤ 8) (hb16 : hv ≤ 16) (hk12 : k ≤ 12)
    (hbad : zda a f.vars f.stack hv ≠ 0 → R = zda a f.vars f.stack hv)
    (hgo : zda a f.vars f.stack hv = 0 → ∀ H' nx', H' g = some (.row 9 a.avs) → Keep n0 H' H0 → nx ≤ nx' → K [.bool away, .ptr g 0, r1, r2, .int .i64 (k + 1)] H' nx') :
    zbm (fun v H' _ => Frz H' n0 v (.int .i64 R) ∧ Keep n0 H' H0) K [.bool away, .ptr g 0, .ptr b0 0, .int .i64 hv, r1, r2, .int .i64 k] H nx := by
  by_cases h1 : hv < 0 ∨ (f.stack.length : Int) ≠ hv
  · have e : zda a f.vars f.stack hv = 10 := by unfold zda; rw [if_pos h1]
    have hR := hbad (by omega)
    rw [hR, e]
    by_cases h2 : hv < 0
    · simp [zbm, h2, hK]
    · have h3 : ¬ hv = (f.stack.length : Int) := by omega
      simp [zbm, h2, h3, hK, hb, Frm.avs]
  have e : zda a f.vars f.stack hv = VM.firstErr (fun v => VM.wrong v a.heap.length) (f.vars ++ f.stack) := by unfold zda; rw [if_neg h1]
  rw [e] at hbad hgo
  have h2 : ¬ hv < 0 := by omega
  have h3 : hv = (f.stack.length : Int) := by omega
  have n1' : b0 ≠ nx := by omega
  have n2' : b0 ≠ nx + 1 := by omega
  have hs1 : ∀ H : Heap, zm 3 H (.ro (f.vars.map Val.avs)) = some (f.vars.length, fl f.vars, []) := fun H => by rw [zcn (by simp)]; simp [fl]
  have hs2 : ∀ H : Heap, zm 3 H (.ro (f.stack.map Val.avs)) = some (f.stack.length, fl f.stack, []) := fun H => by rw [zcn (by simp)]; simp [fl]
  simp [zbm, h2, h3, hb, Frm.avs, n1', n2', -zcn, hs1, hs2]
  have htk : List.take (f.vars.length * 3) (fl f.vars) = fl f.vars := List.take_of_length_le (by rw [zagg]; omega)
  rw [htk, ← zalb]
  refine ⟨fun h => by omega, zala _, by omega, zala _, by rw [zagg]; omega, by omega, by omega, by omega, ?_⟩
  have hll : (f.vars ++ f.stack).length = f.vars.length + f.stack.length := by simp
  generalize f.vars ++ f.stack = l at *
  refine LP.mk (fun m xs H' nx' => ∃ (j : Nat), j ≤ l.length ∧ m = l.length - j ∧ xs = [.bool away, .ptr g 0, r1, r2, .int .i64 k, .slc (nx + 1 + 1) 0 l.length, .int .i64 l.length, .int .i64 j] ∧ H' (nx + 1 + 1) = some (.row 3 (fl l)) ∧ H' g = some (.row 9 a.avs) ∧ Keep n0 H' H0 ∧ nx + 2 < nx' ∧
    VM.firstErr (fun v => VM.wrong v a.heap.length) l = VM.firstErr (fun v => VM.wrong v a.heap.length) (l.drop j)) l.length
    ⟨0, by omega, by omega, by simp [hll], by simp, ?_, ?_, by omega, rfl⟩ ?_
  · rw [Heap.put_ne _ _ (by omega), Heap.put_ne _ _ (by omega), Heap.put_ne _ _ (by omega)]; exact hg
  · rw [Keep.put (by omega), Keep.put (by omega), Keep.put (by omega)]; exact hK
  rintro m xs H2 n2 ⟨j, hj, rfl, rfl, hb2, hg2, hK2, hn2, hfj⟩
  by_cases hjl : j < l.length
  · obtain ⟨v, hv'⟩ : ∃ v, l[j]? = some v := ⟨_, List.getElem?_eq_getElem hjl⟩
    have m1 : g ≠ n2 := by omega
    have m2 : nx + 1 + 1 ≠ n2 := by omega
    have hfa := zasq l j v hv'
    have hlen3 : j * 3 + 3 ≤ (fl l).length := by rw [zagg]; omega
    simp only [Val.avs] at hfa
    simp [zhw, hjl, hb2, hfa, hg2, m1, Agt.avs, hlen3]
    refine QC.call (zpd v _) ?_
    simp [zop]
    rw [zem _ _ _ _ hv'] at hfj
    have hK3 : Keep n0 (H2.put n2 (some (.row 3 [.int .i64 v.kind, .int .i64 v.n, .str v.text]))) H0 := by rw [Keep.put (by omega)]; exact hK2
    refine ⟨fun hz => ⟨?_, hK3⟩, fun hz => ?_⟩
    · rw [if_pos hz] at hfj
      rw [hbad (by rw [hfj]; exact hz), hfj]
    · rw [if_neg (by simpa using hz)] at hfj
      rw [i64w (by omega)]
      exact ⟨l.length - (j + 1), by omega, j + 1, by omega, rfl, rfl, by rw [if_neg m2]; exact hb2, by rw [if_neg m1]; exact hg2, hK3, by omega, hfj⟩
  obtain rfl : j = l.length := by omega
  have hz : VM.firstErr (fun v => VM.wrong v a.heap.length) l = 0 := by rw [hfj]; simp [VM.firstErr]
  simp [zhw]
  rw [i64w (by omega)]
  exact hgo hz _ _ hg2 hK2 (by omega)
end Go.Proofs.YtejohcohkgcmhaaDoor
namespace Go.Proofs.YtejohcohkgcmhaaDoor
open Go Go.RowKit
set_option maxHeartbeats 4000000 in
theorem zahr (a : Agt) (k : Nat) (away : Bool) (H H0 : Heap) (nx n0 g : Nat) (K : J3) (R : Int) (hg : H g = some (.row 9 a.avs)) (hgn : g < nx) (hn0 : n0 ≤ nx) (hK : Keep n0 H H0) (hk : k < a.frames.length) (hl : a.frames.length ≤ 12) (hp : VM.program a.prog = 0)
    (hbad : VM.frame a k away ≠ 0 → R = VM.frame a k away)
    (hgo : VM.frame a k away = 0 → ∀ H' nx', H' g = some (.row 9 a.avs) → Keep n0 H' H0 → nx ≤ nx' → K [.bool away, .ptr g 0, .ro (a.frames.map Frm.avs), .int .i64 a.frames.length, .int .i64 (k + 1)] H' nx') :
    zau (fun v H' _ => Frz H' n0 v (.int .i64 R) ∧ Keep n0 H' H0) K [.bool away, .ptr g 0, .ro (a.frames.map Frm.avs), .int .i64 a.frames.length, .int .i64 k] H nx := by
  obtain ⟨f, hf⟩ : ∃ f, a.frames[k]? = some f := ⟨_, List.getElem?_eq_getElem hk⟩
  obtain ⟨_, hf'⟩ := List.getElem?_eq_some_iff.1 hf
  obtain ⟨fn, at_, vs, st⟩ := f
  have hgx : g ≠ nx := by omega
  have hgx1 : g ≠ nx + 1 := by omega
  have hKf : ∀ o, Keep n0 (H.put nx o) H0 := fun o => by rw [Keep.put (by omega)]; exact hK
  have hKf2 : ∀ o o', Keep n0 ((H.put nx o).put (nx + 1) o') H0 := fun o o' => by rw [Keep.put (by omega), Keep.put (by omega)]; exact hK
  by_cases h1 : 0 ≤ fn ∧ fn < a.prog.codes.length
  case neg =>
    have e : VM.frame a k away = 3 := by
      unfold VM.frame
      rw [hf]
      have : (if 0 ≤ fn then a.prog.codes[fn.toNat]? else none) = none := by
        split
        · exact List.getElem?_eq_none (by omega)
        · rfl
      simp only [this]
    have hR := hbad (by omega)
    rw [hR, e]
    by_cases h0 : fn < 0
    · simp [zau, hg, Agt.avs, hk, hf', Frm.avs, h0, hKf]
    · have : (a.prog.codes.length : Int) ≤ fn := by omega
      simp [zau, hg, Agt.avs, hk, hf', Frm.avs, h0, this, hKf, hgx]
  obtain ⟨h10, h11⟩ := h1
  obtain ⟨n, rfl⟩ : ∃ n : Nat, fn = n := ⟨fn.toNat, by omega⟩
  have hnl : n < a.prog.codes.length := by omega
  obtain ⟨c, hc⟩ : ∃ c, a.prog.codes[n]? = some c := ⟨_, List.getElem?_eq_getElem hnl⟩
  obtain ⟨_, hc'⟩ := List.getElem?_eq_some_iff.1 hc
  obtain ⟨hcr, hcalm, hch⟩ := (zz hp).1 c (List.mem_of_getElem? hc)
  have hcr' : ¬ (c.params < 0 ∨ 4 < c.params ∨ c.vars < c.params ∨ 8 < c.vars ∨ c.ins.length < 1 ∨ 200 < c.ins.length) := by
    unfold VM.codeRange at hcr
    rwa [decide_eq_false_iff_not] at hcr
  have hnn : ¬ (a.prog.codes.length ≤ n) := by omega
  have hn0' : ¬ ((n : Int) < 0) := by omega
  by_cases h2 : (0 ≤ at_ ∧ at_ < c.ins.length) ∧ (vs.length : Int) = c.vars
  case neg =>
    have e : VM.frame a k away = 3 := by
      unfold VM.frame
      rw [hf]
      simp only [Int.toNat_natCast]
      rw [if_pos (by omega), hc]
      simp only
      by_cases hat : 0 ≤ at_ ∧ at_ < c.ins.length
      · rw [if_pos hat.1, List.getElem?_eq_getElem (by omega)]
        simp only
        rw [if_pos (by omega)]
      · have : (if 0 ≤ at_ then c.ins[at_.toNat]? else none) = none := by
          split
          · exact List.getElem?_eq_none (by omega)
          · rfl
        simp only [this]
    have hR := hbad (by omega)
    rw [hR, e]
    by_cases h0 : at_ < 0
    · simp [zau, hg, Agt.avs, hk, hf', Frm.avs, hn0', hnn, hnl, hc', h0, Cod.avs, hKf, hKf2, hgx, hgx1]
    · by_cases h3 : (c.ins.length : Int) ≤ at_
      · simp [zau, hg, Agt.avs, hk, hf', Frm.avs, hn0', hnn, hnl, hc', h0, h3, Cod.avs, hKf, hKf2, hgx, hgx1]
      · have h4 : ¬ (vs.length : Int) = c.vars := by omega
        simp [zau, hg, Agt.avs, hk, hf', Frm.avs, hn0', hnn, hnl, hc', h0, h3, h4, Cod.avs, hKf, hKf2, hgx, hgx1]
  obtain ⟨⟨h20, h21⟩, h22⟩ := h2
  obtain ⟨m, rfl⟩ : ∃ m : Nat, at_ = m := ⟨at_.toNat, by omega⟩
  have hml : m < c.ins.length := by omega
  have hm0' : ¬ ((m : Int) < 0) := by omega
  obtain ⟨hhl, hhb⟩ := zde hcalm hch
  obtain ⟨h, hh⟩ : ∃ h, (VM.heights c.ins).1[m]? = some h := ⟨_, List.getElem?_eq_getElem (by omega)⟩
  obtain ⟨hm1, hh'⟩ := List.getElem?_eq_some_iff.1 hh
  have hhb' := hhb h (List.mem_of_getElem? hh)
  have hfe := zank (away := away) hf hc hml h22 rfl hh
  have hnm : ¬ (c.ins.length ≤ m) := by omega
  simp [zau, hg, Agt.avs, hk, hf', Frm.avs, hn0', hnn, hnl, hc', h22, Cod.avs, hm0', hml, hnm, hgx, hgx1]
  refine QC.call (zxz c (by omega) hcalm) ?_
  have hg2 : ((H.put nx (some (.row 4 [.int .i64 n, .int .i64 m, .ro (vs.map Val.avs), .ro (st.map Val.avs)]))).put (nx + 1) (some (.row 3 [.int .i64 c.params, .int .i64 c.vars, .ro (c.ins.map Ins.avs)]))) g = some (.row 9 a.avs) := by rw [Heap.put_ne _ _ hgx1, Heap.put_ne _ _ hgx]; exact hg
  have hf2 : ((H.put nx (some (.row 4 [.int .i64 n, .int .i64 m, .ro (vs.map Val.avs), .ro (st.map Val.avs)]))).put (nx + 1) (some (.row 3 [.int .i64 c.params, .int .i64 c.vars, .ro (c.ins.map Ins.avs)]))) nx = some (.row 4 [.int .i64 n, .int .i64 m, .ro (vs.map Val.avs), .ro (st.map Val.avs)]) := by rw [Heap.put_ne _ _ (by omega), Heap.put_at]
  have hc2 : ((H.put nx (some (.row 4 [.int .i64 n, .int .i64 m, .ro (vs.map Val.avs), .ro (st.map Val.avs)]))).put (nx + 1) (some (.row 3 [.int .i64 c.params, .int .i64 c.vars, .ro (c.ins.map Ins.avs)]))) (nx + 1) = some (.row 3 [.int .i64 c.params, .int .i64 c.vars, .ro (c.ins.map Ins.avs)]) := Heap.put_at _ _ _
  have hK2 := hKf2 (some (.row 4 [.int .i64 n, .int .i64 m, .ro (vs.map Val.avs), .ro (st.map Val.avs)])) (some (.row 3 [.int .i64 c.params, .int .i64 c.vars, .ro (c.ins.map Ins.avs)]))
  generalize ((H.put nx (some (.row 4 [.int .i64 n, .int .i64 m, .ro (vs.map Val.avs), .ro (st.map Val.avs)]))).put (nx + 1) (some (.row 3 [.int .i64 c.params, .int .i64 c.vars, .ro (c.ins.map Ins.avs)]))) = H1 at *
  have w1 : IntKind.i64.wrap ((a.frames.length : Int) - 1) = (a.frames.length : Int) - 1 := i64w (by omega)
  have hvl : vs.length ≤ 8 := by omega
  simp [zoo, hf2, hm1, hh', hg2, Agt.avs, w1]
  refine JN.same ?_
  simp [zoq]
  refine JN.same ?_
  have key : zce (fun v H' _ => Frz H' n0 v (.int .i64 R) ∧ Keep n0 H' H0) (zbm (fun v H' _ => Frz H' n0 v (.int .i64 R) ∧ Keep n0 H' H0) K)
      [.bool away, .ptr g 0, .int .i64 k, .ptr nx 0, .ptr (nx + 1) 0, .ro ((VM.heights c.ins).1.map fun n => [.int .i64 n]), .int .i64 h, .bool (decide (k + 1 = a.frames.length)), .ro (a.frames.map Frm.avs), .int .i64 a.frames.length, .int .i64 k, .bool (!decide (k + 1 = a.frames.length) || away)] H1 (nx + 2) := by
    cases hw : (!decide (k + 1 = a.frames.length) || away)
    · rw [hw] at hfe
      simp only [Bool.false_and, Bool.false_eq_true, if_false] at hfe
      rw [hfe] at hbad hgo
      simp [zce]
      exact zyb a k ⟨n, m, vs, st⟩ h away _ _ H1 H0 (nx + 2) n0 g nx K R hg2 (by omega) hf2 (by omega) (by omega) hK2 hvl hhb'.2 (by omega) hbad fun h0 H' nx' q1 q2 q3 => hgo h0 H' nx' q1 q2 (by omega)
    rw [hw] at hfe
    simp only [Bool.true_and, if_true] at hfe
    cases m with
    | zero =>
      have e10 : VM.frame a k away = 10 := by rw [hfe]; simp
      have hR := hbad (by omega)
      rw [hR, e10]
      have w2 : IntKind.i64.wrap (h - 1) = h - 1 := i64w (by omega)
      simp [zce, hf2, hK2]
    | succ m =>
    have h00 : ¬ ((m : Int) + 1 = 0) := by omega
    have w2 : IntKind.i64.wrap (h - 1) = h - 1 := i64w (by omega)
    have w3 : IntKind.i64.wrap (m : Int) = m := i64w (by omega)
    have hml' : m < c.ins.length := by omega
    obtain ⟨i, hi⟩ : ∃ i, c.ins[m]? = some i := ⟨_, List.getElem?_eq_getElem hml'⟩
    obtain ⟨_, hi'⟩ := List.getElem?_eq_some_iff.1 hi
    obtain ⟨q, hq⟩ : ∃ q, (VM.heights c.ins).1[m]? = some q := ⟨_, List.getElem?_eq_getElem (by omega)⟩
    obtain ⟨hqm, hq'⟩ := List.getElem?_eq_some_iff.1 hq
    have z1 : nx ≠ nx + 2 := by omega
    have z2 : nx + 1 ≠ nx + 2 := by omega
    have z3 : g ≠ nx + 2 := by omega
    have hg3 : (H1.put (nx + 2) (some (.row 3 [.int .i64 i.op, .int .i64 i.a, .int .i64 i.b]))) g = some (.row 9 a.avs) := by rw [Heap.put_ne _ _ z3]; exact hg2
    have hf3 : (H1.put (nx + 2) (some (.row 3 [.int .i64 i.op, .int .i64 i.a, .int .i64 i.b]))) nx = some (.row 4 [.int .i64 n, .int .i64 ((m + 1 : Nat) : Int), .ro (vs.map Val.avs), .ro (st.map Val.avs)]) := by rw [Heap.put_ne _ _ z1]; exact hf2
    have hi3 : (H1.put (nx + 2) (some (.row 3 [.int .i64 i.op, .int .i64 i.a, .int .i64 i.b]))) (nx + 2) = some (.row 3 [.int .i64 i.op, .int .i64 i.a, .int .i64 i.b]) := Heap.put_at _ _ _
    have hK3 : Keep n0 (H1.put (nx + 2) (some (.row 3 [.int .i64 i.op, .int .i64 i.a, .int .i64 i.b]))) H0 := by rw [Keep.put (by omega)]; exact hK2
    have hbp : zqz a k c (VM.heights c.ins).1 (m + 1) = ((!decide (k + 1 = a.frames.length) && (decide (i.op ≠ 17) || decide (i.a ≠ ((a.frames[k + 1]?).map (·.fn)).getD 0))) || (decide (k + 1 = a.frames.length) && decide (i.op ≠ 13)) || decide (q < 0)) := by
      unfold zqz
      simp only [Nat.add_sub_cancel, List.getD_eq_getElem?_getD, hi, hq, Option.getD_some]
    have hbadv : zqz a k c (VM.heights c.ins).1 (m + 1) = true → R = 10 := fun hb => by
      have : VM.frame a k away = 10 := by rw [hfe, if_pos (by simp [hb])]
      rw [hbad (by omega), this]
    have hfin : zqz a k c (VM.heights c.ins).1 (m + 1) = false → zbm (fun v H' _ => Frz H' n0 v (.int .i64 R) ∧ Keep n0 H' H0) K [.bool away, .ptr g 0, .ptr nx 0, .int .i64 (h - 1), .ro (a.frames.map Frm.avs), .int .i64 a.frames.length, .int .i64 k] (H1.put (nx + 2) (some (.row 3 [.int .i64 i.op, .int .i64 i.a, .int .i64 i.b]))) (nx + 2 + 1) := by
      intro hb
      have e : VM.frame a k away = zda a vs st (h - 1) := by rw [hfe, if_neg (by simp [hb]; omega)]
      rw [e] at hbad hgo
      exact zyb a k ⟨n, ((m + 1 : Nat) : Int), vs, st⟩ (h - 1) away _ _ _ H0 (nx + 2 + 1) n0 g nx K R hg3 (by omega) hf3 (by omega) (by omega) hK3 hvl (by omega) (by omega) hbad fun h0 H' nx' q1 q2 q3 => hgo h0 H' nx' q1 q2 (by omega)
    rw [hbp] at hfin hbadv
    by_cases hlast : k + 1 = a.frames.length
    · simp [hlast] at hfin hbadv
      simp [zce, hf2, hc2, h00, w2, w3, hml', hi', Ins.avs, z1, z2, hqm, hq', hlast]
      refine ⟨fun hq0 => ⟨fun h13 => ⟨hbadv (.inl h13), hK3⟩, fun h13 => hfin h13 hq0⟩, fun hq0 => ⟨hbadv (.inr hq0), hK3⟩⟩
    · have hk2 : k + 1 < a.frames.length := by omega
      obtain ⟨f2, hf2'⟩ : ∃ f2, a.frames[k + 1]? = some f2 := ⟨_, List.getElem?_eq_getElem hk2⟩
      obtain ⟨_, hf2''⟩ := List.getElem?_eq_some_iff.1 hf2'
      rw [hf2'] at hfin hbadv
      simp [hlast] at hfin hbadv
      have w4 : IntKind.i64.wrap ((k : Int) + 1) = (k : Int) + 1 := i64w (by omega)
      have hk2i : (k : Int) + 1 < a.frames.length := by omega
      have hk0 : (0 : Int) ≤ (k : Int) + 1 := by omega
      have htn : ((k : Int) + 1).toNat = k + 1 := by omega
      simp [zce, hf2, hc2, h00, w2, w3, w4, hml', hi', Ins.avs, z1, z2, z3, hqm, hq', hlast, hg2, Agt.avs, hk2i, hk0, htn, hk2, hf2'', Frm.avs]
      refine ⟨fun hq0 => ⟨fun h17 => ⟨fun ha => ⟨hbadv (.inl (.inr ha)), hK3⟩, fun ha => hfin h17 ha hq0⟩, fun h17 => ⟨hbadv (.inl (.inl h17)), hK3⟩⟩, fun hq0 => ⟨hbadv (.inr hq0), hK3⟩⟩
  by_cases hlast : k + 1 = a.frames.length
  · have l2 : (k : Int) = (a.frames.length : Int) - 1 := by omega
    simp [zhy, l2]
    simp [hlast, l2] at key
    exact key
  · have l2 : ¬ (k : Int) = (a.frames.length : Int) - 1 := by omega
    simp [zhy, l2]
    simp [hlast] at key
    exact key
end Go.Proofs.YtejohcohkgcmhaaDoor
namespace Go.Proofs.YtejohcohkgcmhaaDoor
open Go Go.RowKit
set_option maxHeartbeats 4000000 in
theorem zamd (a : Agt) (away : Bool) (ha : a.prog.ok) (hhl : a.heap.length ≤ 4611686018427387904) : QC Tryd.prog 43 [.agg a.avs, .bool away] (.int .i64 (VM.agent a away)) := by
  refine QC.of' fun H nx => ztv _ _ H nx _ ?_
  simp [zhu, Agt.avs]
  refine QC.call (zahk a.prog ha) ?_
  have hg : (H.put nx (some (.row 9 [.int .i64 a.id, .int .i64 a.trip, .ro (a.prog.codes.map Cod.avs), .ro (a.prog.words.map fun w => [.str w]), .ro (a.frames.map Frm.avs), .ro (a.heap.map Cl.avs), .int .i64 a.permit.fuel, .int .i64 a.permit.room, .int .i64 a.permit.hops]))) nx = some (.row 9 a.avs) := Heap.put_at _ _ _
  have hK : Keep nx (H.put nx (some (.row 9 [.int .i64 a.id, .int .i64 a.trip, .ro (a.prog.codes.map Cod.avs), .ro (a.prog.words.map fun w => [.str w]), .ro (a.frames.map Frm.avs), .ro (a.heap.map Cl.avs), .int .i64 a.permit.fuel, .int .i64 a.permit.room, .int .i64 a.permit.hops]))) H := by simp
  generalize (H.put nx (some (.row 9 [.int .i64 a.id, .int .i64 a.trip, .ro (a.prog.codes.map Cod.avs), .ro (a.prog.words.map fun w => [.str w]), .ro (a.frames.map Frm.avs), .ro (a.heap.map Cl.avs), .int .i64 a.permit.fuel, .int .i64 a.permit.room, .int .i64 a.permit.hops]))) = H1 at *
  by_cases hp : VM.program a.prog = 0
  case neg =>
    have e : VM.agent a away = VM.program a.prog := by unfold VM.agent; rw [if_pos hp]
    rw [e]
    simp [zhx, hp, hK]
  simp [zhx, hp, hg, Agt.avs]
  have e3 : (a.id < 0 ∨ 1073741824 < a.id ∨ a.trip < 0 ∨ 1073741824 < a.trip ∨ a.permit.fuel < 0 ∨ 2000 < a.permit.fuel ∨ a.permit.room < 0 ∨ 60 < a.permit.room ∨ a.permit.hops < 0 ∨ 12 < a.permit.hops) → VM.agent a away = 3 := fun h => by
    unfold VM.agent; rw [if_neg (by simpa using hp), if_pos h]
  refine LP.mk (fun m xs H' nx' => ∃ i : Nat, i ≤ 5 ∧ m = 5 - i ∧ xs = [.bool away, .ptr nx 0, .slc (nx + 1) 0 5, .int .i64 5, .int .i64 i] ∧ H' nx = some (.row 9 a.avs) ∧
    H' (nx + 1) = some (.row 2 [.int .i64 a.id, .int .i64 1073741824, .int .i64 a.trip, .int .i64 1073741824, .int .i64 a.permit.fuel, .int .i64 2000, .int .i64 a.permit.room, .int .i64 60, .int .i64 a.permit.hops, .int .i64 12]) ∧ Keep nx H' H ∧ nx + 1 < nx' ∧
    (1 ≤ i → 0 ≤ a.id ∧ a.id ≤ 1073741824) ∧ (2 ≤ i → 0 ≤ a.trip ∧ a.trip ≤ 1073741824) ∧ (3 ≤ i → 0 ≤ a.permit.fuel ∧ a.permit.fuel ≤ 2000) ∧ (4 ≤ i → 0 ≤ a.permit.room ∧ a.permit.room ≤ 60) ∧ (5 ≤ i → 0 ≤ a.permit.hops ∧ a.permit.hops ≤ 12)) 5
    ⟨0, by omega, by omega, by simp, by rw [Heap.put_ne _ _ (by omega)]; exact hg, by simp, by simp [hK], by omega, by omega, by omega, by omega, by omega, by omega⟩ ?_
  rintro m xs H2 n2 ⟨i, hi, rfl, rfl, hg2, hr2, hK2, hn2, i1, i2, i3, i4, i5⟩
  have z1 : nx ≠ n2 := by omega
  have z2 : nx + 1 ≠ n2 := by omega
  have hKf : ∀ o, Keep nx (H2.put n2 o) H := fun o => by rw [Keep.put (by omega)]; exact hK2
  have hic : i = 5 ∨ i = 0 ∨ i = 1 ∨ i = 2 ∨ i = 3 ∨ i = 4 := by omega
  rcases hic with rfl | hic
  · have e0 : VM.agent a away = if a.frames.length < 1 ∨ 12 < a.frames.length then 5 else if 60 - a.permit.room < a.heap.length then 4 else if VM.framesErr a away ≠ 0 then VM.framesErr a away else VM.firstErr (VM.cellErr a.heap.length) a.heap := by
      unfold VM.agent; rw [if_neg (by simpa using hp), if_neg (by have := i1 (by omega); have := i2 (by omega); have := i3 (by omega); have := i4 (by omega); have := i5 (by omega); omega)]
    have i4' := i4 (by omega)
    have w1 : IntKind.i64.wrap ((a.heap.length : Int) + a.permit.room) = (a.heap.length : Int) + a.permit.room := i64w (by omega)
    simp [zbl, hg2, Agt.avs, w1]
    refine ⟨fun h => ⟨by rw [e0, if_pos (by rw [h]; simp)], hK2⟩, fun f1 => ?_⟩
    have hpos : 0 < a.frames.length := List.length_pos_iff.2 f1
    refine ⟨fun h => ⟨by rw [e0, if_pos (by omega)], hK2⟩, fun f2 => ⟨fun h => ⟨by rw [e0, if_neg (by omega), if_pos (by omega)], hK2⟩, fun f3 => ?_⟩⟩
    rw [if_neg (by omega), if_neg (by omega)] at e0
    refine LP.mk (fun m xs H' nx' => ∃ i : Nat, i ≤ a.frames.length ∧ m = a.frames.length - i ∧ xs = [.bool away, .ptr nx 0, .ro (a.frames.map Frm.avs), .int .i64 a.frames.length, .int .i64 i] ∧ H' nx = some (.row 9 a.avs) ∧ Keep nx H' H ∧ nx < nx' ∧ VM.framesErr a away = VM.firstErr (fun k => VM.frame a k away) ((List.range a.frames.length).drop i)) a.frames.length
      ⟨0, by omega, by omega, by simp, hg2, hK2, by omega, rfl⟩ ?_
    rintro m xs H3 n3 ⟨k, hk, rfl, rfl, hg3, hK3, hn3, hfe⟩
    by_cases hlt : k < a.frames.length
    · have hr : (List.range a.frames.length)[k]? = some k := by simp [hlt]
      rw [zem _ _ _ _ hr] at hfe
      refine zahr a k away H3 H n3 nx nx _ _ hg3 hn3 (by omega) hK3 hlt (by omega) hp (fun hz => ?_) fun hz H' nx' q1 q2 q3 => ?_
      · rw [if_pos hz] at hfe
        rw [e0, hfe, if_pos hz]
      · rw [if_neg (by simpa using hz)] at hfe
        exact ⟨a.frames.length - (k + 1), by omega, k + 1, by omega, rfl, rfl, q1, q2, by omega, hfe⟩
    obtain rfl : k = a.frames.length := by omega
    have hz : VM.framesErr a away = 0 := by rw [hfe, List.drop_of_length_le (by simp)]; rfl
    rw [if_neg (by simpa using hz)] at e0
    simp [zau, hg3, Agt.avs]
    refine LP.mk (fun m xs H' nx' => ∃ i : Nat, i ≤ a.heap.length ∧ m = a.heap.length - i ∧ xs = [.ptr nx 0, .ro (a.heap.map Cl.avs), .int .i64 a.heap.length, .int .i64 i] ∧ H' nx = some (.row 9 a.avs) ∧ Keep nx H' H ∧ nx < nx' ∧ VM.agent a away = VM.firstErr (VM.cellErr a.heap.length) (a.heap.drop i)) a.heap.length
      ⟨0, by omega, by omega, by simp, hg3, hK3, by omega, e0⟩ ?_
    rintro m xs H4 n4 ⟨k, hk, rfl, rfl, hg4, hK4, hn4, hfe⟩
    by_cases hlt : k < a.heap.length
    case neg =>
      obtain rfl : k = a.heap.length := by omega
      simp [zhv, hK4]
      rw [hfe]; simp [VM.firstErr]
    obtain ⟨c, hc⟩ : ∃ c, a.heap[k]? = some c := ⟨_, List.getElem?_eq_getElem hlt⟩
    obtain ⟨_, hc'⟩ := List.getElem?_eq_some_iff.1 hc
    rw [zem _ _ _ _ hc] at hfe
    obtain ⟨l, r⟩ := c
    have m1 : nx ≠ n4 := by omega
    have hce : VM.cellErr a.heap.length ⟨l, r⟩ = if VM.wrong l a.heap.length ≠ 0 then VM.wrong l a.heap.length else VM.wrong r a.heap.length := rfl
    rw [hce] at hfe
    have hg5 : (H4.put n4 (some (.row 6 [.int .i64 l.kind, .int .i64 l.n, .str l.text, .int .i64 r.kind, .int .i64 r.n, .str r.text]))) nx = some (.row 9 a.avs) := by rw [Heap.put_ne _ _ m1]; exact hg4
    have hc5 : (H4.put n4 (some (.row 6 [.int .i64 l.kind, .int .i64 l.n, .str l.text, .int .i64 r.kind, .int .i64 r.n, .str r.text]))) n4 = some (.row 6 [.int .i64 l.kind, .int .i64 l.n, .str l.text, .int .i64 r.kind, .int .i64 r.n, .str r.text]) := Heap.put_at _ _ _
    have hK5 : Keep nx (H4.put n4 (some (.row 6 [.int .i64 l.kind, .int .i64 l.n, .str l.text, .int .i64 r.kind, .int .i64 r.n, .str r.text]))) H := by rw [Keep.put (by omega)]; exact hK4
    simp [zhv, hlt, hc', Cl.avs, Val.avs, hg4, m1, Agt.avs]
    generalize (H4.put n4 (some (.row 6 [.int .i64 l.kind, .int .i64 l.n, .str l.text, .int .i64 r.kind, .int .i64 r.n, .str r.text]))) = H5 at *
    refine QC.call (zpd l _) ?_
    simp [zom, hc5, hg5, Agt.avs]
    refine ⟨fun hz => ⟨by rw [hfe, if_pos hz, if_pos hz], hK5⟩, fun hz => ?_⟩
    refine QC.call (zpd r _) ?_
    rw [hz] at hfe
    simp at hfe
    simp [zon]
    refine ⟨fun hz2 => ⟨by rw [hfe]; simp [hz2], hK5⟩, fun hz2 => ?_⟩
    rw [hz2] at hfe
    simp at hfe
    rw [i64w (by omega)]
    exact ⟨a.heap.length - (k + 1), by omega, k + 1, by omega, rfl, rfl, hg5, hK5, by omega, hfe⟩
  rcases hic with rfl | rfl | rfl | rfl | rfl
  · simp [zbl, hr2, hKf]
    refine ⟨fun h => e3 (by omega), fun h => ⟨fun h' => e3 (by omega), fun h' => ?_⟩⟩
    exact ⟨5 - 1, by omega, 1, by omega, rfl, by rw [i64w (by omega)]; rfl, by simp [z1, hg2], by simp [z2], by omega, by omega, by omega, by omega, by omega, by omega⟩
  · simp [zbl, hr2, hKf]
    refine ⟨fun h => e3 (by omega), fun h => ⟨fun h' => e3 (by omega), fun h' => ?_⟩⟩
    exact ⟨5 - 2, by omega, 2, by omega, rfl, by rw [i64w (by omega)]; rfl, by simp [z1, hg2], by simp [z2], by omega, by omega, by omega, by omega, by omega, by omega⟩
  · simp [zbl, hr2, hKf]
    refine ⟨fun h => e3 (by omega), fun h => ⟨fun h' => e3 (by omega), fun h' => ?_⟩⟩
    exact ⟨5 - 3, by omega, 3, by omega, rfl, by rw [i64w (by omega)]; rfl, by simp [z1, hg2], by simp [z2], by omega, by omega, by omega, by omega, by omega, by omega⟩
  · simp [zbl, hr2, hKf]
    refine ⟨fun h => e3 (by omega), fun h => ⟨fun h' => e3 (by omega), fun h' => ?_⟩⟩
    exact ⟨5 - 4, by omega, 4, by omega, rfl, by rw [i64w (by omega)]; rfl, by simp [z1, hg2], by simp [z2], by omega, by omega, by omega, by omega, by omega, by omega⟩
  · simp [zbl, hr2, hKf]
    refine ⟨fun h => e3 (by omega), fun h => ⟨fun h' => e3 (by omega), fun h' => ?_⟩⟩
    exact ⟨5, by omega, by omega, by rw [i64w (by omega)]; rfl, by simp [z1, hg2], by simp [z2], by omega, by omega, by omega, by omega, by omega, by omega⟩
end Go.Proofs.YtejohcohkgcmhaaDoor
namespace Go.Proofs.YtejohcohkgcmhaaDoor
open Go Go.RowKit
theorem zard {a : Agt} (sz : zsp a) : QC Tryd.prog 28 [.agg a.avs] (.agg a.avs) :=
  QC.of' fun H nx => zvb sz fun H' n' ss fa ha hn k ow => ⟨ow.frz (Nat.le_refl _) fun _ _ _ => rfl, k⟩
def zfk (a : Agt) (s : Spt) : Bool := s.facts.all (fun f => decide (VM.wrong f.val 0 = 0)) && (decide (s.name.length ≤ 12) && decide (VM.agent a false = 0))
theorem zaeu {α : Type} {p : α → Bool} {l : List α} {i : Nat} {x : α} (h : l[i]? = some x) : (l.drop i).all p = (p x && (l.drop (i + 1)).all p) := by
  obtain ⟨hi, rfl⟩ := List.getElem?_eq_some_iff.1 h
  rw [List.drop_eq_getElem_cons hi, List.all_cons]
set_option maxRecDepth 20000 in
set_option maxHeartbeats 1000000 in
theorem zakl (a : Agt) (s : Spt) (ha : a.prog.ok) (hhl : a.heap.length ≤ 4611686018427387904) (hf : s.facts.length ≤ 4611686018427387903) : QC Tryd.prog 24 [.agg a.avs, .agg s.avs] (.bool (zfk a s)) := by
  refine QC.of' fun H nx => ?_
  suffices main : ∀ Q : AV → Heap → Nat → Prop, (∀ H' n', Keep nx H' H → Q (.bool (zfk a s)) H' n') → za Tryd.prog 24 [.agg a.avs, .agg s.avs] H nx Q from main _ fun H' n' h => ⟨zsc, h⟩
  intro Q hQ
  refine ztz _ _ H nx _ ?_
  have al : a.avs.length = 9 := rfl
  have sl : s.avs = [.str s.name, .ro (s.facts.map Fct.avs), .int .i64 s.fuel, .int .i64 s.cells] := rfl
  have at9 : a.avs.take 9 = a.avs := rfl
  have hsu : (AV.agg a.avs).sure = true := by simp [Agt.avs]
  unfold zie
  rw [sl]
  refine ⟨hsu, by simp, ?_⟩
  generalize hX : Heap.put _ (nx + 1) _ = X
  have x0 : X nx = some (.row 9 a.avs) := by rw [← hX, Heap.put_ne _ _ (by omega), Heap.put_at]; rfl
  have x1 : X (nx + 1) = some (.row 4 [.str s.name, .ro (s.facts.map Fct.avs), .int .i64 s.fuel, .int .i64 s.cells]) := by rw [← hX, Heap.put_at]; rfl
  have xk : Keep nx X H := fun g hg => by rw [← hX, Heap.put_ne _ _ (by omega), Heap.put_ne _ _ (by omega)]
  clear hX
  simp [x1]
  refine LP.mk (fun k xs H' n' => ∃ i : Nat, xs = [.ptr nx 0, .ptr (nx + 1) 0, .ro (s.facts.map Fct.avs), .int .i64 s.facts.length, .int .i64 i] ∧ i ≤ s.facts.length ∧ k = s.facts.length - i ∧ (∀ g, g < nx + 2 → H' g = X g) ∧ nx + 2 ≤ n' ∧ s.facts.all (fun f => decide (VM.wrong f.val 0 = 0)) = (s.facts.drop i).all (fun f => decide (VM.wrong f.val 0 = 0))) s.facts.length ⟨0, rfl, by omega, by omega, fun _ _ => rfl, by omega, rfl⟩ ?_
  rintro k xs H' n' ⟨i, rfl, hi, rfl, hk, hn, hall⟩
  by_cases hlt : i < s.facts.length
  · have hadd : IntKind.i64.wrap ((i : Int) + 1) = ((i + 1 : Nat) : Int) := by rw [i64w (by omega)]; rfl
    rw [zaeu (List.getElem?_eq_getElem hlt)] at hall
    generalize hcc : s.facts[i] = c at *
    simp [zex, hlt, hcc, Fct.avs, Val.avs]
    refine QC.call (zpd c.val 0) ?_
    by_cases hw : VM.wrong c.val 0 = 0
    · simp [zif, hw, hadd]
      refine ⟨s.facts.length - (i + 1), by omega, i + 1, rfl, by omega, rfl, fun g hg => ?_, by omega, by rw [hall]; simp [hw]⟩
      rw [if_neg (by omega)]; exact hk g hg
    · simp [zif, hw]
      have e : zfk a s = false := by unfold zfk; rw [hall]; simp [hw]
      have := hQ ((H'.put n' (some (AObj.row 4 [.str c.key, .int .i64 c.val.kind, .int .i64 c.val.n, .str c.val.text])))) (n' + 1) fun g hg => by rw [Heap.put_ne _ _ (by omega), hk g (by omega)]; exact xk g hg
      rw [e] at this
      exact this
  · have hge : ¬ (i : Int) < s.facts.length := by omega
    rw [List.drop_of_length_le (by omega)] at hall
    have y0 : H' nx = some (.row 9 a.avs) := by rw [hk _ (by omega)]; exact x0
    have y1 : H' (nx + 1) = some (.row 4 [.str s.name, .ro (s.facts.map Fct.avs), .int .i64 s.fuel, .int .i64 s.cells]) := by rw [hk _ (by omega)]; exact x1
    have fin := fun n' => hQ H' n' fun g hg => (hk g (by omega)).trans (xk g hg)
    have e : zfk a s = (decide (s.name.length ≤ 12) && decide (VM.agent a false = 0)) := by unfold zfk; rw [hall]; simp
    rw [e] at fin
    by_cases hnm : s.name.length ≤ 12
    · have hnm' : (s.name.length : Int) ≤ 12 := by omega
      simp [zex, hge, y0, y1, al, at9, hnm']
      refine QC.call (zamd a false ha hhl) ?_
      simp [zpc]
      have := fin n'
      rw [decide_eq_true hnm, Bool.true_and] at this
      exact this
    · have hnm' : ¬ (s.name.length : Int) ≤ 12 := by omega
      simp [zex, hge, y0, y1, al, at9, hnm']
      have := fin n'
      rw [decide_eq_false hnm, Bool.false_and] at this
      exact this
end Go.Proofs.YtejohcohkgcmhaaDoor
namespace Go.Proofs.YtejohcohkgcmhaaDoor
open Go Go.RowKit
structure Fits (p : Prg) (b : Agt) : Prop where
  prog : b.prog = p
  frames : b.frames.length ≤ 4096
  heap : b.heap.length ≤ 4096
  stk : ∀ f ∈ b.frames, f.vars.length ≤ 4096 ∧ f.stack.length ≤ 4096
theorem zaib {p : Prg} (h : VM.program p = 0) (n : Int) : (VM.codeAt p n).vars ≤ 8 := by
  by_cases hn : n.toNat < p.codes.length
  · obtain ⟨crange, _, _⟩ := (zz h).1 _ (VM.code_mem hn)
    unfold VM.codeRange at crange
    rw [decide_eq_false_iff_not] at crange
    omega
  · unfold VM.codeAt
    rw [List.getD_eq_getElem?_getD, List.getElem?_eq_none (by omega)]
    simp
theorem zano {p : Prg} {c : Prop} [Decidable c] {x y : Agt} (h1 : c → Fits p x) (h2 : ¬ c → Fits p y) : Fits p (if c then x else y) := by
  by_cases h : c
  · rw [if_pos h]; exact h1 h
  · rw [if_neg h]; exact h2 h
theorem zakw {b : Agt} {s : Spt} {fs : List Frm} {f : Frm} {i : Ins} (hp : VM.program b.prog = 0) (h1 : fs.length ≤ 100) (h2 : ∀ g ∈ fs, g.vars.length ≤ 100 ∧ g.stack.length ≤ 100) (h3 : f.vars.length ≤ 100) (h4 : f.stack.length ≤ 100) (h5 : b.heap.length ≤ 100) (hi : i.op = 17 → 0 ≤ i.b) : Fits b.prog (VM.opDo b s fs f i).1 := by
  have hv := zaib hp i.a
  have key : ∀ {a : Agt} {gs : List Frm} {g : Frm}, a.prog = b.prog → gs.length ≤ 200 → (∀ g ∈ gs, g.vars.length ≤ 200 ∧ g.stack.length ≤ 200) → g.vars.length ≤ 300 → g.stack.length ≤ 300 → a.heap.length ≤ 200 → Fits b.prog (VM.toF a gs g) := by
    intro a gs g e1 e2 e3 e4 e5 e6
    refine ⟨e1, by simp [VM.toF]; omega, by simp [VM.toF]; omega, fun x hx => ?_⟩
    simp [VM.toF] at hx
    rcases hx with hx | rfl
    · have := e3 x hx; omega
    · omega
  have lw : ∀ k, (VM.low k f.stack).length ≤ f.stack.length := fun k => by rw [VM.low_len]; omega
  have l1 := lw 1
  have l2 := lw 2
  have h2' : ∀ g ∈ fs, g.vars.length ≤ 200 ∧ g.stack.length ≤ 200 := fun g hg => by have := h2 g hg; omega
  unfold VM.opDo VM.push
  simp only [apply_ite Prod.fst]
  repeat' (refine zano (fun _ => ?_) (fun _ => ?_))
  all_goals first
    | exact key rfl (by omega) h2' (by first | (simp only [List.length_append, List.length_singleton, List.length_set]; omega) | (simp only []; omega) | omega) (by first | (simp only [List.length_append, List.length_singleton, List.length_set]; omega) | (simp only []; omega) | omega) (by first | (simp only [List.length_append, List.length_singleton, List.length_set]; omega) | (simp only []; omega) | omega)
    | skip
  · refine key rfl (by simp; omega) (fun g hg => ?_) ?_ (by simp) (by omega)
    · simp at hg
      rcases hg with hg | rfl
      · exact h2' g hg
      · have := lw i.b.toNat; simp only; omega
    · simp; omega
  · split
    · exact ⟨rfl, by simp, by simp only; omega, fun g hg => by simp at hg⟩
    · rename_i g hg
      have hm := List.mem_of_getLast? hg
      refine key rfl (by simp; omega) (fun x hx => h2' x (List.dropLast_subset _ hx)) (by have := h2 g hm; simp only; omega) (by have := h2 g hm; simp; omega) (by omega)
theorem zakf {a : Agt} {fs : List Frm} {f : Frm} (l : VM.Live a fs f) (s : Spt) : Fits a.prog (VM.step a s).1 := by
  have flen := l.flen
  have hlen := l.hlen
  have hroom := l.room
  have sk := Live.stk l
  by_cases hf : a.permit.fuel = 0
  · have e : VM.step a s = (a, VM.dead 12) := by unfold VM.step; rw [if_pos hf]
    rw [e]
    exact ⟨rfl, by rw [l.fr]; simp; omega, by simp only; omega, fun g hg => by have := sk g hg; simp only at hg; omega⟩
  · rw [zach l hf]
    have ok := l.ok f (by simp)
    have nw := l.now
    obtain ⟨o1, o2, o3, o4⟩ := VM.numbers_ok nw.num
    have slen := zus l
    have key := zakw (b := { a with permit := { a.permit with fuel := a.permit.fuel - 1 } }) (s := s) (fs := fs) (f := { f with at_ := f.at_ + 1 }) (i := VM.insAt a.prog f) l.prog (by omega) (fun g hg => by have := sk g (by rw [l.fr]; simp [hg]); omega) (by have := sk f (by rw [l.fr]; simp); simp only; omega) (by simp only; omega) (by simp only; omega) fun h17 => ?_
    · exact key
    · exact (((zz l.prog).1 _ (VM.code_mem ok.code)).2.1 _ (List.mem_of_getElem? nw.at_) h17).1
theorem zadu {a : Agt} {fs : List Frm} {f : Frm} (l : VM.Live a fs f) : Fits a.prog a := by
  have flen := l.flen
  have hlen := l.hlen
  have hroom := l.room
  exact ⟨rfl, by rw [l.fr]; simp; omega, by omega, fun g hg => by have := Live.stk l g hg; omega⟩
theorem zafm (s : Spt) (hw : ∀ x ∈ s.facts, VM.WrongOk x.val (0 : Int)) : ∀ (n : Nat) {a : Agt} {fs : List Frm} {f : Frm}, VM.Live a fs f → Fits a.prog (VM.run s n a).1
  | 0, a, fs, f, l => zadu l
  | n + 1, a, fs, f, l => by
    rw [zzf]
    have sf := zakf l s
    split
    · exact sf
    · rename_i h
      obtain ⟨gs, g, l'⟩ := VM.step_live l hw (by simpa using h)
      have := zafm s hw n l'
      rw [sf.prog] at this
      exact this
end Go.Proofs.YtejohcohkgcmhaaDoor
namespace Go.Proofs.YtejohcohkgcmhaaDoor
open Go Go.RowKit
theorem zaji {a : Agt} {fs : List Frm} {f : Frm} (l : VM.Live a fs f) : VM.right a.heap (zi a.frames) = true := by
  unfold VM.right
  rw [Bool.and_eq_true, List.all_eq_true, List.all_eq_true]
  refine ⟨fun v hv => ?_, fun c hc => ?_⟩
  · unfold zi at hv
    obtain ⟨g, hg, hv⟩ := List.mem_flatMap.1 hv
    rw [l.fr] at hg
    have ok := l.ok g hg
    rw [decide_eq_true_eq]
    rcases List.mem_append.1 hv with h | h
    · exact VM.ok_wrong (ok.vv v h)
    · exact VM.ok_wrong (ok.sv v h)
  · obtain ⟨h1, h2⟩ := l.cells c hc
    rw [Bool.and_eq_true, decide_eq_true_eq, decide_eq_true_eq]
    exact ⟨VM.ok_wrong h1, VM.ok_wrong h2⟩
theorem zajh {a : Agt} {fs : List Frm} {f : Frm} (l : VM.Live a fs f) : (zi a.frames).length ≤ 4096 := by
  have sk := Live.stk l
  have fl : a.frames.length ≤ 12 := by rw [l.fr]; simp; have := l.flen; omega
  have key : ∀ gs : List Frm, (∀ g ∈ gs, g.vars.length ≤ 8 ∧ g.stack.length ≤ 16) → (zi gs).length ≤ gs.length * 24 := by
    intro gs
    induction gs with
    | nil => intro _; simp [zi]
    | cons g r ih =>
      intro h
      have := ih fun x hx => h x (by simp [hx])
      have h0 := h g (by simp)
      simp [zi] at this ⊢
      omega
  have := key a.frames sk
  omega
theorem zakr {a : Agt} {fs : List Frm} {f : Frm} (l : VM.Live a fs f) : Fits a.prog (VM.pack a) := by
  have sk := Live.stk l
  have hh : a.heap.length ≤ 60 := by have := l.hlen; have := l.room; omega
  have fl : a.frames.length ≤ 12 := by rw [l.fr]; simp; have := l.flen; omega
  refine ⟨rfl, by simp [VM.pack]; omega, ?_, fun g hg => ?_⟩
  · have h1 : (VM.canonC a.heap (VM.roots a)).length ≤ (VM.order a.heap (VM.roots a)).length := List.length_filterMap_le _ _
    have hok : ∀ v ∈ VM.roots a, VM.OkV a.heap.length v := fun v hv => by
      obtain ⟨g, hg, hv⟩ := List.mem_flatMap.1 hv
      rw [l.fr] at hg
      have ok := l.ok g hg
      have w : VM.WrongOk v a.heap.length := by
        rcases List.mem_append.1 hv with h | h
        · exact ok.vv v h
        · exact ok.sv v h
      intro hk
      have := w.cell hk
      omega
    have hH : VM.OkH a.heap := fun n c hc => by
      obtain ⟨h1, h2⟩ := l.cells c (List.mem_of_getElem? hc)
      exact ⟨fun hk => by have := h1.cell hk; omega, fun hk => by have := h2.cell hk; omega⟩
    have h2 := (VM.orderGo_good hH (VM.roots a) [] hok VM.Good.nil).len
    show (VM.canonC a.heap (VM.roots a)).length ≤ 4096
    unfold VM.order at h1
    omega
  · simp [VM.pack] at hg
    obtain ⟨g', hg', rfl⟩ := hg
    have := sk g' hg'
    simp
    omega
theorem zkg {a b : Agt} {fs : List Frm} {f : Frm} (l : VM.Live a fs f) (ft : Fits a.prog b) : QC Tryd.prog 27 [.agg b.avs, .agg b.avs] (.bool true) := by
  obtain ⟨c1, c2, c3⟩ := Live.codes l
  obtain ⟨h1, h2, h3, h4⟩ := ft
  refine zamv b (by rw [h1]; omega) (by rw [h1]; omega) (fun c hc => by rw [h1] at hc; have := c3 c hc; omega) (by omega) (by omega) fun g hg => by have := h4 g hg; omega
theorem zagb {a : Agt} (id : Int) {fs : List Frm} {f : Frm} (l : VM.Live a fs f) (m : Pmt) : Fits a.prog (VM.newAgt id a.prog m) := by
  have := zaib l.prog 0
  refine ⟨rfl, by simp [VM.newAgt], by simp [VM.newAgt], fun g hg => ?_⟩
  simp [VM.newAgt] at hg
  subst hg
  simp; omega
theorem zahz {a : Agt} {fs : List Frm} {f : Frm} (l : VM.Live a fs f) (k : Int) : Fits a.prog (VM.answer a k) := by
  have sk := Live.stk l
  have fl := l.flen
  have hh : a.heap.length ≤ 60 := by have := l.hlen; have := l.room; omega
  rw [zvw l.fr]
  refine ⟨rfl, by simp; omega, by simp only; omega, fun g hg => ?_⟩
  simp at hg
  rcases hg with hg | rfl
  · have := sk g (by rw [l.fr]; simp [hg]); omega
  · have := sk f (by rw [l.fr]; simp); simp; omega
theorem zaep {p : Prg} (h : VM.program p = 0) : 0 < p.codes.length := by
  unfold VM.program at h
  by_cases h1 : p.codes.length < 1 ∨ 5 < p.codes.length
  · rw [if_pos h1] at h; omega
  · omega
theorem zaqh : eqsT 58 = true := by kernel_rfl
theorem zjl {A : Nat → Prop} (a : Agt) : Bel A (.agg a.avs) := by
  refine .agg _ fun j v hv => ?_
  match j, hv with
  | 0, hv => cases hv; exact .int _ _
  | 1, hv => cases hv; exact .int _ _
  | 2, hv => cases hv; exact zvu _
  | 3, hv => cases hv; exact zvt _
  | 4, hv => cases hv; exact zacy _
  | 5, hv => cases hv; exact zcc (zag _)
  | 6, hv => cases hv; exact .int _ _
  | 7, hv => cases hv; exact .int _ _
  | 8, hv => cases hv; exact .int _ _
  | j + 9, hv => simp [Agt.avs] at hv
set_option maxRecDepth 20000 in
set_option maxHeartbeats 2000000 in
theorem zaiu (a : Agt) (s : Spt) (most k : Int) (ha : a.prog.ok) (hhl : a.heap.length ≤ 4611686018427387904) (hname : s.name.length ≤ maxLen) (hf : s.facts.length ≤ 4611686018427387903) (hm : most ≤ 9223372036854775807) : QC Tryd.prog 6 [.agg a.avs, .agg s.avs, .int .i64 most, .int .i64 k] (.bool true) := by
  refine QC.of' fun H nx => ?_
  suffices main : ∀ Q : AV → Heap → Nat → Prop, (∀ H' n', Keep nx H' H → Q (.bool true) H' n') → za Tryd.prog 6 [.agg a.avs, .agg s.avs, .int .i64 most, .int .i64 k] H nx Q from main _ fun H' n' h => ⟨zsc, h⟩
  intro Q hQ
  refine zrh _ _ _ _ H nx _ ?_
  obtain ⟨ad, at9, al⟩ := zpr a
  have sl : s.avs.length = 4 := rfl
  have st4 : s.avs.take 4 = s.avs := rfl
  have hsu : (AV.agg a.avs).sure = true := by simp [Agt.avs]
  have hss : (AV.agg s.avs).sure = true := by simp [Spt.avs]
  unfold zfu
  refine ⟨hsu, hss, ?_⟩
  generalize hX : Heap.put _ (nx + 1) _ = X
  have x0 : X nx = some (.row 9 a.avs) := by rw [← hX, Heap.put_ne _ _ (by omega), Heap.put_at]; rfl
  have x1 : X (nx + 1) = some (.row 4 s.avs) := by rw [← hX, Heap.put_at]; rfl
  have xk : Keep nx X H := fun g hg => by rw [← hX, Heap.put_ne _ _ (by omega), Heap.put_ne _ _ (by omega)]
  clear hX
  simp [x0, x1, al, at9, sl, st4]
  refine QC.call (zakl a s ha hhl hf) ?_
  by_cases hr : zfk a s = true
  case neg =>
    have hr' : zfk a s = false := by simpa using hr
    simp [zez, hr']
    exact hQ _ _ xk
  have hr0 := hr
  unfold zfk at hr0
  simp only [Bool.and_eq_true, List.all_eq_true, decide_eq_true_eq] at hr0
  obtain ⟨r1, r2, r3⟩ := hr0
  obtain ⟨fs, f, l⟩ := VM.agent_live r3
  have hw : ∀ x ∈ s.facts, VM.WrongOk x.val (0 : Int) := fun x hx => VM.wrong_ok (r1 x hx)
  simp [zez, hr, x0, x1, al, at9, sl, st4]
  refine QC.call (zarb l hname hf hw hm) ?_
  generalize hb : (VM.run s most.toNat a) = b
  have fb : Fits a.prog b.1 := hb ▸ zafm s hw most.toNat l
  obtain ⟨bd, bt, bl⟩ := zpr b.1
  have ob := zaco b.1
  have sb : ((AV.agg b.1.avs).sure = true) := by simp [Agt.avs]
  have ne_0 : nx ≠ nx + 1 ∧ nx + 1 ≠ nx ∧ nx ≠ nx + 2 ∧ nx + 2 ≠ nx ∧ nx ≠ nx + 3 ∧ nx + 3 ≠ nx ∧ nx ≠ nx + 4 ∧ nx + 4 ≠ nx ∧ nx ≠ nx + 5 ∧ nx + 5 ≠ nx ∧ nx + 1 ≠ nx + 2 ∧ nx + 2 ≠ nx + 1 ∧ nx + 1 ≠ nx + 3 ∧ nx + 3 ≠ nx + 1 ∧ nx + 1 ≠ nx + 4 ∧ nx + 4 ≠ nx + 1 ∧ nx + 1 ≠ nx + 5 ∧ nx + 5 ≠ nx + 1 := ⟨by omega, by omega, by omega, by omega, by omega, by omega, by omega, by omega, by omega, by omega, by omega, by omega, by omega, by omega, by omega, by omega, by omega, by omega⟩
  simp [zjw, x0, x1, al, at9, sl, st4, bl, bt, sb, eavs, ne_0]
  refine ⟨ob, ?_⟩
  refine QC.call (hb ▸ zakm l hname hf hw hm) ?_
  simp [zjx, x0, x1, al, at9, sl, st4, bl, bt, sb, eavs, zaqh, ne_0]
  refine ⟨ob, ?_⟩
  generalize hY : Heap.put _ (nx + 2 + 2 + 1) _ = Y
  have y0 : Y nx = some (.row 9 a.avs) := by
    rw [← hY, Heap.put_ne _ _ (by omega), Heap.put_ne _ _ (by omega), Heap.put_ne _ _ (by omega), Heap.put_ne _ _ (by omega), Heap.put_ne _ _ (by omega), Heap.put_ne _ _ (by omega), Heap.put_ne _ _ (by omega), Heap.put_ne _ _ (by omega)]; exact x0
  have yk : Keep nx Y H := fun g hg => by
    rw [← hY, Heap.put_ne _ _ (by omega), Heap.put_ne _ _ (by omega), Heap.put_ne _ _ (by omega), Heap.put_ne _ _ (by omega), Heap.put_ne _ _ (by omega), Heap.put_ne _ _ (by omega), Heap.put_ne _ _ (by omega), Heap.put_ne _ _ (by omega)]; exact xk g hg
  clear hY
  have lr := zaji l
  have lo := zajh l
  have fl : a.frames.length ≤ 12 := by rw [l.fr]; simp; have := l.flen; omega
  have hh : a.heap.length ≤ 60 := by have := l.hlen; have := l.room; omega
  have stf := Live.stk l f (by rw [l.fr]; simp)
  have cl := Live.codes l
  have c0 : 0 < a.prog.codes.length := (zaep l.prog)
  have v0 : 0 ≤ (VM.codeAt a.prog 0).vars ∧ (VM.codeAt a.prog 0).vars ≤ 4096 := by
    have := (cl.2.2 _ (VM.code_mem (n := 0) (by simpa using c0))).2
    omega
  have nsz : zsp (VM.newAgt a.id a.prog a.permit) := by
    obtain ⟨q1, q2, q3⟩ := cl
    have nf := zagb a.id l a.permit
    exact ⟨by simp only [VM.newAgt]; omega, fun c hc => by have := (q3 c hc).1; omega, by simp only [VM.newAgt]; omega, by have := nf.frames; omega, by have := nf.heap; omega, fun g hg => by have := nf.stk g hg; omega⟩
  have pav : a.avs = [.int .i64 a.id, .int .i64 a.trip, .ro (a.prog.codes.map Cod.avs), .ro (a.prog.words.map fun w => [.str w]), .ro (a.frames.map Frm.avs), .ro (a.heap.map Cl.avs), .int .i64 a.permit.fuel, .int .i64 a.permit.room, .int .i64 a.permit.hops] := rfl
  have t1 : (a.avs.drop 2).take 2 = a.prog.avs := rfl
  have t2 : (a.avs.drop 6).take 3 = a.permit.avs := rfl
  have t3 : a.avs[0]'(by rw [al]; omega) = .int .i64 a.id := rfl
  refine zn.of_qc (zkg l fb) (.bool _) ?_
  simp [zjy, y0, al, at9]
  refine zn.of_qc (zard (Live.sized l)) (zjl _) ?_
  simp [zjz, y0, al, at9]
  refine zn.of_qc (zkg l (zadu l)) (.bool _) ?_
  simp [zka, y0, al, at9]
  refine zn.of_qc (zapu (Live.sized l) l.fr (by omega) lo lr) (zjl _) ?_
  simp [zll, y0, al, at9]
  refine zn.of_qc (zaja (by omega) lo (by omega) lr) (zjl _) ?_
  simp [zlm]
  refine zn.of_qc (zkg l (zakr l)) (.bool _) ?_
  simp [zln, y0, al, at9]
  refine zn.of_qc (zamc (Live.sized l) l.fr (by have := l.flen; omega) (by omega)) (zjl _) ?_
  simp [zlo, y0, al, at9]
  refine zn.of_qc (zafs l.fr (by have := l.flen; omega) (by omega)) (zjl _) ?_
  simp [zlp]
  refine zn.of_qc (zkg l (zahz l k)) (.bool _) ?_
  simp [zlq, y0, al, t1, t2, t3]
  refine zn.of_qc (zare nsz c0 v0) (zjl _) ?_
  simp [zlr, y0, al, t1, t2, t3]
  refine zn.of_qc (zako c0 v0) (zjl _) ?_
  simp [zls]
  refine zn.of_qc (zkg l (zagb _ l _)) (.bool _) ?_
  simp [zlt]
  exact hQ _ _ yk
end Go.Proofs.YtejohcohkgcmhaaDoor
namespace Go.Proofs.YtejohcohkgcmhaaDoor
open Go Go.RowKit
theorem zacw : Tryd.prog.cellsOf 92 = 3 := by kernel_rfl
def Ins.rd (x : Ins) : Prop := zdc x.op ∧ zdc x.a ∧ zdc x.b
theorem oIns : OpA Tryd.prog 92 Ins.avs Ins.rd :=
  ⟨fun _ _ => zacw.symm, fun enc w base sp held fuel cs x h hw => by
    obtain ⟨hl, hf⟩ := zbg Tryd.underlying92 h hw
    rw [zacw] at hl
    obtain ⟨x0, h0, r0⟩ := hf 0 3 0 1 (by kernel_rfl) cInt oInt
    obtain ⟨x1, h1, r1⟩ := hf 1 3 1 1 (by kernel_rfl) cInt oInt
    obtain ⟨x2, h2, r2⟩ := hf 2 3 2 1 (by kernel_rfl) cInt oInt
    match cs, hl with
    | [c0, c1, c2], _ => exact ⟨⟨x0, x1, x2⟩, ⟨h0, h1, h2⟩, fun ρ A => ((r0 ρ A).append ((r1 ρ A).append (r2 ρ A)))⟩⟩
theorem zagu : Tryd.prog.cellsOf 87 = 1 := by kernel_rfl
theorem zasg : OpA Tryd.prog 87 (fun l : List Ins => [.ro (l.map Ins.avs)]) (rdL Ins.rd (Tryd.prog.bytesOf 92)) := zff Tryd.underlying87 zagu oIns (by rw [zacw]; decide)
theorem zagx : Tryd.prog.cellsOf 89 = 3 := by kernel_rfl
def Cod.rd (x : Cod) : Prop := zdc x.params ∧ zdc x.vars ∧ rdL Ins.rd (Tryd.prog.bytesOf 92) x.ins
theorem oCod : OpA Tryd.prog 89 Cod.avs Cod.rd :=
  ⟨fun _ _ => zagx.symm, fun enc w base sp held fuel cs x h hw => by
    obtain ⟨hl, hf⟩ := zbg Tryd.underlying89 h hw
    rw [zagx] at hl
    obtain ⟨x0, h0, r0⟩ := hf 0 3 0 1 (by kernel_rfl) cInt oInt
    obtain ⟨x1, h1, r1⟩ := hf 1 3 1 1 (by kernel_rfl) cInt oInt
    obtain ⟨x2, h2, r2⟩ := hf 2 87 2 1 (by kernel_rfl) zagu zasg
    match cs, hl with
    | [c0, c1, c2], _ => exact ⟨⟨x0, x1, x2⟩, ⟨h0, h1, h2⟩, fun ρ A => ((r0 ρ A).append ((r1 ρ A).append (r2 ρ A)))⟩⟩
theorem zaip : Tryd.prog.cellsOf 44 = 1 := by kernel_rfl
theorem zasj : OpA Tryd.prog 44 (fun l : List Cod => [.ro (l.map Cod.avs)]) (rdL Cod.rd (Tryd.prog.bytesOf 89)) := zff Tryd.underlying44 zaip oCod (by rw [zagx]; decide)
theorem zaed : Tryd.prog.cellsOf 45 = 1 := by kernel_rfl
theorem zasf : OpA Tryd.prog 45 (fun l : List (List UInt8) => [.ro (l.map (fun w => [.str w]))]) (rdL (fun s => s.length ≤ reachBytes) (Tryd.prog.bytesOf 9)) := zff Tryd.underlying45 zaed oStr (by rw [cStr]; decide)
theorem zvr : Tryd.prog.cellsOf 47 = 2 := by kernel_rfl
def Prg.rd (x : Prg) : Prop := rdL Cod.rd (Tryd.prog.bytesOf 89) x.codes ∧ rdL (fun s => s.length ≤ reachBytes) (Tryd.prog.bytesOf 9) x.words
theorem oPrg : OpA Tryd.prog 47 Prg.avs Prg.rd :=
  ⟨fun _ _ => zvr.symm, fun enc w base sp held fuel cs x h hw => by
    obtain ⟨hl, hf⟩ := zbg Tryd.underlying47 h hw
    rw [zvr] at hl
    obtain ⟨x0, h0, r0⟩ := hf 0 44 0 1 (by kernel_rfl) zaip zasj
    obtain ⟨x1, h1, r1⟩ := hf 1 45 1 1 (by kernel_rfl) zaed zasf
    match cs, hl with
    | [c0, c1], _ => exact ⟨⟨x0, x1⟩, ⟨h0, h1⟩, fun ρ A => ((r0 ρ A).append (r1 ρ A))⟩⟩
theorem zacx : Tryd.prog.cellsOf 86 = 4 := by kernel_rfl
def Frm.rd (x : Frm) : Prop := zdc x.fn ∧ zdc x.at_ ∧ rdL Val.rd (Tryd.prog.bytesOf 25) x.vars ∧ rdL Val.rd (Tryd.prog.bytesOf 25) x.stack
theorem oFrm : OpA Tryd.prog 86 Frm.avs Frm.rd :=
  ⟨fun _ _ => zacx.symm, fun enc w base sp held fuel cs x h hw => by
    obtain ⟨hl, hf⟩ := zbg Tryd.underlying86 h hw
    rw [zacx] at hl
    obtain ⟨x0, h0, r0⟩ := hf 0 3 0 1 (by kernel_rfl) cInt oInt
    obtain ⟨x1, h1, r1⟩ := hf 1 3 1 1 (by kernel_rfl) cInt oInt
    obtain ⟨x2, h2, r2⟩ := hf 2 23 2 1 (by kernel_rfl) zajy zaor
    obtain ⟨x3, h3, r3⟩ := hf 3 23 3 1 (by kernel_rfl) zajy zaor
    match cs, hl with
    | [c0, c1, c2, c3], _ => exact ⟨⟨x0, x1, x2, x3⟩, ⟨h0, h1, h2, h3⟩, fun ρ A => ((r0 ρ A).append ((r1 ρ A).append ((r2 ρ A).append (r3 ρ A))))⟩⟩
theorem zagv : Tryd.prog.cellsOf 48 = 1 := by kernel_rfl
theorem zash : OpA Tryd.prog 48 (fun l : List Frm => [.ro (l.map Frm.avs)]) (rdL Frm.rd (Tryd.prog.bytesOf 86)) := zff Tryd.underlying48 zagv oFrm (by rw [zacx]; decide)
theorem zzp : Tryd.prog.cellsOf 50 = 3 := by kernel_rfl
def Pmt.rd (x : Pmt) : Prop := zdc x.fuel ∧ zdc x.room ∧ zdc x.hops
theorem oPmt : OpA Tryd.prog 50 Pmt.avs Pmt.rd :=
  ⟨fun _ _ => zzp.symm, fun enc w base sp held fuel cs x h hw => by
    obtain ⟨hl, hf⟩ := zbg Tryd.underlying50 h hw
    rw [zzp] at hl
    obtain ⟨x0, h0, r0⟩ := hf 0 3 0 1 (by kernel_rfl) cInt oInt
    obtain ⟨x1, h1, r1⟩ := hf 1 3 1 1 (by kernel_rfl) cInt oInt
    obtain ⟨x2, h2, r2⟩ := hf 2 3 2 1 (by kernel_rfl) cInt oInt
    match cs, hl with
    | [c0, c1, c2], _ => exact ⟨⟨x0, x1, x2⟩, ⟨h0, h1, h2⟩, fun ρ A => ((r0 ρ A).append ((r1 ρ A).append (r2 ρ A)))⟩⟩
theorem zaiq : Tryd.prog.cellsOf 52 = 9 := by kernel_rfl
def Agt.rd (x : Agt) : Prop := zdc x.id ∧ zdc x.trip ∧ x.prog.rd ∧ rdL Frm.rd (Tryd.prog.bytesOf 86) x.frames ∧ rdL Cl.rd (Tryd.prog.bytesOf 43) x.heap ∧ x.permit.rd
theorem oAgt : OpA Tryd.prog 52 Agt.avs Agt.rd :=
  ⟨fun _ _ => zaiq.symm, fun enc w base sp held fuel cs x h hw => by
    obtain ⟨hl, hf⟩ := zbg Tryd.underlying52 h hw
    rw [zaiq] at hl
    obtain ⟨x0, h0, r0⟩ := hf 0 3 0 1 (by kernel_rfl) cInt oInt
    obtain ⟨x1, h1, r1⟩ := hf 1 3 1 1 (by kernel_rfl) cInt oInt
    obtain ⟨x2, h2, r2⟩ := hf 2 47 2 2 (by kernel_rfl) zvr oPrg
    obtain ⟨x3, h3, r3⟩ := hf 3 48 4 1 (by kernel_rfl) zagv zash
    obtain ⟨x4, h4, r4⟩ := hf 4 22 5 1 (by kernel_rfl) cCls oCls
    obtain ⟨x5, h5, r5⟩ := hf 5 50 6 3 (by kernel_rfl) zzp oPmt
    match cs, hl with
    | [c0, c1, c2, c3, c4, c5, c6, c7, c8], _ => exact ⟨⟨x0, x1, x2, x3, x4, x5⟩, ⟨h0, h1, h2, h3, h4, h5⟩, fun ρ A => ((r0 ρ A).append ((r1 ρ A).append ((r2 ρ A).append ((r3 ρ A).append ((r4 ρ A).append (r5 ρ A))))))⟩⟩
theorem zagw : Tryd.prog.cellsOf 76 = 4 := by kernel_rfl
def Fct.rd (x : Fct) : Prop := x.key.length ≤ reachBytes ∧ x.val.rd
theorem oFct : OpA Tryd.prog 76 Fct.avs Fct.rd :=
  ⟨fun _ _ => zagw.symm, fun enc w base sp held fuel cs x h hw => by
    obtain ⟨hl, hf⟩ := zbg Tryd.underlying76 h hw
    rw [zagw] at hl
    obtain ⟨x0, h0, r0⟩ := hf 0 9 0 1 (by kernel_rfl) cStr oStr
    obtain ⟨x1, h1, r1⟩ := hf 1 25 1 3 (by kernel_rfl) cVal oVal
    match cs, hl with
    | [c0, c1, c2, c3], _ => exact ⟨⟨x0, x1⟩, ⟨h0, h1⟩, fun ρ A => ((r0 ρ A).append (r1 ρ A))⟩⟩
theorem zaio : Tryd.prog.cellsOf 53 = 1 := by kernel_rfl
theorem zasi : OpA Tryd.prog 53 (fun l : List Fct => [.ro (l.map Fct.avs)]) (rdL Fct.rd (Tryd.prog.bytesOf 76)) := zff Tryd.underlying53 zaio oFct (by rw [zagw]; decide)
theorem zalw : Tryd.prog.cellsOf 55 = 4 := by kernel_rfl
def Spt.rd (x : Spt) : Prop := x.name.length ≤ reachBytes ∧ rdL Fct.rd (Tryd.prog.bytesOf 76) x.facts ∧ zdc x.fuel ∧ zdc x.cells
theorem oSpt : OpA Tryd.prog 55 Spt.avs Spt.rd :=
  ⟨fun _ _ => zalw.symm, fun enc w base sp held fuel cs x h hw => by
    obtain ⟨hl, hf⟩ := zbg Tryd.underlying55 h hw
    rw [zalw] at hl
    obtain ⟨x0, h0, r0⟩ := hf 0 9 0 1 (by kernel_rfl) cStr oStr
    obtain ⟨x1, h1, r1⟩ := hf 1 53 1 1 (by kernel_rfl) zaio zasi
    obtain ⟨x2, h2, r2⟩ := hf 2 3 2 1 (by kernel_rfl) cInt oInt
    obtain ⟨x3, h3, r3⟩ := hf 3 3 3 1 (by kernel_rfl) cInt oInt
    match cs, hl with
    | [c0, c1, c2, c3], _ => exact ⟨⟨x0, x1, x2, x3⟩, ⟨h0, h1, h2, h3⟩, fun ρ A => ((r0 ρ A).append ((r1 ρ A).append ((r2 ρ A).append (r3 ρ A))))⟩⟩
end Go.Proofs.YtejohcohkgcmhaaDoor
