/- The machine: New. What is made of two values: the document's function. The laws' first question, asked of closed facts. The machine: Pack. The machine: Pack, all of it. Words, and instructions: what the document's functions make of them. Rows of numbers. Heights: what the document's function makes of a code. Programs: what the document's function says is wrong with them. Agents: what the document's function says is wrong with one. Agents: what the document's function says is wrong with one, on. Agents: what the document's function says is wrong with one, whole. A copy; and which agents, at which places, may be. How great an agent is behind so many steps. VmTells, walked. The structs that laws are handed, read as data. What is to be shown of each function, written out. -/
import Derived.Test.YtobioljjoipimaaDoorG11
import Derived.Test.YtobioljjoipimaaDoorG10
import Derived.Test.YtobioljjoipimaaDoorG9
import Derived.Test.YtobioljjoipimaaDoorG6
import Derived.Test.YtobioljjoipimaaDoorG7
import Derived.Test.YtobioljjoipimaaDoorG8
set_option linter.unusedSimpArgs false
set_option linter.unusedVariables false
namespace Go.Proofs.YtobioljjoipimaaDoor
open Go Go.RowKit
theorem zjc.frz {H : Heap} {lo n nx : Nat} {fs : List Frm} {ss : List (AV × AV)} {fa ha : AV} {h : List Cl} {id trip : Int} {p : Prg} {m : Pmt} (ow : zjc H lo n fs ss fa h ha) (hl : nx ≤ lo) {H' : Heap} (hk : ∀ g, lo ≤ g → g < n → H' g = H g) : Frz H' nx (.agg (zhc id trip p fa ha m)) (.agg (Agt.avs ⟨id, trip, p, fs, h, m⟩)) := by
  have b : ∀ g ∈ own fa ++ (own ha ++ owns ss), nx ≤ g ∧ H' g = H g := fun g hg => by have := ow.bd g hg; exact ⟨by omega, hk g this.1 this.2⟩
  refine zvj ?_ ((ow.hp.keep fun g hg => (b g (by simp [hg])).2).frzH fun g hg => (b g (by simp [hg])).1)
  have fr := ow.frs.keep (H' := H') fun g hg => (b g (by simp [hg])).2
  rcases ow.row with ⟨h0, rfl | rfl⟩ | ⟨gf, cs, rfl, c1, c2, c3⟩
  · rw [List.eq_nil_of_length_eq_zero h0]; exact .nils
  · rw [List.eq_nil_of_length_eq_zero h0]; exact .zs
  · have := b gf (by simp [own])
    exact zai.frz fr (by rw [this.2]; exact c1) c2 c3 this.1 (fun x hx => (b x (by simp [hx])).1) rfl
def Pmt.avs (m : Pmt) : List AV := [.int .i64 m.fuel, .int .i64 m.room, .int .i64 m.hops]
end Go.Proofs.YtobioljjoipimaaDoor
set_option maxRecDepth 8000
namespace Go.Proofs.YtobioljjoipimaaDoor
open Go Go.RowKit
end Go.Proofs.YtobioljjoipimaaDoor
set_option maxRecDepth 8000
namespace Go.Proofs.YtobioljjoipimaaDoor
open Go Go.RowKit
end Go.Proofs.YtobioljjoipimaaDoor
set_option maxRecDepth 8000
namespace Go.Proofs.YtobioljjoipimaaDoor
open Go Go.RowKit
section
variable {ki : IntKind}
end
theorem znh : ∀ {ss : List (AV × AV)} {k i : Nat} {s t : AV × AV} {g : Nat}, (owns ss).Nodup → ss[k]? = some s → ss[i]? = some t → k ≠ i → g ∈ own s.1 ++ own s.2 → g ∈ own t.1 ++ own t.2 → False
  | [], k, i, s, t, g, _, h, _, _, _, _ => by simp at h
  | u :: ss, k, i, s, t, g, nd, h1, h2, hne, m1, m2 => by
    have e : owns (u :: ss) = (own u.1 ++ own u.2) ++ owns ss := by simp [owns]
    rw [e, List.nodup_append] at nd
    obtain ⟨_, n2, n3⟩ := nd
    have mem : ∀ {j : Nat} {v : AV × AV}, ss[j]? = some v → g ∈ own v.1 ++ own v.2 → g ∈ owns ss := fun hv hg => List.mem_flatMap.2 ⟨_, List.mem_of_getElem? hv, hg⟩
    match k, i with
    | 0, 0 => exact hne rfl
    | 0, i + 1 =>
      simp at h1 h2; subst h1
      exact n3 g m1 g (mem h2 m2) rfl
    | k + 1, 0 =>
      simp at h1 h2; subst h2
      exact n3 g m2 g (mem h1 m1) rfl
    | k + 1, i + 1 => exact znh n2 (by simpa using h1) (by simpa using h2) (by omega) m1 m2
theorem zai.set {H H' : Heap} {fs : List Frm} {ss : List (AV × AV)} {i : Nat} {f : Frm} {s : AV × AV} (h : zai H fs ss) (nd : (owns ss).Nodup) (hs : ss[i]? = some s) (hk : ∀ g, g ∉ own s.1 → g ∉ own s.2 → H' g = H g) (h1 : Slot H' 3 f.vars.length (rowV f.vars) s.1) (h2 : Slot H' 3 f.stack.length (rowV f.stack) s.2) : zai H' (fs.set i f) ss := by
  refine ⟨by simp [h.1], fun k f' s' hf hs' => ?_⟩
  by_cases e : k = i
  · subst e
    rw [hs] at hs'; cases hs'
    have hl : k < fs.length := by rw [← h.1]; exact (List.getElem?_eq_some_iff.1 hs).1
    rw [List.getElem?_set_self hl] at hf
    cases hf
    exact ⟨h1, h2⟩
  · rw [List.getElem?_set_ne (Ne.symm e)] at hf
    obtain ⟨q1, q2⟩ := h.2 k f' s' hf hs'
    have hd : ∀ g, (g ∈ own s'.1 ∨ g ∈ own s'.2) → g ∉ own s.1 ∧ g ∉ own s.2 := fun g hg => by
      exact ⟨fun hx => znh nd hs' hs e (List.mem_append.2 hg) (List.mem_append_left _ hx), fun hx => znh nd hs' hs e (List.mem_append.2 hg) (List.mem_append_right _ hx)⟩
    exact ⟨q1.keep fun g hg => hk g (hd g (.inl hg)).1 (hd g (.inl hg)).2, q2.keep fun g hg => hk g (hd g (.inr hg)).1 (hd g (.inr hg)).2⟩
end Go.Proofs.YtobioljjoipimaaDoor
namespace Go.Proofs.YtobioljjoipimaaDoor
open Go Go.RowKit
end Go.Proofs.YtobioljjoipimaaDoor
set_option maxRecDepth 8000
namespace Go.Proofs.YtobioljjoipimaaDoor
open Go Go.RowKit
theorem zafi (i : Ins) : QC Tryd.prog 44 [.agg i.avs] (.tup [.int .i64 (VM.effect i).1, .int .i64 (VM.effect i).2]) := by
  refine QC.of' fun H nx => zof _ H nx _ ?_
  obtain ⟨op, a, b⟩ := i
  unfold zko
  simp only [Ins.avs, zafg, zaec, true_and, List.length_cons, List.length_nil, ld_p, Heap.put_at, rowk, List.getElem?_cons_zero, optk, zajl, cnd, cndc, decide_eq_true_eq, decide_eq_false_iff_not]
  refine ⟨fun h => ?_, fun h => ?_⟩
  · simp [VM.effect, h]
  have hx : op ≠ 17 := by simpa using h
  have hH : ((H.put nx (some (.row 3 [.int .i64 op, .int .i64 a, .int .i64 b]))).put (nx + 1) (some (.mp []))) (nx + 1) = some (.mp []) := Heap.put_at _ _ _
  have hK : Keep nx ((H.put nx (some (.row 3 [.int .i64 op, .int .i64 a, .int .i64 b]))).put (nx + 1) (some (.mp []))) H := by simp
  have hop : ((H.put nx (some (.row 3 [.int .i64 op, .int .i64 a, .int .i64 b]))).put (nx + 1) (some (.mp []))) nx = some (.row 3 [.int .i64 op, .int .i64 a, .int .i64 b]) := by simp
  simp only [Nat.zero_add, Nat.reduceAdd]
  generalize ((H.put nx (some (.row 3 [.int .i64 op, .int .i64 a, .int .i64 b]))).put (nx + 1) (some (.mp []))) = H1 at *
  repeat (refine ⟨rfl, zaix hH hop (by omega) hK (by omega) (by simp only [zli, zpp, List.nil_append, List.cons_append, Int.reduceEq, if_false, Option.map_some, Option.map_none]) ?_⟩; clear hH hK hop; clear H1; intro H1 hH hop hK)
  simp only [List.nil_append, List.cons_append] at hH
  have hcases : op < 1 ∨ 19 < op ∨ op = 1 ∨ op = 2 ∨ op = 3 ∨ op = 4 ∨ op = 5 ∨ op = 6 ∨ op = 7 ∨ op = 8 ∨ op = 9 ∨ op = 10 ∨ op = 11 ∨ op = 12 ∨ op = 13 ∨ op = 14 ∨ op = 15 ∨ op = 16 ∨ op = 18 ∨ op = 19 := by omega
  have hs : ∀ p q : Int, (∃ r, zaj (.int .i64 op) [(.int .i64 1, .agg [.int .i64 0, .int .i64 1]), (.int .i64 2, .agg [.int .i64 0, .int .i64 1]), (.int .i64 3, .agg [.int .i64 0, .int .i64 1]), (.int .i64 4, .agg [.int .i64 1, .int .i64 0]), (.int .i64 5, .agg [.int .i64 2, .int .i64 1]), (.int .i64 6, .agg [.int .i64 2, .int .i64 1]), (.int .i64 7, .agg [.int .i64 1, .int .i64 1]), (.int .i64 8, .agg [.int .i64 1, .int .i64 1]), (.int .i64 9, .agg [.int .i64 2, .int .i64 0]), (.int .i64 10, .agg [.int .i64 2, .int .i64 0]), (.int .i64 11, .agg [.int .i64 1, .int .i64 1]), (.int .i64 12, .agg [.int .i64 0, .int .i64 1]), (.int .i64 13, .agg [.int .i64 1, .int .i64 1]), (.int .i64 14, .agg [.int .i64 1, .int .i64 0]), (.int .i64 15, .agg [.int .i64 0, .int .i64 0]), (.int .i64 16, .agg [.int .i64 1, .int .i64 0]), (.int .i64 18, .agg [.int .i64 1, .int .i64 0]), (.int .i64 19, .agg [.int .i64 1, .int .i64 0])] = some r ∧
      (match r with | some (_, v) => v | none => .agg [.int .i64 0, .int .i64 0]) = .agg [.int .i64 (VM.effect ⟨op, a, b⟩).1, .int .i64 (VM.effect ⟨op, a, b⟩).2]) := by
    intro _ _
    rcases hcases with h | h | h
    · have e : VM.effect ⟨op, a, b⟩ = (0, 0) := by unfold VM.effect; simp only; (repeat' split) <;> first | omega | rfl
      refine ⟨none, ?_, by rw [e]⟩
      simp only [zli, zpp]
      repeat rw [if_neg (by omega)]
      rfl
    · have e : VM.effect ⟨op, a, b⟩ = (0, 0) := by unfold VM.effect; simp only; (repeat' split) <;> first | omega | rfl
      refine ⟨none, ?_, by rw [e]⟩
      simp only [zli, zpp]
      repeat rw [if_neg (by omega)]
      rfl
    · rcases h with h | h | h | h | h | h | h | h | h | h | h | h | h | h | h | h | h | h
      all_goals subst h; exact ⟨_, by simp only [zli, Int.reduceEq, if_false, if_true, Option.map_some]; rfl, rfl⟩
  obtain ⟨r, h1, h2⟩ := hs 0 0
  rw [hop, rowk]
  simp only [List.getElem?_cons_zero, optk, zabj, true_and, lk_p, hH, mapk, h1, cond_true, cond_false]
  cases r with
  | none => simp only at h2; simp [hK, h2]
  | some pr => obtain ⟨i, v⟩ := pr; simp only at h2; simp [hK, h2]
theorem zahu (s : Str) (i : Nat) : (s.drop i).all VM.wordByte = if h : i < s.length then VM.wordByte s[i] && (s.drop (i + 1)).all VM.wordByte else true := by
  split
  · rename_i h
    rw [List.drop_eq_getElem_cons h, List.all_cons]
  · rename_i h
    rw [List.drop_of_length_le (by omega)]; rfl
theorem zafd (s : Str) (hs : s.length ≤ maxLen) : QC Tryd.prog 104 [.str s] (.bool (VM.word s)) := by
  refine fun H nx => zqn _ H nx _ ?_
  simp only [maxLen] at hs
  simp [zly]
  refine LP.mk (fun n xs H' nx' => ∃ i : Nat, i ≤ s.length ∧ n = s.length - i ∧ xs = [.str s, .int .i64 s.length, .int .i64 i] ∧ H = H' ∧ nx = nx' ∧ s.all VM.wordByte = (s.drop i).all VM.wordByte) s.length ⟨0, by omega, by omega, rfl, rfl, rfl, rfl⟩ ?_
  rintro n xs H' nx' ⟨i, hi, rfl, rfl, rfl, rfl, hall⟩
  rw [zahu] at hall
  simp [zlz]
  refine ⟨fun h => ?_, fun h => ?_⟩
  · rw [dif_pos h] at hall
    have hb : VM.wordByte s[i] = false → VM.word s = false := fun hb => by simp [VM.word, hall, hb]
    simp [h]
    refine ⟨fun h1 => hb (by simp [VM.wordByte]; omega), fun h1 => ⟨fun h2 => hb (by simp [VM.wordByte]; omega), fun h2 => ⟨fun h3 => hb (by simp [VM.wordByte]; omega), fun h3 => ?_⟩⟩⟩
    rw [i64w (by omega)]
    refine ⟨s.length - (i + 1), by omega, i + 1, by omega, rfl, by simp, ?_⟩
    have : VM.wordByte s[i] = true := by simp [VM.wordByte]; omega
    rw [hall, this]; rfl
  · rw [dif_neg (by omega)] at hall
    simp only [VM.word, hall, Bool.and_true]
    rw [Bool.eq_iff_iff]; simp; omega
end Go.Proofs.YtobioljjoipimaaDoor
set_option maxRecDepth 8000
namespace Go.Proofs.YtobioljjoipimaaDoor
open Go Go.RowKit
def zo (l : List Int) : List AV := l.map (AV.int .i64)
section
variable {k : AV → Prop} {ki : IntKind}
@[simp ↓] theorem zany {s g off len : Nat} {a : Int} {H : Heap} : SL s (.slc g off len) (some (.int ki a)) none H k = ROWK (H g) fun sz _ => sz = s ∧ 0 ≤ a ∧ a ≤ len ∧ k (.slc g (off + a.toNat * s) ((len : Int) - a).toNat) := by
  simp only [SL, zbi, lohi, qk]
  refine zdt (fun sz cs h => ?_) fun h => ?_
  · simp [h]
  · intro ha
    split at ha
    · rename_i sz cs he; exact h _ _ he
    · exact ha
end
theorem zadi (n i : Nat) (h : i < n) : List.take i (zo (List.replicate i (-1) ++ List.replicate (n - i) 0)) ++ AV.int .i64 (-1) :: List.drop (i + 1) (zo (List.replicate i (-1) ++ List.replicate (n - i) 0)) = zo (List.replicate (i + 1) (-1) ++ List.replicate (n - (i + 1)) 0) := by
  have e : n - i = (n - (i + 1)) + 1 := by omega
  rw [e, List.replicate_succ, List.replicate_succ']
  simp [zo, List.take_append, List.drop_append]
theorem zfv (l : List Int) (i : Nat) : (zo l)[i]? = (l[i]?).map (AV.int .i64) := by simp [zo]
theorem zabz (l : List Int) (i : Nat) (x : Int) (h : i < l.length) : List.take i (zo l) ++ AV.int .i64 x :: List.drop (i + 1) (zo l) = zo (l.set i x) := by
  rw [zo, zo, List.map_set, List.set_eq_take_append_cons_drop]; simp [h]
@[simp] theorem zakv (l : List Int) : (zo l).length = l.length := by simp [zo]
theorem zyr (l : List Int) : (l.map fun n => [AV.int .i64 n]).flatten = zo l := by
  induction l with
  | nil => rfl
  | cons x r ih => simp [zo] at ih ⊢; exact ih
end Go.Proofs.YtobioljjoipimaaDoor
set_option maxRecDepth 8000
namespace Go.Proofs.YtobioljjoipimaaDoor
open Go Go.RowKit
theorem app1 {g len s : Nat} {x : Int} {H : Heap} {kk : AV → Heap → Nat → Prop} {A : List Int} (hg : H g = some (.row 1 (zo A))) (hl : A.length = len) (hgs : g ≠ s) (hb : len ≤ 4194304)
    (hk : ∀ H', H' (s + 1) = some (.row 1 (zo (A ++ [x]))) → (∀ y, y ≠ g → y ≠ s → y ≠ s + 1 → H' y = H y) → kk (.slc (s + 1) 0 (len + 1)) H' (s + 1 + 1)) :
    APP 1 8 (.slc g 0 len) (.slc s 0 1) (H.put s (some (.row 1 [.int .i64 x]))) (s + 1) kk := by
  simp [hgs, hg]
  refine ⟨by omega, by omega, hk _ ?_ ?_⟩
  · simp [hl, zo]
    rw [List.take_of_length_le (by simp; omega)]
  · intro y h1 h2 h3
    simp [h1, h2, h3]
theorem app2 {ga gb la s : Nat} {x y : Int} {H : Heap} {kk : AV → AV → Heap → Nat → Prop} {A B : List Int} (hga : H ga = some (.row 1 (zo A))) (hgb : H gb = some (.row 1 (zo B))) (hA : A.length = la) (hB : B.length = la) (hab : ga ≠ gb) (ha : ga < s) (hb : gb < s) (hl : la ≤ 4194304)
    (hk : ∀ H', H' (s + 1) = some (.row 1 (zo (A ++ [x]))) → H' (s + 3) = some (.row 1 (zo (B ++ [y]))) → (∀ z, z ≠ ga → z ≠ gb → z < s → H' z = H z) → kk (.slc (s + 1) 0 (la + 1)) (.slc (s + 3) 0 (la + 1)) H' (s + 4)) :
    APP 1 8 (.slc ga 0 la) (.slc s 0 1) (H.put s (some (.row 1 [.int .i64 x]))) (s + 1) fun v H' n => APP 1 8 (.slc gb 0 la) (.slc n 0 1) (H'.put n (some (.row 1 [.int .i64 y]))) (n + 1) fun w H'' n' => kk v w H'' n' := by
  refine app1 hga hA (by omega) hl fun H1 h1 h2 => ?_
  refine app1 (A := B) (by rw [h2 gb (by omega) (by omega) (by omega)]; exact hgb) hB (by omega) hl fun H3 h3 h4 => ?_
  refine hk H3 ?_ h3 fun z p q r => ?_
  · rw [h4 _ (by omega) (by omega) (by omega)]; exact h1
  · rw [h4 _ (by omega) (by omega) (by omega), h2 _ (by omega) (by omega) (by omega)]
def RInv (c : Cod) (H0 : Heap) (n0 : Nat) (f : Nat) (xs : List AV) (H : Heap) (nx : Nat) : Prop := ∃ (q : List (Int × Int)) (out A B : List Int) (ga gb k la : Nat),
  xs = [.ptr n0 0, .slc (n0 + 1) 0 c.ins.length, .slc ga 0 la, .slc gb 0 la, .int .i64 k] ∧ A.length = la ∧ B.length = la ∧ H ga = some (.row 1 (zo A)) ∧ H gb = some (.row 1 (zo B)) ∧ A.drop k = q.map (·.1) ∧ B.drop k = q.map (·.2) ∧ k ≤ la ∧
  n0 + 1 < ga ∧ n0 + 1 < gb ∧ ga ≠ gb ∧ ga < nx ∧ gb < nx ∧ k + f = 2 * c.ins.length + 2 ∧
  H n0 = some (.row 3 c.avs) ∧ H (n0 + 1) = some (.row 1 (zo out)) ∧ out.length = c.ins.length ∧ Keep n0 H H0 ∧
  VM.heightsGo c.ins f q out = VM.heights c.ins ∧ q.length + 2 * zis out < f ∧ (∀ x ∈ q, 0 ≤ x.2 ∧ x.2 ≤ 16) ∧ (∀ x ∈ out, -1 ≤ x ∧ x ≤ 16)
set_option maxHeartbeats 4000000 in
theorem zrd (c : Cod) (hlen : c.ins.length ≤ 1048576) (hcalm : Calm c.ins) :
    QC Tryd.prog 83 [.agg c.avs] (.tup [.ro ((VM.heights c.ins).1.map fun n => [.int .i64 n]), .int .i64 (VM.heights c.ins).2]) := by
  refine QC.of' fun H nx => zmm _ H nx _ ?_
  simp [zhv, Cod.avs]
  refine ⟨by omega, by omega, ?_⟩
  refine LP.mk (fun m xs H' nx' => ∃ i : Nat, i ≤ c.ins.length ∧ m = c.ins.length - i ∧ xs = [.ptr nx 0, .slc (nx + 1) 0 c.ins.length, .int .i64 c.ins.length, .int .i64 i] ∧ nx' = nx + 2 ∧
    H' = (H.put nx (some (.row 3 c.avs))).put (nx + 1) (some (.row 1 (zo (List.replicate i (-1) ++ List.replicate (c.ins.length - i) 0))))) c.ins.length
    ⟨0, by omega, by omega, by simp, rfl, by simp [zo, Cod.avs]⟩ ?_
  rintro m xs H' nx' ⟨i, hi, rfl, rfl, rfl, rfl⟩
  simp [zhw]
  refine ⟨fun h => ?_, fun h => ?_⟩
  · refine ⟨h, by omega, ?_⟩
    rw [i64w (by omega)]
    refine ⟨c.ins.length - (i + 1), by omega, i + 1, by omega, rfl, by simp, ?_⟩
    rw [zadi _ _ h]
  obtain rfl : i = c.ins.length := by omega
  refine LP.mk (RInv c H nx) (2 * c.ins.length + 2) ⟨[(0, 0)], List.replicate c.ins.length (-1), [0], [0], nx + 2, nx + 3, 0, 1, by simp, rfl, rfl, by simp [zo], by simp [zo], rfl, rfl, by omega, by omega, by omega, by omega, by omega, by omega, by omega, by simp; omega, by simp, by simp, ?_, rfl, ?_, ?_, ?_⟩ ?_
  · rw [Keep.put (by omega), Keep.put (by omega), Keep.put (by omega), Keep.put (by omega)]; simp
  · unfold zis; simp [List.countP_replicate]; omega
  · intro x hx; simp at hx; subst hx; simp
  · intro x hx; have := List.eq_of_mem_replicate hx; omega
  rintro f xs H1 n1 ⟨q, out, A, B, ga, gb, k, la, rfl, hAl, hBl, hga, hgb, hA, hB, hk, g1, g2, g3, g4, g5, hkf, hb, ho, hol, hK, hgo, hmeas, hq, hout⟩
  cases f with
  | zero => simp at hmeas
  | succ f =>
  cases q with
  | nil =>
    have hkl : la ≤ k := by have := congrArg List.length hA; simp at this; omega
    have e : VM.heights c.ins = (out, 0) := by rw [← hgo]; rfl
    have : ¬ k < la := by omega
    simp [zan, this, e]
    refine ⟨Frz.row (sz := 1) (cells := zo out) (by omega) ho (by simp [hol]) (by simp) (zyr out) ?_, hK⟩
    intro x hx; simp [zo] at hx; obtain ⟨a, _, rfl⟩ := hx; exact .int _ _
  | cons x q =>
    obtain ⟨at_, h⟩ := x
    have hkl : k < la := by have := congrArg List.length hA; simp at this; omega
    have hA0 : A[k]? = some at_ := by have := congrArg (·[0]?) hA; simpa using this
    have hB0 : B[k]? = some h := by have := congrArg (·[0]?) hB; simpa using this
    have hA1 : A.drop (k + 1) = q.map (·.1) := by have := congrArg (List.drop 1) hA; simpa using this
    have hB1 : B.drop (k + 1) = q.map (·.2) := by have := congrArg (List.drop 1) hB; simpa using this
    have hh := hq (at_, h) (by simp)
    simp only at hh
    have hq' : ∀ x ∈ q, 0 ≤ x.2 ∧ x.2 ≤ 16 := fun x hx => hq x (by simp [hx])
    have hlaq : la = k + 1 + q.length := by have := congrArg List.length hA; simp at this; omega
    simp only [List.length_cons] at hmeas
    simp only [VM.heightsGo] at hgo
    have w0 : IntKind.i64.wrap ((k : Int) + 1) = ((k + 1 : Nat) : Int) := by rw [i64w (by omega)]; simp
    by_cases hr : 0 ≤ at_ ∧ at_ < c.ins.length
    case neg =>
      have e : (if 0 ≤ at_ then c.ins[at_.toNat]? else none) = none := by
        split
        · exact List.getElem?_eq_none (by omega)
        · rfl
      rw [e] at hgo
      simp only at hgo
      rw [← hgo]
      by_cases h0 : at_ < 0
      · simp [zan, hkl, hga, hgb, zfv, hA0, hB0, h0, hK]
      · have : (c.ins.length : Int) ≤ at_ := by omega
        simp [zan, hkl, hga, hgb, zfv, hA0, hB0, h0, this, hK]
    case pos =>
    obtain ⟨hr0, hr1⟩ := hr
    have hlt : at_.toNat < c.ins.length := by omega
    obtain ⟨i, hi⟩ : ∃ i, c.ins[at_.toNat]? = some i := ⟨_, List.getElem?_eq_getElem hlt⟩
    obtain ⟨o, ho'⟩ : ∃ o, out[at_.toNat]? = some o := ⟨_, List.getElem?_eq_getElem (by omega)⟩
    have hod : out.getD at_.toNat 0 = o := by simp [List.getD_eq_getElem?_getD, ho']
    rw [if_pos hr0, hi, hod] at hgo
    simp only at hgo
    by_cases hs : 0 ≤ o
    · rw [if_pos hs] at hgo
      by_cases hne : o = h
      · subst hne
        rw [if_neg (by simp)] at hgo
        simp [zan, hkl, hga, hgb, zfv, hA0, hB0, ho, hr0, hr1, ho', hs, Int.not_lt.2 hr0, Int.not_le.2 hr1, w0, Int.not_lt.2 hs]
        exact ⟨f, by omega, q, out, A, B, ga, gb, k + 1, la, rfl, hAl, hBl, hga, hgb, hA1, hB1, by omega, g1, g2, g3, g4, g5, by omega, hb, ho, hol, hK, hgo, by omega, hq', hout⟩
      · rw [if_pos hne] at hgo
        rw [← hgo]
        simp [zan, hkl, hga, hgb, zfv, hA0, hB0, ho, hr0, hr1, ho', hs, hne, Int.not_lt.2 hr0, Int.not_le.2 hr1, hK]
    rw [if_neg hs] at hgo
    have hbd := zhf i (hcalm i (List.mem_of_getElem? hi))
    have n1' : ga ≠ nx := by omega
    have n2' : ga ≠ nx + 1 := by omega
    have n3' : ga ≠ n1 := by omega
    have n4' : nx ≠ n1 := by omega
    have n5' : nx + 1 ≠ n1 := by omega
    have m2' : gb ≠ nx + 1 := by omega
    have m3' : gb ≠ n1 := by omega
    have hns : o < 0 := by omega
    obtain ⟨_, hi'⟩ := List.getElem?_eq_some_iff.1 hi
    simp [zan, hkl, hga, hgb, zfv, hA0, hB0, ho, hb, hr0, hr1, ho', hs, hns, hi', Cod.avs, Ins.avs, Int.not_lt.2 hr0, Int.not_le.2 hr1]
    refine ⟨by omega, QC.call (zafi i) ?_⟩
    rw [zabz _ _ _ (by omega)]
    have h2a : ((H1.put (nx + 1) (some (.row 1 (zo (out.set at_.toNat h))))).put n1 (some (.row 3 [.int .i64 i.op, .int .i64 i.a, .int .i64 i.b]))) ga = some (.row 1 (zo A)) := by simp [n2', n3', hga]
    have h2c : ((H1.put (nx + 1) (some (.row 1 (zo (out.set at_.toNat h))))).put n1 (some (.row 3 [.int .i64 i.op, .int .i64 i.a, .int .i64 i.b]))) gb = some (.row 1 (zo B)) := by simp [m2', m3', hgb]
    have h2b : ((H1.put (nx + 1) (some (.row 1 (zo (out.set at_.toNat h))))).put n1 (some (.row 3 [.int .i64 i.op, .int .i64 i.a, .int .i64 i.b]))) nx = some (.row 3 c.avs) := by simp [n4', hb]
    have h2o : ((H1.put (nx + 1) (some (.row 1 (zo (out.set at_.toNat h))))).put n1 (some (.row 3 [.int .i64 i.op, .int .i64 i.a, .int .i64 i.b]))) (nx + 1) = some (.row 1 (zo (out.set at_.toNat h))) := by simp [n5']
    have h2n : ((H1.put (nx + 1) (some (.row 1 (zo (out.set at_.toNat h))))).put n1 (some (.row 3 [.int .i64 i.op, .int .i64 i.a, .int .i64 i.b]))) n1 = some (.row 3 [.int .i64 i.op, .int .i64 i.a, .int .i64 i.b]) := by simp
    have h2K : Keep nx ((H1.put (nx + 1) (some (.row 1 (zo (out.set at_.toNat h))))).put n1 (some (.row 3 [.int .i64 i.op, .int .i64 i.a, .int .i64 i.b]))) H := by rw [Keep.put (by omega), Keep.put (by omega)]; exact hK
    generalize ((H1.put (nx + 1) (some (.row 1 (zo (out.set at_.toNat h))))).put n1 (some (.row 3 [.int .i64 i.op, .int .i64 i.a, .int .i64 i.b]))) = H2 at *
    have hu := zoz (out := out) (k := at_.toNat) (h := h) (by omega) (by omega) hh.1
    generalize hE : VM.effect i = E at *
    obtain ⟨nd, gv⟩ := E
    simp only at hbd hgo
    have w1 : IntKind.i64.wrap (h - nd) = h - nd := i64w (by omega)
    have w2 : IntKind.i64.wrap (h - nd + gv) = h - nd + gv := i64w (by omega)
    have w3 : IntKind.i64.wrap (at_ + 1) = at_ + 1 := i64w (by omega)
    by_cases hc1 : h < nd ∨ (i.op = 18 ∧ h ≠ 1)
    · rw [if_pos hc1] at hgo
      rw [← hgo]
      by_cases hc2 : h < nd
      · simp [zab, hc2, h2K]
      · have h18 : i.op = 18 := by omega
        have hnd : nd = 1 := by simp [VM.effect, h18] at hE; omega
        have h1 : 1 < h := by omega
        simp [zab, hc2, h2n, h18, h1, h2K]
    rw [if_neg hc1] at hgo
    have hc2 : ¬ h < nd := by omega
    have hc2' : nd ≤ h := by omega
    by_cases hc3 : 16 < h + gv - nd
    · rw [if_pos hc3] at hgo
      rw [← hgo]
      have hc3' : 16 < h - nd + gv := by omega
      by_cases h18 : i.op = 18
      · have h1 : h = 1 := by omega
        subst h1
        simp [zab, hc2, h2n, h18, w1, w2, hc3', h2K]
      · simp [zab, hc2, h2n, h18, w1, w2, hc3', h2K]
    rw [if_neg hc3] at hgo
    have hc4 : ¬ 16 < h - nd + gv := by omega
    have e4 : h + gv - nd = h - nd + gv := by omega
    rw [e4] at hgo
    have fin : ∀ (l : List (Int × Int)) (ga' gb' : Nat) (H3 : Heap) (n3 : Nat), VM.heightsGo c.ins f (q ++ l) (out.set at_.toNat h) = VM.heights c.ins → l.length ≤ 2 → (∀ x ∈ l, 0 ≤ x.2 ∧ x.2 ≤ 16) →
        H3 ga' = some (.row 1 (zo (A ++ l.map (·.1)))) → H3 gb' = some (.row 1 (zo (B ++ l.map (·.2)))) → nx + 1 < ga' → nx + 1 < gb' → ga' ≠ gb' → ga' < n3 → gb' < n3 →
        H3 nx = H2 nx → H3 (nx + 1) = H2 (nx + 1) → Keep nx H3 H →
        ∃ m, m < f + 1 ∧ RInv c H nx m [.ptr nx 0, .slc (nx + 1) 0 c.ins.length, .slc ga' 0 (la + l.length), .slc gb' 0 (la + l.length), .int .i64 ((k + 1 : Nat) : Int)] H3 n3 := by
      intro l ga' gb' H3 n3 p1 p2 p3 p4 p5 p6 p7 p8 p9 p10 p11 p12 p13
      refine ⟨f, by omega, q ++ l, _, A ++ l.map (·.1), B ++ l.map (·.2), ga', gb', k + 1, la + l.length, rfl, by simp [hAl], by simp [hBl], p4, p5, ?_, ?_, by omega, p6, p7, p8, p9, p10, by omega, p11.trans h2b, p12.trans h2o, by simpa using hol, p13, p1, by simp; omega, fun x hx => ?_, fun x hx => ?_⟩
      · rw [List.drop_append_of_le_length (by omega), hA1]; simp
      · rw [List.drop_append_of_le_length (by omega), hB1]; simp
      · rcases List.mem_append.1 hx with hx | hx
        · exact hq' x hx
        · exact p3 x hx
      · rcases List.mem_or_eq_of_mem_set hx with h9 | h9
        · exact hout x h9
        · omega
    have hlab : la ≤ 4194000 := by omega
    have kp : ∀ H3 : Heap, (∀ z, z ≠ ga → z ≠ gb → z < n1 + 1 → H3 z = H2 z) → Keep nx H3 H := fun H3 h3 g hg => (h3 g (by omega) (by omega) (by omega)).trans (h2K g hg)
    by_cases h15 : i.op = 15
    · simp [zab, hc2, hc2', h2n, h15, w0, w1, w2, w3, hc4, -zfg]
      refine app2 h2a h2c hAl hBl g3 (by omega) (by omega) (by omega) fun H3 q1 q2 q3 => ?_
      exact fin [(i.a, h - nd + gv)] _ _ _ _ (by simpa [h15] using hgo) (by simp) (by simp; omega) (by simpa using q1) (by simpa using q2) (by omega) (by omega) (by omega) (by omega) (by omega) (q3 _ (by omega) (by omega) (by omega)) (q3 _ (by omega) (by omega) (by omega)) (kp _ q3)
    by_cases h18 : i.op = 18
    · have h1 : h = 1 := by omega
      subst h1
      simp [zab, hc2, hc2', h2n, h18, w1, w2, w3, w0, hc4, -zfg]
      have := fin [] ga gb H2 (n1 + 1) (by simpa [h15, h18] using hgo) (by simp) (by simp) (by simpa using h2a) (by simpa using h2c) (by omega) (by omega) (by omega) (by omega) (by omega) rfl rfl h2K
      exact this
    by_cases h16 : i.op = 16
    · simp [zab, hc2, hc2', h2n, h16, w0, w1, w2, w3, hc4, -zfg]
      refine app2 h2a h2c hAl hBl g3 (by omega) (by omega) (by omega) fun H3 q1 q2 q3 => ?_
      have hn3 : H3 n1 = some (.row 3 [.int .i64 16, .int .i64 i.a, .int .i64 i.b]) := by rw [q3 _ (by omega) (by omega) (by omega), h2n, h16]
      simp [hn3, -zfg]
      refine app2 q1 q2 (by simp [hAl]) (by simp [hBl]) (by omega) (by omega) (by omega) (by omega) fun H4 r1 r2 r3 => ?_
      have q4 : ∀ z, z ≠ ga → z ≠ gb → z < n1 + 1 → H4 z = H2 z := fun z z1 z2 z3 => (r3 z (by omega) (by omega) (by omega)).trans (q3 z z1 z2 z3)
      exact fin [(at_ + 1, h - nd + gv), (i.a, h - nd + gv)] _ _ _ _ (by simpa [h15, h16, h18] using hgo) (by simp) (by simp; omega) (by simpa using r1) (by simpa using r2) (by omega) (by omega) (by omega) (by omega) (by omega) (q4 _ (by omega) (by omega) (by omega)) (q4 _ (by omega) (by omega) (by omega)) (kp _ q4)
    · simp [zab, hc2, hc2', h2n, h15, h16, h18, w0, w1, w2, w3, hc4, -zfg]
      refine app2 h2a h2c hAl hBl g3 (by omega) (by omega) (by omega) fun H3 q1 q2 q3 => ?_
      have hn3 : H3 n1 = some (.row 3 [.int .i64 i.op, .int .i64 i.a, .int .i64 i.b]) := by rw [q3 _ (by omega) (by omega) (by omega), h2n]
      simp [hn3, h15, h16, -zfg]
      exact fin [(at_ + 1, h - nd + gv)] _ _ _ _ (by simpa [h15, h16, h18] using hgo) (by simp) (by simp; omega) (by simpa using q1) (by simpa using q2) (by omega) (by omega) (by omega) (by omega) (by omega) (q3 _ (by omega) (by omega) (by omega)) (q3 _ (by omega) (by omega) (by omega)) (kp _ q3)
end Go.Proofs.YtobioljjoipimaaDoor
set_option maxRecDepth 8000
namespace Go.Proofs.YtobioljjoipimaaDoor
open Go Go.RowKit
def lm (p : Prg) (c : Cod) (i : Ins) : Int × Int :=
  if i.op = 1 then (-1073741824, 1073741824) else if i.op = 2 then (0, p.words.length - 1) else if i.op = 3 then (0, c.vars - 1) else if i.op = 4 then (0, c.vars - 1) else if i.op = 5 then (1, 5)
  else if i.op = 15 then (0, c.ins.length - 1) else if i.op = 16 then (0, c.ins.length - 1) else if i.op = 17 then (0, p.codes.length - 1) else (0, 0)
theorem zabd (p : Prg) (c : Cod) (i : Ins) (h1 : 1 ≤ i.op) (h2 : i.op ≤ 19) : VM.numbers p c i = if i.a < (lm p c i).1 ∨ (lm p c i).2 < i.a ∨ (i.op = 17 ∧ some i.b ≠ (p.codes[i.a.toNat]?).map (·.params)) ∨ (i.op ≠ 17 ∧ i.b ≠ 0) then 3 else 0 := by
  unfold VM.numbers
  rw [if_neg (by omega)]
  have : (VM.numOk p c i = false ∨ (i.op ≠ 17 ∧ i.b ≠ 0)) ↔ (i.a < (lm p c i).1 ∨ (lm p c i).2 < i.a ∨ (i.op = 17 ∧ some i.b ≠ (p.codes[i.a.toNat]?).map (·.params)) ∨ (i.op ≠ 17 ∧ i.b ≠ 0)) := by
    unfold VM.numOk lm VM.isIn
    by_cases h17 : i.op = 17
    · simp [h17]
      by_cases hb : some i.b = (p.codes[i.a.toNat]?).map (·.params)
      · simp [hb]; omega
      · simp [hb]
    · simp only [h17, if_false]
      (repeat' split) <;> simp_all <;> omega
  by_cases hq : VM.numOk p c i = false ∨ (i.op ≠ 17 ∧ i.b ≠ 0)
  · rw [if_pos hq, if_pos (this.1 hq)]
  · rw [if_neg hq, if_neg (fun h => hq (this.2 h))]
set_option maxHeartbeats 4000000 in
theorem zyj (p : Prg) (hp : p.ok) : QC Tryd.prog 82 [.agg p.avs] (.int .i64 (VM.program p)) := by
  refine QC.of' fun H nx => zml _ H nx _ ?_
  simp [zhr, Prg.avs]
  have hb0 : (H.put nx (some (.row 2 [.ro (p.codes.map Cod.avs), .ro (p.words.map fun w => [.str w])]))) nx = some (.row 2 p.avs) := by simp [Prg.avs]
  have hK0 : Keep nx (H.put nx (some (.row 2 [.ro (p.codes.map Cod.avs), .ro (p.words.map fun w => [.str w])]))) H := by simp
  generalize (H.put nx (some (.row 2 [.ro (p.codes.map Cod.avs), .ro (p.words.map fun w => [.str w])]))) = H1 at *
  refine ⟨fun h1 => by unfold VM.program; rw [if_pos (by rw [h1]; simp)], fun h1 => ?_⟩
  have hpos : 0 < p.codes.length := List.length_pos_iff.2 h1
  refine ⟨fun h2 => by unfold VM.program; rw [if_pos (by omega)], fun h2 => ⟨fun h3 => by unfold VM.program; rw [if_neg (by omega), if_pos (by omega)], fun h3 => ?_⟩⟩
  have e0 : VM.program p = if p.words.all VM.word = false then 7 else if (p.codes.getD 0 ⟨0, 0, []⟩).params ≠ 0 then 10 else if p.codes.any VM.codeRange then 3 else VM.firstErr (VM.codeErr p) p.codes := by
    unfold VM.program; rw [if_neg (by omega), if_neg (by omega)]
  obtain ⟨c0, hc0⟩ : ∃ c0, p.codes[0]? = some c0 := ⟨p.codes[0]'(by omega), List.getElem?_eq_getElem _⟩
  refine LP.mk (fun m xs H' nx' => ∃ i : Nat, i ≤ p.words.length ∧ m = p.words.length - i ∧ xs = [.ptr nx 0, .ro (p.words.map fun w => [.str w]), .int .i64 p.words.length, .int .i64 i] ∧ H1 = H' ∧ nx + 1 = nx' ∧ p.words.all VM.word = (p.words.drop i).all VM.word) p.words.length
    ⟨0, by omega, by omega, by simp, rfl, rfl, rfl⟩ ?_
  rintro m xs H' nx' ⟨i, hi, rfl, rfl, rfl, rfl, hall⟩
  by_cases hlt : i < p.words.length
  · obtain ⟨w, hw⟩ : ∃ w, p.words[i]? = some w := ⟨_, List.getElem?_eq_getElem hlt⟩
    obtain ⟨_, hw'⟩ := List.getElem?_eq_some_iff.1 hw
    rw [zahf _ _ _ _ hw] at hall
    simp [zdx, hlt, hw']
    refine QC.call (zafd w (hp w (List.mem_of_getElem? hw))) ?_
    simp [zht]
    cases hx : VM.word w
    · rw [hx] at hall
      simp [hK0]
      rw [e0, hall]; rfl
    · rw [hx] at hall
      simp
      rw [i64w (by omega)]
      exact ⟨p.words.length - (i + 1), by omega, i + 1, by omega, rfl, rfl, by simpa using hall⟩
  obtain rfl : i = p.words.length := by omega
  have hall' : p.words.all VM.word = true := by rw [hall]; simp
  rw [hall'] at e0
  simp only [Bool.true_eq_false, if_false] at e0
  obtain ⟨_, hc0'⟩ := List.getElem?_eq_some_iff.1 hc0
  have h01 : 0 < p.codes.length := by omega
  simp [zdx, hb0, Prg.avs, hc0', Cod.avs, h01]
  have hcg : p.codes.getD 0 ⟨0, 0, []⟩ = c0 := by simp [List.getD_eq_getElem?_getD, hc0]
  rw [hcg] at e0
  refine ⟨fun h4 => ⟨by rw [e0, if_pos h4], hK0⟩, fun h4 => ?_⟩
  rw [if_neg (by simpa using h4)] at e0
  refine LP.mk (fun m xs H' nx' => ∃ i : Nat, i ≤ p.codes.length ∧ m = p.codes.length - i ∧ xs = [.ptr nx 0, .ro (p.codes.map Cod.avs), .int .i64 p.codes.length, .int .i64 i] ∧ H' nx = some (.row 2 p.avs) ∧ Keep nx H' H ∧ nx < nx' ∧ p.codes.any VM.codeRange = (p.codes.drop i).any VM.codeRange) p.codes.length
    ⟨0, by omega, by omega, by simp, hb0, hK0, by omega, rfl⟩ ?_
  rintro m xs H2 n2 ⟨i, hi, rfl, rfl, hb2, hK2, hn2, hany⟩
  have hne2 : nx ≠ n2 := by omega
  by_cases hlt : i < p.codes.length
  · obtain ⟨c, hc⟩ : ∃ c, p.codes[i]? = some c := ⟨_, List.getElem?_eq_getElem hlt⟩
    obtain ⟨_, hc'⟩ := List.getElem?_eq_some_iff.1 hc
    rw [zahe _ _ _ _ hc] at hany
    have hK3 : Keep nx (H2.put n2 (some (.row 3 [.int .i64 c.params, .int .i64 c.vars, .ro (c.ins.map Ins.avs)]))) H := by rw [Keep.put (by omega)]; exact hK2
    simp [zdy, hlt, hc', Cod.avs, hK3]
    have w0 : IntKind.i64.wrap ((i : Int) + 1) = (i : Int) + 1 := i64w (by omega)
    rw [w0]
    cases hx : VM.codeRange c
    · have hx' := hx
      unfold VM.codeRange at hx'
      rw [decide_eq_false_iff_not] at hx'
      rw [hx] at hany
      refine ⟨fun _ => by omega, fun _ => ⟨fun _ => by omega, fun _ => ⟨fun _ => by omega, fun _ => ⟨fun _ => by omega, fun _ => ⟨fun he => ?_, fun _ => ⟨fun _ => by omega, fun _ => ?_⟩⟩⟩⟩⟩⟩
      · exfalso; rw [he] at hx'; simp at hx'
      · exact ⟨p.codes.length - (i + 1), by omega, i + 1, by omega, rfl, rfl, by rw [if_neg hne2, if_neg hne2]; exact hb2, by omega, by simpa using hany⟩
    · have hx' := hx
      unfold VM.codeRange at hx'
      rw [decide_eq_true_eq] at hx'
      rw [hx, Bool.true_or] at hany
      rw [hany] at e0
      simp only [if_true] at e0
      rw [e0]
      simp only [← List.length_eq_zero_iff]
      repeat' first | apply And.intro | intro _
      all_goals first | rfl | trivial | (exfalso; omega)
  obtain rfl : i = p.codes.length := by omega
  have hany' : p.codes.any VM.codeRange = false := by rw [hany]; simp
  rw [hany'] at e0
  simp only [Bool.false_eq_true, if_false] at e0
  simp [zdy, hb2, Prg.avs]
  have hr : ∀ x ∈ p.codes, VM.codeRange x = false := by simpa using hany'
  clear hany hany' hall hall' hlt hi
  refine LP.mk (fun m xs H' nx' => ∃ i : Nat, i ≤ p.codes.length ∧ m = p.codes.length - i ∧ xs = [.ptr nx 0, .ro (p.codes.map Cod.avs), .int .i64 p.codes.length, .int .i64 i] ∧ H' nx = some (.row 2 p.avs) ∧ Keep nx H' H ∧ nx < nx' ∧ VM.program p = VM.firstErr (VM.codeErr p) (p.codes.drop i)) p.codes.length
    ⟨0, by omega, by omega, by simp, hb2, hK2, by omega, by simpa using e0⟩ ?_
  clear hb2 hK2 hn2 hne2
  clear H2 n2
  rintro m xs H2 n2 ⟨k, hk, rfl, rfl, hb2, hK2, hn2, hfe⟩
  by_cases hlt : k < p.codes.length
  case neg =>
    obtain rfl : k = p.codes.length := by omega
    simp [zdz, hK2]
    rw [hfe]; simp [VM.firstErr]
  obtain ⟨c, hc⟩ : ∃ c, p.codes[k]? = some c := ⟨_, List.getElem?_eq_getElem hlt⟩
  obtain ⟨_, hc'⟩ := List.getElem?_eq_some_iff.1 hc
  have hcr := hr c (List.mem_of_getElem? hc)
  have hlen : c.ins.length ≤ 200 := by
    unfold VM.codeRange at hcr
    rw [decide_eq_false_iff_not] at hcr
    omega
  have hvars : 0 ≤ c.vars ∧ c.vars ≤ 8 := by
    unfold VM.codeRange at hcr
    rw [decide_eq_false_iff_not] at hcr
    omega
  rw [zcu _ _ _ _ hc] at hfe
  have hne2 : nx ≠ n2 := by omega
  simp [zdz, hb2, Prg.avs, hlt, hc', Cod.avs]
  refine LP.mk (fun m xs H' nx' => ∃ j : Nat, j ≤ c.ins.length ∧ m = c.ins.length - j ∧ xs = [.ptr nx 0, .ptr n2 0, .ro (p.codes.map Cod.avs), .int .i64 p.codes.length, .int .i64 k, .ro (c.ins.map Ins.avs), .int .i64 c.ins.length, .int .i64 j] ∧ H' nx = some (.row 2 p.avs) ∧ H' n2 = some (.row 3 c.avs) ∧ Keep nx H' H ∧ n2 < nx' ∧ VM.firstErr (VM.numbers p c) c.ins = VM.firstErr (VM.numbers p c) (c.ins.drop j)) c.ins.length
    ⟨0, by omega, by omega, by simp, by rw [Heap.put_ne _ _ hne2]; exact hb2, by rw [Heap.put_at]; rfl, by rw [Keep.put (by omega)]; exact hK2, by omega, by simp⟩ ?_
  rintro m xs H3 n3 ⟨j, hj, rfl, rfl, hb3, hc3, hK3, hn3, hfj⟩
  have hne : nx ≠ n3 := by omega
  have hne' : n2 ≠ n3 := by omega
  by_cases hjl : j < c.ins.length
  · obtain ⟨i, hi⟩ : ∃ i, c.ins[j]? = some i := ⟨_, List.getElem?_eq_getElem hjl⟩
    obtain ⟨_, hi'⟩ := List.getElem?_eq_some_iff.1 hi
    rw [zcu _ _ _ _ hi] at hfj
    have hK4 : Keep nx (H3.put n3 (some (.row 3 [.int .i64 i.op, .int .i64 i.a, .int .i64 i.b]))) H := by rw [Keep.put (by omega)]; exact hK3
    have hb4 : (H3.put n3 (some (.row 3 [.int .i64 i.op, .int .i64 i.a, .int .i64 i.b]))) nx = some (.row 2 p.avs) := by rw [Heap.put_ne _ _ hne]; exact hb3
    have hc4 : (H3.put n3 (some (.row 3 [.int .i64 i.op, .int .i64 i.a, .int .i64 i.b]))) n2 = some (.row 3 c.avs) := by rw [Heap.put_ne _ _ hne']; exact hc3
    have hi4 : (H3.put n3 (some (.row 3 [.int .i64 i.op, .int .i64 i.a, .int .i64 i.b]))) n3 = some (.row 3 [.int .i64 i.op, .int .i64 i.a, .int .i64 i.b]) := by rw [Heap.put_at]
    simp [zea, hjl, hi', Ins.avs]
    generalize (H3.put n3 (some (.row 3 [.int .i64 i.op, .int .i64 i.a, .int .i64 i.b]))) = H4 at *
    have hbad : VM.numbers p c i ≠ 0 → VM.program p = VM.numbers p c i := by
      intro hz
      rw [if_pos hz] at hfj
      have : VM.codeErr p c = VM.numbers p c i := by unfold VM.codeErr; rw [hfj, if_pos hz]
      rw [hfe, this, if_pos hz]
    refine ⟨fun ho => ?_, fun ho1 => ⟨fun ho => ?_, fun ho2 => ?_⟩⟩
    · have e : VM.numbers p c i = 1 := by unfold VM.numbers; rw [if_pos (by omega)]
      exact ⟨by rw [hbad (by omega), e], hK4⟩
    · have e : VM.numbers p c i = 1 := by unfold VM.numbers; rw [if_pos (by omega)]
      exact ⟨by rw [hbad (by omega), e], hK4⟩
    refine JN.cut (fun xs H' nx' => xs = [.ptr nx 0, .ptr n2 0, .ptr n3 0, .int .i64 (lm p c i).1, .int .i64 (lm p c i).2, .ro (p.codes.map Cod.avs), .int .i64 p.codes.length, .int .i64 k, .ro (c.ins.map Ins.avs), .int .i64 c.ins.length, .int .i64 j] ∧ H4 = H' ∧ n3 + 1 = nx') ?_ ?_
    · rintro xs H' nx' ⟨rfl, rfl, rfl⟩
      have hnl := zabd p c i ho1 ho2
      have hgo : VM.numbers p c i = 0 → ∃ m, m < c.ins.length - j ∧ ∃ j', j' ≤ c.ins.length ∧ m = c.ins.length - j' ∧ (j : Int) + 1 = j' ∧ H4 nx = some (.row 2 p.avs) ∧ H4 n2 = some (.row 3 c.avs) ∧ Keep nx H4 H ∧ n2 < n3 + 1 ∧ VM.firstErr (VM.numbers p c) c.ins = VM.firstErr (VM.numbers p c) (List.drop j' c.ins) := by
        intro hz
        rw [if_neg (by simpa using hz)] at hfj
        exact ⟨c.ins.length - (j + 1), by omega, j + 1, by omega, rfl, rfl, hb4, hc4, hK4, by omega, hfj⟩
      have w0 : IntKind.i64.wrap ((j : Int) + 1) = (j : Int) + 1 := i64w (by omega)
      have hbad3 : VM.numbers p c i = 3 → VM.program p = 3 := fun hz => by rw [hbad (by omega), hz]
      by_cases h17 : i.op = 17
      · have hl1 : (lm p c i).1 = 0 := by simp [lm, h17]
        have hl2 : (lm p c i).2 = (p.codes.length : Int) - 1 := by simp [lm, h17]
        simp [zeb, hi4, hb4, Prg.avs, w0, h17]
        rw [hl1, hl2] at hnl ⊢
        refine ⟨fun ha => ⟨hbad3 (by rw [hnl, if_pos (.inl ha)]), hK4⟩, fun ha => ⟨fun hb => ⟨hbad3 (by rw [hnl, if_pos (.inr (.inl hb))]), hK4⟩, fun hb => ⟨ha, by omega, zaia (by omega) fun x hx => ?_⟩⟩⟩
        simp [Cod.avs]
        refine ⟨fun hp' => ⟨hbad3 (by rw [hnl, if_pos (.inr (.inr (.inl ⟨h17, by rw [hx]; simpa using hp'⟩)))]), hK4⟩, fun hp' => ?_⟩
        have hz : VM.numbers p c i = 0 := by rw [hnl, if_neg (by rw [hx]; simp [hp', h17]; omega)]
        have := hgo hz
        simpa [hb4, Prg.avs, Cod.avs] using this
      · simp [zeb, hi4, hb4, Prg.avs, w0, h17]
        refine ⟨fun ha => ⟨hbad3 (by rw [hnl, if_pos (.inl ha)]), hK4⟩, fun ha => ⟨fun hb => ⟨hbad3 (by rw [hnl, if_pos (.inr (.inl hb))]), hK4⟩, fun hb => ⟨fun hp' => ⟨hbad3 (by rw [hnl, if_pos (.inr (.inr (.inr ⟨h17, hp'⟩)))]), hK4⟩, fun hp' => ?_⟩⟩⟩
        have hz : VM.numbers p c i = 0 := by rw [hnl, if_neg (by simp [hp', h17]; omega)]
        have := hgo hz
        simpa [hb4, Prg.avs] using this
    · have q1 : IntKind.i64.wrap ((p.words.length : Int) - 1) = (p.words.length : Int) - 1 := i64w (by omega)
      have q2 : IntKind.i64.wrap (c.vars - 1) = c.vars - 1 := i64w (by omega)
      have q3 : IntKind.i64.wrap ((c.ins.length : Int) - 1) = (c.ins.length : Int) - 1 := i64w (by omega)
      have q4 : IntKind.i64.wrap ((p.codes.length : Int) - 1) = (p.codes.length : Int) - 1 := i64w (by omega)
      simp [zhu, hb4, hc4, Prg.avs, Cod.avs, q1, q2, q3, q4]
      repeat' first | apply And.intro | intro _
      all_goals simp [lm, *]
  obtain rfl : j = c.ins.length := by omega
  have hz : VM.firstErr (VM.numbers p c) c.ins = 0 := by rw [hfj]; simp [VM.firstErr]
  have hce : VM.codeErr p c = (VM.heights c.ins).2 := by unfold VM.codeErr; rw [if_neg (by simpa using hz)]
  rw [hce] at hfe
  simp [zea, hb3, hc3, Prg.avs, hlt, hc', Cod.avs]
  refine QC.call (zrd c (by omega) (zzp hr (zay hz))) ?_
  simp [zhs]
  refine ⟨fun h0 => ⟨?_, hK3⟩, fun h0 => ?_⟩
  · rw [if_pos h0] at hfe; exact hfe
  · rw [if_neg (by simpa using h0)] at hfe
    rw [i64w (by omega)]
    exact ⟨p.codes.length - (k + 1), by omega, k + 1, by omega, rfl, rfl, hb3, hK3, by omega, hfe⟩
end Go.Proofs.YtobioljjoipimaaDoor
set_option maxRecDepth 8000
namespace Go.Proofs.YtobioljjoipimaaDoor
open Go Go.RowKit
def fl (l : List Val) : List AV := (l.map Val.avs).flatten
theorem zzk (v : Val) (l : List Val) : fl (v :: l) = v.avs ++ fl l := rfl
theorem zadh (l m : List Val) : fl (l ++ m) = fl l ++ fl m := by simp [fl]
theorem zxl (l : List Val) : (fl l).length = l.length * 3 := by
  induction l with
  | nil => rfl
  | cons v r ih => rw [zzk, List.length_append, ih, zzt, List.length_cons]; omega
theorem zadg (l : List Val) : ∀ x ∈ fl l, x.one = true := by
  intro x hx
  simp [fl] at hx
  obtain ⟨_, ⟨v, _, rfl⟩, h⟩ := hx
  unfold Val.avs at h
  simp at h
  rcases h with rfl | rfl | rfl <;> rfl
theorem zakj (l : List Val) (j : Nat) (v : Val) (h : l[j]? = some v) : ((fl l).drop (j * 3)).take 3 = v.avs := by
  induction l generalizing j with
  | nil => simp at h
  | cons w r ih =>
    cases j with
    | zero => simp at h; subst h; rfl
    | succ j =>
      rw [zzk, List.drop_append, List.drop_of_length_le (by simp; omega), zzt, show (j + 1) * 3 - 3 = j * 3 by omega, List.nil_append]
      exact ih j (by simpa using h)
set_option maxHeartbeats 4000000 in
theorem zre (a : Agt) (k : Nat) (f : Frm) (hv : Int) (away : Bool) (r1 r2 : AV) (H H0 : Heap) (nx n0 g b0 : Nat) (K : J3) (R : Int) (hg : H g = some (.row 9 a.avs)) (hgn : g < nx) (hb : H b0 = some (.row 4 f.avs)) (hbn : b0 < nx) (hn0 : n0 ≤ nx) (hK : Keep n0 H H0) (hvl : f.vars.length ≤ 8) (hb16 : hv ≤ 16) (hk12 : k ≤ 12)
    (hbad : zbz a f.vars f.stack hv ≠ 0 → R = zbz a f.vars f.stack hv)
    (hgo : zbz a f.vars f.stack hv = 0 → ∀ H' nx', H' g = some (.row 9 a.avs) → Keep n0 H' H0 → nx ≤ nx' → K [.bool away, .ptr g 0, r1, r2, .int .i64 (k + 1)] H' nx') :
    zav (fun v H' _ => Frz H' n0 v (.int .i64 R) ∧ Keep n0 H' H0) K [.bool away, .ptr g 0, .ptr b0 0, .int .i64 hv, r1, r2, .int .i64 k] H nx := by
  by_cases h1 : hv < 0 ∨ (f.stack.length : Int) ≠ hv
  · have e : zbz a f.vars f.stack hv = 10 := by unfold zbz; rw [if_pos h1]
    have hR := hbad (by omega)
    rw [hR, e]
    by_cases h2 : hv < 0
    · simp [zav, h2, hK]
    · have h3 : ¬ hv = (f.stack.length : Int) := by omega
      simp [zav, h2, h3, hK, hb, Frm.avs]
  have e : zbz a f.vars f.stack hv = VM.firstErr (fun v => VM.wrong v a.heap.length) (f.vars ++ f.stack) := by unfold zbz; rw [if_neg h1]
  rw [e] at hbad hgo
  have h2 : ¬ hv < 0 := by omega
  have h3 : hv = (f.stack.length : Int) := by omega
  have n1' : b0 ≠ nx := by omega
  have n2' : b0 ≠ nx + 1 := by omega
  have hs1 : ∀ H : Heap, zf 3 H (.ro (f.vars.map Val.avs)) = some (f.vars.length, fl f.vars, []) := fun H => by rw [zss (by simp)]; simp [fl]
  have hs2 : ∀ H : Heap, zf 3 H (.ro (f.stack.map Val.avs)) = some (f.stack.length, fl f.stack, []) := fun H => by rw [zss (by simp)]; simp [fl]
  simp [zav, h2, h3, hb, Frm.avs, n1', n2', -zss, hs1, hs2]
  have htk : List.take (f.vars.length * 3) (fl f.vars) = fl f.vars := List.take_of_length_le (by rw [zxl]; omega)
  rw [htk, ← zadh]
  refine ⟨fun h => by omega, zadg _, by omega, zadg _, by rw [zxl]; omega, by omega, by omega, by omega, ?_⟩
  have hll : (f.vars ++ f.stack).length = f.vars.length + f.stack.length := by simp
  generalize f.vars ++ f.stack = l at *
  refine LP.mk (fun m xs H' nx' => ∃ (j : Nat), j ≤ l.length ∧ m = l.length - j ∧ xs = [.bool away, .ptr g 0, r1, r2, .int .i64 k, .slc (nx + 1 + 1) 0 l.length, .int .i64 l.length, .int .i64 j] ∧ H' (nx + 1 + 1) = some (.row 3 (fl l)) ∧ H' g = some (.row 9 a.avs) ∧ Keep n0 H' H0 ∧ nx + 2 < nx' ∧
    VM.firstErr (fun v => VM.wrong v a.heap.length) l = VM.firstErr (fun v => VM.wrong v a.heap.length) (l.drop j)) l.length
    ⟨0, by omega, by omega, by simp [hll], by simp, ?_, ?_, by omega, rfl⟩ ?_
  · rw [Heap.put_ne _ _ (by omega), Heap.put_ne _ _ (by omega), Heap.put_ne _ _ (by omega)]; exact hg
  · rw [Keep.put (by omega), Keep.put (by omega), Keep.put (by omega)]; exact hK
  rintro m xs H2 n2 ⟨j, hj, rfl, rfl, hb2, hg2, hK2, hn2, hfj⟩
  by_cases hjl : j < l.length
  · obtain ⟨v, hv'⟩ : ∃ v, l[j]? = some v := ⟨_, List.getElem?_eq_getElem hjl⟩
    have m1 : g ≠ n2 := by omega
    have m2 : nx + 1 + 1 ≠ n2 := by omega
    have hfa := zakj l j v hv'
    have hlen3 : j * 3 + 3 ≤ (fl l).length := by rw [zxl]; omega
    simp only [Val.avs] at hfa
    simp [zfk, hjl, hb2, hfa, hg2, m1, Agt.avs, hlen3]
    refine QC.call (zkx v _) ?_
    simp [zkt]
    rw [zcu _ _ _ _ hv'] at hfj
    have hK3 : Keep n0 (H2.put n2 (some (.row 3 [.int .i64 v.kind, .int .i64 v.n, .str v.text]))) H0 := by rw [Keep.put (by omega)]; exact hK2
    refine ⟨fun hz => ⟨?_, hK3⟩, fun hz => ?_⟩
    · rw [if_pos hz] at hfj
      rw [hbad (by rw [hfj]; exact hz), hfj]
    · rw [if_neg (by simpa using hz)] at hfj
      rw [i64w (by omega)]
      exact ⟨l.length - (j + 1), by omega, j + 1, by omega, rfl, rfl, by rw [if_neg m2]; exact hb2, by rw [if_neg m1]; exact hg2, hK3, by omega, hfj⟩
  obtain rfl : j = l.length := by omega
  have hz : VM.firstErr (fun v => VM.wrong v a.heap.length) l = 0 := by rw [hfj]; simp [VM.firstErr]
  simp [zfk]
  rw [i64w (by omega)]
  exact hgo hz _ _ hg2 hK2 (by omega)
end Go.Proofs.YtobioljjoipimaaDoor
set_option maxRecDepth 8000
namespace Go.Proofs.YtobioljjoipimaaDoor
open Go Go.RowKit
set_option maxHeartbeats 4000000 in
theorem zyn (a : Agt) (k : Nat) (away : Bool) (H H0 : Heap) (nx n0 g : Nat) (K : J3) (R : Int) (hg : H g = some (.row 9 a.avs)) (hgn : g < nx) (hn0 : n0 ≤ nx) (hK : Keep n0 H H0) (hk : k < a.frames.length) (hl : a.frames.length ≤ 12) (hp : VM.program a.prog = 0)
    (hbad : VM.frame a k away ≠ 0 → R = VM.frame a k away)
    (hgo : VM.frame a k away = 0 → ∀ H' nx', H' g = some (.row 9 a.avs) → Keep n0 H' H0 → nx ≤ nx' → K [.bool away, .ptr g 0, .ro (a.frames.map Frm.avs), .int .i64 a.frames.length, .int .i64 (k + 1)] H' nx') :
    zae (fun v H' _ => Frz H' n0 v (.int .i64 R) ∧ Keep n0 H' H0) K [.bool away, .ptr g 0, .ro (a.frames.map Frm.avs), .int .i64 a.frames.length, .int .i64 k] H nx := by
  obtain ⟨f, hf⟩ : ∃ f, a.frames[k]? = some f := ⟨_, List.getElem?_eq_getElem hk⟩
  obtain ⟨_, hf'⟩ := List.getElem?_eq_some_iff.1 hf
  obtain ⟨fn, at_, vs, st⟩ := f
  have hgx : g ≠ nx := by omega
  have hgx1 : g ≠ nx + 1 := by omega
  have hKf : ∀ o, Keep n0 (H.put nx o) H0 := fun o => by rw [Keep.put (by omega)]; exact hK
  have hKf2 : ∀ o o', Keep n0 ((H.put nx o).put (nx + 1) o') H0 := fun o o' => by rw [Keep.put (by omega), Keep.put (by omega)]; exact hK
  by_cases h1 : 0 ≤ fn ∧ fn < a.prog.codes.length
  case neg =>
    have e : VM.frame a k away = 3 := by
      unfold VM.frame
      rw [hf]
      have : (if 0 ≤ fn then a.prog.codes[fn.toNat]? else none) = none := by
        split
        · exact List.getElem?_eq_none (by omega)
        · rfl
      simp only [this]
    have hR := hbad (by omega)
    rw [hR, e]
    by_cases h0 : fn < 0
    · simp [zae, hg, Agt.avs, hk, hf', Frm.avs, h0, hKf]
    · have : (a.prog.codes.length : Int) ≤ fn := by omega
      simp [zae, hg, Agt.avs, hk, hf', Frm.avs, h0, this, hKf, hgx]
  obtain ⟨h10, h11⟩ := h1
  obtain ⟨n, rfl⟩ : ∃ n : Nat, fn = n := ⟨fn.toNat, by omega⟩
  have hnl : n < a.prog.codes.length := by omega
  obtain ⟨c, hc⟩ : ∃ c, a.prog.codes[n]? = some c := ⟨_, List.getElem?_eq_getElem hnl⟩
  obtain ⟨_, hc'⟩ := List.getElem?_eq_some_iff.1 hc
  obtain ⟨hcr, hcalm, hch⟩ := (zu hp).1 c (List.mem_of_getElem? hc)
  have hcr' : ¬ (c.params < 0 ∨ 4 < c.params ∨ c.vars < c.params ∨ 8 < c.vars ∨ c.ins.length < 1 ∨ 200 < c.ins.length) := by
    unfold VM.codeRange at hcr
    rwa [decide_eq_false_iff_not] at hcr
  have hnn : ¬ (a.prog.codes.length ≤ n) := by omega
  have hn0' : ¬ ((n : Int) < 0) := by omega
  by_cases h2 : (0 ≤ at_ ∧ at_ < c.ins.length) ∧ (vs.length : Int) = c.vars
  case neg =>
    have e : VM.frame a k away = 3 := by
      unfold VM.frame
      rw [hf]
      simp only [Int.toNat_natCast]
      rw [if_pos (by omega), hc]
      simp only
      by_cases hat : 0 ≤ at_ ∧ at_ < c.ins.length
      · rw [if_pos hat.1, List.getElem?_eq_getElem (by omega)]
        simp only
        rw [if_pos (by omega)]
      · have : (if 0 ≤ at_ then c.ins[at_.toNat]? else none) = none := by
          split
          · exact List.getElem?_eq_none (by omega)
          · rfl
        simp only [this]
    have hR := hbad (by omega)
    rw [hR, e]
    by_cases h0 : at_ < 0
    · simp [zae, hg, Agt.avs, hk, hf', Frm.avs, hn0', hnn, hnl, hc', h0, Cod.avs, hKf, hKf2, hgx, hgx1]
    · by_cases h3 : (c.ins.length : Int) ≤ at_
      · simp [zae, hg, Agt.avs, hk, hf', Frm.avs, hn0', hnn, hnl, hc', h0, h3, Cod.avs, hKf, hKf2, hgx, hgx1]
      · have h4 : ¬ (vs.length : Int) = c.vars := by omega
        simp [zae, hg, Agt.avs, hk, hf', Frm.avs, hn0', hnn, hnl, hc', h0, h3, h4, Cod.avs, hKf, hKf2, hgx, hgx1]
  obtain ⟨⟨h20, h21⟩, h22⟩ := h2
  obtain ⟨m, rfl⟩ : ∃ m : Nat, at_ = m := ⟨at_.toNat, by omega⟩
  have hml : m < c.ins.length := by omega
  have hm0' : ¬ ((m : Int) < 0) := by omega
  obtain ⟨hhl, hhb⟩ := zcc hcalm hch
  obtain ⟨h, hh⟩ : ∃ h, (VM.heights c.ins).1[m]? = some h := ⟨_, List.getElem?_eq_getElem (by omega)⟩
  obtain ⟨hm1, hh'⟩ := List.getElem?_eq_some_iff.1 hh
  have hhb' := hhb h (List.mem_of_getElem? hh)
  have hfe := zafz (away := away) hf hc hml h22 rfl hh
  have hnm : ¬ (c.ins.length ≤ m) := by omega
  simp [zae, hg, Agt.avs, hk, hf', Frm.avs, hn0', hnn, hnl, hc', h22, Cod.avs, hm0', hml, hnm, hgx, hgx1]
  refine QC.call (zrd c (by omega) hcalm) ?_
  have hg2 : ((H.put nx (some (.row 4 [.int .i64 n, .int .i64 m, .ro (vs.map Val.avs), .ro (st.map Val.avs)]))).put (nx + 1) (some (.row 3 [.int .i64 c.params, .int .i64 c.vars, .ro (c.ins.map Ins.avs)]))) g = some (.row 9 a.avs) := by rw [Heap.put_ne _ _ hgx1, Heap.put_ne _ _ hgx]; exact hg
  have hf2 : ((H.put nx (some (.row 4 [.int .i64 n, .int .i64 m, .ro (vs.map Val.avs), .ro (st.map Val.avs)]))).put (nx + 1) (some (.row 3 [.int .i64 c.params, .int .i64 c.vars, .ro (c.ins.map Ins.avs)]))) nx = some (.row 4 [.int .i64 n, .int .i64 m, .ro (vs.map Val.avs), .ro (st.map Val.avs)]) := by rw [Heap.put_ne _ _ (by omega), Heap.put_at]
  have hc2 : ((H.put nx (some (.row 4 [.int .i64 n, .int .i64 m, .ro (vs.map Val.avs), .ro (st.map Val.avs)]))).put (nx + 1) (some (.row 3 [.int .i64 c.params, .int .i64 c.vars, .ro (c.ins.map Ins.avs)]))) (nx + 1) = some (.row 3 [.int .i64 c.params, .int .i64 c.vars, .ro (c.ins.map Ins.avs)]) := Heap.put_at _ _ _
  have hK2 := hKf2 (some (.row 4 [.int .i64 n, .int .i64 m, .ro (vs.map Val.avs), .ro (st.map Val.avs)])) (some (.row 3 [.int .i64 c.params, .int .i64 c.vars, .ro (c.ins.map Ins.avs)]))
  generalize ((H.put nx (some (.row 4 [.int .i64 n, .int .i64 m, .ro (vs.map Val.avs), .ro (st.map Val.avs)]))).put (nx + 1) (some (.row 3 [.int .i64 c.params, .int .i64 c.vars, .ro (c.ins.map Ins.avs)]))) = H1 at *
  have w1 : IntKind.i64.wrap ((a.frames.length : Int) - 1) = (a.frames.length : Int) - 1 := i64w (by omega)
  have hvl : vs.length ≤ 8 := by omega
  simp [zks, hf2, hm1, hh', hg2, Agt.avs, w1]
  refine JN.same ?_
  simp [zku]
  refine JN.same ?_
  have key : zbf (fun v H' _ => Frz H' n0 v (.int .i64 R) ∧ Keep n0 H' H0) (zav (fun v H' _ => Frz H' n0 v (.int .i64 R) ∧ Keep n0 H' H0) K)
      [.bool away, .ptr g 0, .int .i64 k, .ptr nx 0, .ptr (nx + 1) 0, .ro ((VM.heights c.ins).1.map fun n => [.int .i64 n]), .int .i64 h, .bool (decide (k + 1 = a.frames.length)), .ro (a.frames.map Frm.avs), .int .i64 a.frames.length, .int .i64 k, .bool (!decide (k + 1 = a.frames.length) || away)] H1 (nx + 2) := by
    cases hw : (!decide (k + 1 = a.frames.length) || away)
    · rw [hw] at hfe
      simp only [Bool.false_and, Bool.false_eq_true, if_false] at hfe
      rw [hfe] at hbad hgo
      simp [zbf]
      exact zre a k ⟨n, m, vs, st⟩ h away _ _ H1 H0 (nx + 2) n0 g nx K R hg2 (by omega) hf2 (by omega) (by omega) hK2 hvl hhb'.2 (by omega) hbad fun h0 H' nx' q1 q2 q3 => hgo h0 H' nx' q1 q2 (by omega)
    rw [hw] at hfe
    simp only [Bool.true_and, if_true] at hfe
    cases m with
    | zero =>
      have e10 : VM.frame a k away = 10 := by rw [hfe]; simp
      have hR := hbad (by omega)
      rw [hR, e10]
      have w2 : IntKind.i64.wrap (h - 1) = h - 1 := i64w (by omega)
      simp [zbf, hf2, hK2]
    | succ m =>
    have h00 : ¬ ((m : Int) + 1 = 0) := by omega
    have w2 : IntKind.i64.wrap (h - 1) = h - 1 := i64w (by omega)
    have w3 : IntKind.i64.wrap (m : Int) = m := i64w (by omega)
    have hml' : m < c.ins.length := by omega
    obtain ⟨i, hi⟩ : ∃ i, c.ins[m]? = some i := ⟨_, List.getElem?_eq_getElem hml'⟩
    obtain ⟨_, hi'⟩ := List.getElem?_eq_some_iff.1 hi
    obtain ⟨q, hq⟩ : ∃ q, (VM.heights c.ins).1[m]? = some q := ⟨_, List.getElem?_eq_getElem (by omega)⟩
    obtain ⟨hqm, hq'⟩ := List.getElem?_eq_some_iff.1 hq
    have z1 : nx ≠ nx + 2 := by omega
    have z2 : nx + 1 ≠ nx + 2 := by omega
    have z3 : g ≠ nx + 2 := by omega
    have hg3 : (H1.put (nx + 2) (some (.row 3 [.int .i64 i.op, .int .i64 i.a, .int .i64 i.b]))) g = some (.row 9 a.avs) := by rw [Heap.put_ne _ _ z3]; exact hg2
    have hf3 : (H1.put (nx + 2) (some (.row 3 [.int .i64 i.op, .int .i64 i.a, .int .i64 i.b]))) nx = some (.row 4 [.int .i64 n, .int .i64 ((m + 1 : Nat) : Int), .ro (vs.map Val.avs), .ro (st.map Val.avs)]) := by rw [Heap.put_ne _ _ z1]; exact hf2
    have hi3 : (H1.put (nx + 2) (some (.row 3 [.int .i64 i.op, .int .i64 i.a, .int .i64 i.b]))) (nx + 2) = some (.row 3 [.int .i64 i.op, .int .i64 i.a, .int .i64 i.b]) := Heap.put_at _ _ _
    have hK3 : Keep n0 (H1.put (nx + 2) (some (.row 3 [.int .i64 i.op, .int .i64 i.a, .int .i64 i.b]))) H0 := by rw [Keep.put (by omega)]; exact hK2
    have hbp : zmh a k c (VM.heights c.ins).1 (m + 1) = ((!decide (k + 1 = a.frames.length) && (decide (i.op ≠ 17) || decide (i.a ≠ ((a.frames[k + 1]?).map (·.fn)).getD 0))) || (decide (k + 1 = a.frames.length) && decide (i.op ≠ 13)) || decide (q < 0)) := by
      unfold zmh
      simp only [Nat.add_sub_cancel, List.getD_eq_getElem?_getD, hi, hq, Option.getD_some]
    have hbadv : zmh a k c (VM.heights c.ins).1 (m + 1) = true → R = 10 := fun hb => by
      have : VM.frame a k away = 10 := by rw [hfe, if_pos (by simp [hb])]
      rw [hbad (by omega), this]
    have hfin : zmh a k c (VM.heights c.ins).1 (m + 1) = false → zav (fun v H' _ => Frz H' n0 v (.int .i64 R) ∧ Keep n0 H' H0) K [.bool away, .ptr g 0, .ptr nx 0, .int .i64 (h - 1), .ro (a.frames.map Frm.avs), .int .i64 a.frames.length, .int .i64 k] (H1.put (nx + 2) (some (.row 3 [.int .i64 i.op, .int .i64 i.a, .int .i64 i.b]))) (nx + 2 + 1) := by
      intro hb
      have e : VM.frame a k away = zbz a vs st (h - 1) := by rw [hfe, if_neg (by simp [hb]; omega)]
      rw [e] at hbad hgo
      exact zre a k ⟨n, ((m + 1 : Nat) : Int), vs, st⟩ (h - 1) away _ _ _ H0 (nx + 2 + 1) n0 g nx K R hg3 (by omega) hf3 (by omega) (by omega) hK3 hvl (by omega) (by omega) hbad fun h0 H' nx' q1 q2 q3 => hgo h0 H' nx' q1 q2 (by omega)
    rw [hbp] at hfin hbadv
    by_cases hlast : k + 1 = a.frames.length
    · simp [hlast] at hfin hbadv
      simp [zbf, hf2, hc2, h00, w2, w3, hml', hi', Ins.avs, z1, z2, hqm, hq', hlast]
      refine ⟨fun hq0 => ⟨fun h13 => ⟨hbadv (.inl h13), hK3⟩, fun h13 => hfin h13 hq0⟩, fun hq0 => ⟨hbadv (.inr hq0), hK3⟩⟩
    · have hk2 : k + 1 < a.frames.length := by omega
      obtain ⟨f2, hf2'⟩ : ∃ f2, a.frames[k + 1]? = some f2 := ⟨_, List.getElem?_eq_getElem hk2⟩
      obtain ⟨_, hf2''⟩ := List.getElem?_eq_some_iff.1 hf2'
      rw [hf2'] at hfin hbadv
      simp [hlast] at hfin hbadv
      have w4 : IntKind.i64.wrap ((k : Int) + 1) = (k : Int) + 1 := i64w (by omega)
      have hk2i : (k : Int) + 1 < a.frames.length := by omega
      have hk0 : (0 : Int) ≤ (k : Int) + 1 := by omega
      have htn : ((k : Int) + 1).toNat = k + 1 := by omega
      simp [zbf, hf2, hc2, h00, w2, w3, w4, hml', hi', Ins.avs, z1, z2, z3, hqm, hq', hlast, hg2, Agt.avs, hk2i, hk0, htn, hk2, hf2'', Frm.avs]
      refine ⟨fun hq0 => ⟨fun h17 => ⟨fun ha => ⟨hbadv (.inl (.inr ha)), hK3⟩, fun ha => hfin h17 ha hq0⟩, fun h17 => ⟨hbadv (.inl (.inl h17)), hK3⟩⟩, fun hq0 => ⟨hbadv (.inr hq0), hK3⟩⟩
  by_cases hlast : k + 1 = a.frames.length
  · have l2 : (k : Int) = (a.frames.length : Int) - 1 := by omega
    simp [zfm, l2]
    simp [hlast, l2] at key
    exact key
  · have l2 : ¬ (k : Int) = (a.frames.length : Int) - 1 := by omega
    simp [zfm, l2]
    simp [hlast] at key
    exact key
end Go.Proofs.YtobioljjoipimaaDoor
set_option maxRecDepth 8000
namespace Go.Proofs.YtobioljjoipimaaDoor
open Go Go.RowKit
set_option maxHeartbeats 4000000 in
theorem zaem (a : Agt) (away : Bool) (ha : a.prog.ok) (hhl : a.heap.length ≤ 4611686018427387904) : QC Tryd.prog 56 [.agg a.avs, .bool away] (.int .i64 (VM.agent a away)) := by
  refine QC.of' fun H nx => zog _ _ H nx _ ?_
  simp [zkp, Agt.avs]
  refine QC.call (zyj a.prog ha) ?_
  have hg : (H.put nx (some (.row 9 [.int .i64 a.id, .int .i64 a.trip, .ro (a.prog.codes.map Cod.avs), .ro (a.prog.words.map fun w => [.str w]), .ro (a.frames.map Frm.avs), .ro (a.heap.map Cl.avs), .int .i64 a.permit.fuel, .int .i64 a.permit.room, .int .i64 a.permit.hops]))) nx = some (.row 9 a.avs) := Heap.put_at _ _ _
  have hK : Keep nx (H.put nx (some (.row 9 [.int .i64 a.id, .int .i64 a.trip, .ro (a.prog.codes.map Cod.avs), .ro (a.prog.words.map fun w => [.str w]), .ro (a.frames.map Frm.avs), .ro (a.heap.map Cl.avs), .int .i64 a.permit.fuel, .int .i64 a.permit.room, .int .i64 a.permit.hops]))) H := by simp
  generalize (H.put nx (some (.row 9 [.int .i64 a.id, .int .i64 a.trip, .ro (a.prog.codes.map Cod.avs), .ro (a.prog.words.map fun w => [.str w]), .ro (a.frames.map Frm.avs), .ro (a.heap.map Cl.avs), .int .i64 a.permit.fuel, .int .i64 a.permit.room, .int .i64 a.permit.hops]))) = H1 at *
  by_cases hp : VM.program a.prog = 0
  case neg =>
    have e : VM.agent a away = VM.program a.prog := by unfold VM.agent; rw [if_pos hp]
    rw [e]
    simp [zfl, hp, hK]
  simp [zfl, hp, hg, Agt.avs]
  have e3 : (a.id < 0 ∨ 1073741824 < a.id ∨ a.trip < 0 ∨ 1073741824 < a.trip ∨ a.permit.fuel < 0 ∨ 2000 < a.permit.fuel ∨ a.permit.room < 0 ∨ 60 < a.permit.room ∨ a.permit.hops < 0 ∨ 12 < a.permit.hops) → VM.agent a away = 3 := fun h => by
    unfold VM.agent; rw [if_neg (by simpa using hp), if_pos h]
  refine LP.mk (fun m xs H' nx' => ∃ i : Nat, i ≤ 5 ∧ m = 5 - i ∧ xs = [.bool away, .ptr nx 0, .slc (nx + 1) 0 5, .int .i64 5, .int .i64 i] ∧ H' nx = some (.row 9 a.avs) ∧
    H' (nx + 1) = some (.row 2 [.int .i64 a.id, .int .i64 1073741824, .int .i64 a.trip, .int .i64 1073741824, .int .i64 a.permit.fuel, .int .i64 2000, .int .i64 a.permit.room, .int .i64 60, .int .i64 a.permit.hops, .int .i64 12]) ∧ Keep nx H' H ∧ nx + 1 < nx' ∧
    (1 ≤ i → 0 ≤ a.id ∧ a.id ≤ 1073741824) ∧ (2 ≤ i → 0 ≤ a.trip ∧ a.trip ≤ 1073741824) ∧ (3 ≤ i → 0 ≤ a.permit.fuel ∧ a.permit.fuel ≤ 2000) ∧ (4 ≤ i → 0 ≤ a.permit.room ∧ a.permit.room ≤ 60) ∧ (5 ≤ i → 0 ≤ a.permit.hops ∧ a.permit.hops ≤ 12)) 5
    ⟨0, by omega, by omega, by simp, by rw [Heap.put_ne _ _ (by omega)]; exact hg, by simp, by simp [hK], by omega, by omega, by omega, by omega, by omega, by omega⟩ ?_
  rintro m xs H2 n2 ⟨i, hi, rfl, rfl, hg2, hr2, hK2, hn2, i1, i2, i3, i4, i5⟩
  have z1 : nx ≠ n2 := by omega
  have z2 : nx + 1 ≠ n2 := by omega
  have hKf : ∀ o, Keep nx (H2.put n2 o) H := fun o => by rw [Keep.put (by omega)]; exact hK2
  have hic : i = 5 ∨ i = 0 ∨ i = 1 ∨ i = 2 ∨ i = 3 ∨ i = 4 := by omega
  rcases hic with rfl | hic
  · have e0 : VM.agent a away = if a.frames.length < 1 ∨ 12 < a.frames.length then 5 else if 60 - a.permit.room < a.heap.length then 4 else if VM.framesErr a away ≠ 0 then VM.framesErr a away else VM.firstErr (VM.cellErr a.heap.length) a.heap := by
      unfold VM.agent; rw [if_neg (by simpa using hp), if_neg (by have := i1 (by omega); have := i2 (by omega); have := i3 (by omega); have := i4 (by omega); have := i5 (by omega); omega)]
    have i4' := i4 (by omega)
    have w1 : IntKind.i64.wrap ((a.heap.length : Int) + a.permit.room) = (a.heap.length : Int) + a.permit.room := i64w (by omega)
    simp [zau, hg2, Agt.avs, w1]
    refine ⟨fun h => ⟨by rw [e0, if_pos (by rw [h]; simp)], hK2⟩, fun f1 => ?_⟩
    have hpos : 0 < a.frames.length := List.length_pos_iff.2 f1
    refine ⟨fun h => ⟨by rw [e0, if_pos (by omega)], hK2⟩, fun f2 => ⟨fun h => ⟨by rw [e0, if_neg (by omega), if_pos (by omega)], hK2⟩, fun f3 => ?_⟩⟩
    rw [if_neg (by omega), if_neg (by omega)] at e0
    refine LP.mk (fun m xs H' nx' => ∃ i : Nat, i ≤ a.frames.length ∧ m = a.frames.length - i ∧ xs = [.bool away, .ptr nx 0, .ro (a.frames.map Frm.avs), .int .i64 a.frames.length, .int .i64 i] ∧ H' nx = some (.row 9 a.avs) ∧ Keep nx H' H ∧ nx < nx' ∧ VM.framesErr a away = VM.firstErr (fun k => VM.frame a k away) ((List.range a.frames.length).drop i)) a.frames.length
      ⟨0, by omega, by omega, by simp, hg2, hK2, by omega, rfl⟩ ?_
    rintro m xs H3 n3 ⟨k, hk, rfl, rfl, hg3, hK3, hn3, hfe⟩
    by_cases hlt : k < a.frames.length
    · have hr : (List.range a.frames.length)[k]? = some k := by simp [hlt]
      rw [zcu _ _ _ _ hr] at hfe
      refine zyn a k away H3 H n3 nx nx _ _ hg3 hn3 (by omega) hK3 hlt (by omega) hp (fun hz => ?_) fun hz H' nx' q1 q2 q3 => ?_
      · rw [if_pos hz] at hfe
        rw [e0, hfe, if_pos hz]
      · rw [if_neg (by simpa using hz)] at hfe
        exact ⟨a.frames.length - (k + 1), by omega, k + 1, by omega, rfl, rfl, q1, q2, by omega, hfe⟩
    obtain rfl : k = a.frames.length := by omega
    have hz : VM.framesErr a away = 0 := by rw [hfe, List.drop_of_length_le (by simp)]; rfl
    rw [if_neg (by simpa using hz)] at e0
    simp [zae, hg3, Agt.avs]
    refine LP.mk (fun m xs H' nx' => ∃ i : Nat, i ≤ a.heap.length ∧ m = a.heap.length - i ∧ xs = [.ptr nx 0, .ro (a.heap.map Cl.avs), .int .i64 a.heap.length, .int .i64 i] ∧ H' nx = some (.row 9 a.avs) ∧ Keep nx H' H ∧ nx < nx' ∧ VM.agent a away = VM.firstErr (VM.cellErr a.heap.length) (a.heap.drop i)) a.heap.length
      ⟨0, by omega, by omega, by simp, hg3, hK3, by omega, e0⟩ ?_
    rintro m xs H4 n4 ⟨k, hk, rfl, rfl, hg4, hK4, hn4, hfe⟩
    by_cases hlt : k < a.heap.length
    case neg =>
      obtain rfl : k = a.heap.length := by omega
      simp [zfj, hK4]
      rw [hfe]; simp [VM.firstErr]
    obtain ⟨c, hc⟩ : ∃ c, a.heap[k]? = some c := ⟨_, List.getElem?_eq_getElem hlt⟩
    obtain ⟨_, hc'⟩ := List.getElem?_eq_some_iff.1 hc
    rw [zcu _ _ _ _ hc] at hfe
    obtain ⟨l, r⟩ := c
    have m1 : nx ≠ n4 := by omega
    have hce : VM.cellErr a.heap.length ⟨l, r⟩ = if VM.wrong l a.heap.length ≠ 0 then VM.wrong l a.heap.length else VM.wrong r a.heap.length := rfl
    rw [hce] at hfe
    have hg5 : (H4.put n4 (some (.row 6 [.int .i64 l.kind, .int .i64 l.n, .str l.text, .int .i64 r.kind, .int .i64 r.n, .str r.text]))) nx = some (.row 9 a.avs) := by rw [Heap.put_ne _ _ m1]; exact hg4
    have hc5 : (H4.put n4 (some (.row 6 [.int .i64 l.kind, .int .i64 l.n, .str l.text, .int .i64 r.kind, .int .i64 r.n, .str r.text]))) n4 = some (.row 6 [.int .i64 l.kind, .int .i64 l.n, .str l.text, .int .i64 r.kind, .int .i64 r.n, .str r.text]) := Heap.put_at _ _ _
    have hK5 : Keep nx (H4.put n4 (some (.row 6 [.int .i64 l.kind, .int .i64 l.n, .str l.text, .int .i64 r.kind, .int .i64 r.n, .str r.text]))) H := by rw [Keep.put (by omega)]; exact hK4
    simp [zfj, hlt, hc', Cl.avs, Val.avs, hg4, m1, Agt.avs]
    generalize (H4.put n4 (some (.row 6 [.int .i64 l.kind, .int .i64 l.n, .str l.text, .int .i64 r.kind, .int .i64 r.n, .str r.text]))) = H5 at *
    refine QC.call (zkx l _) ?_
    simp [zkq, hc5, hg5, Agt.avs]
    refine ⟨fun hz => ⟨by rw [hfe, if_pos hz, if_pos hz], hK5⟩, fun hz => ?_⟩
    refine QC.call (zkx r _) ?_
    rw [hz] at hfe
    simp at hfe
    simp [zkr]
    refine ⟨fun hz2 => ⟨by rw [hfe]; simp [hz2], hK5⟩, fun hz2 => ?_⟩
    rw [hz2] at hfe
    simp at hfe
    rw [i64w (by omega)]
    exact ⟨a.heap.length - (k + 1), by omega, k + 1, by omega, rfl, rfl, hg5, hK5, by omega, hfe⟩
  rcases hic with rfl | rfl | rfl | rfl | rfl
  · simp [zau, hr2, hKf]
    refine ⟨fun h => e3 (by omega), fun h => ⟨fun h' => e3 (by omega), fun h' => ?_⟩⟩
    exact ⟨5 - 1, by omega, 1, by omega, rfl, by rw [i64w (by omega)]; rfl, by simp [z1, hg2], by simp [z2], by omega, by omega, by omega, by omega, by omega, by omega⟩
  · simp [zau, hr2, hKf]
    refine ⟨fun h => e3 (by omega), fun h => ⟨fun h' => e3 (by omega), fun h' => ?_⟩⟩
    exact ⟨5 - 2, by omega, 2, by omega, rfl, by rw [i64w (by omega)]; rfl, by simp [z1, hg2], by simp [z2], by omega, by omega, by omega, by omega, by omega, by omega⟩
  · simp [zau, hr2, hKf]
    refine ⟨fun h => e3 (by omega), fun h => ⟨fun h' => e3 (by omega), fun h' => ?_⟩⟩
    exact ⟨5 - 3, by omega, 3, by omega, rfl, by rw [i64w (by omega)]; rfl, by simp [z1, hg2], by simp [z2], by omega, by omega, by omega, by omega, by omega, by omega⟩
  · simp [zau, hr2, hKf]
    refine ⟨fun h => e3 (by omega), fun h => ⟨fun h' => e3 (by omega), fun h' => ?_⟩⟩
    exact ⟨5 - 4, by omega, 4, by omega, rfl, by rw [i64w (by omega)]; rfl, by simp [z1, hg2], by simp [z2], by omega, by omega, by omega, by omega, by omega, by omega⟩
  · simp [zau, hr2, hKf]
    refine ⟨fun h => e3 (by omega), fun h => ⟨fun h' => e3 (by omega), fun h' => ?_⟩⟩
    exact ⟨5, by omega, by omega, by rw [i64w (by omega)]; rfl, by simp [z1, hg2], by simp [z2], by omega, by omega, by omega, by omega, by omega, by omega⟩
end Go.Proofs.YtobioljjoipimaaDoor
set_option maxRecDepth 8000
namespace Go.Proofs.YtobioljjoipimaaDoor
open Go Go.RowKit
theorem zacn {a : Agt} {fs : List Frm} {f : Frm} (l : VM.Live a fs f) : f.stack.length ≤ 17 := by
  have nw := l.now
  have ok := l.ok f (by simp)
  have hst := l.still
  unfold VM.Still VM.hts at hst
  have hm := (zcc ((zu l.prog).1 _ (VM.code_mem ok.code)).2.1 ((zu l.prog).1 _ (VM.code_mem ok.code)).2.2).2 _ (List.mem_of_getElem? hst)
  omega
theorem zqb (a : Agt) : a.avs.drop 9 = [] ∧ a.avs.take 9 = a.avs ∧ a.avs.length = 9 := ⟨rfl, rfl, rfl⟩
theorem zze (a : Agt) : ∀ x ∈ a.avs, x.one = true := fun x hx => by
  simp [Agt.avs] at hx
  rcases hx with rfl | rfl | rfl | rfl | rfl | rfl | rfl | rfl | rfl <;> rfl
theorem eavs (e : Evt) : e.avs = [.int .i64 e.kind, .str e.text, .int .i64 e.err] := rfl
def zdu (a : Agt) (s : Spt) : Bool := s.facts.all (fun f => decide (VM.wrong f.val 0 = 0)) && (decide (s.name.length ≤ 12) && decide (VM.agent a false = 0))
theorem zwb {α : Type} {p : α → Bool} {l : List α} {i : Nat} {x : α} (h : l[i]? = some x) : (l.drop i).all p = (p x && (l.drop (i + 1)).all p) := by
  obtain ⟨hi, rfl⟩ := List.getElem?_eq_some_iff.1 h
  rw [List.drop_eq_getElem_cons hi, List.all_cons]
set_option maxRecDepth 20000 in
set_option maxHeartbeats 1000000 in
theorem zacv (a : Agt) (s : Spt) (ha : a.prog.ok) (hhl : a.heap.length ≤ 4611686018427387904) (hf : s.facts.length ≤ 4611686018427387903) : QC Tryd.prog 22 [.agg a.avs, .agg s.avs] (.bool (zdu a s)) := by
  refine QC.of' fun H nx => ?_
  suffices main : ∀ Q : AV → Heap → Nat → Prop, (∀ H' n', Keep nx H' H → Q (.bool (zdu a s)) H' n') → za Tryd.prog 22 [.agg a.avs, .agg s.avs] H nx Q from main _ fun H' n' h => ⟨znl, h⟩
  intro Q hQ
  refine zoh _ _ H nx _ ?_
  have al : a.avs.length = 9 := rfl
  have sl : s.avs = [.str s.name, .ro (s.facts.map Fct.avs), .int .i64 s.fuel, .int .i64 s.cells] := rfl
  have at9 : a.avs.take 9 = a.avs := rfl
  have hsu : (AV.agg a.avs).sure = true := by simp [Agt.avs]
  unfold zkv
  rw [sl]
  refine ⟨hsu, by simp, ?_⟩
  generalize hX : Heap.put _ (nx + 1) _ = X
  have x0 : X nx = some (.row 9 a.avs) := by rw [← hX, Heap.put_ne _ _ (by omega), Heap.put_at]; rfl
  have x1 : X (nx + 1) = some (.row 4 [.str s.name, .ro (s.facts.map Fct.avs), .int .i64 s.fuel, .int .i64 s.cells]) := by rw [← hX, Heap.put_at]; rfl
  have xk : Keep nx X H := fun g hg => by rw [← hX, Heap.put_ne _ _ (by omega), Heap.put_ne _ _ (by omega)]
  clear hX
  simp [x1]
  refine LP.mk (fun k xs H' n' => ∃ i : Nat, xs = [.ptr nx 0, .ptr (nx + 1) 0, .ro (s.facts.map Fct.avs), .int .i64 s.facts.length, .int .i64 i] ∧ i ≤ s.facts.length ∧ k = s.facts.length - i ∧ (∀ g, g < nx + 2 → H' g = X g) ∧ nx + 2 ≤ n' ∧ s.facts.all (fun f => decide (VM.wrong f.val 0 = 0)) = (s.facts.drop i).all (fun f => decide (VM.wrong f.val 0 = 0))) s.facts.length ⟨0, rfl, by omega, by omega, fun _ _ => rfl, by omega, rfl⟩ ?_
  rintro k xs H' n' ⟨i, rfl, hi, rfl, hk, hn, hall⟩
  by_cases hlt : i < s.facts.length
  · have hadd : IntKind.i64.wrap ((i : Int) + 1) = ((i + 1 : Nat) : Int) := by rw [i64w (by omega)]; rfl
    rw [zwb (List.getElem?_eq_getElem hlt)] at hall
    generalize hcc : s.facts[i] = c at *
    simp [zdc, hlt, hcc, Fct.avs, Val.avs]
    refine QC.call (zkx c.val 0) ?_
    by_cases hw : VM.wrong c.val 0 = 0
    · simp [zfo, hw, hadd]
      refine ⟨s.facts.length - (i + 1), by omega, i + 1, rfl, by omega, rfl, fun g hg => ?_, by omega, by rw [hall]; simp [hw]⟩
      rw [if_neg (by omega)]; exact hk g hg
    · simp [zfo, hw]
      have e : zdu a s = false := by unfold zdu; rw [hall]; simp [hw]
      have := hQ ((H'.put n' (some (AObj.row 4 [.str c.key, .int .i64 c.val.kind, .int .i64 c.val.n, .str c.val.text])))) (n' + 1) fun g hg => by rw [Heap.put_ne _ _ (by omega), hk g (by omega)]; exact xk g hg
      rw [e] at this
      exact this
  · have hge : ¬ (i : Int) < s.facts.length := by omega
    rw [List.drop_of_length_le (by omega)] at hall
    have y0 : H' nx = some (.row 9 a.avs) := by rw [hk _ (by omega)]; exact x0
    have y1 : H' (nx + 1) = some (.row 4 [.str s.name, .ro (s.facts.map Fct.avs), .int .i64 s.fuel, .int .i64 s.cells]) := by rw [hk _ (by omega)]; exact x1
    have fin := fun n' => hQ H' n' fun g hg => (hk g (by omega)).trans (xk g hg)
    have e : zdu a s = (decide (s.name.length ≤ 12) && decide (VM.agent a false = 0)) := by unfold zdu; rw [hall]; simp
    rw [e] at fin
    by_cases hnm : s.name.length ≤ 12
    · have hnm' : (s.name.length : Int) ≤ 12 := by omega
      simp [zdc, hge, y0, y1, al, at9, hnm']
      refine QC.call (zaem a false ha hhl) ?_
      simp [zkw]
      have := fin n'
      rw [decide_eq_true hnm, Bool.true_and] at this
      exact this
    · have hnm' : ¬ (s.name.length : Int) ≤ 12 := by omega
      simp [zdc, hge, y0, y1, al, at9, hnm']
      have := fin n'
      rw [decide_eq_false hnm, Bool.false_and] at this
      exact this
end Go.Proofs.YtobioljjoipimaaDoor
set_option maxRecDepth 8000
namespace Go.Proofs.YtobioljjoipimaaDoor
open Go Go.RowKit
structure Fits (p : Prg) (b : Agt) : Prop where
  prog : b.prog = p
  frames : b.frames.length ≤ 4096
  heap : b.heap.length ≤ 4096
  stk : ∀ f ∈ b.frames, f.vars.length ≤ 4096 ∧ f.stack.length ≤ 4096
theorem zahv {p : Prg} (h : VM.program p = 0) (n : Int) : (VM.codeAt p n).vars ≤ 8 := by
  by_cases hn : n.toNat < p.codes.length
  · obtain ⟨crange, _, _⟩ := (zu h).1 _ (VM.code_mem hn)
    unfold VM.codeRange at crange
    rw [decide_eq_false_iff_not] at crange
    omega
  · unfold VM.codeAt
    rw [List.getD_eq_getElem?_getD, List.getElem?_eq_none (by omega)]
    simp
theorem zagd {p : Prg} {c : Prop} [Decidable c] {x y : Agt} (h1 : c → Fits p x) (h2 : ¬ c → Fits p y) : Fits p (if c then x else y) := by
  by_cases h : c
  · rw [if_pos h]; exact h1 h
  · rw [if_neg h]; exact h2 h
theorem zacz {b : Agt} {s : Spt} {fs : List Frm} {f : Frm} {i : Ins} (hp : VM.program b.prog = 0) (h1 : fs.length ≤ 100) (h2 : ∀ g ∈ fs, g.vars.length ≤ 100 ∧ g.stack.length ≤ 100) (h3 : f.vars.length ≤ 100) (h4 : f.stack.length ≤ 100) (h5 : b.heap.length ≤ 100) (hi : i.op = 17 → 0 ≤ i.b) : Fits b.prog (VM.opDo b s fs f i).1 := by
  have hv := zahv hp i.a
  have key : ∀ {a : Agt} {gs : List Frm} {g : Frm}, a.prog = b.prog → gs.length ≤ 200 → (∀ g ∈ gs, g.vars.length ≤ 200 ∧ g.stack.length ≤ 200) → g.vars.length ≤ 300 → g.stack.length ≤ 300 → a.heap.length ≤ 200 → Fits b.prog (VM.toF a gs g) := by
    intro a gs g e1 e2 e3 e4 e5 e6
    refine ⟨e1, by simp [VM.toF]; omega, by simp [VM.toF]; omega, fun x hx => ?_⟩
    simp [VM.toF] at hx
    rcases hx with hx | rfl
    · have := e3 x hx; omega
    · omega
  have lw : ∀ k, (VM.low k f.stack).length ≤ f.stack.length := fun k => by rw [VM.low_len]; omega
  have l1 := lw 1
  have l2 := lw 2
  have h2' : ∀ g ∈ fs, g.vars.length ≤ 200 ∧ g.stack.length ≤ 200 := fun g hg => by have := h2 g hg; omega
  unfold VM.opDo VM.push
  simp only [apply_ite Prod.fst]
  repeat' (refine zagd (fun _ => ?_) (fun _ => ?_))
  all_goals first
    | exact key rfl (by omega) h2' (by first | (simp only [List.length_append, List.length_singleton, List.length_set]; omega) | (simp only []; omega) | omega) (by first | (simp only [List.length_append, List.length_singleton, List.length_set]; omega) | (simp only []; omega) | omega) (by first | (simp only [List.length_append, List.length_singleton, List.length_set]; omega) | (simp only []; omega) | omega)
    | skip
  · refine key rfl (by simp; omega) (fun g hg => ?_) ?_ (by simp) (by omega)
    · simp at hg
      rcases hg with hg | rfl
      · exact h2' g hg
      · have := lw i.b.toNat; simp only; omega
    · simp; omega
  · split
    · exact ⟨rfl, by simp, by simp only; omega, fun g hg => by simp at hg⟩
    · rename_i g hg
      have hm := List.mem_of_getLast? hg
      refine key rfl (by simp; omega) (fun x hx => h2' x (List.dropLast_subset _ hx)) (by have := h2 g hm; simp only; omega) (by have := h2 g hm; simp; omega) (by omega)
theorem zacm {a : Agt} {fs : List Frm} {f : Frm} (l : VM.Live a fs f) (s : Spt) : Fits a.prog (VM.step a s).1 := by
  have flen := l.flen
  have hlen := l.hlen
  have hroom := l.room
  have sk := Live.stk l
  by_cases hf : a.permit.fuel = 0
  · have e : VM.step a s = (a, VM.dead 12) := by unfold VM.step; rw [if_pos hf]
    rw [e]
    exact ⟨rfl, by rw [l.fr]; simp; omega, by simp only; omega, fun g hg => by have := sk g hg; simp only at hg; omega⟩
  · rw [zza l hf]
    have ok := l.ok f (by simp)
    have nw := l.now
    obtain ⟨o1, o2, o3, o4⟩ := VM.numbers_ok nw.num
    have slen := zacn l
    have key := zacz (b := { a with permit := { a.permit with fuel := a.permit.fuel - 1 } }) (s := s) (fs := fs) (f := { f with at_ := f.at_ + 1 }) (i := VM.insAt a.prog f) l.prog (by omega) (fun g hg => by have := sk g (by rw [l.fr]; simp [hg]); omega) (by have := sk f (by rw [l.fr]; simp); simp only; omega) (by simp only; omega) (by simp only; omega) fun h17 => ?_
    · exact key
    · exact (((zu l.prog).1 _ (VM.code_mem ok.code)).2.1 _ (List.mem_of_getElem? nw.at_) h17).1
theorem zadd {a : Agt} {fs : List Frm} {f : Frm} (l : VM.Live a fs f) : Fits a.prog a := by
  have flen := l.flen
  have hlen := l.hlen
  have hroom := l.room
  exact ⟨rfl, by rw [l.fr]; simp; omega, by omega, fun g hg => by have := Live.stk l g hg; omega⟩
theorem zsb (s : Spt) (hw : ∀ x ∈ s.facts, VM.WrongOk x.val (0 : Int)) : ∀ (n : Nat) {a : Agt} {fs : List Frm} {f : Frm}, VM.Live a fs f → Fits a.prog (VM.run s n a).1
  | 0, a, fs, f, l => zadd l
  | n + 1, a, fs, f, l => by
    rw [zxb]
    have sf := zacm l s
    split
    · exact sf
    · rename_i h
      obtain ⟨gs, g, l'⟩ := VM.step_live l hw (by simpa using h)
      have := zsb s hw n l'
      rw [sf.prog] at this
      exact this
end Go.Proofs.YtobioljjoipimaaDoor
set_option maxRecDepth 8000
namespace Go.Proofs.YtobioljjoipimaaDoor
open Go Go.RowKit
theorem zvf {a b : Agt} {fs : List Frm} {f : Frm} (l : VM.Live a fs f) (ft : Fits a.prog b) : QC Tryd.prog 24 [.agg b.avs, .agg b.avs] (.bool true) := by
  obtain ⟨c1, c2, c3⟩ := Live.codes l
  obtain ⟨h1, h2, h3, h4⟩ := ft
  refine zafl b (by rw [h1]; omega) (by rw [h1]; omega) (fun c hc => by rw [h1] at hc; have := c3 c hc; omega) (by omega) (by omega) fun g hg => by have := h4 g hg; omega
theorem zzm : eqsT 48 = true := by kernel_rfl
end Go.Proofs.YtobioljjoipimaaDoor
set_option maxRecDepth 8000
namespace Go.Proofs.YtobioljjoipimaaDoor
open Go Go.RowKit
theorem zuk : Tryd.prog.cellsOf 96 = 3 := by kernel_rfl
def Ins.rd (x : Ins) : Prop := zca x.op ∧ zca x.a ∧ zca x.b
theorem oIns : OpA Tryd.prog 96 Ins.avs Ins.rd :=
  ⟨fun _ _ => zuk.symm, fun enc w base sp held fuel cs x h hw => by
    obtain ⟨hl, hf⟩ := zaq Tryd.underlying96 h hw
    rw [zuk] at hl
    obtain ⟨x0, h0, r0⟩ := hf 0 3 0 1 (by kernel_rfl) cInt oInt
    obtain ⟨x1, h1, r1⟩ := hf 1 3 1 1 (by kernel_rfl) cInt oInt
    obtain ⟨x2, h2, r2⟩ := hf 2 3 2 1 (by kernel_rfl) cInt oInt
    match cs, hl with
    | [c0, c1, c2], _ => exact ⟨⟨x0, x1, x2⟩, ⟨h0, h1, h2⟩, fun ρ A => ((r0 ρ A).append ((r1 ρ A).append (r2 ρ A)))⟩⟩
theorem zxv : Tryd.prog.cellsOf 81 = 1 := by kernel_rfl
theorem zajy : OpA Tryd.prog 81 (fun l : List Ins => [.ro (l.map Ins.avs)]) (rdL Ins.rd (Tryd.prog.bytesOf 96)) := zdk Tryd.underlying81 zxv oIns (by rw [zuk]; decide)
theorem zxy : Tryd.prog.cellsOf 90 = 3 := by kernel_rfl
def Cod.rd (x : Cod) : Prop := zca x.params ∧ zca x.vars ∧ rdL Ins.rd (Tryd.prog.bytesOf 96) x.ins
theorem oCod : OpA Tryd.prog 90 Cod.avs Cod.rd :=
  ⟨fun _ _ => zxy.symm, fun enc w base sp held fuel cs x h hw => by
    obtain ⟨hl, hf⟩ := zaq Tryd.underlying90 h hw
    rw [zxy] at hl
    obtain ⟨x0, h0, r0⟩ := hf 0 3 0 1 (by kernel_rfl) cInt oInt
    obtain ⟨x1, h1, r1⟩ := hf 1 3 1 1 (by kernel_rfl) cInt oInt
    obtain ⟨x2, h2, r2⟩ := hf 2 81 2 1 (by kernel_rfl) zxv zajy
    match cs, hl with
    | [c0, c1, c2], _ => exact ⟨⟨x0, x1, x2⟩, ⟨h0, h1, h2⟩, fun ρ A => ((r0 ρ A).append ((r1 ρ A).append (r2 ρ A)))⟩⟩
theorem zzr : Tryd.prog.cellsOf 27 = 1 := by kernel_rfl
theorem zakb : OpA Tryd.prog 27 (fun l : List Cod => [.ro (l.map Cod.avs)]) (rdL Cod.rd (Tryd.prog.bytesOf 90)) := zdk Tryd.underlying27 zzr oCod (by rw [zxy]; decide)
theorem zvs : Tryd.prog.cellsOf 28 = 1 := by kernel_rfl
theorem zajx : OpA Tryd.prog 28 (fun l : List (List UInt8) => [.ro (l.map (fun w => [.str w]))]) (rdL (fun s => s.length ≤ reachBytes) (Tryd.prog.bytesOf 9)) := zdk Tryd.underlying28 zvs oStr (by rw [cStr]; decide)
theorem zpy : Tryd.prog.cellsOf 30 = 2 := by kernel_rfl
def Prg.rd (x : Prg) : Prop := rdL Cod.rd (Tryd.prog.bytesOf 90) x.codes ∧ rdL (fun s => s.length ≤ reachBytes) (Tryd.prog.bytesOf 9) x.words
theorem oPrg : OpA Tryd.prog 30 Prg.avs Prg.rd :=
  ⟨fun _ _ => zpy.symm, fun enc w base sp held fuel cs x h hw => by
    obtain ⟨hl, hf⟩ := zaq Tryd.underlying30 h hw
    rw [zpy] at hl
    obtain ⟨x0, h0, r0⟩ := hf 0 27 0 1 (by kernel_rfl) zzr zakb
    obtain ⟨x1, h1, r1⟩ := hf 1 28 1 1 (by kernel_rfl) zvs zajx
    match cs, hl with
    | [c0, c1], _ => exact ⟨⟨x0, x1⟩, ⟨h0, h1⟩, fun ρ A => ((r0 ρ A).append (r1 ρ A))⟩⟩
theorem zul : Tryd.prog.cellsOf 104 = 4 := by kernel_rfl
def Frm.rd (x : Frm) : Prop := zca x.fn ∧ zca x.at_ ∧ rdL Val.rd (Tryd.prog.bytesOf 108) x.vars ∧ rdL Val.rd (Tryd.prog.bytesOf 108) x.stack
theorem oFrm : OpA Tryd.prog 104 Frm.avs Frm.rd :=
  ⟨fun _ _ => zul.symm, fun enc w base sp held fuel cs x h hw => by
    obtain ⟨hl, hf⟩ := zaq Tryd.underlying104 h hw
    rw [zul] at hl
    obtain ⟨x0, h0, r0⟩ := hf 0 3 0 1 (by kernel_rfl) cInt oInt
    obtain ⟨x1, h1, r1⟩ := hf 1 3 1 1 (by kernel_rfl) cInt oInt
    obtain ⟨x2, h2, r2⟩ := hf 2 102 2 1 (by kernel_rfl) zaby zahi
    obtain ⟨x3, h3, r3⟩ := hf 3 102 3 1 (by kernel_rfl) zaby zahi
    match cs, hl with
    | [c0, c1, c2, c3], _ => exact ⟨⟨x0, x1, x2, x3⟩, ⟨h0, h1, h2, h3⟩, fun ρ A => ((r0 ρ A).append ((r1 ρ A).append ((r2 ρ A).append (r3 ρ A))))⟩⟩
theorem zxw : Tryd.prog.cellsOf 35 = 1 := by kernel_rfl
theorem zajz : OpA Tryd.prog 35 (fun l : List Frm => [.ro (l.map Frm.avs)]) (rdL Frm.rd (Tryd.prog.bytesOf 104)) := zdk Tryd.underlying35 zxw oFrm (by rw [zul]; decide)
theorem zsl : Tryd.prog.cellsOf 38 = 3 := by kernel_rfl
def Pmt.rd (x : Pmt) : Prop := zca x.fuel ∧ zca x.room ∧ zca x.hops
theorem oPmt : OpA Tryd.prog 38 Pmt.avs Pmt.rd :=
  ⟨fun _ _ => zsl.symm, fun enc w base sp held fuel cs x h hw => by
    obtain ⟨hl, hf⟩ := zaq Tryd.underlying38 h hw
    rw [zsl] at hl
    obtain ⟨x0, h0, r0⟩ := hf 0 3 0 1 (by kernel_rfl) cInt oInt
    obtain ⟨x1, h1, r1⟩ := hf 1 3 1 1 (by kernel_rfl) cInt oInt
    obtain ⟨x2, h2, r2⟩ := hf 2 3 2 1 (by kernel_rfl) cInt oInt
    match cs, hl with
    | [c0, c1, c2], _ => exact ⟨⟨x0, x1, x2⟩, ⟨h0, h1, h2⟩, fun ρ A => ((r0 ρ A).append ((r1 ρ A).append (r2 ρ A)))⟩⟩
theorem zzs : Tryd.prog.cellsOf 40 = 9 := by kernel_rfl
def Agt.rd (x : Agt) : Prop := zca x.id ∧ zca x.trip ∧ x.prog.rd ∧ rdL Frm.rd (Tryd.prog.bytesOf 104) x.frames ∧ rdL Cl.rd (Tryd.prog.bytesOf 110) x.heap ∧ x.permit.rd
theorem oAgt : OpA Tryd.prog 40 Agt.avs Agt.rd :=
  ⟨fun _ _ => zzs.symm, fun enc w base sp held fuel cs x h hw => by
    obtain ⟨hl, hf⟩ := zaq Tryd.underlying40 h hw
    rw [zzs] at hl
    obtain ⟨x0, h0, r0⟩ := hf 0 3 0 1 (by kernel_rfl) cInt oInt
    obtain ⟨x1, h1, r1⟩ := hf 1 3 1 1 (by kernel_rfl) cInt oInt
    obtain ⟨x2, h2, r2⟩ := hf 2 30 2 2 (by kernel_rfl) zpy oPrg
    obtain ⟨x3, h3, r3⟩ := hf 3 35 4 1 (by kernel_rfl) zxw zajz
    obtain ⟨x4, h4, r4⟩ := hf 4 36 5 1 (by kernel_rfl) cCls oCls
    obtain ⟨x5, h5, r5⟩ := hf 5 38 6 3 (by kernel_rfl) zsl oPmt
    match cs, hl with
    | [c0, c1, c2, c3, c4, c5, c6, c7, c8], _ => exact ⟨⟨x0, x1, x2, x3, x4, x5⟩, ⟨h0, h1, h2, h3, h4, h5⟩, fun ρ A => ((r0 ρ A).append ((r1 ρ A).append ((r2 ρ A).append ((r3 ρ A).append ((r4 ρ A).append (r5 ρ A))))))⟩⟩
theorem zxx : Tryd.prog.cellsOf 113 = 4 := by kernel_rfl
def Fct.rd (x : Fct) : Prop := x.key.length ≤ reachBytes ∧ x.val.rd
theorem oFct : OpA Tryd.prog 113 Fct.avs Fct.rd :=
  ⟨fun _ _ => zxx.symm, fun enc w base sp held fuel cs x h hw => by
    obtain ⟨hl, hf⟩ := zaq Tryd.underlying113 h hw
    rw [zxx] at hl
    obtain ⟨x0, h0, r0⟩ := hf 0 9 0 1 (by kernel_rfl) cStr oStr
    obtain ⟨x1, h1, r1⟩ := hf 1 108 1 3 (by kernel_rfl) cVal oVal
    match cs, hl with
    | [c0, c1, c2, c3], _ => exact ⟨⟨x0, x1⟩, ⟨h0, h1⟩, fun ρ A => ((r0 ρ A).append (r1 ρ A))⟩⟩
theorem zzq : Tryd.prog.cellsOf 41 = 1 := by kernel_rfl
theorem zaka : OpA Tryd.prog 41 (fun l : List Fct => [.ro (l.map Fct.avs)]) (rdL Fct.rd (Tryd.prog.bytesOf 113)) := zdk Tryd.underlying41 zzq oFct (by rw [zxx]; decide)
theorem zaed : Tryd.prog.cellsOf 43 = 4 := by kernel_rfl
def Spt.rd (x : Spt) : Prop := x.name.length ≤ reachBytes ∧ rdL Fct.rd (Tryd.prog.bytesOf 113) x.facts ∧ zca x.fuel ∧ zca x.cells
theorem oSpt : OpA Tryd.prog 43 Spt.avs Spt.rd :=
  ⟨fun _ _ => zaed.symm, fun enc w base sp held fuel cs x h hw => by
    obtain ⟨hl, hf⟩ := zaq Tryd.underlying43 h hw
    rw [zaed] at hl
    obtain ⟨x0, h0, r0⟩ := hf 0 9 0 1 (by kernel_rfl) cStr oStr
    obtain ⟨x1, h1, r1⟩ := hf 1 41 1 1 (by kernel_rfl) zzq zaka
    obtain ⟨x2, h2, r2⟩ := hf 2 3 2 1 (by kernel_rfl) cInt oInt
    obtain ⟨x3, h3, r3⟩ := hf 3 3 3 1 (by kernel_rfl) cInt oInt
    match cs, hl with
    | [c0, c1, c2, c3], _ => exact ⟨⟨x0, x1, x2, x3⟩, ⟨h0, h1, h2, h3⟩, fun ρ A => ((r0 ρ A).append ((r1 ρ A).append ((r2 ρ A).append (r3 ρ A))))⟩⟩
end Go.Proofs.YtobioljjoipimaaDoor
set_option maxRecDepth 8000
namespace Go.Proofs.YtobioljjoipimaaDoor
open Go Go.RowKit
def zid (Q : QT) (v41 : AV) (H42 : Heap) (nx43 : Nat) : Prop :=
 Q v41 H42 nx43
def zic (nx19 : Nat) (Q : QT) (v29 : AV) (H30 : Heap) (nx31 : Nat) : Prop :=
 EX v29 0 fun v32 =>
 EX v29 1 fun v33 =>
 ST 9 (AV.ptr nx31 0) v32 ((H30.put nx31 (some (AObj.row 9 [AV.int IntKind.i64 0, AV.int IntKind.i64 0, AV.nils, AV.nils, AV.nils, AV.nils, AV.int IntKind.i64 0, AV.int IntKind.i64 0, AV.int IntKind.i64 0]))).put ((nx31 + 1)) (some (AObj.row 3 [AV.int IntKind.i64 0, AV.str [], AV.int IntKind.i64 0]))) fun H34 =>
 ST 3 (AV.ptr (nx31 + 1) 0) v33 H34 fun H35 =>
 LD true 3 (AV.ptr (nx19 + 1) 0) H35 fun v36 =>
 LD true 3 (AV.ptr (nx31 + 1) 0) H35 fun v37 =>
 gd (eqsT 48) (
 BA [AV.int IntKind.i64 0, AV.str [], AV.int IntKind.i64 0] BinOp.eql v36 v37 fun v38 =>
 CND v38
 (LD true 9 (AV.ptr nx19 0) H35 fun v39 =>
 LD true 9 (AV.ptr nx31 0) H35 fun v40 =>
 za Tryd.prog 24 [v39, v40] H35 (nx31 + 2) (zid Q))
 (Q (AV.bool false) H35 (nx31 + 2)))
def zib (Q : QT) (v68 : AV) (H69 : Heap) (nx70 : Nat) : Prop :=
 Q v68 H69 nx70
def zia (nx48 : Nat) (Q : QT) (v56 : AV) (H57 : Heap) (nx58 : Nat) : Prop :=
 EX v56 0 fun v59 =>
 EX v56 1 fun v60 =>
 ST 9 (AV.ptr nx58 0) v59 ((H57.put nx58 (some (AObj.row 9 [AV.int IntKind.i64 0, AV.int IntKind.i64 0, AV.nils, AV.nils, AV.nils, AV.nils, AV.int IntKind.i64 0, AV.int IntKind.i64 0, AV.int IntKind.i64 0]))).put ((nx58 + 1)) (some (AObj.row 3 [AV.int IntKind.i64 0, AV.str [], AV.int IntKind.i64 0]))) fun H61 =>
 ST 3 (AV.ptr (nx58 + 1) 0) v60 H61 fun H62 =>
 LD true 3 (AV.ptr (nx48 + 1) 0) H62 fun v63 =>
 LD true 3 (AV.ptr (nx58 + 1) 0) H62 fun v64 =>
 gd (eqsT 48) (
 BA [AV.int IntKind.i64 0, AV.str [], AV.int IntKind.i64 0] BinOp.eql v63 v64 fun v65 =>
 CND v65
 (LD true 9 (AV.ptr nx48 0) H62 fun v66 =>
 LD true 9 (AV.ptr nx58 0) H62 fun v67 =>
 za Tryd.prog 24 [v66, v67] H62 (nx58 + 2) (zib Q))
 (Q (AV.bool false) H62 (nx58 + 2)))
def zhz (nx : Nat) (a2 : AV) (a3 : AV) (Q : QT) (v46 : AV) (H47 : Heap) (nx48 : Nat) : Prop :=
 EX v46 0 fun v49 =>
 EX v46 1 fun v50 =>
 ST 9 (AV.ptr nx48 0) v49 ((H47.put nx48 (some (AObj.row 9 [AV.int IntKind.i64 0, AV.int IntKind.i64 0, AV.nils, AV.nils, AV.nils, AV.nils, AV.int IntKind.i64 0, AV.int IntKind.i64 0, AV.int IntKind.i64 0]))).put ((nx48 + 1)) (some (AObj.row 3 [AV.int IntKind.i64 0, AV.str [], AV.int IntKind.i64 0]))) fun H51 =>
 ST 3 (AV.ptr (nx48 + 1) 0) v50 H51 fun H52 =>
 LD true 9 (AV.ptr nx 0) H52 fun v53 =>
 LD true 4 (AV.ptr (nx + 1) 0) H52 fun v54 =>
 BI BinOp.add a2 a3 fun v55 =>
 za Tryd.prog 23 [v53, v54, v55] H52 (nx48 + 2) (zia nx48 Q)
def zec (nx : Nat) (a2 : AV) (a3 : AV) (Q : QT) (v17 : AV) (H18 : Heap) (nx19 : Nat) : Prop :=
 EX v17 0 fun v20 =>
 EX v17 1 fun v21 =>
 ST 9 (AV.ptr nx19 0) v20 ((H18.put nx19 (some (AObj.row 9 [AV.int IntKind.i64 0, AV.int IntKind.i64 0, AV.nils, AV.nils, AV.nils, AV.nils, AV.int IntKind.i64 0, AV.int IntKind.i64 0, AV.int IntKind.i64 0]))).put ((nx19 + 1)) (some (AObj.row 3 [AV.int IntKind.i64 0, AV.str [], AV.int IntKind.i64 0]))) fun H22 =>
 ST 3 (AV.ptr (nx19 + 1) 0) v21 H22 fun H23 =>
 LD false 1 (AV.ptr (nx19 + 1) 0) H23 fun v24 =>
 BI BinOp.neq v24 (AV.int IntKind.i64 1) fun v25 =>
 CNDC v25
 (LD true 9 (AV.ptr nx 0) H23 fun v26 =>
 LD true 4 (AV.ptr (nx + 1) 0) H23 fun v27 =>
 BI BinOp.add a2 a3 fun v28 =>
 za Tryd.prog 23 [v26, v27, v28] H23 (nx19 + 2) (zic nx19 Q))
 (LD true 9 (AV.ptr nx19 0) H23 fun v44 =>
 LD true 4 (AV.ptr (nx + 1) 0) H23 fun v45 =>
 za Tryd.prog 23 [v44, v45, a3] H23 (nx19 + 2) (zhz nx a2 a3 Q))
def zao (Q : QT) (a2 : AV) (a3 : AV) (nx : Nat) (v7 : AV) (H8 : Heap) (nx9 : Nat) : Prop :=
 UO UnOp.not v7 fun v10 =>
 CND v10
 (Q (AV.bool true) H8 nx9)
 (BI BinOp.lss a2 (AV.int IntKind.i64 0) fun v11 =>
 CND v11
 (Q (AV.bool true) H8 nx9)
 (BI BinOp.gtr a2 (AV.int IntKind.i64 500) fun v12 =>
 CND v12
 (Q (AV.bool true) H8 nx9)
 (BI BinOp.lss a3 (AV.int IntKind.i64 0) fun v13 =>
 CND v13
 (Q (AV.bool true) H8 nx9)
 (BI BinOp.gtr a3 (AV.int IntKind.i64 500) fun v14 =>
 CNDC v14
 (Q (AV.bool true) H8 nx9)
 (LD true 9 (AV.ptr nx 0) H8 fun v15 =>
 LD true 4 (AV.ptr (nx + 1) 0) H8 fun v16 =>
 za Tryd.prog 23 [v15, v16, a2] H8 nx9 (zec nx a2 a3 Q))))))
def zhy (Q : QT) (nx : Nat) (a2 : AV) (a3 : AV) (v1 : AV) (H2 : Heap) (nx3 : Nat) : Prop :=
 UO UnOp.not v1 fun v4 =>
 CNDC v4
 (Q (AV.bool false) H2 nx3)
 (LD true 9 (AV.ptr nx 0) H2 fun v5 =>
 LD true 4 (AV.ptr (nx + 1) 0) H2 fun v6 =>
 za Tryd.prog 22 [v5, v6] H2 nx3 (zao Q a2 a3 nx))
def zhx (a0 a1 a2 a3 : AV) (H : Heap) (nx : Nat) (Q : QT) : Prop :=
 a0.sure = true ∧
 a1.sure = true ∧
 za Tryd.prog 21 [] ((H.put nx (some (AObj.row a0.cells.length a0.cells))).put ((nx + 1)) (some (AObj.row a1.cells.length a1.cells))) (nx + 2) (zhy Q nx a2 a3)
theorem zmn (a0 a1 a2 a3 : AV) (H : Heap) (nx : Nat) (Q : QT) : zhx a0 a1 a2 a3 H nx Q → za Tryd.prog 6 [a0, a1, a2, a3] H nx Q :=
  zi (lv := lvOf []) (c := zn Tryd.f6) zx zy mixed Tryd.func6 (by kernel_rfl) (by kernel_rfl) (by kernel_rfl) (by kernel_rfl) (by kernel_rfl)
end Go.Proofs.YtobioljjoipimaaDoor
