/- Heights: what the program's function makes of a code. -/
import Derived.Test.YtckhbfbbpdjmdaaS2
import Derived.Test.YtckhbfbbpdjmdaaPlainV
namespace Go.Proofs.Ytckhbfbbpdjmdaa
open Go Go.RowKit

def avInts (l : List Int) : List AV := l.map (AV.int .i64)
def prs : List (Int × Int) → List AV
  | [] => []
  | (a, b) :: r => .int .i64 a :: .int .i64 b :: prs r
theorem prs_len (l : List (Int × Int)) : (prs l).length = l.length * 2 := by
  induction l with
  | nil => rfl
  | cons x r ih => obtain ⟨a, b⟩ := x; simp [prs, ih, Nat.succ_mul]
theorem prs_append (l m : List (Int × Int)) : prs (l ++ m) = prs l ++ prs m := by
  induction l with
  | nil => rfl
  | cons x r ih => obtain ⟨a, b⟩ := x; simp [prs, ih]

section
variable {k : AV → Prop} {ki : IntKind}
@[simp ↓] theorem sl_from {s g off len : Nat} {a : Int} {H : Heap} : SL s (.slc g off len) (some (.int ki a)) none H k = ROWK (H g) fun sz _ => sz = s ∧ 0 ≤ a ∧ a ≤ len ∧ k (.slc g (off + a.toNat * s) ((len : Int) - a).toNat) := by
  simp only [SL, SLICE, lohi, qk]
  refine rowk_ex (fun sz cs h => ?_) fun h => ?_
  · simp [h]
  · intro ha
    split at ha
    · rename_i sz cs he; exact h _ _ he
    · exact ha
end

theorem fill_step (n i : Nat) (h : i < n) : List.take i (avInts (List.replicate i (-1) ++ List.replicate (n - i) 0)) ++ AV.int .i64 (-1) :: List.drop (i + 1) (avInts (List.replicate i (-1) ++ List.replicate (n - i) 0)) = avInts (List.replicate (i + 1) (-1) ++ List.replicate (n - (i + 1)) 0) := by
  have e : n - i = (n - (i + 1)) + 1 := by omega
  rw [e, List.replicate_succ, List.replicate_succ']
  simp [avInts, List.take_append, List.drop_append]

theorem avInts_get (l : List Int) (i : Nat) : (avInts l)[i]? = (l[i]?).map (AV.int .i64) := by simp [avInts]
theorem avInts_set (l : List Int) (i : Nat) (x : Int) (h : i < l.length) : List.take i (avInts l) ++ AV.int .i64 x :: List.drop (i + 1) (avInts l) = avInts (l.set i x) := by
  rw [avInts, avInts, List.map_set, List.set_eq_take_append_cons_drop]; simp [h]
@[simp] theorem avInts_len (l : List Int) : (avInts l).length = l.length := by simp [avInts]

theorem avInts_flat (l : List Int) : (l.map fun n => [AV.int .i64 n]).flatten = avInts l := by
  induction l with
  | nil => rfl
  | cons x r ih => simp [avInts] at ih ⊢; exact ih
/-- The queue in memory. -/
def QAt (H : Heap) (nx : Nat) (lo : Nat) (v : AV) (q : List (Int × Int)) : Prop := ∃ g off cells, v = .slc g off q.length ∧ H g = some (.row 2 cells) ∧ cells.drop off = prs q ∧ off ≤ cells.length ∧ lo ≤ g ∧ g < nx

def HInv (c : Cod) (H0 : Heap) (n0 : Nat) (f : Nat) (xs : List AV) (H : Heap) (nx : Nat) : Prop := ∃ (q : List (Int × Int)) (out : List Int) (v : AV),
  xs = [.ptr n0 0, .slc (n0 + 1) 0 c.ins.length, v] ∧ QAt H nx (n0 + 2) v q ∧ H n0 = some (.row 3 c.avs) ∧ H (n0 + 1) = some (.row 1 (avInts out)) ∧ out.length = c.ins.length ∧ Keep n0 H H0 ∧ n0 + 2 < nx ∧
  VM.heightsGo c.ins f q out = VM.heights c.ins ∧ q.length + 2 * unset out < f ∧ f ≤ 2 * c.ins.length + 2 ∧ (∀ x ∈ q, 0 ≤ x.2 ∧ x.2 ≤ 16) ∧ (∀ x ∈ out, -1 ≤ x ∧ x ≤ 16)

set_option maxHeartbeats 2000000 in
theorem heights_qc (c : Cod) (hlen : c.ins.length ≤ 1048576) (hcalm : Calm c.ins) :
    QC Try.prog 14 [.agg c.avs] (.tup [.ro ((VM.heights c.ins).1.map fun n => [.int .i64 n]), .int .i64 (VM.heights c.ins).2]) := by
  refine QC.of' fun H nx => verify_Heights_calls _ H nx _ ?_
  simp [verify_Heights_vc, Cod.avs]
  refine ⟨by omega, by omega, ?_⟩
  refine LP.mk (fun m xs H' nx' => ∃ i : Nat, i ≤ c.ins.length ∧ m = c.ins.length - i ∧ xs = [.ptr nx 0, .slc (nx + 1) 0 c.ins.length, .int .i64 c.ins.length, .int .i64 i] ∧ nx' = nx + 2 ∧
    H' = (H.put nx (some (.row 3 c.avs))).put (nx + 1) (some (.row 1 (avInts (List.replicate i (-1) ++ List.replicate (c.ins.length - i) 0))))) c.ins.length
    ⟨0, by omega, by omega, by simp, rfl, by simp [avInts, Cod.avs]⟩ ?_
  rintro m xs H' nx' ⟨i, hi, rfl, rfl, rfl, rfl⟩
  simp [verify_Heights_l2]
  refine ⟨fun h => ?_, fun h => ?_⟩
  · refine ⟨h, by omega, ?_⟩
    rw [i64w (by omega)]
    refine ⟨c.ins.length - (i + 1), by omega, i + 1, by omega, rfl, by simp, ?_⟩
    rw [fill_step _ _ h]
  obtain rfl : i = c.ins.length := by omega
  refine LP.mk (HInv c H nx) (2 * c.ins.length + 2) ⟨[(0, 0)], List.replicate c.ins.length (-1), .slc (nx + 2) 0 1, rfl, ⟨nx + 2, 0, [.int .i64 0, .int .i64 0], rfl, by simp, by simp [prs], by simp, by omega, by omega⟩, by simp, by simp, by simp, by simp, by omega, rfl, ?_, by omega, ?_, ?_⟩ ?_
  · unfold unset; simp [List.countP_replicate]; omega
  · intro x hx; simp at hx; subst hx; simp
  · intro x hx; have := List.eq_of_mem_replicate hx; omega
  rintro f xs H1 n1 ⟨q, out, v, rfl, ⟨g, off, cells, rfl, hg, hcells, hoff, hlo, hhi⟩, hb, ho, hol, hK, hn, hgo, hmeas, hf, hq, hout⟩
  cases q with
  | nil =>
    simp [verify_Heights_l1]
    cases f with
    | zero => simp at hmeas
    | succ f =>
      have e : VM.heights c.ins = (out, 0) := by rw [← hgo]; rfl
      rw [e]
      refine ⟨⟨Frz.row (sz := 1) (cells := avInts out) (by omega) ho (by simp [hol]) (by simp) ?_ ?_, rfl⟩, hK⟩
      · exact avInts_flat out
      · intro x hx; simp [avInts] at hx; obtain ⟨a, _, rfl⟩ := hx; exact .int _ _
  | cons x q =>
    obtain ⟨at_, h⟩ := x
    have hc0 : cells[off]? = some (.int .i64 at_) := by have := congrArg (·[0]?) hcells; simpa [prs] using this
    have hc1 : cells[off + 1]? = some (.int .i64 h) := by have := congrArg (·[1]?) hcells; simpa [prs] using this
    have hdrop : cells.drop (off + 2) = prs q := by
      have := congrArg (List.drop 2) hcells
      simpa [prs] using this
    have hoff2 : off + 2 ≤ cells.length := by
      have := congrArg List.length hcells
      simp [prs, prs_len] at this; omega
    cases f with
    | zero => simp at hmeas
    | succ f =>
    have hh := hq (at_, h) (by simp)
    simp only at hh
    have hq' : ∀ x ∈ q, 0 ≤ x.2 ∧ x.2 ≤ 16 := fun x hx => hq x (by simp [hx])
    simp only [List.length_cons] at hmeas
    simp only [VM.heightsGo] at hgo
    by_cases hr : 0 ≤ at_ ∧ at_ < c.ins.length
    case neg =>
      have e : (if 0 ≤ at_ then c.ins[at_.toNat]? else none) = none := by
        split
        · exact List.getElem?_eq_none (by omega)
        · rfl
      rw [e] at hgo
      simp only at hgo
      rw [← hgo]
      by_cases h0 : at_ < 0
      · simp [verify_Heights_l1, hg, hc0, hc1, h0, hK]; omega
      · have : (c.ins.length : Int) ≤ at_ := by omega
        simp [verify_Heights_l1, hg, hc0, hc1, h0, this, hK]; omega
    case pos =>
    obtain ⟨hr0, hr1⟩ := hr
    have hlt : at_.toNat < c.ins.length := by omega
    obtain ⟨i, hi⟩ : ∃ i, c.ins[at_.toNat]? = some i := ⟨_, List.getElem?_eq_getElem hlt⟩
    obtain ⟨o, ho'⟩ : ∃ o, out[at_.toNat]? = some o := ⟨_, List.getElem?_eq_getElem (by omega)⟩
    have hod : out.getD at_.toNat 0 = o := by simp [List.getD_eq_getElem?_getD, ho']
    rw [if_pos hr0, hi, hod] at hgo
    simp only at hgo
    by_cases hs : 0 ≤ o
    · rw [if_pos hs] at hgo
      by_cases hne : o = h
      · subst hne
        rw [if_neg (by simp)] at hgo
        simp [verify_Heights_l1, hg, hc0, hc1, ho, hr0, hr1, avInts_get, ho', hs, Int.not_lt.2 hr0, Int.not_le.2 hr1, Int.not_lt.2 hs]
        refine ⟨by omega, f, by omega, q, out, _, rfl, ⟨g, off + 2, cells, rfl, hg, hdrop, hoff2, hlo, hhi⟩, hb, ho, hol, hK, hn, hgo, by omega, by omega, hq', hout⟩
      · rw [if_pos hne] at hgo
        rw [← hgo]
        simp [verify_Heights_l1, hg, hc0, hc1, ho, hr0, hr1, avInts_get, ho', hs, hne, hK]
        omega
    rw [if_neg hs] at hgo
    have hbd := effect_bd i (hcalm i (List.mem_of_getElem? hi))
    have n1' : g ≠ nx := by omega
    have n2' : g ≠ nx + 1 := by omega
    have n3' : g ≠ n1 := by omega
    have n4' : nx ≠ n1 := by omega
    have n5' : nx + 1 ≠ n1 := by omega
    have hns : o < 0 := by omega
    obtain ⟨_, hi'⟩ := List.getElem?_eq_some_iff.1 hi
    simp [verify_Heights_l1, hg, hc0, hc1, ho, hb, hr0, hr1, avInts_get, ho', hs, hns, hi', Cod.avs, Ins.avs, Int.not_lt.2 hr0, Int.not_le.2 hr1]
    refine ⟨by omega, by omega, QC.call (effect_qc i) ?_⟩
    rw [avInts_set _ _ _ (by omega)]
    have h2g : ((H1.put (nx + 1) (some (.row 1 (avInts (out.set at_.toNat h))))).put n1 (some (.row 3 [.int .i64 i.op, .int .i64 i.a, .int .i64 i.b]))) g = some (.row 2 cells) := by simp [n2', n3', hg]
    have h2b : ((H1.put (nx + 1) (some (.row 1 (avInts (out.set at_.toNat h))))).put n1 (some (.row 3 [.int .i64 i.op, .int .i64 i.a, .int .i64 i.b]))) nx = some (.row 3 c.avs) := by simp [n4', hb]
    have h2o : ((H1.put (nx + 1) (some (.row 1 (avInts (out.set at_.toNat h))))).put n1 (some (.row 3 [.int .i64 i.op, .int .i64 i.a, .int .i64 i.b]))) (nx + 1) = some (.row 1 (avInts (out.set at_.toNat h))) := by simp [n5']
    have h2n : ((H1.put (nx + 1) (some (.row 1 (avInts (out.set at_.toNat h))))).put n1 (some (.row 3 [.int .i64 i.op, .int .i64 i.a, .int .i64 i.b]))) n1 = some (.row 3 [.int .i64 i.op, .int .i64 i.a, .int .i64 i.b]) := by simp
    have h2K : Keep nx ((H1.put (nx + 1) (some (.row 1 (avInts (out.set at_.toNat h))))).put n1 (some (.row 3 [.int .i64 i.op, .int .i64 i.a, .int .i64 i.b]))) H := by rw [Keep.put (by omega), Keep.put (by omega)]; exact hK
    generalize ((H1.put (nx + 1) (some (.row 1 (avInts (out.set at_.toNat h))))).put n1 (some (.row 3 [.int .i64 i.op, .int .i64 i.a, .int .i64 i.b]))) = H2 at *
    have hu := unset_set (out := out) (k := at_.toNat) (h := h) (by omega) (by omega) hh.1
    generalize hE : VM.effect i = E at *
    obtain ⟨nd, gv⟩ := E
    simp only at hbd hgo
    have w1 : IntKind.i64.wrap (gv - nd) = gv - nd := i64w (by omega)
    have w2 : IntKind.i64.wrap (h + (gv - nd)) = h + (gv - nd) := i64w (by omega)
    have w3 : IntKind.i64.wrap (at_ + 1) = at_ + 1 := i64w (by omega)
    by_cases hc1 : h < nd ∨ (i.op = 18 ∧ h ≠ 1)
    · rw [if_pos hc1] at hgo
      rw [← hgo]
      by_cases hc2 : h < nd
      · simp [verify_Heights_k1, hc2, h2K]
      · have h18 : i.op = 18 := by omega
        have h1 : h ≠ 1 := by omega
        simp [verify_Heights_k1, hc2, h2n, h18, h1, h2K]
    rw [if_neg hc1] at hgo
    have hc2 : ¬ h < nd := by omega
    have hc2' : nd ≤ h := by omega
    by_cases hc3 : 16 < h + gv - nd
    · rw [if_pos hc3] at hgo
      rw [← hgo]
      have hc3' : 16 < h + (gv - nd) := by omega
      by_cases h18 : i.op = 18
      · have h1 : h = 1 := by omega
        subst h1
        simp [verify_Heights_k1, hc2, h2n, h18, w1, w2, hc3', h2K]
      · simp [verify_Heights_k1, hc2, h2n, h18, w1, w2, hc3', h2K]
    rw [if_neg hc3] at hgo
    have hc4 : ¬ 16 < h + (gv - nd) := by omega
    have e4 : h + gv - nd = h + (gv - nd) := by omega
    rw [e4] at hgo
    have fin : ∀ (l : List (Int × Int)) (v : AV) (H3 : Heap) (n3 : Nat), VM.heightsGo c.ins f (q ++ l) (out.set at_.toNat h) = VM.heights c.ins → l.length ≤ 2 → (∀ x ∈ l, 0 ≤ x.2 ∧ x.2 ≤ 16) →
        QAt H3 n3 (nx + 2) v (q ++ l) → H3 nx = some (.row 3 c.avs) → H3 (nx + 1) = some (.row 1 (avInts (out.set at_.toNat h))) → Keep nx H3 H → nx + 2 < n3 →
        ∃ m, m < f + 1 ∧ HInv c H nx m [.ptr nx 0, .slc (nx + 1) 0 c.ins.length, v] H3 n3 := by
      intro l v H3 n3 p1 p2 p3 p4 p5 p6 p7 p8
      refine ⟨f, by omega, q ++ l, _, v, rfl, p4, p5, p6, by simpa using hol, p7, p8, p1, by simp; omega, by omega, fun x hx => ?_, fun x hx => ?_⟩
      · rcases List.mem_append.1 hx with hx | hx
        · exact hq' x hx
        · exact p3 x hx
      · rcases List.mem_or_eq_of_mem_set hx with h9 | h9
        · exact hout x h9
        · omega
    have hq0 : QAt H2 (n1 + 1) (nx + 2) (.slc g (off + 2) q.length) q := ⟨g, off + 2, cells, rfl, h2g, hdrop, hoff2, hlo, by omega⟩
    have n6' : g ≠ n1 + 1 := by omega
    have n7' : n1 ≠ g := by omega
    have n8' : nx ≠ g := by omega
    have n9' : nx + 1 ≠ g := by omega
    have htake : List.take (q.length * 2) (List.drop (off + 2) cells) = prs q := by rw [hdrop]; exact List.take_of_length_le (by rw [prs_len]; exact Nat.le_refl _)
    have hclen : off + 2 + q.length * 2 = cells.length := by
      have := congrArg List.length hdrop
      simp [prs_len] at this; omega
    have hql : q.length < 2097156 := by omega
    by_cases h15 : i.op = 15
    · simp [verify_Heights_k1, hc2, hc2', h2n, h15, w1, w2, w3, hc4, h2g, n6', htake]
      refine ⟨by omega, by omega, fin [(i.a, h + (gv - nd))] _ _ _ (by simpa [h15] using hgo) (by simp) (by simp; omega) ⟨n1 + 1 + 1, 0, prs q ++ [.int .i64 i.a, .int .i64 (h + (gv - nd))], by simp, by simp, by simp [prs_append, prs], by simp, by omega, by omega⟩ ?_ ?_ ?_ (by omega)⟩
      · rw [Heap.put_ne _ _ (by omega), Heap.put_ne _ _ (by omega), Heap.put_ne _ _ (by omega)]; exact h2b
      · rw [Heap.put_ne _ _ (by omega), Heap.put_ne _ _ (by omega), Heap.put_ne _ _ (by omega)]; exact h2o
      · rw [Keep.put (by omega), Keep.put (by omega), Keep.put (by omega)]; exact h2K
    by_cases h18 : i.op = 18
    · have h1 : h = 1 := by omega
      subst h1
      simp [verify_Heights_k1, hc2, hc2', h2n, h18, w1, w2, w3, hc4, h2g]
      have := fin [] (.slc g (off + 2) q.length) H2 (n1 + 1) (by simpa [h15, h18] using hgo) (by simp) (by simp) (by simpa using hq0) h2b h2o h2K (by omega)
      exact this
    have n10 : ¬ n1 = n1 + 1 + 1 := by omega
    by_cases h16 : i.op = 16
    · simp [verify_Heights_k1, hc2, hc2', h2n, h16, w1, w2, w3, hc4, h2g, n6', n7', n10, htake, prs_len]
      have htake2 : List.take ((q.length + 1) * 2) (prs q ++ [AV.int .i64 (at_ + 1), AV.int .i64 (h + (gv - nd))]) = prs q ++ [AV.int .i64 (at_ + 1), AV.int .i64 (h + (gv - nd))] := List.take_of_length_le (by simp [prs_len]; omega)
      rw [htake2]
      refine ⟨by omega, by omega, by omega, by omega, fin [(at_ + 1, h + (gv - nd)), (i.a, h + (gv - nd))] (.slc (n1 + 1 + 1 + 1 + 1) 0 (q.length + 1 + 1)) _ _ (by simpa [h15, h16, h18] using hgo) (by simp) (by simp; omega) ⟨n1 + 1 + 1 + 1 + 1, 0, prs q ++ [.int .i64 (at_ + 1), .int .i64 (h + (gv - nd))] ++ [.int .i64 i.a, .int .i64 (h + (gv - nd))], by simp, by simp, by simp [prs_append, prs], by simp, by omega, by omega⟩ ?_ ?_ ?_ (by omega)⟩
      · rw [Heap.put_ne _ _ (by omega), Heap.put_ne _ _ (by omega), Heap.put_ne _ _ (by omega), Heap.put_ne _ _ (by omega), Heap.put_ne _ _ (by omega), Heap.put_ne _ _ (by omega)]; exact h2b
      · rw [Heap.put_ne _ _ (by omega), Heap.put_ne _ _ (by omega), Heap.put_ne _ _ (by omega), Heap.put_ne _ _ (by omega), Heap.put_ne _ _ (by omega), Heap.put_ne _ _ (by omega)]; exact h2o
      · rw [Keep.put (by omega), Keep.put (by omega), Keep.put (by omega), Keep.put (by omega), Keep.put (by omega), Keep.put (by omega)]; exact h2K
    · simp [verify_Heights_k1, hc2, hc2', h2n, h15, h16, h18, w1, w2, w3, hc4, h2g, n6', n7', n10, htake]
      refine ⟨by omega, by omega, fin [(at_ + 1, h + (gv - nd))] (.slc (n1 + 1 + 1) 0 (q.length + 1)) _ _ (by simpa [h15, h16, h18] using hgo) (by simp) (by simp; omega) ⟨n1 + 1 + 1, 0, prs q ++ [.int .i64 (at_ + 1), .int .i64 (h + (gv - nd))], by simp, by simp, by simp [prs_append, prs], by simp, by omega, by omega⟩ ?_ ?_ ?_ (by omega)⟩
      · rw [Heap.put_ne _ _ (by omega), Heap.put_ne _ _ (by omega), Heap.put_ne _ _ (by omega)]; exact h2b
      · rw [Heap.put_ne _ _ (by omega), Heap.put_ne _ _ (by omega), Heap.put_ne _ _ (by omega)]; exact h2o
      · rw [Keep.put (by omega), Keep.put (by omega), Keep.put (by omega)]; exact h2K
end Go.Proofs.Ytckhbfbbpdjmdaa
