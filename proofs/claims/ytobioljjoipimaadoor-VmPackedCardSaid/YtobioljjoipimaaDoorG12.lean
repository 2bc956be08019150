/- A copy of an agent. The machine goes on: Run. The machine goes on: Run. A program, and an agent, are the same as themselves. The machine: Answer. What a call is handed is read by value from then on, in part. The machine: New. What is made of two values: the document's function. The laws' first question, asked of closed facts. The machine: Pack. The machine: Pack, all of it. Words, and instructions: what the document's functions make of them. Rows of numbers. Heights: what the document's function makes of a code. -/
import Derived.Test.YtobioljjoipimaaDoorG11
import Derived.Test.YtobioljjoipimaaDoorG6
import Derived.Test.YtobioljjoipimaaDoorG10
import Derived.Test.YtobioljjoipimaaDoorG9
import Derived.Test.YtobioljjoipimaaDoorG7
set_option linter.unusedSimpArgs false
set_option linter.unusedVariables false
set_option maxRecDepth 8000
namespace Go.Proofs.YtobioljjoipimaaDoor
open Go Go.RowKit
set_option maxHeartbeats 2000000 in
theorem zaex {a : Agt} {H1 : Heap} {p : Nat} {Q : AV → Heap → Nat → Prop} (b1 : a.prog.codes.length * 40 ≤ 140737488355328) (b2 : ∀ c ∈ a.prog.codes, c.ins.length * 24 ≤ 140737488355328) (b3 : a.prog.words.length * 16 ≤ 140737488355328)
    (b4 : a.frames.length * 64 ≤ 140737488355328) (b5 : a.heap.length * 64 ≤ 140737488355328) (b6 : ∀ f ∈ a.frames, f.vars.length * 32 ≤ 140737488355328 ∧ f.stack.length * 32 ≤ 140737488355328)
    (r1 : H1 p = some (.row 9 a.avs)) (r2 : ∃ z, H1 (p + 1) = some (.row 9 z) ∧ z.length = 9)
    (hq : ∀ H' n' mid ss fa ha cv wv, p + 2 ≤ mid → mid ≤ n' → (∀ g, g < p → H' g = H1 g) → FrzP H' (fun g => p + 2 ≤ g ∧ g < mid) cv (.ro (a.prog.codes.map Cod.avs)) → FrzP H' (fun g => p + 2 ≤ g ∧ g < mid) wv (.ro (a.prog.words.map fun w => [.str w])) →
      zka H' mid n' a.frames ss fa a.heap ha → Q (.agg [.int .i64 a.id, .int .i64 a.trip, cv, wv, fa, ha, .int .i64 a.permit.fuel, .int .i64 a.permit.room, .int .i64 a.permit.hops]) H' n') :
    LP (zma Q) [.ptr p 0, .ptr (p + 1) 0, .nils, .ro (a.prog.codes.map Cod.avs), .int .i64 a.prog.codes.length, .int .i64 0] H1 (p + 2) := by
  refine LP.mk (fun k xs H' n' => ∃ (i : Nat) (cv : AV) (cells : List AV), k = a.prog.codes.length - i ∧ i ≤ a.prog.codes.length ∧ p + 2 ≤ n' ∧ xs = [.ptr p 0, .ptr (p + 1) 0, cv, .ro (a.prog.codes.map Cod.avs), .int .i64 a.prog.codes.length, .int .i64 i] ∧ (∀ g, g < p + 2 → H' g = H1 g) ∧
    zdk H' (fun g => p + 2 ≤ g ∧ g < n' ∧ g ∉ own cv) (a.prog.codes.take i) cells ∧ Slot H' 3 i cells cv ∧ ∀ g ∈ own cv, p + 2 ≤ g ∧ g < n') a.prog.codes.length ⟨0, .nils, [], rfl, by omega, Nat.le_refl _, rfl, fun _ _ => rfl, ⟨rfl, fun k c hc => by simp at hc⟩, .inl ⟨rfl, .inl rfl⟩, by simp [own]⟩ ?_
  rintro k xs H' n' ⟨i, cv, cells, rfl, hi, hn', rfl, hkeep, hc, hs, ho⟩
  have p0 : p ≠ n' := by omega
  have p1 : p + 1 ≠ n' := by omega
  by_cases hil : i < a.prog.codes.length
  · have hmem : a.prog.codes[i] ∈ a.prog.codes := List.getElem_mem hil
    have hb := b2 _ hmem
    have htk : a.prog.codes.take (i + 1) = a.prog.codes.take i ++ [a.prog.codes[i]] := (List.take_append_getElem hil).symm
    have tl : (a.prog.codes.take i).length = i := by simp; omega
    simp [zma, hil, Cod.avs]
    refine (zagb hb .ro).mono fun v H5 n5 ⟨hn5, k5, hv⟩ => ?_
    have e1 : H5 n' = _ := (k5 n' (by omega)).trans (Heap.put_at _ _ _)
    have nn : n' ≠ n5 := by omega
    simp [zwb, e1, hv.one.1, hv.one.2]
    refine Slot.app (bytes := 40) (nx := n5 + 1) (new := [.int .i64 a.prog.codes[i].params, .int .i64 a.prog.codes[i].vars, v]) (hs.keep fun g hg => ?_) (by rw [hc.1, tl]) (Heap.put_at _ _ _) rfl (by simp [hv.one.2]) (by omega) fun H3 q1 q2 => ?_
    · have := ho g hg
      rw [Heap.put_ne _ _ (by omega), Heap.put_ne _ _ (by omega), k5 g (by omega), Heap.put_ne _ _ (by omega)]
    · have old : ∀ g, g < n' → g ∉ own cv → H3 g = H' g := fun g h1 h2 => by
        rw [q2 g h2 (by omega), Heap.put_ne _ _ (by omega), Heap.put_ne _ _ (by omega), k5 g (by omega), Heap.put_ne _ _ (by omega)]
      rw [i64w (by omega)]
      refine ⟨a.prog.codes.length - (i + 1), by omega, i + 1, rfl, by omega, by omega, _, ⟨rfl, by simp⟩, fun g hg => ?_, cells ++ [.int .i64 a.prog.codes[i].params, .int .i64 a.prog.codes[i].vars, v], ?_, ?_, ?_⟩
      · rw [old g (by omega) (fun h => by have := ho g h; omega)]; exact hkeep g hg
      · rw [htk]
        refine zdk.snoc (hc.more fun g ⟨h1, h2, h3⟩ => ⟨⟨h1, by omega, by simp [own]; omega⟩, old g h2 h3⟩) (hv.more fun g ⟨h1, h2⟩ => ⟨⟨by omega, by omega, by simp [own]; omega⟩, ?_⟩)
        rw [q2 g (fun h => by have := ho g h; omega) (by omega), Heap.put_ne _ _ (by omega), Heap.put_ne _ _ (by omega)]
      · refine .inr ⟨n5 + 1, _, rfl, q1, List.take_of_length_le ?_, ?_⟩
        · simp [hc.1, tl]; omega
        · simp [hc.1, tl]; omega
      · intro g hg
        simp [own] at hg; omega
  · obtain rfl : i = a.prog.codes.length := by omega
    rw [List.take_length] at hc
    obtain ⟨z, r2, z9⟩ := r2
    rw [← hkeep p (by omega)] at r1
    rw [← hkeep (p + 1) (by omega)] at r2
    simp [zma, r1, Agt.avs]
    refine (zaga b3 .ro).mono fun wv H5 n5 ⟨hn5, k5, hw⟩ => ?_
    have e1 : H5 p = _ := (k5 p (by omega)).trans r1
    have e2 : H5 (p + 1) = _ := (k5 (p + 1) (by omega)).trans r2
    simp [zvz, e1, Agt.avs, hs.one.1, hs.one.2, hw.one.1, hw.one.2]
    have pp : p + 1 ≠ p := by omega
    have fz1 : FrzP H5 (fun g => p + 2 ≤ g ∧ g < n5) cv (.ro (a.prog.codes.map Cod.avs)) := by
      refine (hc.frz (G := fun g => p + 2 ≤ g ∧ g < n') (fun g ⟨h1, h2, _⟩ => ⟨h1, h2⟩) hs ho).keep (fun g ⟨h1, h2⟩ => k5 g h2) |>.wide fun g ⟨h1, h2⟩ => ⟨h1, by omega⟩
    have fz2 : FrzP H5 (fun g => p + 2 ≤ g ∧ g < n5) wv (.ro (a.prog.words.map fun w => [.str w])) := hw.frz (fun g ⟨h1, h2⟩ => ⟨by omega, h2⟩) (zty _)
    refine zacy b4 b5 b6 (by omega) (Heap.put_at _ _ _) ⟨z, by rw [Heap.put_ne _ _ pp]; exact e2, z9⟩ hs.one hw.one fun H6 n6 ss fa ha hn6 k6 ow => ?_
    have same : ∀ g, p + 2 ≤ g → g < n5 → H6 g = H5 g := fun g h1 h2 => by rw [k6 g h2 (by omega) (by omega), Heap.put_ne _ _ (by omega)]
    refine hq H6 n6 n5 ss fa ha cv wv (by omega) hn6 (fun g hg => ?_) (fz1.keep fun g ⟨h1, h2⟩ => same g h1 h2) (fz2.keep fun g ⟨h1, h2⟩ => same g h1 h2) ow
    rw [k6 g (by omega) (by omega) (by omega), Heap.put_ne _ _ (by omega), k5 g (by omega), hkeep g (by omega)]
structure zup (a : Agt) : Prop where
  b1 : a.prog.codes.length * 40 ≤ 140737488355328
  b2 : ∀ c ∈ a.prog.codes, c.ins.length * 24 ≤ 140737488355328
  b3 : a.prog.words.length * 16 ≤ 140737488355328
  b4 : a.frames.length * 64 ≤ 140737488355328
  b5 : a.heap.length * 64 ≤ 140737488355328
  b6 : ∀ f ∈ a.frames, f.vars.length * 32 ≤ 140737488355328 ∧ f.stack.length * 32 ≤ 140737488355328
def zag (id trip : Int) (p : Prg) (fa ha : AV) (m : Pmt) : List AV := [.int .i64 id, .int .i64 trip, .ro (p.codes.map Cod.avs), .ro (p.words.map fun w => [.str w]), fa, ha, .int .i64 m.fuel, .int .i64 m.room, .int .i64 m.hops]
theorem zyo {a : Agt} (sz : zup a) {H : Heap} {n : Nat} {Q : AV → Heap → Nat → Prop}
    (hq : ∀ H' n' ss fa ha, n ≤ n' → Keep n H' H → zka H' n n' a.frames ss fa a.heap ha → Q (.agg (zag a.id a.trip a.prog fa ha a.permit)) H' n') : za Tryd.prog 55 [.agg a.avs] H n Q := by
  have raw : za Tryd.prog 55 [.agg a.avs] H n fun v H' n' => ∃ mid ss fa ha cv wv, v = .agg [.int .i64 a.id, .int .i64 a.trip, cv, wv, fa, ha, .int .i64 a.permit.fuel, .int .i64 a.permit.room, .int .i64 a.permit.hops] ∧ n + 2 ≤ mid ∧ mid ≤ n' ∧ Keep n H' H ∧
      FrzP H' (fun g => n + 2 ≤ g ∧ g < mid) cv (.ro (a.prog.codes.map Cod.avs)) ∧ FrzP H' (fun g => n + 2 ≤ g ∧ g < mid) wv (.ro (a.prog.words.map fun w => [.str w])) ∧ zka H' mid n' a.frames ss fa a.heap ha := by
    refine zyc _ H n _ ?_
    have av : (AV.agg a.avs).cells = a.avs := by simp
    have al : a.avs.length = 9 := rfl
    have nn : n ≠ n + 1 := by omega
    have h2 : a.avs[2]? = some (.ro (a.prog.codes.map Cod.avs)) := rfl
    have hsu : (AV.agg a.avs).sure = true := by simp [Agt.avs]
    unfold zvy
    rw [av, al]
    refine ⟨hsu, ?_⟩
    simp [nn, h2]
    refine zaex sz.b1 sz.b2 sz.b3 sz.b4 sz.b5 sz.b6 (by rw [Heap.put_ne _ _ nn, Heap.put_at]) ⟨_, Heap.put_at _ _ _, rfl⟩ fun H' n' mid ss fa ha cv wv q1 q2 q3 q4 q5 q6 => ?_
    exact ⟨mid, ss, fa, ha, cv, wv, rfl, q1, q2, fun g hg => by rw [q3 g hg, Heap.put_ne _ _ (by omega), Heap.put_ne _ _ (by omega)], q4, q5, q6⟩
  refine za.tidy fun hlive => raw.freeze fun v H' n' ⟨mid, ss, fa, ha, cv, wv, hv, q1, q2, q3, q4, q5, q6⟩ => ?_
  subst hv
  let H2 : Heap := fun g => if n ≤ g ∧ g < mid then none else H' g
  have h2 : ∀ g, ¬ (n ≤ g ∧ g < mid) → H2 g = H' g := fun g hg => if_neg hg
  refine ⟨_, H2, fun g => n ≤ g ∧ g < mid, hq H2 n' ss fa ha (by omega) (fun g hg => by rw [h2 g (by omega)]; exact q3 g hg) ⟨q6.frs.keep fun g hg => h2 g ?_, q6.row.keep fun g hg => h2 g ?_, q6.hp.keep fun g hg => h2 g ?_, q6.nd, fun g hg => ?_⟩, ?_, fun g o hg => ?_⟩
  · have := q6.bd g (by simp [hg]); omega
  · have := q6.bd g (by simp [hg]); omega
  · have := q6.bd g (by simp [hg]); omega
  · have := q6.bd g hg; omega
  · refine .agg _ _ rfl fun j v u hv hu => ?_
    match j with
    | 0 => cases hv; cases hu; exact .same _
    | 1 => cases hv; cases hu; exact .same _
    | 2 => cases hv; cases hu; exact q4.wide fun g ⟨h1, h2⟩ => ⟨by omega, h2⟩
    | 3 => cases hv; cases hu; exact q5.wide fun g ⟨h1, h2⟩ => ⟨by omega, h2⟩
    | 4 => cases hv; cases hu; exact .same _
    | 5 => cases hv; cases hu; exact .same _
    | 6 => cases hv; cases hu; exact .same _
    | 7 => cases hv; cases hu; exact .same _
    | 8 => cases hv; cases hu; exact .same _
    | j + 9 => simp at hv
  · by_cases h : n ≤ g ∧ g < mid
    · simp only [H2, if_pos h] at hg; cases hg
    · exact ⟨h, by rw [h2 g h] at hg; exact hg⟩
end Go.Proofs.YtobioljjoipimaaDoor
set_option maxRecDepth 8000
namespace Go.Proofs.YtobioljjoipimaaDoor
open Go Go.RowKit
theorem Slot.frzN {H : Heap} {nx sz : Nat} {xs : List (List AV)} {a : AV} (hs : Slot H sz xs.length xs.flatten a) (ho : ∀ g ∈ own a, nx ≤ g) (hsz : ∀ x ∈ xs, x.length = sz) (hb : ∀ x ∈ xs, ∀ c ∈ x, scal c = true) : Frz H nx a (.ro xs) := by
  rcases hs with ⟨h0, rfl | rfl⟩ | ⟨g, cs, rfl, h1, h2, h3⟩
  · rw [List.eq_nil_of_length_eq_zero h0]; exact .nils
  · rw [List.eq_nil_of_length_eq_zero h0]; exact .zs
  · have e : ∀ (i : Nat) (x : List AV) (j : Nat) (v : AV), xs[i]? = some x → x[j]? = some v → cs[0 + i * sz + j]? = some v := fun i x j v hx hv => by
      have hxl : x.length = sz := hsz x (List.mem_of_getElem? hx)
      have hj : j < sz := by have := (List.getElem?_eq_some_iff.1 hv).1; omega
      have hi := (List.getElem?_eq_some_iff.1 hx).1
      have e1 := zfy hsz hx
      have e2 := congrArg (·[j]?) e1
      simp only [List.getElem?_take, List.getElem?_drop, hj, if_true] at e2
      rw [← h2, List.getElem?_take, hv] at e2
      have : i * sz + sz ≤ xs.length * sz := by rw [← Nat.succ_mul]; exact Nat.mul_le_mul_right _ hi
      rw [if_pos (by omega)] at e2
      rw [Nat.zero_add]; exact e2
    refine .slc g 0 _ sz cs xs (ho g (by simp [own])) h1 (by omega) rfl hsz (fun i j => (cs[0 + i * sz + j]?).getD .junk) (fun i x j v hx hv => ?_) (fun i x j v hx hv => ?_)
    · rw [e i x j v hx hv]; rfl
    · rw [e i x j v hx hv]; exact .same _ (zbe (hb x (List.mem_of_getElem? hx) v (List.mem_of_getElem? hv)))
theorem Slot.frzV {H : Heap} {nx : Nat} {l : List Val} {a : AV} (hs : Slot H 3 l.length (rowV l) a) (ho : ∀ g ∈ own a, nx ≤ g) : Frz H nx a (.ro (l.map Val.avs)) :=
  Slot.frzN (sz := 3) (by simpa [rowV] using hs) ho (zfs l) (zfw l)
theorem Slot.frzH {H : Heap} {nx : Nat} {l : List Cl} {a : AV} (hs : Slot H 6 l.length (rowC l) a) (ho : ∀ g ∈ own a, nx ≤ g) : Frz H nx a (.ro (l.map Cl.avs)) :=
  Slot.frzN (sz := 6) (by simpa [rowC] using hs) ho (zbg l) (zcy l)
theorem zabh : ∀ {fs : List Frm} {ss : List (AV × AV)} {i : Nat} {f : Frm} {s : AV × AV}, fs[i]? = some f → ss[i]? = some s → (frow fs ss)[i * 4]? = some (.int .i64 f.fn) ∧ (frow fs ss)[i * 4 + 1]? = some (.int .i64 f.at_) ∧ (frow fs ss)[i * 4 + 2]? = some s.1 ∧ (frow fs ss)[i * 4 + 3]? = some s.2
  | [], _, i, f, s, h, _ => by simp at h
  | _ :: _, [], i, f, s, _, h => by simp at h
  | g :: fs, t :: ss, 0, f, s, h1, h2 => by simp at h1 h2; subst h1; subst h2; exact ⟨rfl, rfl, rfl, rfl⟩
  | g :: fs, t :: ss, i + 1, f, s, h1, h2 => by
    have := zabh (fs := fs) (ss := ss) (i := i) (f := f) (s := s) (by simpa using h1) (by simpa using h2)
    have e : ∀ k, (frow (g :: fs) (t :: ss))[(i + 1) * 4 + k]? = (frow fs ss)[i * 4 + k]? := fun k => by
      rw [show (i + 1) * 4 + k = i * 4 + k + 1 + 1 + 1 + 1 by omega]
      simp [frow]
    exact ⟨(e 0).trans this.1, (e 1).trans this.2.1, (e 2).trans this.2.2.1, (e 3).trans this.2.2.2⟩
theorem zac.frz {H : Heap} {nx : Nat} {fs : List Frm} {ss : List (AV × AV)} {g k : Nat} {cs : List AV} (h : zac H fs ss) (h1 : H g = some (.row 4 cs)) (h2 : cs.take (fs.length * 4) = frow fs ss) (h3 : fs.length * 4 ≤ cs.length) (hg : nx ≤ g) (ho : ∀ x ∈ owns ss, nx ≤ x) (hk : k = fs.length) : Frz H nx (.slc g 0 k) (.ro (fs.map Frm.avs)) := by
  subst hk
  have key : ∀ (i : Nat) (x : List AV) (j : Nat) (v : AV), (fs.map Frm.avs)[i]? = some x → x[j]? = some v → ∃ u, cs[0 + i * 4 + j]? = some u ∧ Frz H nx u v := fun i x j v hx hv => by
    rw [List.getElem?_map] at hx
    obtain ⟨f, hf, rfl⟩ := Option.map_eq_some_iff.1 hx
    have hi := (List.getElem?_eq_some_iff.1 hf).1
    have hs : ss[i]? = some (ss[i]'(by rw [h.1]; exact hi)) := List.getElem?_eq_getElem _
    obtain ⟨a, b⟩ := h.2 i f _ hf hs
    obtain ⟨q0, q1, q2, q3⟩ := zabh hf hs
    have hm := List.mem_of_getElem? hs
    have up : ∀ (j : Nat) (u : AV), j < 4 → (frow fs ss)[i * 4 + j]? = some u → cs[0 + i * 4 + j]? = some u := fun j u hj hu => by
      rw [← h2, List.getElem?_take, if_pos (by omega)] at hu; rw [Nat.zero_add]; exact hu
    match j, hv with
    | 0, hv => cases hv; exact ⟨_, up 0 _ (by omega) q0, .same _ (.int _ _)⟩
    | 1, hv => cases hv; exact ⟨_, up 1 _ (by omega) q1, .same _ (.int _ _)⟩
    | 2, hv => cases hv; exact ⟨_, up 2 _ (by omega) q2, a.frzV fun x hx => ho x (List.mem_flatMap.2 ⟨_, hm, List.mem_append_left _ hx⟩)⟩
    | 3, hv => cases hv; exact ⟨_, up 3 _ (by omega) q3, b.frzV fun x hx => ho x (List.mem_flatMap.2 ⟨_, hm, List.mem_append_right _ hx⟩)⟩
    | j + 4, hv => simp [Frm.avs] at hv
  refine .slc g 0 _ 4 cs _ hg h1 (by omega) (by simp) (fun x hx => ?_) (fun i j => (cs[0 + i * 4 + j]?).getD .junk) (fun i x j v hx hv => ?_) (fun i x j v hx hv => ?_)
  · obtain ⟨f, _, rfl⟩ := List.mem_map.1 hx; rfl
  · obtain ⟨u, q1, q2⟩ := key i x j v hx hv; rw [q1]; rfl
  · obtain ⟨u, q1, q2⟩ := key i x j v hx hv; rw [q1]; exact q2
theorem zwx (l : List Cod) {A : Nat → Prop} : Bel A (.ro (l.map Cod.avs)) := .ro _ fun i x j v hx hv => by
  rw [List.getElem?_map] at hx
  obtain ⟨c, _, rfl⟩ := Option.map_eq_some_iff.1 hx
  match j, hv with
  | 0, hv => cases hv; exact .int _ _
  | 1, hv => cases hv; exact .int _ _
  | 2, hv => cases hv; exact zgp (zwf _)
  | j + 3, hv => simp [Cod.avs] at hv
theorem zww (l : List Str) {A : Nat → Prop} : Bel A (.ro (l.map fun w => [.str w])) := zgp (zwe l)
theorem zmg {H : Heap} {nx : Nat} {id trip : Int} {p : Prg} {fs : List Frm} {h : List Cl} {m : Pmt} {fa ha : AV} (h1 : Frz H nx fa (.ro (fs.map Frm.avs))) (h2 : Frz H nx ha (.ro (h.map Cl.avs))) : Frz H nx (.agg (zag id trip p fa ha m)) (.agg (Agt.avs ⟨id, trip, p, fs, h, m⟩)) := by
  refine .agg _ _ rfl fun j v u hv hu => ?_
  match j with
  | 0 => cases hv; cases hu; exact .same _ (.int _ _)
  | 1 => cases hv; cases hu; exact .same _ (.int _ _)
  | 2 => cases hv; cases hu; exact .same _ (zwx _)
  | 3 => cases hv; cases hu; exact .same _ (zww _)
  | 4 => cases hv; cases hu; exact h1
  | 5 => cases hv; cases hu; exact h2
  | 6 => cases hv; cases hu; exact .same _ (.int _ _)
  | 7 => cases hv; cases hu; exact .same _ (.int _ _)
  | 8 => cases hv; cases hu; exact .same _ (.int _ _)
  | j + 9 => simp [zag] at hv
theorem Live.codes {a : Agt} {fs : List Frm} {f : Frm} (l : VM.Live a fs f) : a.prog.codes.length ≤ 5 ∧ a.prog.words.length ≤ 16 ∧ ∀ c ∈ a.prog.codes, c.ins.length ≤ 200 ∧ 0 ≤ c.vars ∧ c.vars ≤ 8 ∧ (∀ x ∈ (VM.heights c.ins).1, -1 ≤ x ∧ x ≤ 16) := by
  obtain ⟨h1, h2, h3⟩ := zw l.prog
  refine ⟨h2, h3, fun c hc => ?_⟩
  obtain ⟨q1, q2, q3⟩ := h1 c hc
  unfold VM.codeRange at q1
  rw [decide_eq_false_iff_not] at q1
  exact ⟨by omega, by omega, by omega, (zcm q2 q3).2⟩
theorem Live.stk {a : Agt} {fs : List Frm} {f : Frm} (l : VM.Live a fs f) : ∀ g ∈ a.frames, g.vars.length ≤ 8 ∧ g.stack.length ≤ 16 := by
  obtain ⟨_, _, h3⟩ := Live.codes l
  intro g hg
  rw [l.fr] at hg
  have ok := l.ok g hg
  obtain ⟨q1, q2, q3, q4⟩ := h3 _ (VM.code_mem ok.code)
  have hv := ok.vars
  refine ⟨by omega, ?_⟩
  rcases List.mem_append.1 hg with hg | hg
  · have := zvs l g hg; omega
  · simp at hg; subst hg
    have hst := l.still
    unfold VM.Still VM.hts at hst
    have := q4 _ (List.mem_of_getElem? hst)
    omega
theorem Live.sized {a : Agt} {fs : List Frm} {f : Frm} (l : VM.Live a fs f) : zup a := by
  obtain ⟨h1, h2, h3⟩ := Live.codes l
  have hf : a.frames.length ≤ 12 := by rw [l.fr]; simp; have := l.flen; omega
  have hh : a.heap.length ≤ 60 := by have := l.hlen; have := l.room; omega
  exact ⟨by omega, fun c hc => by have := (h3 c hc).1; omega, by omega, by omega, by omega, fun g hg => by have := Live.stk l g hg; omega⟩
theorem RL.of_owned {H0 H : Heap} {lo n gs : Nat} {id trip : Int} {p : Prg} {s : Spt} {fs : List Frm} {f : Frm} {ss : List (AV × AV)} {fa : AV} {h : List Cl} {ha : AV} {m : Pmt} {e : Evt} (ow : zka H lo n (fs ++ [f]) ss fa h ha) (hn : lo ≤ n) (h2 : gs < lo) (hs : H gs = some (.row 4 s.avs)) (hk : Keep lo H H0) :
    ∃ gf ss' va sa, fa = .slc gf 0 (fs.length + 1) ∧ RL H0 (H.put n (some (.row 13 (zc id trip p (.slc gf 0 (fs.length + 1)) ha m gs e)))) lo (n + 1) n gs gf id trip p s fs ss' f va sa h ha m e := by
  obtain ⟨f1, f2, f3, f4, f5⟩ := ow
  have hl : ss.length = fs.length + 1 := by rw [f1.1]; simp
  obtain ⟨ss', t, rfl⟩ : ∃ ss' t, ss = ss' ++ [t] := by
    rcases List.eq_nil_or_concat ss with rfl | ⟨ss', t, h⟩
    · simp at hl
    · exact ⟨ss', t, by simpa using h⟩
  rcases f2 with ⟨h0, _⟩ | ⟨gf, cs, rfl, c1, c2, c3⟩
  · simp at h0
  have nb : ∀ g ∈ own (AV.slc gf 0 (fs ++ [f]).length) ++ (own ha ++ owns (ss' ++ [t])), g ≠ n ∧ lo ≤ g ∧ g < n := fun g hg => by have := f5 g hg; omega
  have put : ∀ g, g < n → (H.put n (some (.row 13 (zc id trip p (.slc gf 0 (fs.length + 1)) ha m gs e)))) g = H g := fun g hg => Heap.put_ne _ _ (by omega)
  obtain ⟨l1, l2, l3⟩ := f1.last
  have ef : (fs ++ [f]).length = fs.length + 1 := by simp
  rw [ef] at c2 c3 nb f4 f5
  rw [zch l1.1] at c2
  have bh : ∀ g ∈ own ha, lo ≤ g ∧ g < n := fun g hg => f5 g (by simp [hg])
  have bs : ∀ g ∈ owns (ss' ++ [t]), lo ≤ g ∧ g < n := fun g hg => f5 g (by rw [List.mem_append, List.mem_append]; exact .inr (.inr hg))
  have bf : lo ≤ gf ∧ gf < n := f5 gf (by simp [own])
  have es := zce ss' t
  refine ⟨gf, ss', t.1, t.2, by rw [ef], Heap.put_at _ _ _, ⟨cs, by rw [put gf bf.2]; exact c1, c2, c3⟩, l1.keep fun g hg => put g (bs g (by rw [es]; simp [hg])).2, l2.keep fun g hg => put g (bs g (by rw [es]; simp [hg])).2, l3.keep fun g hg => put g (bs g (by rw [es]; simp [hg])).2, f3.keep fun g hg => put g (bh g hg).2, by rw [put gs (by omega)]; exact hs, ?_, by omega, ?_, ?_, by omega⟩
  · rw [es] at f4
    have e0 : own (AV.slc gf 0 (fs.length + 1)) = [gf] := rfl
    rw [e0, List.singleton_append] at f4
    refine List.nodup_cons.2 ⟨?_, List.nodup_cons.2 ⟨?_, f4⟩⟩
    · intro hm
      rcases List.mem_cons.1 hm with h | h
      · omega
      · have := f5 n (by rw [es, e0]; exact h); omega
    · intro hm
      have := f5 gs (by rw [es, e0]; exact hm); omega
  · intro g hg
    rcases List.mem_cons.1 hg with h | hg
    · omega
    have := f5 g (by rw [es]; exact hg)
    omega
  · intro g hg
    rw [put g (by omega)]; exact hk g hg
def zajt (H0 H : Heap) (lo n gr : Nat) (r : Agt × Evt) : Prop := r.2.kind ≠ 0 ∧ gr < n ∧ Fin H0 H lo gr r.1.id r.1.trip r.1.prog r.1.frames r.1.heap r.1.permit r.2
end Go.Proofs.YtobioljjoipimaaDoor
namespace Go.Proofs.YtobioljjoipimaaDoor
open Go Go.RowKit
theorem Fin.frz {H0 H : Heap} {lo nx gr : Nat} {id trip : Int} {p : Prg} {frames : List Frm} {h : List Cl} {m : Pmt} {e : Evt} (fi : Fin H0 H lo gr id trip p frames h m e) (hnx : nx ≤ lo) :
    ∃ gs fa ha, H gr = some (.row 13 (zc id trip p fa ha m gs e)) ∧ Keep lo H H0 ∧ fa.one = true ∧ fa.sure = true ∧ ha.one = true ∧ ha.sure = true ∧ fa.cells = [fa] ∧ ha.cells = [ha] ∧ ∀ H2 : Heap, (∀ g, lo ≤ g → H2 g = H g) → Frz H2 nx (.agg (zag id trip p fa ha m)) (.agg (Agt.avs ⟨id, trip, p, frames, h, m⟩)) := by
  obtain ⟨gs, gf, ss, ha, cs, h1, h2, h3, h4, h5, h6, h7, h8, h9, h10⟩ := fi
  refine ⟨gs, _, ha, h1, h10, rfl, rfl, h6.one.2.1, h6.one.2.2, rfl, h6.one.1, fun H2 hk => ?_⟩
  refine zmg (zac.frz (h5.keep fun g hg => hk g (h9 g hg)) (by rw [hk gf h7]; exact h2) h3 h4 (by omega) (fun x hx => by have := h9 x hx; omega) rfl) ((h6.keep fun g hg => hk g (h8 g hg)).frzH fun x hx => by have := h8 x hx; omega)
theorem zahm (s : Spt) (a : Agt) : VM.run s 0 a = (a, ⟨1, [], 0⟩) := rfl
theorem zyi (s : Spt) (n : Nat) (a : Agt) : VM.run s (n + 1) a = if (VM.step a s).2.kind ≠ 0 then VM.step a s else VM.run s n (VM.step a s).1 := rfl
structure zki (H0 H : Heap) (lo nx n : Nat) (gr gs : Nat) (most x : Int) (s : Spt) (r : Agt × Evt) (k : Nat) : Prop where
  r1 : ∃ z, H (nx + 2) = some (.row 9 z) ∧ z.length = 9
  r2 : ∃ z, H (nx + 3) = some (.row 3 z) ∧ z.length = 3
  grn : lo ≤ gr ∧ gr < n
  keep : Keep lo H H0
  st : (∃ i : Nat, x = i ∧ i ≤ most.toNat ∧ k = most.toNat - i + 1 ∧ ∃ b fs f gf ss va sa ha, VM.Live b fs f ∧ RL H0 H lo n gr gs gf b.id b.trip b.prog s fs ss f va sa b.heap ha b.permit VM.ev0 ∧ VM.run s (most.toNat - i) b = r) ∨ (k = 0 ∧ zajt H0 H lo n gr r)
theorem zaay {c : Agt} {fs : List Frm} {f : Frm} (l : VM.Live c fs f) (hf : c.permit.fuel ≠ 0) (s : Spt) : VM.step c s = VM.opDo { c with permit := { c.permit with fuel := c.permit.fuel - 1 } } s fs { f with at_ := f.at_ + 1 } (VM.insAt c.prog f) := by
  have e1 : c.frames.getLast? = some f := by rw [l.fr]; simp
  have e2 : c.frames.dropLast = fs := by rw [l.fr]; simp
  unfold VM.step
  rw [if_neg hf, e1, e2]
set_option maxRecDepth 20000 in
set_option maxHeartbeats 1000000 in
theorem zaho {s : Spt} {most : Int} {r : Agt × Evt} {nx gr : Nat} {H0 H : Heap} {n : Nat} {Q : AV → Heap → Nat → Prop} (hname : s.name.length ≤ maxLen) (hfacts : s.facts.length ≤ 4611686018427387903) (hw : ∀ x ∈ s.facts, VM.WrongOk x.val (0 : Int)) (hm : most ≤ 9223372036854775807)
    (h0 : ∃ k, zki H0 H (nx + 4) nx n gr (nx + 1) most 0 s r k)
    (hq : ∀ H' n' fa ha, r.2.kind ≠ 0 → Keep nx H' H0 → Frz H' nx (.agg (zag r.1.id r.1.trip r.1.prog fa ha r.1.permit)) (.agg r.1.avs) → Q (.tup [.agg (zag r.1.id r.1.trip r.1.prog fa ha r.1.permit), .agg r.2.avs]) H' n') :
    LP (zdu Q) [.int .i64 most, .ptr (nx + 2) 0, .ptr (nx + 3) 0, .ptr gr 0, .int .i64 0] H n := by
  obtain ⟨k0, h0⟩ := h0
  refine LP.mk (fun k xs H' n' => ∃ x : Int, xs = [.int .i64 most, .ptr (nx + 2) 0, .ptr (nx + 3) 0, .ptr gr 0, .int .i64 x] ∧ zki H0 H' (nx + 4) nx n' gr (nx + 1) most x s r k) k0 ⟨0, rfl, h0⟩ ?_
  rintro k xs H' n' ⟨x, rfl, b⟩
  suffices key : ∀ K : J3, (∀ (x : Int) H' n' k', k' < k → zki H0 H' (nx + 4) nx n' gr (nx + 1) most x s r k' → K [.int .i64 most, .ptr (nx + 2) 0, .ptr (nx + 3) 0, .ptr gr 0, .int .i64 x] H' n') → zdu Q K [.int .i64 most, .ptr (nx + 2) 0, .ptr (nx + 3) 0, .ptr gr 0, .int .i64 x] H' n' from
    key _ fun x H' n' k' hk hb => ⟨k', hk, x, rfl, hb⟩
  intro K hK
  obtain ⟨⟨z1, z2, z3⟩, ⟨y1, y2, y3⟩, ⟨g1, g2⟩, hkeep, st⟩ := b
  rcases st with ⟨i, rfl, hi, rfl, c, fs, f, gf, ss, va, sa, ha, l, st, hr⟩ | ⟨rfl, hk0, g3, fi⟩
  · have hrun := st.run
    have e0 : VM.ev0.kind = 0 := rfl
    have go : ∀ H1 n1 x k', n' ≤ n1 → Keep (nx + 4) H1 H0 → ((∃ i : Nat, x = (i : Int) ∧ i ≤ most.toNat ∧ k' = most.toNat - i + 1 ∧ ∃ b fs f gf ss va sa ha, VM.Live b fs f ∧ RL H0 H1 (nx + 4) n1 gr (nx + 1) gf b.id b.trip b.prog s fs ss f va sa b.heap ha b.permit VM.ev0 ∧ VM.run s (most.toNat - i) b = r) ∨ (k' = 0 ∧ zajt H0 H1 (nx + 4) n1 gr r)) → zki H0 H1 (nx + 4) nx n1 gr (nx + 1) most x s r k' := fun H1 n1 x k' hn hk hs =>
      ⟨⟨z1, by rw [hk _ (by omega), ← hkeep _ (by omega)]; exact z2, z3⟩, ⟨y1, by rw [hk _ (by omega), ← hkeep _ (by omega)]; exact y2, y3⟩, ⟨g1, by omega⟩, hk, hs⟩
    by_cases hge : most ≤ i
    · have : most.toNat - i = 0 := by omega
      rw [this, zahm] at hr
      simp [zdu, hrun, zc, e0, hge]
      have st1 := st.setrun c.permit ⟨1, [], 0⟩
      refine hK _ _ _ 0 (by omega) (go _ _ _ _ (Nat.le_refl _) st1.keep (.inr ⟨rfl, ?_⟩))
      rw [← hr]
      refine ⟨by simp, g2, ?_⟩
      have := st1.fin
      rw [← l.fr] at this
      exact this
    · obtain ⟨j, hj⟩ : ∃ j, most.toNat - i = j + 1 := ⟨most.toNat - i - 1, by omega⟩
      have hadd : IntKind.i64.wrap ((i : Int) + 1) = ((i + 1 : Nat) : Int) := by rw [i64w (by omega)]; rfl
      rw [hj, zyi] at hr
      by_cases hfu : c.permit.fuel = 0
      · simp [zdu, hrun, zc, e0, hge, hfu]
        refine zhh st 12 fun H1 st1 => ?_
        have hs : VM.step c s = (c, VM.dead 12) := by unfold VM.step; rw [if_pos hfu]
        rw [hs, if_pos (by simp [VM.dead])] at hr
        simp [zvx, hadd]
        refine hK _ _ _ 0 (by omega) (go _ _ _ _ (Nat.le_refl _) st1.keep (.inr ⟨rfl, ?_⟩))
        rw [← hr]
        refine ⟨by simp [VM.dead], g2, ?_⟩
        have := st1.fin
        rw [← l.fr] at this
        exact this
      · simp [zdu, hrun, zc, e0, hge, hfu]
        refine zajx l hfu st hname hfacts fun H1 n1 hn1 sp => ?_
        rw [← zaay l hfu s] at sp
        simp [zvw]
        rw [hadd]
        rcases sp with ⟨hev, gf', fs', ss', f', va', sa', ha', hfr, st1⟩ | ⟨hev, fi⟩
        · have hk : (VM.step c s).2.kind = 0 := by rw [hev]; rfl
          rw [if_neg (by rw [hk]; simp)] at hr
          obtain ⟨gs, g, l'⟩ := VM.step_live l hw hk
          have := l'.fr
          rw [hfr] at this
          obtain ⟨rfl, e⟩ := List.append_inj' this rfl
          simp at e
          subst e
          refine hK _ _ _ (most.toNat - (i + 1) + 1) (by omega) (go _ _ _ _ hn1 st1.keep (.inl ⟨i + 1, rfl, by omega, rfl, _, _, _, _, _, _, _, _, l', st1, ?_⟩))
          rw [show most.toNat - (i + 1) = j by omega]
          exact hr
        · rw [if_pos hev] at hr
          obtain ⟨_, _, _, _, _, _, _, _, _, _, _, _, _, _, kp⟩ := id fi
          refine hK _ _ _ 0 (by omega) (go _ _ _ _ hn1 kp (.inr ⟨rfl, ?_⟩))
          rw [← hr]
          exact ⟨hev, by omega, fi⟩
  · obtain ⟨gs, fa, ha, hrun, _, o1, o2, o3, o4, o5, o6, hz⟩ := fi.frz (nx := nx) (by omega)
    simp [zdu, hrun, zc, hk0, z2, y2, z3, y3, o1, o2, o3, o4, o5, o6]
    refine ⟨by omega, hq _ _ fa ha hk0 (fun g hg => ?_) (hz _ fun g hg => ?_)⟩
    · rw [Heap.put_ne _ _ (by omega), Heap.put_ne _ _ (by omega)]; exact hkeep g (by omega)
    · rw [Heap.put_ne _ _ (by omega), Heap.put_ne _ _ (by omega)]
theorem zzq (e : Evt) {A : Nat → Prop} : Bel A (.agg e.avs) := by
  refine .agg _ fun i x hv => ?_
  match i with
  | 0 => cases hv; exact .int _ _
  | 1 => cases hv; exact .str _
  | 2 => cases hv; exact .int _ _
  | i + 3 => simp [Evt.avs] at hv
set_option maxRecDepth 20000 in
theorem zaeq {a : Agt} {fs : List Frm} {f : Frm} {s : Spt} {most : Int} (l : VM.Live a fs f) (hname : s.name.length ≤ maxLen) (hfacts : s.facts.length ≤ 4611686018427387903) (hw : ∀ x ∈ s.facts, VM.WrongOk x.val (0 : Int)) (hm : most ≤ 9223372036854775807) :
    QC Tryd.prog 23 [.agg a.avs, .agg s.avs, .int .i64 most] (.tup [.agg (VM.run s most.toNat a).1.avs, .agg (VM.run s most.toNat a).2.avs]) := by
  refine QC.of' fun H nx => ?_
  refine zyb _ _ _ H nx _ ?_
  have av : (AV.agg a.avs).cells = a.avs := by simp
  have al : a.avs.length = 9 := rfl
  have sv : (AV.agg s.avs).cells = s.avs := by simp
  have sl : s.avs.length = 4 := rfl
  have hsu : (AV.agg a.avs).sure = true := by simp [Agt.avs]
  have hss : (AV.agg s.avs).sure = true := by simp [Spt.avs]
  unfold zvu
  rw [av, al, sv, sl]
  refine ⟨hsu, hss, ?_⟩
  have at9 : a.avs.take 9 = a.avs := by rw [← al, List.take_length]
  simp [al, at9]
  refine zyo (Live.sized l) fun H1 n1 ss fa ha hn1 k1 ow => ?_
  generalize hHH : Heap.put _ (nx + 3) _ = HH at *
  have q1 : HH (nx + 1) = some (.row 4 s.avs) := by rw [← hHH, Heap.put_ne _ _ (by omega), Heap.put_ne _ _ (by omega), Heap.put_at]
  have q2 : ∃ z, HH (nx + 2) = some (.row 9 z) ∧ z.length = 9 := ⟨_, by rw [← hHH, Heap.put_ne _ _ (by omega), Heap.put_at], rfl⟩
  have q3 : ∃ z, HH (nx + 3) = some (.row 3 z) ∧ z.length = 3 := ⟨_, by rw [← hHH, Heap.put_at], rfl⟩
  have q4 : Keep nx HH H := fun g hg => by rw [← hHH, Heap.put_ne _ _ (by omega), Heap.put_ne _ _ (by omega), Heap.put_ne _ _ (by omega), Heap.put_ne _ _ (by omega)]
  rw [l.fr] at ow
  have hs1 : H1 (nx + 1) = some (.row 4 s.avs) := (k1 _ (by omega)).trans q1
  obtain ⟨gf, ss', va, sa, rfl, st⟩ := RL.of_owned (e := VM.ev0) (id := a.id) (trip := a.trip) (p := a.prog) (m := a.permit) ow hn1 (by omega) hs1 k1
  have h1 := ow.hp.one
  simp [zvv, zag, h1.1, h1.2.1, h1.2.2]
  refine zaho (r := VM.run s most.toNat a) (H0 := HH) hname hfacts hw hm ⟨most.toNat - 0 + 1, ?_⟩ fun H' n' fa' ha' hk0 kp fz => ⟨Frz.tup2 fz (.same _ (zzq _)), fun g hg => (kp g hg).trans (q4 g hg)⟩
  have up : ∀ g, g < nx + 4 → ∀ o, (H1.put n1 o) g = HH g := fun g hg o => by rw [Heap.put_ne _ _ (by omega)]; exact k1 g hg
  refine ⟨?_, ?_, ⟨hn1, by omega⟩, st.keep, .inl ⟨0, rfl, by omega, rfl, a, fs, f, gf, ss', va, sa, ha, l, st, rfl⟩⟩
  · obtain ⟨z, z1, z2⟩ := q2
    exact ⟨z, by rw [up _ (by omega)]; exact z1, z2⟩
  · obtain ⟨z, z1, z2⟩ := q3
    exact ⟨z, by rw [up _ (by omega)]; exact z1, z2⟩
end Go.Proofs.YtobioljjoipimaaDoor
namespace Go.Proofs.YtobioljjoipimaaDoor
open Go Go.RowKit
theorem zako : eqsT 96 = true := by kernel_rfl
theorem zakn : eqsT 38 = true := by kernel_rfl
set_option maxRecDepth 20000 in
set_option maxHeartbeats 1000000 in
theorem zahj (p : Prg) (h1 : p.codes.length ≤ 4611686018427387904) (h2 : p.words.length ≤ 4611686018427387904) (h3 : ∀ c ∈ p.codes, c.ins.length ≤ 4611686018427387904) : QC Tryd.prog 13 [.agg p.avs, .agg p.avs] (.bool true) := by
  refine QC.of' fun H nx => ?_
  suffices main : ∀ Q : AV → Heap → Nat → Prop, (∀ H' n', Keep nx H' H → Q (.bool true) H' n') → za Tryd.prog 13 [.agg p.avs, .agg p.avs] H nx Q from main _ fun H' n' h => ⟨zol, h⟩
  intro Q hQ
  refine zkj _ _ H nx _ ?_
  have m : nx ≠ nx + 1 := by omega
  simp [zft, Prg.avs, m]
  generalize hX : Heap.put _ (nx + 1) _ = X
  have x0 : X nx = some (.row 2 [.ro (p.codes.map Cod.avs), .ro (p.words.map fun w => [.str w])]) := by rw [← hX, Heap.put_ne _ _ m, Heap.put_at]
  have x1 : X (nx + 1) = some (.row 2 [.ro (p.codes.map Cod.avs), .ro (p.words.map fun w => [.str w])]) := by rw [← hX, Heap.put_at]
  have xk : Keep nx X H := fun g hg => by rw [← hX, Heap.put_ne _ _ (by omega), Heap.put_ne _ _ (by omega)]
  refine LP.mk (fun k xs H' n' => ∃ i : Nat, xs = [.ptr nx 0, .ptr (nx + 1) 0, .int .i64 p.words.length, .int .i64 i] ∧ i ≤ p.words.length ∧ k = p.words.length - i ∧ X = H' ∧ nx + 2 ≤ n') p.words.length ⟨0, rfl, by omega, by omega, rfl, by omega⟩ ?_
  rintro k xs H' n' ⟨i, rfl, hi, rfl, rfl, hn⟩
  by_cases hlt : i < p.words.length
  · have hadd : IntKind.i64.wrap ((i : Int) + 1) = ((i + 1 : Nat) : Int) := by rw [i64w (by omega)]; rfl
    simp [zcp, hlt, x0, x1, hadd]
    exact ⟨p.words.length - (i + 1), by omega, i + 1, rfl, by omega, rfl, hn⟩
  have hge : ¬ (i : Int) < p.words.length := by omega
  simp [zcp, hge, x0]
  clear hlt hge hi i
  refine LP.mk (fun k xs H' n' => ∃ i : Nat, xs = [.ptr (nx + 1) 0, .ro (p.codes.map Cod.avs), .int .i64 p.codes.length, .int .i64 i] ∧ i ≤ p.codes.length ∧ k = p.codes.length - i ∧ (∀ g, g < nx + 2 → H' g = X g) ∧ nx + 2 ≤ n') p.codes.length ⟨0, rfl, by omega, by omega, fun _ _ => rfl, hn⟩ ?_
  rintro k xs H' n' ⟨i, rfl, hi, rfl, hk, hn⟩
  by_cases hlt : i < p.codes.length
  · have hadd : IntKind.i64.wrap ((i : Int) + 1) = ((i + 1 : Nat) : Int) := by rw [i64w (by omega)]; rfl
    have y1 : H' (nx + 1) = some (.row 2 [.ro (p.codes.map Cod.avs), .ro (p.words.map fun w => [.str w])]) := by rw [hk _ (by omega)]; exact x1
    have ha : p.codes[i]? = some p.codes[i] := List.getElem?_eq_getElem hlt
    have hci := h3 p.codes[i] (List.getElem_mem hlt)
    obtain ⟨_, ha'⟩ := List.getElem?_eq_some_iff.1 ha
    generalize hcc : p.codes[i] = c at *
    clear ha
    have ne_0 : nx ≠ nx + 1 ∧ nx + 1 ≠ nx ∧ nx ≠ n' ∧ n' ≠ nx ∧ nx ≠ n' + 1 ∧ n' + 1 ≠ nx ∧ nx + 1 ≠ n' ∧ n' ≠ nx + 1 ∧ nx + 1 ≠ n' + 1 ∧ n' + 1 ≠ nx + 1 := ⟨by omega, by omega, by omega, by omega, by omega, by omega, by omega, by omega, by omega, by omega⟩
    simp [zcq, hlt, y1, hcc, Cod.avs, ne_0]
    generalize hY : Heap.put _ (n' + 1) _ = Y
    have z0 : Y n' = some (.row 3 [.int .i64 c.params, .int .i64 c.vars, .ro (c.ins.map Ins.avs)]) := by rw [← hY, Heap.put_ne _ _ (by omega), Heap.put_at]
    have z1 : Y (n' + 1) = some (.row 3 [.int .i64 c.params, .int .i64 c.vars, .ro (c.ins.map Ins.avs)]) := by rw [← hY, Heap.put_at]
    have zk : ∀ g, g < nx + 2 → Y g = X g := fun g hg => by rw [← hY, Heap.put_ne _ _ (by omega), Heap.put_ne _ _ (by omega)]; exact hk g hg
    suffices key : ∀ K : J3, (∀ H2 n2, (∀ g, g < nx + 2 → H2 g = X g) → nx + 2 ≤ n2 → K [.ptr (nx + 1) 0, .ro (p.codes.map Cod.avs), .int .i64 p.codes.length, .int .i64 ((i + 1 : Nat) : Int)] H2 n2) →
        LP (zbr Q K) [.ptr (nx + 1) 0, .ptr n' 0, .ptr (n' + 1) 0, .ro (p.codes.map Cod.avs), .int .i64 p.codes.length, .int .i64 i, .int .i64 c.ins.length, .int .i64 0] Y (n' + 2) by
      refine key _ fun H2 n2 h h' => ⟨p.codes.length - (i + 1), by omega, i + 1, rfl, by omega, rfl, h, h'⟩
    intro K hK
    refine LP.mk (fun k xs H' n2 => ∃ j : Nat, xs = [.ptr (nx + 1) 0, .ptr n' 0, .ptr (n' + 1) 0, .ro (p.codes.map Cod.avs), .int .i64 p.codes.length, .int .i64 i, .int .i64 c.ins.length, .int .i64 j] ∧ j ≤ c.ins.length ∧ k = c.ins.length - j ∧ Y = H' ∧ n' + 2 ≤ n2) c.ins.length ⟨0, rfl, by omega, by omega, rfl, by omega⟩ ?_
    rintro k xs H2 n2 ⟨j, rfl, hj, rfl, rfl, hn2⟩
    by_cases hjl : j < c.ins.length
    · have hadj : IntKind.i64.wrap ((j : Int) + 1) = ((j + 1 : Nat) : Int) := by rw [i64w (by omega)]; rfl
      generalize hii : c.ins[j] = ii
      simp [zbr, hjl, z0, z1, hii, Ins.avs, hadj, zako]
      exact ⟨c.ins.length - (j + 1), by omega, j + 1, rfl, by omega, rfl, hn2⟩
    · have hjg : ¬ (j : Int) < c.ins.length := by omega
      simp [zbr, hjg, hadd]
      exact hK _ _ zk (by omega)
  · have hge : ¬ (i : Int) < p.codes.length := by omega
    simp [zcq, hge]
    exact hQ _ _ fun g hg => (hk g (by omega)).trans (xk g hg)
set_option maxRecDepth 20000 in
set_option maxHeartbeats 1000000 in
theorem zahl (a : Agt) (h1 : a.prog.codes.length ≤ 4611686018427387904) (h2 : a.prog.words.length ≤ 4611686018427387904) (h3 : ∀ c ∈ a.prog.codes, c.ins.length ≤ 4611686018427387904) (h4 : a.frames.length ≤ 4611686018427387904) (h5 : a.heap.length ≤ 4611686018427387904)
    (h6 : ∀ f ∈ a.frames, f.vars.length ≤ 4611686018427387904 ∧ f.stack.length ≤ 4611686018427387904) : QC Tryd.prog 24 [.agg a.avs, .agg a.avs] (.bool true) := by
  refine QC.of' fun H nx => ?_
  suffices main : ∀ Q : AV → Heap → Nat → Prop, (∀ H' n', Keep nx H' H → Q (.bool true) H' n') → za Tryd.prog 24 [.agg a.avs, .agg a.avs] H nx Q from main _ fun H' n' h => ⟨zol, h⟩
  intro Q hQ
  refine zmn _ _ H nx _ ?_
  have m : nx ≠ nx + 1 := by omega
  simp [zgw, Agt.avs, m, zakn]
  generalize hX : Heap.put _ (nx + 1) _ = X
  have x0 : X nx = some (.row 9 a.avs) := by rw [← hX, Heap.put_ne _ _ m, Heap.put_at]; rfl
  have x1 : X (nx + 1) = some (.row 9 a.avs) := by rw [← hX, Heap.put_at]; rfl
  have xk : Keep nx X H := fun g hg => by rw [← hX, Heap.put_ne _ _ (by omega), Heap.put_ne _ _ (by omega)]
  clear hX
  refine QC.call (zahj a.prog h1 h2 h3) ?_
  have e4 : a.avs[4]'(by simp [Agt.avs]) = .ro (a.frames.map Frm.avs) := rfl
  have e5 : a.avs[5]'(by simp [Agt.avs]) = .ro (a.heap.map Cl.avs) := rfl
  have al : a.avs.length = 9 := rfl
  have sc := zahk a.heap a.heap h5
  rw [decide_eq_true rfl] at sc
  simp [zgx, x0, x1, e4, e5, al]
  refine QC.call sc ?_
  simp [zgy, x0, x1, e4, al]
  refine LP.mk (fun k xs H' n' => ∃ i : Nat, xs = [.ptr (nx + 1) 0, .ro (a.frames.map Frm.avs), .int .i64 a.frames.length, .int .i64 i] ∧ i ≤ a.frames.length ∧ k = a.frames.length - i ∧ (∀ g, g < nx + 2 → H' g = X g) ∧ nx + 2 ≤ n') a.frames.length ⟨0, rfl, by omega, by omega, fun _ _ => rfl, by omega⟩ ?_
  rintro k xs H' n' ⟨i, rfl, hi, rfl, hk, hn⟩
  by_cases hlt : i < a.frames.length
  · have hadd : IntKind.i64.wrap ((i : Int) + 1) = ((i + 1 : Nat) : Int) := by rw [i64w (by omega)]; rfl
    have y1 : H' (nx + 1) = some (.row 9 a.avs) := by rw [hk _ (by omega)]; exact x1
    have hci := h6 a.frames[i] (List.getElem_mem hlt)
    generalize hcc : a.frames[i] = c at *
    have sv := zyf c.vars c.vars hci.1
    have ss := zyf c.stack c.stack hci.2
    rw [decide_eq_true rfl] at sv ss
    have ne_1 : nx ≠ nx + 1 ∧ nx + 1 ≠ nx ∧ nx ≠ n' ∧ n' ≠ nx ∧ nx ≠ n' + 1 ∧ n' + 1 ≠ nx ∧ nx + 1 ≠ n' ∧ n' ≠ nx + 1 ∧ nx + 1 ≠ n' + 1 ∧ n' + 1 ≠ nx + 1 := ⟨by omega, by omega, by omega, by omega, by omega, by omega, by omega, by omega, by omega, by omega⟩
    simp [zdl, hlt, y1, e4, al, hcc, Frm.avs, ne_1]
    generalize hY : Heap.put _ (n' + 1) _ = Y
    have z0 : Y n' = some (.row 4 [.int .i64 c.fn, .int .i64 c.at_, .ro (c.vars.map Val.avs), .ro (c.stack.map Val.avs)]) := by rw [← hY, Heap.put_ne _ _ (by omega), Heap.put_at]
    have z1 : Y (n' + 1) = some (.row 4 [.int .i64 c.fn, .int .i64 c.at_, .ro (c.vars.map Val.avs), .ro (c.stack.map Val.avs)]) := by rw [← hY, Heap.put_at]
    refine QC.call sv ?_
    simp [zgz, z0, z1]
    refine QC.call ss ?_
    simp [zha, hadd]
    refine ⟨a.frames.length - (i + 1), by omega, i + 1, rfl, by omega, rfl, fun g hg => ?_, by omega⟩
    rw [← hY, Heap.put_ne _ _ (by omega), Heap.put_ne _ _ (by omega)]; exact hk g hg
  · have hge : ¬ (i : Int) < a.frames.length := by omega
    simp [zdl, hge]
    exact hQ _ _ fun g hg => (hk g (by omega)).trans (xk g hg)
end Go.Proofs.YtobioljjoipimaaDoor
namespace Go.Proofs.YtobioljjoipimaaDoor
open Go Go.RowKit
structure zalu (H : Heap) (lo n gf : Nat) (cs : List AV) (fs : List Frm) (ss : List (AV × AV)) (f : Frm) (va sa : AV) : Prop where
  row : H gf = some (.row 4 cs)
  cs' : cs.take ((fs.length + 1) * 4) = frow fs ss ++ [.int .i64 f.fn, .int .i64 f.at_, va, sa]
  len : (fs.length + 1) * 4 ≤ cs.length
  frs : zac H fs ss
  sv : Slot H 3 f.vars.length (rowV f.vars) va
  st : Slot H 3 f.stack.length (rowV f.stack) sa
  bd : ∀ g, (g = gf ∨ g ∈ owns ss ∨ g ∈ own va ∨ g ∈ own sa) → lo ≤ g ∧ g < n
  ns : gf ∉ own sa ∧ gf ∉ own va ∧ gf ∉ owns ss ∧ (∀ g ∈ own sa, g ∉ own va ∧ g ∉ owns ss) ∧ ∀ g ∈ own va, g ∉ owns ss
theorem zka.last {H : Heap} {lo n : Nat} {fs : List Frm} {f : Frm} {ss : List (AV × AV)} {fa ha : AV} {h : List Cl} (ow : zka H lo n (fs ++ [f]) ss fa h ha) :
    ∃ gf cs ss' va sa, fa = .slc gf 0 (fs.length + 1) ∧ ss = ss' ++ [(va, sa)] ∧ zalu H lo n gf cs fs ss' f va sa ∧ ∀ g ∈ own ha, g ≠ gf ∧ g ∉ own va ∧ g ∉ own sa ∧ g ∉ owns ss' := by
  obtain ⟨f1, f2, f3, f4, f5⟩ := ow
  have hl : ss.length = fs.length + 1 := by rw [f1.1]; simp
  obtain ⟨ss', t, rfl⟩ : ∃ ss' t, ss = ss' ++ [t] := by
    rcases List.eq_nil_or_concat ss with rfl | ⟨ss', t, h⟩
    · simp at hl
    · exact ⟨ss', t, by simpa using h⟩
  rcases f2 with ⟨h0, _⟩ | ⟨gf, cs, rfl, c1, c2, c3⟩
  · simp at h0
  obtain ⟨l1, l2, l3⟩ := f1.last
  have ef : (fs ++ [f]).length = fs.length + 1 := by simp
  rw [ef] at c2 c3 f4 f5
  rw [zch l1.1] at c2
  have es := zce ss' t
  have e0 : own (AV.slc gf 0 (fs.length + 1)) = [gf] := rfl
  rw [es, e0, List.singleton_append, List.nodup_cons] at f4
  simp only [List.mem_append, not_or, List.nodup_append] at f4
  obtain ⟨⟨a1, a2, a3, a4⟩, n1, ⟨n2, ⟨n3, n4, n5⟩, n6⟩, n7⟩ := f4
  rw [es, e0] at f5
  refine ⟨gf, cs, ss', t.1, t.2, by rw [ef], rfl, ⟨c1, c2, c3, l1, l2, l3, fun g hg => f5 g ?_, ⟨a4, a3, a2, fun g hg => ⟨fun h => n5 g h g hg rfl, fun h => n6 g h g (.inr hg) rfl⟩, fun g hg h => n6 g h g (.inl hg) rfl⟩⟩, fun g hg => ⟨fun e => a1 (e ▸ hg), fun h => n7 g hg g (.inr (.inl h)) rfl, fun h => n7 g hg g (.inr (.inr h)) rfl, fun h => n7 g hg g (.inl h) rfl⟩⟩
  simp only [List.mem_append, List.mem_singleton]
  rcases hg with h | h | h | h
  · exact .inl h
  · exact .inr (.inr (.inl h))
  · exact .inr (.inr (.inr (.inl h)))
  · exact .inr (.inr (.inr (.inr h)))
end Go.Proofs.YtobioljjoipimaaDoor
set_option maxRecDepth 8000
namespace Go.Proofs.YtobioljjoipimaaDoor
open Go Go.RowKit
def zgt (H : Heap) (G : Nat → Prop) (xs ys : List AV) : Prop := ys.length = xs.length ∧ ∀ (j : Nat) (v u : AV), xs[j]? = some v → ys[j]? = some u → FrzP H G v u
theorem zgt.nil {H : Heap} {G : Nat → Prop} : zgt H G [] [] := ⟨rfl, fun j v u h => by simp at h⟩
theorem zgt.cons {H : Heap} {G : Nat → Prop} {v u : AV} {xs ys : List AV} (h : FrzP H G v u) (k : zgt H G xs ys) : zgt H G (v :: xs) (u :: ys) := by
  refine ⟨by simp [k.1], fun j a b ha hb => ?_⟩
  cases j with
  | zero => simp at ha hb; subst ha; subst hb; exact h
  | succ j => exact k.2 j a b (by simpa using ha) (by simpa using hb)
theorem za.thaw {P : Program} {f : FuncId} {args args' : List AV} {H H0 : Heap} {nx : Nat} {G : Nat → Prop} {Q : AV → Heap → Nat → Prop} (h : za P f args H0 nx Q) (hf : zgt H G args' args) (h0 : ∀ g o, H0 g = some o → ¬ G g ∧ H g = some o) : za P f args' H nx Q := by
  intro ρ w cargs s ha
  obtain ⟨s0, f0⟩ := s.drop (H' := H0) fun g o ho => (h0 g o ho).2
  refine zn (h ρ w cargs s0 ⟨ha.1.trans hf.1.symm, fun j u c hu hc => ?_⟩) fun cv w' ⟨r', H', nx', ρ', q1, q3, q4, q5⟩ => ⟨r', H', nx', ρ', q1, q3, q4, f0.trans q5⟩
  have hj : j < args'.length := by have := (List.getElem?_eq_some_iff.1 hu).1; rw [hf.1] at this; exact this
  have hv : args'[j]? = some args'[j] := List.getElem?_eq_getElem hj
  exact (hf.2 j _ u hv hu).rel s h0 c (ha.2 j _ c hv hc)
end Go.Proofs.YtobioljjoipimaaDoor
namespace Go.Proofs.YtobioljjoipimaaDoor
open Go Go.RowKit
theorem zka.frz {H : Heap} {lo n nx : Nat} {fs : List Frm} {ss : List (AV × AV)} {fa ha : AV} {h : List Cl} {id trip : Int} {p : Prg} {m : Pmt} (ow : zka H lo n fs ss fa h ha) (hl : nx ≤ lo) {H' : Heap} (hk : ∀ g, lo ≤ g → g < n → H' g = H g) : Frz H' nx (.agg (zag id trip p fa ha m)) (.agg (Agt.avs ⟨id, trip, p, fs, h, m⟩)) := by
  have b : ∀ g ∈ own fa ++ (own ha ++ owns ss), nx ≤ g ∧ H' g = H g := fun g hg => by have := ow.bd g hg; exact ⟨by omega, hk g this.1 this.2⟩
  refine zmg ?_ ((ow.hp.keep fun g hg => (b g (by simp [hg])).2).frzH fun g hg => (b g (by simp [hg])).1)
  have fr := ow.frs.keep (H' := H') fun g hg => (b g (by simp [hg])).2
  rcases ow.row with ⟨h0, rfl | rfl⟩ | ⟨gf, cs, rfl, c1, c2, c3⟩
  · rw [List.eq_nil_of_length_eq_zero h0]; exact .nils
  · rw [List.eq_nil_of_length_eq_zero h0]; exact .zs
  · have := b gf (by simp [own])
    exact zac.frz fr (by rw [this.2]; exact c1) c2 c3 this.1 (fun x hx => (b x (by simp [hx])).1) rfl
theorem zafh {xs : List (List AV)} {sz : Nat} (hsz : ∀ x ∈ xs, x.length = sz) {i j : Nat} {x : List AV} {v : AV} (hx : xs[i]? = some x) (hv : x[j]? = some v) : xs.flatten[i * sz + j]? = some v := by
  have hxl : x.length = sz := hsz x (List.mem_of_getElem? hx)
  have hj : j < sz := by have := (List.getElem?_eq_some_iff.1 hv).1; omega
  have e2 := congrArg (·[j]?) (zfy hsz hx)
  simp only [List.getElem?_take, List.getElem?_drop, hj, if_true] at e2
  rw [e2, hv]
def Pmt.avs (m : Pmt) : List AV := [.int .i64 m.fuel, .int .i64 m.room, .int .i64 m.hops]
end Go.Proofs.YtobioljjoipimaaDoor
set_option maxRecDepth 8000
namespace Go.Proofs.YtobioljjoipimaaDoor
open Go Go.RowKit
end Go.Proofs.YtobioljjoipimaaDoor
set_option maxRecDepth 8000
namespace Go.Proofs.YtobioljjoipimaaDoor
open Go Go.RowKit
theorem zzj (h : List Cl) (l : List Val) (hr : VM.right h l = true) (hs : h.length * 64 ≤ 140737488355328) (hl : l.length * 32 ≤ 140737488355328) : QC Tryd.prog 61 [.ro (h.map Cl.avs), .ro (l.map Val.avs)] (.tup [.ro ((VM.canonV h l).map Val.avs), .ro ((VM.canonC h l).map Cl.avs)]) :=
  QC.of' fun H nx => zajb h l hr hs hl .ro .ro
end Go.Proofs.YtobioljjoipimaaDoor
set_option maxRecDepth 8000
namespace Go.Proofs.YtobioljjoipimaaDoor
open Go Go.RowKit
section
variable {ki : IntKind}
theorem zye {s : Nat} {xs : List (List AV)} {a : Int} {H : Heap} {k : AV → Prop} (hs : ∀ x ∈ xs, x.length = s) (h0 : 0 ≤ a) (h1 : a ≤ xs.length) (hk : k (.ro (xs.drop a.toNat))) : SL s (.ro xs) (some (.int ki a)) none H k := by
  simp only [SL, zbk, lohi, PURE, qk, Int.toNat_natCast, List.take_length]
  exact ⟨h0, h1, Int.le_refl _, hs, hk⟩
end
theorem Slot.cp {H : Heap} {sz k : Nat} {cells : List AV} {a : AV} {kh : AV → Heap → Prop} (hg : Slot H sz k cells a) {ys rest : List (List AV)} (hs : ∀ x ∈ ys ++ rest, x.length = sz) (hy : ys.length = k) (hone : ∀ x ∈ ys ++ rest, ∀ c ∈ x, c.one = true)
    (hk : ∀ H', Slot H' sz k ys.flatten a → (∀ g, g ∉ own a → H' g = H g) → kh (.int .i64 k) H') : CP sz a (.ro (ys ++ rest)) H kh := by
  have hsrc := zqf (H := H) hs
  rcases hg with ⟨rfl, rfl | rfl⟩ | ⟨g, cs, rfl, h1, h2, h3⟩
  · unfold CP COPY
    rw [hsrc]
    exact hk _ (.inl ⟨rfl, .inl rfl⟩) fun g _ => rfl
  · unfold CP COPY
    rw [hsrc]
    exact hk _ (.inl ⟨rfl, .inr rfl⟩) fun g _ => rfl
  · have hl : ys.flatten.length = k * sz := by rw [zde fun x hx => hs x (List.mem_append_left _ hx), hy]
    refine zrq hsrc h1 (by omega) ?_ ?_
    · refine List.all_eq_true.2 fun c hc => ?_
      obtain ⟨x, hx, hcx⟩ := List.mem_flatten.1 hc
      exact hone x hx c hcx
    · have e : min (ys ++ rest).length k = k := by simp [hy]
      rw [e]
      have et : ((ys ++ rest).flatten.take (k * sz)) = ys.flatten := by rw [List.flatten_append, List.take_append_of_le_length (by omega), List.take_of_length_le (by omega)]
      rw [et]
      refine hk _ (.inr ⟨g, _, rfl, Heap.put_at _ _ _, ?_, ?_⟩) fun x hx => Heap.put_ne _ _ (by simpa [own] using hx)
      · unfold zai
        simp [hl]
      · unfold zai
        simp [hl]
theorem Slot.gather {H : Heap} {sz k bytes nx m : Nat} {cells new : List AV} {a x : AV} {rdx : List Nat} {kt : Kt} (hg : Slot H sz k cells a) (hlen : cells.length = k * sz) (hs : zi sz H x = some (m, new, rdx)) (hnl : new.length = m * sz) (hone : new.all AV.one = true)
    (hb : (k + m) * bytes ≤ 140737488355328) (hk : ∀ v rd fr D, fr.length ≤ 1 → (∀ g ∈ domD D, g ∈ own a ∨ g = nx) → Slot (H.apply D) sz (k + m) (cells ++ new) v → (∀ g ∈ own v, g = nx ∧ fr.length = 1) → (∀ g, g ∉ own a → g ≠ nx → (H.apply D) g = H g) → kt v rd fr D) : zad sz bytes a x H nx kt := by
  rcases hg with ⟨rfl, rfl | rfl⟩ | ⟨g, cs, rfl, h1, h2, h3⟩
  · have hc : cells = [] := List.eq_nil_of_length_eq_zero (by omega)
    subst hc
    rw [zmu, hs, optk]
    refine ⟨hone, fun hm => ?_, fun hm => ⟨by simpa using hb, ?_⟩⟩
    · simp only at hm; subst hm
      exact hk _ _ _ _ (by simp) (by simp) (.inl ⟨rfl, .inl rfl⟩) (by simp [own]) fun g _ _ => rfl
    · exact hk _ _ _ _ (by simp) (by simp) (.inr ⟨nx, new, by simp, by simp only [zam, zas, Heap.put_at], by rw [List.nil_append, List.take_of_length_le (by rw [Nat.zero_add]; omega)], by rw [Nat.zero_add]; omega⟩) (by simp [own]) fun g _ hx => by simp only [zam, zas]; exact Heap.put_ne _ _ hx
  · have hc : cells = [] := List.eq_nil_of_length_eq_zero (by omega)
    subst hc
    rw [zwz, hs, optk]
    refine ⟨hone, fun hm => ?_, fun hm => ⟨by simpa using hb, ?_⟩⟩
    · simp only at hm; subst hm
      exact hk _ _ _ _ (by simp) (by simp) (.inl ⟨rfl, .inr rfl⟩) (by simp [own]) fun g _ _ => rfl
    · exact hk _ _ _ _ (by simp) (by simp) (.inr ⟨nx, new, by simp, by simp only [zam, zas, Heap.put_at], by rw [List.nil_append, List.take_of_length_le (by rw [Nat.zero_add]; omega)], by rw [Nat.zero_add]; omega⟩) (by simp [own]) fun g _ hx => by simp only [zam, zas]; exact Heap.put_ne _ _ hx
  · rw [zou, hs, optk, h1, rowk]
    refine ⟨rfl, hone, by omega, hb, hk _ _ _ _ (by simp) (by simp [own]) (.inr ⟨nx, cells ++ new, rfl, ?_, ?_, ?_⟩) (by simp [own]) (fun x hx1 hx => ?_)⟩
    · simp only [zam, zas]; rw [Heap.put_at, List.drop_zero, h2]
    · rw [List.take_of_length_le]; rw [List.length_append, hlen, hnl, Nat.add_mul]; exact Nat.le_refl _
    · rw [List.length_append, hlen, hnl, Nat.add_mul]; exact Nat.le_refl _
    · simp only [zam, zas]; rw [Heap.put_ne _ _ hx, Heap.put_ne _ _ (by simpa [own] using hx1)]
theorem QC.thaw {P : Program} {f : FuncId} {args args' : List AV} {r : AV} (h : QC P f args r) {H H0 : Heap} {nx : Nat} {G : Nat → Prop} (hf : zgt H G args' args) (h0 : ∀ g o, H0 g = some o → ¬ G g ∧ H g = some o) {kk : AV → Heap → Nat → Prop} (hk : kk r H0 nx) : za P f args' H nx kk :=
  za.thaw ((h H0 nx).mono fun v H' n' ⟨a, b, c⟩ => by subst a; subst b; subst c; exact hk) hf h0
theorem zoh : ∀ {ss : List (AV × AV)} {k i : Nat} {s t : AV × AV} {g : Nat}, (owns ss).Nodup → ss[k]? = some s → ss[i]? = some t → k ≠ i → g ∈ own s.1 ++ own s.2 → g ∈ own t.1 ++ own t.2 → False
  | [], k, i, s, t, g, _, h, _, _, _, _ => by simp at h
  | u :: ss, k, i, s, t, g, nd, h1, h2, hne, m1, m2 => by
    have e : owns (u :: ss) = (own u.1 ++ own u.2) ++ owns ss := by simp [owns]
    rw [e, List.nodup_append] at nd
    obtain ⟨_, n2, n3⟩ := nd
    have mem : ∀ {j : Nat} {v : AV × AV}, ss[j]? = some v → g ∈ own v.1 ++ own v.2 → g ∈ owns ss := fun hv hg => List.mem_flatMap.2 ⟨_, List.mem_of_getElem? hv, hg⟩
    match k, i with
    | 0, 0 => exact hne rfl
    | 0, i + 1 =>
      simp at h1 h2; subst h1
      exact n3 g m1 g (mem h2 m2) rfl
    | k + 1, 0 =>
      simp at h1 h2; subst h2
      exact n3 g m2 g (mem h1 m1) rfl
    | k + 1, i + 1 => exact zoh n2 (by simpa using h1) (by simpa using h2) (by omega) m1 m2
theorem zac.set {H H' : Heap} {fs : List Frm} {ss : List (AV × AV)} {i : Nat} {f : Frm} {s : AV × AV} (h : zac H fs ss) (nd : (owns ss).Nodup) (hs : ss[i]? = some s) (hk : ∀ g, g ∉ own s.1 → g ∉ own s.2 → H' g = H g) (h1 : Slot H' 3 f.vars.length (rowV f.vars) s.1) (h2 : Slot H' 3 f.stack.length (rowV f.stack) s.2) : zac H' (fs.set i f) ss := by
  refine ⟨by simp [h.1], fun k f' s' hf hs' => ?_⟩
  by_cases e : k = i
  · subst e
    rw [hs] at hs'; cases hs'
    have hl : k < fs.length := by rw [← h.1]; exact (List.getElem?_eq_some_iff.1 hs).1
    rw [List.getElem?_set_self hl] at hf
    cases hf
    exact ⟨h1, h2⟩
  · rw [List.getElem?_set_ne (Ne.symm e)] at hf
    obtain ⟨q1, q2⟩ := h.2 k f' s' hf hs'
    have hd : ∀ g, (g ∈ own s'.1 ∨ g ∈ own s'.2) → g ∉ own s.1 ∧ g ∉ own s.2 := fun g hg => by
      exact ⟨fun hx => zoh nd hs' hs e (List.mem_append.2 hg) (List.mem_append_left _ hx), fun hx => zoh nd hs' hs e (List.mem_append.2 hg) (List.mem_append_right _ hx)⟩
    exact ⟨q1.keep fun g hg => hk g (hd g (.inl hg)).1 (hd g (.inl hg)).2, q2.keep fun g hg => hk g (hd g (.inr hg)).1 (hd g (.inr hg)).2⟩
end Go.Proofs.YtobioljjoipimaaDoor
namespace Go.Proofs.YtobioljjoipimaaDoor
open Go Go.RowKit
theorem zyx : ∀ {fs : List Frm} {ss : List (AV × AV)} {i : Nat} {f : Frm} {s : AV × AV}, ss.length = fs.length → fs[i]? = some f → ss[i]? = some s → ((frow fs ss).drop (i * 4)).take 4 = [.int .i64 f.fn, .int .i64 f.at_, s.1, s.2]
  | [], _, i, f, s, _, h, _ => by simp at h
  | _ :: _, [], i, f, s, h0, _, h => by simp at h
  | g :: fs, t :: ss, 0, f, s, h0, h1, h2 => by simp at h1 h2; subst h1; subst h2; simp [frow]
  | g :: fs, t :: ss, i + 1, f, s, h0, h1, h2 => by
    have := zyx (fs := fs) (ss := ss) (i := i) (f := f) (s := s) (by simpa using h0) (by simpa using h1) (by simpa using h2)
    rw [← this, show (i + 1) * 4 = i * 4 + 1 + 1 + 1 + 1 by omega]
    simp [frow]
theorem zafw {cs : List AV} {fs : List Frm} {ss : List (AV × AV)} {i : Nat} {f : Frm} {s : AV × AV} (h : cs.take (fs.length * 4) = frow fs ss) (hl : ss.length = fs.length) (h1 : fs[i]? = some f) (h2 : ss[i]? = some s) : (cs.drop (i * 4)).take 4 = [.int .i64 f.fn, .int .i64 f.at_, s.1, s.2] := by
  have e := zyx hl h1 h2
  have hi := (List.getElem?_eq_some_iff.1 h1).1
  rw [← h, List.drop_take, List.take_take] at e
  rw [← e]; congr 1; omega
theorem Slot.frzP {H : Heap} {G : Nat → Prop} {sz : Nat} {xs : List (List AV)} {a : AV} (hs : Slot H sz xs.length xs.flatten a) (ho : ∀ g ∈ own a, G g) (hsz : ∀ x ∈ xs, x.length = sz) : FrzP H G a (.ro xs) := by
  rcases hs with ⟨h0, rfl | rfl⟩ | ⟨g, cs, rfl, h1, h2, h3⟩
  · rw [List.eq_nil_of_length_eq_zero h0]; exact .nils
  · rw [List.eq_nil_of_length_eq_zero h0]; exact .zs
  · refine FrzP.row (ho g (by simp [own])) h1 rfl hsz (fun i x j v hx hv => ⟨v, ?_, .same _⟩) h3
    have := zafh hsz hx hv
    rw [← h2, List.getElem?_take] at this
    split at this
    · exact this
    · cases this
def ze (fs : List Frm) : List Val := fs.flatMap fun f => f.vars ++ f.stack
theorem zym (fs : List Frm) (f : Frm) : ze (fs ++ [f]) = ze fs ++ f.vars ++ f.stack := by simp [ze]
theorem zaaa {fs : List Frm} (i : Nat) : (ze (fs.take i)).length ≤ (ze fs).length := by
  have e : ze fs = ze (fs.take i) ++ ze (fs.drop i) := by unfold ze; rw [← List.flatMap_append, List.take_append_drop]
  rw [e, List.length_append]; omega
set_option maxRecDepth 20000 in
set_option maxHeartbeats 1000000 in
theorem zaad {a : Agt} {H5 : Heap} {lo n1 gf p1 : Nat} {ss : List (AV × AV)} {cs : List AV} {Q : AV → Heap → Nat → Prop} (hb : (ze a.frames).length ≤ 4096) (hfl : a.frames.length ≤ 4096) (c1 : H5 gf = some (.row 4 cs)) (c2 : cs.take (a.frames.length * 4) = frow a.frames ss) (c3 : a.frames.length * 4 ≤ cs.length)
    (fr : zac H5 a.frames ss) (bd : ∀ g, (g = gf ∨ g ∈ owns ss) → lo ≤ g ∧ g < n1)
    (hend : ∀ H' n' l, n1 + 1 ≤ n' → (∀ g, g < n1 + 1 → H' g = H5 g) → Slot H' 3 (ze a.frames).length (rowV (ze a.frames)) l → (∀ g ∈ own l, n1 < g ∧ g < n') →
      FA 5 (.ptr n1 0) fun v29 => LD false 1 v29 H' fun v30 => za Tryd.prog 61 [v30, l] H' n' (zjq [.ptr p1 0, .ptr n1 0, l, .slc gf 0 a.frames.length, .int .i64 a.frames.length, .int .i64 a.frames.length] Q)) :
    LP (zef Q) [.ptr p1 0, .ptr n1 0, .nils, .slc gf 0 a.frames.length, .int .i64 a.frames.length, .int .i64 0] H5 (n1 + 1) := by
  refine LP.mk (fun k xs H' n' => ∃ (i : Nat) (l : AV), k = a.frames.length - i ∧ i ≤ a.frames.length ∧ xs = [.ptr p1 0, .ptr n1 0, l, .slc gf 0 a.frames.length, .int .i64 a.frames.length, .int .i64 i] ∧ n1 + 1 ≤ n' ∧ (∀ g, g < n1 + 1 → H' g = H5 g) ∧
    Slot H' 3 (ze (a.frames.take i)).length (rowV (ze (a.frames.take i))) l ∧ ∀ g ∈ own l, n1 < g ∧ g < n') a.frames.length ⟨0, .nils, rfl, by omega, rfl, Nat.le_refl _, fun _ _ => rfl, .inl ⟨rfl, .inl rfl⟩, by simp [own]⟩ ?_
  rintro k xs H' n' ⟨i, l, rfl, hi, rfl, hn, keep, sl, bl⟩
  suffices key : ∀ K : J3, (∀ (i' : Nat) (l : AV) H' n', a.frames.length - i' < a.frames.length - i → i' ≤ a.frames.length → n1 + 1 ≤ n' → (∀ g, g < n1 + 1 → H' g = H5 g) → Slot H' 3 (ze (a.frames.take i')).length (rowV (ze (a.frames.take i'))) l → (∀ g ∈ own l, n1 < g ∧ g < n') → K [.ptr p1 0, .ptr n1 0, l, .slc gf 0 a.frames.length, .int .i64 a.frames.length, .int .i64 i'] H' n') →
      zef Q K [.ptr p1 0, .ptr n1 0, l, .slc gf 0 a.frames.length, .int .i64 a.frames.length, .int .i64 i] H' n' from
    key _ fun i' l H' n' h1 h2 h3 h4 h5 h6 => ⟨_, h1, i', l, rfl, h2, rfl, h3, h4, h5, h6⟩
  intro K hK
  by_cases hil : i < a.frames.length
  · have hf : a.frames[i]? = some a.frames[i] := List.getElem?_eq_getElem hil
    have hs : ss[i]? = some (ss[i]'(by rw [fr.1]; exact hil)) := List.getElem?_eq_getElem _
    generalize a.frames[i] = f at hf
    generalize ss[i]'(by rw [fr.1]; exact hil) = s at hs
    obtain ⟨sv, st⟩ := fr.2 i f s hf hs
    have hgf := bd gf (.inl rfl)
    have e1 : H' gf = some (.row 4 cs) := (keep gf (by omega)).trans c1
    have e2 := zafw c2 fr.1 hf hs
    have one : s.1.one = true ∧ s.2.one = true := ⟨sv.one.2.1, st.one.2.1⟩
    have hsm : ∀ g, (g ∈ own s.1 ∨ g ∈ own s.2) → g < n1 := fun g hg => by
      refine (bd g (.inr (List.mem_flatMap.2 ⟨s, List.mem_of_getElem? hs, ?_⟩))).2
      simpa using hg
    have htk : a.frames.take (i + 1) = a.frames.take i ++ [f] := zfu hf
    have hle := zaaa (fs := a.frames) (i + 1)
    have hadd : IntKind.i64.wrap ((i : Int) + 1) = ((i + 1 : Nat) : Int) := by rw [i64w (by omega)]; rfl
    have hr1 : ze (a.frames.take (i + 1)) = ze (a.frames.take i) ++ f.vars ++ f.stack := by rw [htk, zym]
    rw [hr1] at hle
    simp only [List.length_append] at hle
    simp [zef, hil, e1, e2, sv.one, st.one]
    refine ⟨by omega, ?_⟩
    have lst : (frow a.frames ss).length = a.frames.length * 4 := zap fr.1
    have b0 : ∀ l : List Val, (rowV l).all AV.one = true := fun l => List.all_eq_true.2 fun c hc => zcl (zic _ c hc)
    have z0 : ∀ l : List Val, l.length = 0 → rowV l = [] := fun l h => by rw [List.eq_nil_of_length_eq_zero h]; rfl
    generalize hX : Heap.put H' n' _ = HX
    have x1 : HX n' = some (.row 4 [.int .i64 f.fn, .int .i64 f.at_, s.1, s.2]) := by rw [← hX, Heap.put_at]
    have xk : ∀ g, g ≠ n' → HX g = H' g := fun g hg => by rw [← hX, Heap.put_ne _ _ hg]
    have xs : ∀ g, (g ∈ own s.1 ∨ g ∈ own s.2) → HX g = H5 g := fun g hg => by have := hsm g hg; rw [xk g (by omega), keep g (by omega)]
    obtain ⟨rd0, hs1⟩ := (sv.keep fun g hg => xs g (.inl hg)).src (z0 f.vars)
    refine Slot.gather (sl.keep fun g hg => xk g (by have := bl g hg; omega)) (by simp) hs1 (by simp) (b0 _) (by omega) fun v1 rd1 fr1 D1 l1 d1 s1 o1 k1 => ?_
    have y1 : (HX.apply D1) n' = some (.row 4 [.int .i64 f.fn, .int .i64 f.at_, s.1, s.2]) := by rw [k1 n' (fun h => by have := bl _ h; omega) (by omega)]; exact x1
    have yk : ∀ g, g < n1 + 1 → (HX.apply D1) g = H5 g := fun g hg => by rw [k1 g (fun h => by have := bl _ h; omega) (by omega), xk g (by omega), keep g hg]
    have dd : n' ∉ domD D1 := fun h => by
      rcases d1 n' h with h | h
      · have := bl _ h; omega
      · omega
    generalize HX.apply D1 = HY at *
    simp only [y1, rowk]
    simp
    obtain ⟨rd2, hs2⟩ := (st.keep fun g hg => yk g (by have := hsm g (.inr hg); omega)).src (z0 f.stack)
    refine Slot.gather s1 (by simp; omega) hs2 (by simp) (b0 _) (by omega) fun v2 rd3 fr2 D2 l2 d2 s2 o2 k2 => ?_
    have zk : ∀ g, g < n1 + 1 → (HY.apply D2) g = H5 g := fun g hg => by rw [k2 g (fun h => by have := o1 _ h; omega) (by omega), yk g hg]
    generalize HY.apply D2 = HZ at *
    refine zbt (fun g _ => by simp) (zbt (fun g _ => by simp) (zbt (fun g hg => by simp; rintro rfl; exact dd hg) (zbt (fun g _ => by simp) ?_)))
    rw [hadd]
    refine hK (i + 1) v2 HZ _ (by omega) (by omega) (by omega) zk ?_ fun g hg => ?_
    · rw [hr1, zky, zky]
      simpa [Nat.add_assoc] using s2
    · have := o2 g hg; omega
  · obtain rfl : i = a.frames.length := by omega
    rw [List.take_length] at sl
    have := hend H' n' l hn keep sl bl
    simpa [zef] using this
theorem zyw {p : Val → Val} : ∀ (fs : List Frm) (ss : List (AV × AV)), frow (fs.map fun f => { f with vars := f.vars.map p, stack := f.stack.map p }) ss = frow fs ss
  | [], _ => rfl
  | _ :: _, [] => rfl
  | f :: fs, s :: ss => by simp only [List.map_cons, frow]; rw [zyw fs ss]
def pkF (p : Val → Val) (f : Frm) : Frm := { f with vars := f.vars.map p, stack := f.stack.map p }
set_option maxRecDepth 20000 in
set_option maxHeartbeats 1000000 in
theorem zaew {fs : List Frm} {id trip : Int} {pr : Prg} {m : Pmt} {p : Val → Val} {hp : List Cl} {H1 : Heap} {n1 gf p1 n : Nat} {ss : List (AV × AV)} {cs : List AV} {ha : AV} {Q : AV → Heap → Nat → Prop} (hfl : fs.length ≤ 4096) (c1 : H1 gf = some (.row 4 cs)) (c2 : cs.take (fs.length * 4) = frow fs ss) (c3 : fs.length * 4 ≤ cs.length)
    (fr : zac H1 fs ss) (nd : (owns ss).Nodup) (g0 : gf ∉ owns ss) (g1 : n1 ∉ owns ss) (g2 : p1 ∉ owns ss) (g3 : p1 ≠ n1) (r1 : H1 n1 = some (.row 9 (zag id trip pr (.slc gf 0 fs.length) ha m))) (r2 : ∃ z, H1 p1 = some (.row 9 z) ∧ z.length = 9)
    (hend : ∀ H', zac H' (fs.map (pkF p)) ss → (∀ g, g ∉ owns ss → g ≠ n1 → g ≠ p1 → H' g = H1 g) → Q (.agg (zag id trip pr (.slc gf 0 fs.length) (.ro (hp.map Cl.avs)) m)) H' n) :
    LP (zeg Q) [.ptr p1 0, .ptr n1 0, .ro ((ze fs).map fun v => (p v).avs), .ro (hp.map Cl.avs), .int .i64 fs.length, .int .i64 0] H1 n := by
  refine LP.mk (fun k xs H' n' => ∃ i : Nat, k = fs.length - i ∧ i ≤ fs.length ∧ n' = n ∧ xs = [.ptr p1 0, .ptr n1 0, .ro ((ze (fs.drop i)).map fun v => (p v).avs), .ro (hp.map Cl.avs), .int .i64 fs.length, .int .i64 i] ∧
    zac H' ((fs.take i).map (pkF p) ++ fs.drop i) ss ∧ ∀ g, g ∉ owns ss → H' g = H1 g) fs.length ⟨0, rfl, by omega, rfl, rfl, by simpa using fr, fun _ _ => rfl⟩ ?_
  rintro k xs H' n' ⟨i, rfl, hi, rfl, rfl, fr', keep⟩
  suffices key : ∀ K : J3, (∀ (i' : Nat) H', fs.length - i' < fs.length - i → i' ≤ fs.length → zac H' ((fs.take i').map (pkF p) ++ fs.drop i') ss → (∀ g, g ∉ owns ss → H' g = H1 g) → K [.ptr p1 0, .ptr n1 0, .ro ((ze (fs.drop i')).map fun v => (p v).avs), .ro (hp.map Cl.avs), .int .i64 fs.length, .int .i64 i'] H' n') →
      zeg Q K [.ptr p1 0, .ptr n1 0, .ro ((ze (fs.drop i)).map fun v => (p v).avs), .ro (hp.map Cl.avs), .int .i64 fs.length, .int .i64 i] H' n' from
    key _ fun i' H' h1 h2 h3 h4 => ⟨_, h1, i', rfl, h2, rfl, rfl, h3, h4⟩
  intro K hK
  have e0 := (keep _ g0).trans c1
  have e1 := (keep _ g1).trans r1
  obtain ⟨z, z1, z2⟩ := r2
  have e2 := (keep _ g2).trans z1
  by_cases hil : i < fs.length
  · have hf : fs[i]? = some fs[i] := List.getElem?_eq_getElem hil
    have hs : ss[i]? = some (ss[i]'(by rw [fr.1]; exact hil)) := List.getElem?_eq_getElem _
    have hdrop : fs.drop i = fs[i] :: fs.drop (i + 1) := List.drop_eq_getElem_cons hil
    have htk : fs.take (i + 1) = fs.take i ++ [fs[i]] := zfu hf
    generalize fs[i] = f at *
    generalize ss[i]'(by rw [fr.1]; exact hil) = s at hs
    have e3 := zafw c2 fr.1 hf hs
    have hadd : IntKind.i64.wrap ((i : Int) + 1) = ((i + 1 : Nat) : Int) := by rw [i64w (by omega)]; rfl
    have hm : ((fs.take i).map (pkF p) ++ fs.drop i)[i]? = some f := by rw [List.getElem?_append_right (by simp; omega)]; simp [Nat.min_eq_left (Nat.le_of_lt hil), hf]
    obtain ⟨sv, st⟩ := fr'.2 i f s hm hs
    have hroots : ze (fs.drop i) = f.vars ++ (f.stack ++ ze (fs.drop (i + 1))) := by rw [hdrop]; simp [ze]
    have q2 : cs[i * 4 + 2]? = some s.1 := by
      have := congrArg (·[2]?) e3
      simpa using this
    have q3 : cs[i * 4 + 3]? = some s.2 := by
      have := congrArg (·[3]?) e3
      simpa using this
    rw [hroots]
    have hown : ∀ g, (g ∈ own s.1 ∨ g ∈ own s.2) → g ∈ owns ss := fun g hg => List.mem_flatMap.2 ⟨s, List.mem_of_getElem? hs, by simpa using hg⟩
    have hdis : ∀ g ∈ own s.1, g ∉ own s.2 := by
      obtain ⟨hi1, rfl⟩ := List.getElem?_eq_some_iff.1 hs
      have hsub : (own ss[i].1 ++ own ss[i].2).Sublist (owns ss) := List.sublist_flatten_of_mem (List.mem_map.2 ⟨_, List.getElem_mem hi1, rfl⟩)
      have := List.nodup_append.1 (nd.sublist hsub)
      exact fun g h1 h2 => this.2.2 g h1 g h2 rfl
    have len3 : ∀ l : List Val, ∀ x ∈ l.map (fun v => (p v).avs), x.length = 3 := fun l x hx => by obtain ⟨v, _, rfl⟩ := List.mem_map.1 hx; rfl
    have one3 : ∀ l : List Val, ∀ x ∈ l.map (fun v => (p v).avs), ∀ c ∈ x, c.one = true := fun l x hx c hc => by obtain ⟨v, _, rfl⟩ := List.mem_map.1 hx; exact zcl (zba _ c hc)
    have fl : ∀ l : List Val, (l.map fun v => (p v).avs).flatten = rowV (l.map p) := fun l => by simp [rowV, List.map_map, Function.comp_def]
    simp [zeg, hil, e0, e1, zag, q2, q3]
    refine Slot.cp sv (fun x hx => ?_) (by simp) (fun x hx => ?_) fun H2 s2 k2 => ?_
    · rw [← List.map_append, ← List.map_append] at hx; exact len3 _ x hx
    · rw [← List.map_append, ← List.map_append] at hx; exact one3 _ x hx
    refine zye (fun x hx => ?_) (by omega) (by simp; omega) ?_
    · rw [← List.map_append, ← List.map_append] at hx; exact len3 _ x hx
    have h2 : H2 gf = some (.row 4 cs) := by rw [k2 gf (fun h => g0 (hown _ (.inl h)))]; exact e0
    have hd1 : ∀ (A B : List (List AV)) (n : Nat), A.length = n → (A ++ B).drop ((n : Int).toNat) = B := fun A B n h => by simp [← h]
    rw [hd1 _ _ _ (by simp)]
    simp only [h2, rowk, q3, optk]
    refine Slot.cp (st.keep fun g hg => k2 g fun h => hdis g h hg) (fun x hx => ?_) (by simp) (fun x hx => ?_) fun H3 s3 k3 => ?_
    · rw [← List.map_append] at hx; exact len3 _ x hx
    · rw [← List.map_append] at hx; exact one3 _ x hx
    refine zye (fun x hx => ?_) (by omega) (by simp; omega) ?_
    · rw [← List.map_append] at hx; exact len3 _ x hx
    rw [hd1 _ _ _ (by simp), hadd]
    rw [fl] at s2 s3
    have e4 : (fs.take (i + 1)).map (pkF p) ++ fs.drop (i + 1) = ((fs.take i).map (pkF p) ++ fs.drop i).set i (pkF p f) := by
      rw [htk, hdrop, List.set_append_right _ _ (by simp; omega)]
      simp [Nat.min_eq_left (Nat.le_of_lt hil)]
    refine hK (i + 1) H3 (by omega) (by omega) ?_ fun g hg => ?_
    · rw [e4]
      refine fr'.set nd hs (fun g h1 h2 => by rw [k3 g h2, k2 g h1]) ?_ ?_
      · have := s2.keep (H' := H3) fun g hg => k3 g (hdis g hg)
        simpa [pkF] using this
      · simpa [pkF] using s3
    · rw [k3 g (fun h => hg (hown _ (.inr h))), k2 g (fun h => hg (hown _ (.inl h)))]
      exact keep g hg
  · obtain rfl : i = fs.length := by omega
    rw [List.take_length, List.drop_length, List.append_nil] at fr'
    simp [zeg, e1, e2, zag, z2, g3]
    have := hend ((H'.put n1 (some (.row 9 (zag id trip pr (.slc gf 0 fs.length) (.ro (hp.map Cl.avs)) m)))).put p1 (some (.row 9 (zag id trip pr (.slc gf 0 fs.length) (.ro (hp.map Cl.avs)) m ++ z.drop 9)))) (fr'.keep fun g hg => ?_) fun g q1 q2 q3 => ?_
    · simpa [zag] using this
    · have a1 : g ≠ p1 := fun e => g2 (e ▸ hg)
      have a2 : g ≠ n1 := fun e => g1 (e ▸ hg)
      rw [Heap.put_ne _ _ a1, Heap.put_ne _ _ a2]
    · rw [Heap.put_ne _ _ q3, Heap.put_ne _ _ q2]; exact keep g q1
set_option maxRecDepth 20000 in
set_option maxHeartbeats 1000000 in
theorem zabb {a : Agt} {fs : List Frm} {f : Frm} (sz : zup a) (hfr : a.frames = fs ++ [f]) (hfl : a.frames.length ≤ 4096) (hb : (ze a.frames).length ≤ 4096) (hr : VM.right a.heap (ze a.frames) = true) :
    QC Tryd.prog 25 [.agg a.avs] (.agg (VM.pack a).avs) := by
  refine QC.of' fun H nx => ?_
  refine zpa _ H nx _ ?_
  have av : (AV.agg a.avs).cells = a.avs := by simp
  have al : a.avs.length = 9 := rfl
  have hsu : (AV.agg a.avs).sure = true := by simp [Agt.avs]
  have at9 : a.avs.take 9 = a.avs := by rw [← al, List.take_length]
  unfold zoc
  rw [av, al]
  refine ⟨hsu, ?_⟩
  simp [al, at9]
  refine zyo sz fun H1 n1 ss fa ha hn1 k1 ow => ?_
  generalize hHH : Heap.put _ (nx + 1) _ = HH at *
  have q2 : ∃ z, HH (nx + 1) = some (.row 9 z) ∧ z.length = 9 := ⟨_, by rw [← hHH, Heap.put_at], rfl⟩
  have q4 : Keep nx HH H := fun g hg => by rw [← hHH, Heap.put_ne _ _ (by omega), Heap.put_ne _ _ (by omega)]
  have h1 := ow.hp.one
  obtain ⟨gf, cs, rfl, c1, c2, c3⟩ : ∃ gf cs, fa = .slc gf 0 a.frames.length ∧ H1 gf = some (.row 4 cs) ∧ cs.take (a.frames.length * 4) = frow a.frames ss ∧ a.frames.length * 4 ≤ cs.length := by
    rcases ow.row with ⟨h0, _⟩ | ⟨gf, cs, h2⟩
    · rw [hfr] at h0; simp at h0
    · exact ⟨gf, cs, h2⟩
  have bd : ∀ g, (g = gf ∨ g ∈ owns ss) → nx + 2 ≤ g ∧ g < n1 := fun g hg => ow.bd g (by rcases hg with rfl | h <;> simp [own, *])
  have bh : ∀ g ∈ own ha, nx + 2 ≤ g ∧ g < n1 := fun g hg => ow.bd g (by simp [hg])
  have nd := ow.nd
  have e0 : own (AV.slc gf 0 a.frames.length) = [gf] := rfl
  rw [e0, List.singleton_append, List.nodup_cons, List.nodup_append] at nd
  obtain ⟨nd1, nd2, nd3, nd4⟩ := nd
  simp only [List.mem_append, not_or] at nd1
  simp [zod, zag, h1.1, h1.2.1, h1.2.2]
  generalize hX : Heap.put H1 n1 _ = HX
  have x1 : HX n1 = some (.row 9 (zag a.id a.trip a.prog (.slc gf 0 a.frames.length) ha a.permit)) := by rw [← hX, Heap.put_at]; rfl
  have xk : ∀ g, g < n1 → HX g = H1 g := fun g hg => by rw [← hX, Heap.put_ne _ _ (by omega)]
  refine zaad (lo := nx + 2) hb hfl (by rw [xk gf (bd gf (.inl rfl)).2]; exact c1) c2 c3 (ow.frs.keep fun g hg => xk g (bd g (.inr hg)).2) bd fun H' n' l hn keep sl bl => ?_
  have x2 := (keep n1 (by omega)).trans x1
  simp [x2, zag]
  let G : Nat → Prop := fun g => g ∈ own ha ∨ g ∈ own l
  let H0 : Heap := fun g => if g ∈ own ha ∨ g ∈ own l then none else H' g
  have h0 : ∀ g o, H0 g = some o → ¬ G g ∧ H' g = some o := fun g o hg => by
    by_cases h : g ∈ own ha ∨ g ∈ own l
    · simp only [H0, if_pos h] at hg; cases hg
    · simp only [H0, if_neg h] at hg; exact ⟨h, hg⟩
  have up : ∀ g, g ∉ own ha → g < n1 + 1 → H0 g = HX g := fun g h1 h2 => by
    simp only [H0]
    rw [if_neg (fun h => by
      rcases h with h | h
      · exact h1 h
      · have := bl g h; omega)]
    exact keep g h2
  refine QC.thaw (zzj a.heap (ze a.frames) hr sz.b5 (by omega)) (G := G) (H0 := H0) (zgt.cons (Slot.frzP (sz := 6) ?_ (fun g hg => .inl hg) (zbg _)) (zgt.cons (Slot.frzP (sz := 3) ?_ (fun g hg => .inr hg) (zfs _)) .nil)) h0 ?_
  · have := ow.hp.keep (H' := H') fun g hg => by have := bh g hg; rw [keep g (by omega), xk g (by omega)]
    simpa [rowC] using this
  · simpa [rowV] using sl
  have y1 : H0 n1 = some (.row 9 (zag a.id a.trip a.prog (.slc gf 0 a.frames.length) ha a.permit)) := by
    rw [up n1 (fun h => by have := bh _ h; omega) (by omega)]; exact x1
  have lowk : ∀ g, g < nx + 2 → H0 g = HH g := fun g hg => by
    rw [up g (fun h => by have := bh _ h; omega) (by omega), xk g (by omega), k1 g (by omega)]
  simp [zjq, y1, zag]
  obtain ⟨z, z1, z2⟩ := q2
  have hcv : (VM.canonV a.heap (ze a.frames)).map Val.avs = (ze a.frames).map fun v => (VM.put (VM.order a.heap (ze a.frames)) v).avs := by
    unfold VM.canonV; rw [List.map_map]; rfl
  rw [hcv]
  have gdis : ∀ g ∈ owns ss, g ∉ own ha := fun g hg h => nd4 g h g hg rfl
  refine zaew (id := a.id) (trip := a.trip) (pr := a.prog) (m := a.permit) (p := VM.put (VM.order a.heap (ze a.frames))) (hp := VM.canonC a.heap (ze a.frames)) (ss := ss) (cs := cs) (ha := ha) hfl ?_ c2 c3 (ow.frs.keep fun g hg => ?_) nd3 nd1.2 (fun h => by have := bd _ (.inr h); omega) (fun h => by have := bd _ (.inr h); omega) (by omega) y1 ⟨z, by rw [lowk _ (by omega)]; exact z1, z2⟩ fun H3 fr3 k3 => ?_
  · rw [up gf nd1.1 (by have := bd gf (.inl rfl); omega), xk gf (bd gf (.inl rfl)).2]; exact c1
  · rw [up g (gdis g hg) (by have := bd g (.inr hg); omega), xk g (bd g (.inr hg)).2]
  have hgf := bd gf (.inl rfl)
  refine ⟨?_, fun g hg => ?_⟩
  · have hp : VM.pack a = ⟨a.id, a.trip, a.prog, a.frames.map (pkF (VM.put (VM.order a.heap (ze a.frames)))), VM.canonC a.heap (ze a.frames), a.permit⟩ := rfl
    rw [hp]
    have ef : frow (a.frames.map (pkF (VM.put (VM.order a.heap (ze a.frames))))) ss = frow a.frames ss := zyw _ _
    refine zmg (zac.frz (cs := cs) fr3 ?_ (by simpa [ef] using c2) (by simpa using c3) (by omega) (fun x hx => by have := bd x (.inr hx); omega) (by simp)) (.same _ (zgp (zcy _)))
    rw [k3 gf nd1.2 (by omega) (by omega), up gf nd1.1 (by omega), xk gf hgf.2]; exact c1
  · rw [k3 g (fun h => by have := bd _ (.inr h); omega) (by omega) (by omega), lowk g (by omega)]
    exact q4 g hg
end Go.Proofs.YtobioljjoipimaaDoor
set_option maxRecDepth 8000
namespace Go.Proofs.YtobioljjoipimaaDoor
open Go Go.RowKit
theorem zahi (i : Ins) : QC Tryd.prog 44 [.agg i.avs] (.tup [.int .i64 (VM.effect i).1, .int .i64 (VM.effect i).2]) := by
  refine QC.of' fun H nx => zpj _ H nx _ ?_
  obtain ⟨op, a, b⟩ := i
  unfold zln
  simp only [Ins.avs, zahg, zage, true_and, List.length_cons, List.length_nil, ld_p, Heap.put_at, rowk, List.getElem?_cons_zero, optk, zalr, cnd, cndc, decide_eq_true_eq, decide_eq_false_iff_not]
  refine ⟨fun h => ?_, fun h => ?_⟩
  · simp [VM.effect, h]
  have hx : op ≠ 17 := by simpa using h
  have hH : ((H.put nx (some (.row 3 [.int .i64 op, .int .i64 a, .int .i64 b]))).put (nx + 1) (some (.mp []))) (nx + 1) = some (.mp []) := Heap.put_at _ _ _
  have hK : Keep nx ((H.put nx (some (.row 3 [.int .i64 op, .int .i64 a, .int .i64 b]))).put (nx + 1) (some (.mp []))) H := by simp
  have hop : ((H.put nx (some (.row 3 [.int .i64 op, .int .i64 a, .int .i64 b]))).put (nx + 1) (some (.mp []))) nx = some (.row 3 [.int .i64 op, .int .i64 a, .int .i64 b]) := by simp
  simp only [Nat.zero_add, Nat.reduceAdd]
  generalize ((H.put nx (some (.row 3 [.int .i64 op, .int .i64 a, .int .i64 b]))).put (nx + 1) (some (.mp []))) = H1 at *
  repeat (refine ⟨rfl, zale hH hop (by omega) hK (by omega) (by simp only [zih, zqt, List.nil_append, List.cons_append, Int.reduceEq, if_false, Option.map_some, Option.map_none]) ?_⟩; clear hH hK hop; clear H1; intro H1 hH hop hK)
  simp only [List.nil_append, List.cons_append] at hH
  have hcases : op < 1 ∨ 19 < op ∨ op = 1 ∨ op = 2 ∨ op = 3 ∨ op = 4 ∨ op = 5 ∨ op = 6 ∨ op = 7 ∨ op = 8 ∨ op = 9 ∨ op = 10 ∨ op = 11 ∨ op = 12 ∨ op = 13 ∨ op = 14 ∨ op = 15 ∨ op = 16 ∨ op = 18 ∨ op = 19 := by omega
  have hs : ∀ p q : Int, (∃ r, zal (.int .i64 op) [(.int .i64 1, .agg [.int .i64 0, .int .i64 1]), (.int .i64 2, .agg [.int .i64 0, .int .i64 1]), (.int .i64 3, .agg [.int .i64 0, .int .i64 1]), (.int .i64 4, .agg [.int .i64 1, .int .i64 0]), (.int .i64 5, .agg [.int .i64 2, .int .i64 1]), (.int .i64 6, .agg [.int .i64 2, .int .i64 1]), (.int .i64 7, .agg [.int .i64 1, .int .i64 1]), (.int .i64 8, .agg [.int .i64 1, .int .i64 1]), (.int .i64 9, .agg [.int .i64 2, .int .i64 0]), (.int .i64 10, .agg [.int .i64 2, .int .i64 0]), (.int .i64 11, .agg [.int .i64 1, .int .i64 1]), (.int .i64 12, .agg [.int .i64 0, .int .i64 1]), (.int .i64 13, .agg [.int .i64 1, .int .i64 1]), (.int .i64 14, .agg [.int .i64 1, .int .i64 0]), (.int .i64 15, .agg [.int .i64 0, .int .i64 0]), (.int .i64 16, .agg [.int .i64 1, .int .i64 0]), (.int .i64 18, .agg [.int .i64 1, .int .i64 0]), (.int .i64 19, .agg [.int .i64 1, .int .i64 0])] = some r ∧
      (match r with | some (_, v) => v | none => .agg [.int .i64 0, .int .i64 0]) = .agg [.int .i64 (VM.effect ⟨op, a, b⟩).1, .int .i64 (VM.effect ⟨op, a, b⟩).2]) := by
    intro _ _
    rcases hcases with h | h | h
    · have e : VM.effect ⟨op, a, b⟩ = (0, 0) := by unfold VM.effect; simp only; (repeat' split) <;> first | omega | rfl
      refine ⟨none, ?_, by rw [e]⟩
      simp only [zih, zqt]
      repeat rw [if_neg (by omega)]
      rfl
    · have e : VM.effect ⟨op, a, b⟩ = (0, 0) := by unfold VM.effect; simp only; (repeat' split) <;> first | omega | rfl
      refine ⟨none, ?_, by rw [e]⟩
      simp only [zih, zqt]
      repeat rw [if_neg (by omega)]
      rfl
    · rcases h with h | h | h | h | h | h | h | h | h | h | h | h | h | h | h | h | h | h
      all_goals subst h; exact ⟨_, by simp only [zih, Int.reduceEq, if_false, if_true, Option.map_some]; rfl, rfl⟩
  obtain ⟨r, h1, h2⟩ := hs 0 0
  rw [hop, rowk]
  simp only [List.getElem?_cons_zero, optk, zadh, true_and, lk_p, hH, mapk, h1, cond_true, cond_false]
  cases r with
  | none => simp only at h2; simp [hK, h2]
  | some pr => obtain ⟨i, v⟩ := pr; simp only at h2; simp [hK, h2]
theorem zajw (s : Str) (i : Nat) : (s.drop i).all VM.wordByte = if h : i < s.length then VM.wordByte s[i] && (s.drop (i + 1)).all VM.wordByte else true := by
  split
  · rename_i h
    rw [List.drop_eq_getElem_cons h, List.all_cons]
  · rename_i h
    rw [List.drop_of_length_le (by omega)]; rfl
theorem zahd (s : Str) (hs : s.length ≤ maxLen) : QC Tryd.prog 104 [.str s] (.bool (VM.word s)) := by
  refine fun H nx => zrt _ H nx _ ?_
  simp only [maxLen] at hs
  simp [zmw]
  refine LP.mk (fun n xs H' nx' => ∃ i : Nat, i ≤ s.length ∧ n = s.length - i ∧ xs = [.str s, .int .i64 s.length, .int .i64 i] ∧ H = H' ∧ nx = nx' ∧ s.all VM.wordByte = (s.drop i).all VM.wordByte) s.length ⟨0, by omega, by omega, rfl, rfl, rfl, rfl⟩ ?_
  rintro n xs H' nx' ⟨i, hi, rfl, rfl, rfl, rfl, hall⟩
  rw [zajw] at hall
  simp [zmx]
  refine ⟨fun h => ?_, fun h => ?_⟩
  · rw [dif_pos h] at hall
    have hb : VM.wordByte s[i] = false → VM.word s = false := fun hb => by simp [VM.word, hall, hb]
    simp [h]
    refine ⟨fun h1 => hb (by simp [VM.wordByte]; omega), fun h1 => ⟨fun h2 => hb (by simp [VM.wordByte]; omega), fun h2 => ⟨fun h3 => hb (by simp [VM.wordByte]; omega), fun h3 => ?_⟩⟩⟩
    rw [i64w (by omega)]
    refine ⟨s.length - (i + 1), by omega, i + 1, by omega, rfl, by simp, ?_⟩
    have : VM.wordByte s[i] = true := by simp [VM.wordByte]; omega
    rw [hall, this]; rfl
  · rw [dif_neg (by omega)] at hall
    simp only [VM.word, hall, Bool.and_true]
    rw [Bool.eq_iff_iff]; simp; omega
end Go.Proofs.YtobioljjoipimaaDoor
set_option maxRecDepth 8000
namespace Go.Proofs.YtobioljjoipimaaDoor
open Go Go.RowKit
def zt (l : List Int) : List AV := l.map (AV.int .i64)
section
variable {k : AV → Prop} {ki : IntKind}
@[simp ↓] theorem zaqe {s g off len : Nat} {a : Int} {H : Heap} : SL s (.slc g off len) (some (.int ki a)) none H k = ROWK (H g) fun sz _ => sz = s ∧ 0 ≤ a ∧ a ≤ len ∧ k (.slc g (off + a.toNat * s) ((len : Int) - a).toNat) := by
  simp only [SL, zbk, lohi, qk]
  refine zei (fun sz cs h => ?_) fun h => ?_
  · simp [h]
  · intro ha
    split at ha
    · rename_i sz cs he; exact h _ _ he
    · exact ha
end
theorem zafk (n i : Nat) (h : i < n) : List.take i (zt (List.replicate i (-1) ++ List.replicate (n - i) 0)) ++ AV.int .i64 (-1) :: List.drop (i + 1) (zt (List.replicate i (-1) ++ List.replicate (n - i) 0)) = zt (List.replicate (i + 1) (-1) ++ List.replicate (n - (i + 1)) 0) := by
  have e : n - i = (n - (i + 1)) + 1 := by omega
  rw [e, List.replicate_succ, List.replicate_succ']
  simp [zt, List.take_append, List.drop_append]
theorem zgq (l : List Int) (i : Nat) : (zt l)[i]? = (l[i]?).map (AV.int .i64) := by simp [zt]
theorem zadx (l : List Int) (i : Nat) (x : Int) (h : i < l.length) : List.take i (zt l) ++ AV.int .i64 x :: List.drop (i + 1) (zt l) = zt (l.set i x) := by
  rw [zt, zt, List.map_set, List.set_eq_take_append_cons_drop]; simp [h]
@[simp] theorem zanb (l : List Int) : (zt l).length = l.length := by simp [zt]
theorem zaao (l : List Int) : (l.map fun n => [AV.int .i64 n]).flatten = zt l := by
  induction l with
  | nil => rfl
  | cons x r ih => simp [zt] at ih ⊢; exact ih
end Go.Proofs.YtobioljjoipimaaDoor
set_option maxRecDepth 8000
namespace Go.Proofs.YtobioljjoipimaaDoor
open Go Go.RowKit
theorem app1 {g len s : Nat} {x : Int} {H : Heap} {kk : AV → Heap → Nat → Prop} {A : List Int} (hg : H g = some (.row 1 (zt A))) (hl : A.length = len) (hgs : g ≠ s) (hb : len ≤ 4194304)
    (hk : ∀ H', H' (s + 1) = some (.row 1 (zt (A ++ [x]))) → (∀ y, y ≠ g → y ≠ s → y ≠ s + 1 → H' y = H y) → kk (.slc (s + 1) 0 (len + 1)) H' (s + 1 + 1)) :
    APP 1 8 (.slc g 0 len) (.slc s 0 1) (H.put s (some (.row 1 [.int .i64 x]))) (s + 1) kk := by
  simp [hgs, hg]
  refine ⟨by omega, by omega, hk _ ?_ ?_⟩
  · simp [hl, zt]
    rw [List.take_of_length_le (by simp; omega)]
  · intro y h1 h2 h3
    simp [h1, h2, h3]
theorem app2 {ga gb la s : Nat} {x y : Int} {H : Heap} {kk : AV → AV → Heap → Nat → Prop} {A B : List Int} (hga : H ga = some (.row 1 (zt A))) (hgb : H gb = some (.row 1 (zt B))) (hA : A.length = la) (hB : B.length = la) (hab : ga ≠ gb) (ha : ga < s) (hb : gb < s) (hl : la ≤ 4194304)
    (hk : ∀ H', H' (s + 1) = some (.row 1 (zt (A ++ [x]))) → H' (s + 3) = some (.row 1 (zt (B ++ [y]))) → (∀ z, z ≠ ga → z ≠ gb → z < s → H' z = H z) → kk (.slc (s + 1) 0 (la + 1)) (.slc (s + 3) 0 (la + 1)) H' (s + 4)) :
    APP 1 8 (.slc ga 0 la) (.slc s 0 1) (H.put s (some (.row 1 [.int .i64 x]))) (s + 1) fun v H' n => APP 1 8 (.slc gb 0 la) (.slc n 0 1) (H'.put n (some (.row 1 [.int .i64 y]))) (n + 1) fun w H'' n' => kk v w H'' n' := by
  refine app1 hga hA (by omega) hl fun H1 h1 h2 => ?_
  refine app1 (A := B) (by rw [h2 gb (by omega) (by omega) (by omega)]; exact hgb) hB (by omega) hl fun H3 h3 h4 => ?_
  refine hk H3 ?_ h3 fun z p q r => ?_
  · rw [h4 _ (by omega) (by omega) (by omega)]; exact h1
  · rw [h4 _ (by omega) (by omega) (by omega), h2 _ (by omega) (by omega) (by omega)]
def RInv (c : Cod) (H0 : Heap) (n0 : Nat) (f : Nat) (xs : List AV) (H : Heap) (nx : Nat) : Prop := ∃ (q : List (Int × Int)) (out A B : List Int) (ga gb k la : Nat),
  xs = [.ptr n0 0, .slc (n0 + 1) 0 c.ins.length, .slc ga 0 la, .slc gb 0 la, .int .i64 k] ∧ A.length = la ∧ B.length = la ∧ H ga = some (.row 1 (zt A)) ∧ H gb = some (.row 1 (zt B)) ∧ A.drop k = q.map (·.1) ∧ B.drop k = q.map (·.2) ∧ k ≤ la ∧
  n0 + 1 < ga ∧ n0 + 1 < gb ∧ ga ≠ gb ∧ ga < nx ∧ gb < nx ∧ k + f = 2 * c.ins.length + 2 ∧
  H n0 = some (.row 3 c.avs) ∧ H (n0 + 1) = some (.row 1 (zt out)) ∧ out.length = c.ins.length ∧ Keep n0 H H0 ∧
  VM.heightsGo c.ins f q out = VM.heights c.ins ∧ q.length + 2 * zjr out < f ∧ (∀ x ∈ q, 0 ≤ x.2 ∧ x.2 ≤ 16) ∧ (∀ x ∈ out, -1 ≤ x ∧ x ≤ 16)
set_option maxHeartbeats 4000000 in
theorem zsk (c : Cod) (hlen : c.ins.length ≤ 1048576) (hcalm : Calm c.ins) :
    QC Tryd.prog 83 [.agg c.avs] (.tup [.ro ((VM.heights c.ins).1.map fun n => [.int .i64 n]), .int .i64 (VM.heights c.ins).2]) := by
  refine QC.of' fun H nx => znl _ H nx _ ?_
  simp [zja, Cod.avs]
  refine ⟨by omega, by omega, ?_⟩
  refine LP.mk (fun m xs H' nx' => ∃ i : Nat, i ≤ c.ins.length ∧ m = c.ins.length - i ∧ xs = [.ptr nx 0, .slc (nx + 1) 0 c.ins.length, .int .i64 c.ins.length, .int .i64 i] ∧ nx' = nx + 2 ∧
    H' = (H.put nx (some (.row 3 c.avs))).put (nx + 1) (some (.row 1 (zt (List.replicate i (-1) ++ List.replicate (c.ins.length - i) 0))))) c.ins.length
    ⟨0, by omega, by omega, by simp, rfl, by simp [zt, Cod.avs]⟩ ?_
  rintro m xs H' nx' ⟨i, hi, rfl, rfl, rfl, rfl⟩
  simp [zjb]
  refine ⟨fun h => ?_, fun h => ?_⟩
  · refine ⟨h, by omega, ?_⟩
    rw [i64w (by omega)]
    refine ⟨c.ins.length - (i + 1), by omega, i + 1, by omega, rfl, by simp, ?_⟩
    rw [zafk _ _ h]
  obtain rfl : i = c.ins.length := by omega
  refine LP.mk (RInv c H nx) (2 * c.ins.length + 2) ⟨[(0, 0)], List.replicate c.ins.length (-1), [0], [0], nx + 2, nx + 3, 0, 1, by simp, rfl, rfl, by simp [zt], by simp [zt], rfl, rfl, by omega, by omega, by omega, by omega, by omega, by omega, by omega, by simp; omega, by simp, by simp, ?_, rfl, ?_, ?_, ?_⟩ ?_
  · rw [Keep.put (by omega), Keep.put (by omega), Keep.put (by omega), Keep.put (by omega)]; simp
  · unfold zjr; simp [List.countP_replicate]; omega
  · intro x hx; simp at hx; subst hx; simp
  · intro x hx; have := List.eq_of_mem_replicate hx; omega
  rintro f xs H1 n1 ⟨q, out, A, B, ga, gb, k, la, rfl, hAl, hBl, hga, hgb, hA, hB, hk, g1, g2, g3, g4, g5, hkf, hb, ho, hol, hK, hgo, hmeas, hq, hout⟩
  cases f with
  | zero => simp at hmeas
  | succ f =>
  cases q with
  | nil =>
    have hkl : la ≤ k := by have := congrArg List.length hA; simp at this; omega
    have e : VM.heights c.ins = (out, 0) := by rw [← hgo]; rfl
    have : ¬ k < la := by omega
    simp [zar, this, e]
    refine ⟨Frz.row (sz := 1) (cells := zt out) (by omega) ho (by simp [hol]) (by simp) (zaao out) ?_, hK⟩
    intro x hx; simp [zt] at hx; obtain ⟨a, _, rfl⟩ := hx; exact .int _ _
  | cons x q =>
    obtain ⟨at_, h⟩ := x
    have hkl : k < la := by have := congrArg List.length hA; simp at this; omega
    have hA0 : A[k]? = some at_ := by have := congrArg (·[0]?) hA; simpa using this
    have hB0 : B[k]? = some h := by have := congrArg (·[0]?) hB; simpa using this
    have hA1 : A.drop (k + 1) = q.map (·.1) := by have := congrArg (List.drop 1) hA; simpa using this
    have hB1 : B.drop (k + 1) = q.map (·.2) := by have := congrArg (List.drop 1) hB; simpa using this
    have hh := hq (at_, h) (by simp)
    simp only at hh
    have hq' : ∀ x ∈ q, 0 ≤ x.2 ∧ x.2 ≤ 16 := fun x hx => hq x (by simp [hx])
    have hlaq : la = k + 1 + q.length := by have := congrArg List.length hA; simp at this; omega
    simp only [List.length_cons] at hmeas
    simp only [VM.heightsGo] at hgo
    have w0 : IntKind.i64.wrap ((k : Int) + 1) = ((k + 1 : Nat) : Int) := by rw [i64w (by omega)]; simp
    by_cases hr : 0 ≤ at_ ∧ at_ < c.ins.length
    case neg =>
      have e : (if 0 ≤ at_ then c.ins[at_.toNat]? else none) = none := by
        split
        · exact List.getElem?_eq_none (by omega)
        · rfl
      rw [e] at hgo
      simp only at hgo
      rw [← hgo]
      by_cases h0 : at_ < 0
      · simp [zar, hkl, hga, hgb, zgq, hA0, hB0, h0, hK]
      · have : (c.ins.length : Int) ≤ at_ := by omega
        simp [zar, hkl, hga, hgb, zgq, hA0, hB0, h0, this, hK]
    case pos =>
    obtain ⟨hr0, hr1⟩ := hr
    have hlt : at_.toNat < c.ins.length := by omega
    obtain ⟨i, hi⟩ : ∃ i, c.ins[at_.toNat]? = some i := ⟨_, List.getElem?_eq_getElem hlt⟩
    obtain ⟨o, ho'⟩ : ∃ o, out[at_.toNat]? = some o := ⟨_, List.getElem?_eq_getElem (by omega)⟩
    have hod : out.getD at_.toNat 0 = o := by simp [List.getD_eq_getElem?_getD, ho']
    rw [if_pos hr0, hi, hod] at hgo
    simp only at hgo
    by_cases hs : 0 ≤ o
    · rw [if_pos hs] at hgo
      by_cases hne : o = h
      · subst hne
        rw [if_neg (by simp)] at hgo
        simp [zar, hkl, hga, hgb, zgq, hA0, hB0, ho, hr0, hr1, ho', hs, Int.not_lt.2 hr0, Int.not_le.2 hr1, w0, Int.not_lt.2 hs]
        exact ⟨f, by omega, q, out, A, B, ga, gb, k + 1, la, rfl, hAl, hBl, hga, hgb, hA1, hB1, by omega, g1, g2, g3, g4, g5, by omega, hb, ho, hol, hK, hgo, by omega, hq', hout⟩
      · rw [if_pos hne] at hgo
        rw [← hgo]
        simp [zar, hkl, hga, hgb, zgq, hA0, hB0, ho, hr0, hr1, ho', hs, hne, Int.not_lt.2 hr0, Int.not_le.2 hr1, hK]
    rw [if_neg hs] at hgo
    have hbd := zii i (hcalm i (List.mem_of_getElem? hi))
    have n1' : ga ≠ nx := by omega
    have n2' : ga ≠ nx + 1 := by omega
    have n3' : ga ≠ n1 := by omega
    have n4' : nx ≠ n1 := by omega
    have n5' : nx + 1 ≠ n1 := by omega
    have m2' : gb ≠ nx + 1 := by omega
    have m3' : gb ≠ n1 := by omega
    have hns : o < 0 := by omega
    obtain ⟨_, hi'⟩ := List.getElem?_eq_some_iff.1 hi
    simp [zar, hkl, hga, hgb, zgq, hA0, hB0, ho, hb, hr0, hr1, ho', hs, hns, hi', Cod.avs, Ins.avs, Int.not_lt.2 hr0, Int.not_le.2 hr1]
    refine ⟨by omega, QC.call (zahi i) ?_⟩
    rw [zadx _ _ _ (by omega)]
    have h2a : ((H1.put (nx + 1) (some (.row 1 (zt (out.set at_.toNat h))))).put n1 (some (.row 3 [.int .i64 i.op, .int .i64 i.a, .int .i64 i.b]))) ga = some (.row 1 (zt A)) := by simp [n2', n3', hga]
    have h2c : ((H1.put (nx + 1) (some (.row 1 (zt (out.set at_.toNat h))))).put n1 (some (.row 3 [.int .i64 i.op, .int .i64 i.a, .int .i64 i.b]))) gb = some (.row 1 (zt B)) := by simp [m2', m3', hgb]
    have h2b : ((H1.put (nx + 1) (some (.row 1 (zt (out.set at_.toNat h))))).put n1 (some (.row 3 [.int .i64 i.op, .int .i64 i.a, .int .i64 i.b]))) nx = some (.row 3 c.avs) := by simp [n4', hb]
    have h2o : ((H1.put (nx + 1) (some (.row 1 (zt (out.set at_.toNat h))))).put n1 (some (.row 3 [.int .i64 i.op, .int .i64 i.a, .int .i64 i.b]))) (nx + 1) = some (.row 1 (zt (out.set at_.toNat h))) := by simp [n5']
    have h2n : ((H1.put (nx + 1) (some (.row 1 (zt (out.set at_.toNat h))))).put n1 (some (.row 3 [.int .i64 i.op, .int .i64 i.a, .int .i64 i.b]))) n1 = some (.row 3 [.int .i64 i.op, .int .i64 i.a, .int .i64 i.b]) := by simp
    have h2K : Keep nx ((H1.put (nx + 1) (some (.row 1 (zt (out.set at_.toNat h))))).put n1 (some (.row 3 [.int .i64 i.op, .int .i64 i.a, .int .i64 i.b]))) H := by rw [Keep.put (by omega), Keep.put (by omega)]; exact hK
    generalize ((H1.put (nx + 1) (some (.row 1 (zt (out.set at_.toNat h))))).put n1 (some (.row 3 [.int .i64 i.op, .int .i64 i.a, .int .i64 i.b]))) = H2 at *
    have hu := zqd (out := out) (k := at_.toNat) (h := h) (by omega) (by omega) hh.1
    generalize hE : VM.effect i = E at *
    obtain ⟨nd, gv⟩ := E
    simp only at hbd hgo
    have w1 : IntKind.i64.wrap (h - nd) = h - nd := i64w (by omega)
    have w2 : IntKind.i64.wrap (h - nd + gv) = h - nd + gv := i64w (by omega)
    have w3 : IntKind.i64.wrap (at_ + 1) = at_ + 1 := i64w (by omega)
    by_cases hc1 : h < nd ∨ (i.op = 18 ∧ h ≠ 1)
    · rw [if_pos hc1] at hgo
      rw [← hgo]
      by_cases hc2 : h < nd
      · simp [zae, hc2, h2K]
      · have h18 : i.op = 18 := by omega
        have hnd : nd = 1 := by simp [VM.effect, h18] at hE; omega
        have h1 : 1 < h := by omega
        simp [zae, hc2, h2n, h18, h1, h2K]
    rw [if_neg hc1] at hgo
    have hc2 : ¬ h < nd := by omega
    have hc2' : nd ≤ h := by omega
    by_cases hc3 : 16 < h + gv - nd
    · rw [if_pos hc3] at hgo
      rw [← hgo]
      have hc3' : 16 < h - nd + gv := by omega
      by_cases h18 : i.op = 18
      · have h1 : h = 1 := by omega
        subst h1
        simp [zae, hc2, h2n, h18, w1, w2, hc3', h2K]
      · simp [zae, hc2, h2n, h18, w1, w2, hc3', h2K]
    rw [if_neg hc3] at hgo
    have hc4 : ¬ 16 < h - nd + gv := by omega
    have e4 : h + gv - nd = h - nd + gv := by omega
    rw [e4] at hgo
    have fin : ∀ (l : List (Int × Int)) (ga' gb' : Nat) (H3 : Heap) (n3 : Nat), VM.heightsGo c.ins f (q ++ l) (out.set at_.toNat h) = VM.heights c.ins → l.length ≤ 2 → (∀ x ∈ l, 0 ≤ x.2 ∧ x.2 ≤ 16) →
        H3 ga' = some (.row 1 (zt (A ++ l.map (·.1)))) → H3 gb' = some (.row 1 (zt (B ++ l.map (·.2)))) → nx + 1 < ga' → nx + 1 < gb' → ga' ≠ gb' → ga' < n3 → gb' < n3 →
        H3 nx = H2 nx → H3 (nx + 1) = H2 (nx + 1) → Keep nx H3 H →
        ∃ m, m < f + 1 ∧ RInv c H nx m [.ptr nx 0, .slc (nx + 1) 0 c.ins.length, .slc ga' 0 (la + l.length), .slc gb' 0 (la + l.length), .int .i64 ((k + 1 : Nat) : Int)] H3 n3 := by
      intro l ga' gb' H3 n3 p1 p2 p3 p4 p5 p6 p7 p8 p9 p10 p11 p12 p13
      refine ⟨f, by omega, q ++ l, _, A ++ l.map (·.1), B ++ l.map (·.2), ga', gb', k + 1, la + l.length, rfl, by simp [hAl], by simp [hBl], p4, p5, ?_, ?_, by omega, p6, p7, p8, p9, p10, by omega, p11.trans h2b, p12.trans h2o, by simpa using hol, p13, p1, by simp; omega, fun x hx => ?_, fun x hx => ?_⟩
      · rw [List.drop_append_of_le_length (by omega), hA1]; simp
      · rw [List.drop_append_of_le_length (by omega), hB1]; simp
      · rcases List.mem_append.1 hx with hx | hx
        · exact hq' x hx
        · exact p3 x hx
      · rcases List.mem_or_eq_of_mem_set hx with h9 | h9
        · exact hout x h9
        · omega
    have hlab : la ≤ 4194000 := by omega
    have kp : ∀ H3 : Heap, (∀ z, z ≠ ga → z ≠ gb → z < n1 + 1 → H3 z = H2 z) → Keep nx H3 H := fun H3 h3 g hg => (h3 g (by omega) (by omega) (by omega)).trans (h2K g hg)
    by_cases h15 : i.op = 15
    · simp [zae, hc2, hc2', h2n, h15, w0, w1, w2, w3, hc4, -zga]
      refine app2 h2a h2c hAl hBl g3 (by omega) (by omega) (by omega) fun H3 q1 q2 q3 => ?_
      exact fin [(i.a, h - nd + gv)] _ _ _ _ (by simpa [h15] using hgo) (by simp) (by simp; omega) (by simpa using q1) (by simpa using q2) (by omega) (by omega) (by omega) (by omega) (by omega) (q3 _ (by omega) (by omega) (by omega)) (q3 _ (by omega) (by omega) (by omega)) (kp _ q3)
    by_cases h18 : i.op = 18
    · have h1 : h = 1 := by omega
      subst h1
      simp [zae, hc2, hc2', h2n, h18, w1, w2, w3, w0, hc4, -zga]
      have := fin [] ga gb H2 (n1 + 1) (by simpa [h15, h18] using hgo) (by simp) (by simp) (by simpa using h2a) (by simpa using h2c) (by omega) (by omega) (by omega) (by omega) (by omega) rfl rfl h2K
      exact this
    by_cases h16 : i.op = 16
    · simp [zae, hc2, hc2', h2n, h16, w0, w1, w2, w3, hc4, -zga]
      refine app2 h2a h2c hAl hBl g3 (by omega) (by omega) (by omega) fun H3 q1 q2 q3 => ?_
      have hn3 : H3 n1 = some (.row 3 [.int .i64 16, .int .i64 i.a, .int .i64 i.b]) := by rw [q3 _ (by omega) (by omega) (by omega), h2n, h16]
      simp [hn3, -zga]
      refine app2 q1 q2 (by simp [hAl]) (by simp [hBl]) (by omega) (by omega) (by omega) (by omega) fun H4 r1 r2 r3 => ?_
      have q4 : ∀ z, z ≠ ga → z ≠ gb → z < n1 + 1 → H4 z = H2 z := fun z z1 z2 z3 => (r3 z (by omega) (by omega) (by omega)).trans (q3 z z1 z2 z3)
      exact fin [(at_ + 1, h - nd + gv), (i.a, h - nd + gv)] _ _ _ _ (by simpa [h15, h16, h18] using hgo) (by simp) (by simp; omega) (by simpa using r1) (by simpa using r2) (by omega) (by omega) (by omega) (by omega) (by omega) (q4 _ (by omega) (by omega) (by omega)) (q4 _ (by omega) (by omega) (by omega)) (kp _ q4)
    · simp [zae, hc2, hc2', h2n, h15, h16, h18, w0, w1, w2, w3, hc4, -zga]
      refine app2 h2a h2c hAl hBl g3 (by omega) (by omega) (by omega) fun H3 q1 q2 q3 => ?_
      have hn3 : H3 n1 = some (.row 3 [.int .i64 i.op, .int .i64 i.a, .int .i64 i.b]) := by rw [q3 _ (by omega) (by omega) (by omega), h2n]
      simp [hn3, h15, h16, -zga]
      exact fin [(at_ + 1, h - nd + gv)] _ _ _ _ (by simpa [h15, h16, h18] using hgo) (by simp) (by simp; omega) (by simpa using q1) (by simpa using q2) (by omega) (by omega) (by omega) (by omega) (by omega) (q3 _ (by omega) (by omega) (by omega)) (q3 _ (by omega) (by omega) (by omega)) (kp _ q3)
end Go.Proofs.YtobioljjoipimaaDoor
