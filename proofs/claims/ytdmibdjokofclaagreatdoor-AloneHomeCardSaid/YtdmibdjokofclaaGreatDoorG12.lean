/- A copy of an agent. Agents, by value. The machine goes on: Run. The machine goes on: Run. The machine: Answer. What a call is handed is read by value from then on, in part. The machine: New. The laws' first question, asked of closed facts. The machine: Pack. The machine: Pack, all of it. A copy of an agent; small things about agents. How great an agent is behind so many steps. VmTells, walked. The structs that laws are handed, read as data. Places that laws are handed, read as data. -/
import Derived.Test.YtdmibdjokofclaaGreatDoorG11
import Derived.Test.YtdmibdjokofclaaGreatDoorG9
import Derived.Test.YtdmibdjokofclaaGreatDoorG6
set_option linter.unusedSimpArgs false
set_option linter.unusedVariables false
set_option maxRecDepth 8000
namespace Go.Proofs.YtdmibdjokofclaaGreatDoor
open Go Go.RowKit
set_option maxHeartbeats 2000000 in
theorem zaff {a : Agt} {H1 : Heap} {p : Nat} {Q : AV → Heap → Nat → Prop} (b1 : a.prog.codes.length * 40 ≤ 140737488355328) (b2 : ∀ c ∈ a.prog.codes, c.ins.length * 24 ≤ 140737488355328) (b3 : a.prog.words.length * 16 ≤ 140737488355328)
    (b4 : a.frames.length * 64 ≤ 140737488355328) (b5 : a.heap.length * 64 ≤ 140737488355328) (b6 : ∀ f ∈ a.frames, f.vars.length * 32 ≤ 140737488355328 ∧ f.stack.length * 32 ≤ 140737488355328)
    (r1 : H1 p = some (.row 9 a.avs)) (r2 : ∃ z, H1 (p + 1) = some (.row 9 z) ∧ z.length = 9)
    (hq : ∀ H' n' mid ss fa ha cv wv, p + 2 ≤ mid → mid ≤ n' → (∀ g, g < p → H' g = H1 g) → FrzP H' (fun g => p + 2 ≤ g ∧ g < mid) cv (.ro (a.prog.codes.map Cod.avs)) → FrzP H' (fun g => p + 2 ≤ g ∧ g < mid) wv (.ro (a.prog.words.map fun w => [.str w])) →
      zjw H' mid n' a.frames ss fa a.heap ha → Q (.agg [.int .i64 a.id, .int .i64 a.trip, cv, wv, fa, ha, .int .i64 a.permit.fuel, .int .i64 a.permit.room, .int .i64 a.permit.hops]) H' n') :
    LP (zlo Q) [.ptr p 0, .ptr (p + 1) 0, .nils, .ro (a.prog.codes.map Cod.avs), .int .i64 a.prog.codes.length, .int .i64 0] H1 (p + 2) := by
  refine LP.mk (fun k xs H' n' => ∃ (i : Nat) (cv : AV) (cells : List AV), k = a.prog.codes.length - i ∧ i ≤ a.prog.codes.length ∧ p + 2 ≤ n' ∧ xs = [.ptr p 0, .ptr (p + 1) 0, cv, .ro (a.prog.codes.map Cod.avs), .int .i64 a.prog.codes.length, .int .i64 i] ∧ (∀ g, g < p + 2 → H' g = H1 g) ∧
    zdl H' (fun g => p + 2 ≤ g ∧ g < n' ∧ g ∉ own cv) (a.prog.codes.take i) cells ∧ Slot H' 3 i cells cv ∧ ∀ g ∈ own cv, p + 2 ≤ g ∧ g < n') a.prog.codes.length ⟨0, .nils, [], rfl, by omega, Nat.le_refl _, rfl, fun _ _ => rfl, ⟨rfl, fun k c hc => by simp at hc⟩, .inl ⟨rfl, .inl rfl⟩, by simp [own]⟩ ?_
  rintro k xs H' n' ⟨i, cv, cells, rfl, hi, hn', rfl, hkeep, hc, hs, ho⟩
  have p0 : p ≠ n' := by omega
  have p1 : p + 1 ≠ n' := by omega
  by_cases hil : i < a.prog.codes.length
  · have hmem : a.prog.codes[i] ∈ a.prog.codes := List.getElem_mem hil
    have hb := b2 _ hmem
    have htk : a.prog.codes.take (i + 1) = a.prog.codes.take i ++ [a.prog.codes[i]] := (List.take_append_getElem hil).symm
    have tl : (a.prog.codes.take i).length = i := by simp; omega
    simp [zlo, hil, Cod.avs]
    refine (zage hb .ro).mono fun v H5 n5 ⟨hn5, k5, hv⟩ => ?_
    have e1 : H5 n' = _ := (k5 n' (by omega)).trans (Heap.put_at _ _ _)
    have nn : n' ≠ n5 := by omega
    simp [zwi, e1, hv.one.1, hv.one.2]
    refine Slot.app (bytes := 40) (nx := n5 + 1) (new := [.int .i64 a.prog.codes[i].params, .int .i64 a.prog.codes[i].vars, v]) (hs.keep fun g hg => ?_) (by rw [hc.1, tl]) (Heap.put_at _ _ _) rfl (by simp [hv.one.2]) (by omega) fun H3 q1 q2 => ?_
    · have := ho g hg
      rw [Heap.put_ne _ _ (by omega), Heap.put_ne _ _ (by omega), k5 g (by omega), Heap.put_ne _ _ (by omega)]
    · have old : ∀ g, g < n' → g ∉ own cv → H3 g = H' g := fun g h1 h2 => by
        rw [q2 g h2 (by omega), Heap.put_ne _ _ (by omega), Heap.put_ne _ _ (by omega), k5 g (by omega), Heap.put_ne _ _ (by omega)]
      rw [i64w (by omega)]
      refine ⟨a.prog.codes.length - (i + 1), by omega, i + 1, rfl, by omega, by omega, _, ⟨rfl, by simp⟩, fun g hg => ?_, cells ++ [.int .i64 a.prog.codes[i].params, .int .i64 a.prog.codes[i].vars, v], ?_, ?_, ?_⟩
      · rw [old g (by omega) (fun h => by have := ho g h; omega)]; exact hkeep g hg
      · rw [htk]
        refine zdl.snoc (hc.more fun g ⟨h1, h2, h3⟩ => ⟨⟨h1, by omega, by simp [own]; omega⟩, old g h2 h3⟩) (hv.more fun g ⟨h1, h2⟩ => ⟨⟨by omega, by omega, by simp [own]; omega⟩, ?_⟩)
        rw [q2 g (fun h => by have := ho g h; omega) (by omega), Heap.put_ne _ _ (by omega), Heap.put_ne _ _ (by omega)]
      · refine .inr ⟨n5 + 1, _, rfl, q1, List.take_of_length_le ?_, ?_⟩
        · simp [hc.1, tl]; omega
        · simp [hc.1, tl]; omega
      · intro g hg
        simp [own] at hg; omega
  · obtain rfl : i = a.prog.codes.length := by omega
    rw [List.take_length] at hc
    obtain ⟨z, r2, z9⟩ := r2
    rw [← hkeep p (by omega)] at r1
    rw [← hkeep (p + 1) (by omega)] at r2
    simp [zlo, r1, Agt.avs]
    refine (zagd b3 .ro).mono fun wv H5 n5 ⟨hn5, k5, hw⟩ => ?_
    have e1 : H5 p = _ := (k5 p (by omega)).trans r1
    have e2 : H5 (p + 1) = _ := (k5 (p + 1) (by omega)).trans r2
    simp [zwg, e1, Agt.avs, hs.one.1, hs.one.2, hw.one.1, hw.one.2]
    have pp : p + 1 ≠ p := by omega
    have fz1 : FrzP H5 (fun g => p + 2 ≤ g ∧ g < n5) cv (.ro (a.prog.codes.map Cod.avs)) := by
      refine (hc.frz (G := fun g => p + 2 ≤ g ∧ g < n') (fun g ⟨h1, h2, _⟩ => ⟨h1, h2⟩) hs ho).keep (fun g ⟨h1, h2⟩ => k5 g h2) |>.wide fun g ⟨h1, h2⟩ => ⟨h1, by omega⟩
    have fz2 : FrzP H5 (fun g => p + 2 ≤ g ∧ g < n5) wv (.ro (a.prog.words.map fun w => [.str w])) := hw.frz (fun g ⟨h1, h2⟩ => ⟨by omega, h2⟩) (zud _)
    refine zadh b4 b5 b6 (by omega) (Heap.put_at _ _ _) ⟨z, by rw [Heap.put_ne _ _ pp]; exact e2, z9⟩ hs.one hw.one fun H6 n6 ss fa ha hn6 k6 ow => ?_
    have same : ∀ g, p + 2 ≤ g → g < n5 → H6 g = H5 g := fun g h1 h2 => by rw [k6 g h2 (by omega) (by omega), Heap.put_ne _ _ (by omega)]
    refine hq H6 n6 n5 ss fa ha cv wv (by omega) hn6 (fun g hg => ?_) (fz1.keep fun g ⟨h1, h2⟩ => same g h1 h2) (fz2.keep fun g ⟨h1, h2⟩ => same g h1 h2) ow
    rw [k6 g (by omega) (by omega) (by omega), Heap.put_ne _ _ (by omega), k5 g (by omega), hkeep g (by omega)]
structure zom (a : Agt) : Prop where
  b1 : a.prog.codes.length * 40 ≤ 140737488355328
  b2 : ∀ c ∈ a.prog.codes, c.ins.length * 24 ≤ 140737488355328
  b3 : a.prog.words.length * 16 ≤ 140737488355328
  b4 : a.frames.length * 64 ≤ 140737488355328
  b5 : a.heap.length * 64 ≤ 140737488355328
  b6 : ∀ f ∈ a.frames, f.vars.length * 32 ≤ 140737488355328 ∧ f.stack.length * 32 ≤ 140737488355328
def zaq (id trip : Int) (p : Prg) (fa ha : AV) (m : Pmt) : List AV := [.int .i64 id, .int .i64 trip, .ro (p.codes.map Cod.avs), .ro (p.words.map fun w => [.str w]), fa, ha, .int .i64 m.fuel, .int .i64 m.room, .int .i64 m.hops]
theorem zuh {a : Agt} (sz : zom a) {H : Heap} {n : Nat} {Q : AV → Heap → Nat → Prop}
    (hq : ∀ H' n' ss fa ha, n ≤ n' → Keep n H' H → zjw H' n n' a.frames ss fa a.heap ha → Q (.agg (zaq a.id a.trip a.prog fa ha a.permit)) H' n') : za Tryz.prog 31 [.agg a.avs] H n Q := by
  have raw : za Tryz.prog 31 [.agg a.avs] H n fun v H' n' => ∃ mid ss fa ha cv wv, v = .agg [.int .i64 a.id, .int .i64 a.trip, cv, wv, fa, ha, .int .i64 a.permit.fuel, .int .i64 a.permit.room, .int .i64 a.permit.hops] ∧ n + 2 ≤ mid ∧ mid ≤ n' ∧ Keep n H' H ∧
      FrzP H' (fun g => n + 2 ≤ g ∧ g < mid) cv (.ro (a.prog.codes.map Cod.avs)) ∧ FrzP H' (fun g => n + 2 ≤ g ∧ g < mid) wv (.ro (a.prog.words.map fun w => [.str w])) ∧ zjw H' mid n' a.frames ss fa a.heap ha := by
    refine zyn _ H n _ ?_
    have av : (AV.agg a.avs).cells = a.avs := by simp
    have al : a.avs.length = 9 := rfl
    have nn : n ≠ n + 1 := by omega
    have h2 : a.avs[2]? = some (.ro (a.prog.codes.map Cod.avs)) := rfl
    have hsu : (AV.agg a.avs).sure = true := by simp [Agt.avs]
    unfold zwf
    rw [av, al]
    refine ⟨hsu, ?_⟩
    simp [nn, h2]
    refine zaff sz.b1 sz.b2 sz.b3 sz.b4 sz.b5 sz.b6 (by rw [Heap.put_ne _ _ nn, Heap.put_at]) ⟨_, Heap.put_at _ _ _, rfl⟩ fun H' n' mid ss fa ha cv wv q1 q2 q3 q4 q5 q6 => ?_
    exact ⟨mid, ss, fa, ha, cv, wv, rfl, q1, q2, fun g hg => by rw [q3 g hg, Heap.put_ne _ _ (by omega), Heap.put_ne _ _ (by omega)], q4, q5, q6⟩
  refine za.tidy fun hlive => raw.freeze fun v H' n' ⟨mid, ss, fa, ha, cv, wv, hv, q1, q2, q3, q4, q5, q6⟩ => ?_
  subst hv
  let H2 : Heap := fun g => if n ≤ g ∧ g < mid then none else H' g
  have h2 : ∀ g, ¬ (n ≤ g ∧ g < mid) → H2 g = H' g := fun g hg => if_neg hg
  refine ⟨_, H2, fun g => n ≤ g ∧ g < mid, hq H2 n' ss fa ha (by omega) (fun g hg => by rw [h2 g (by omega)]; exact q3 g hg) ⟨q6.frs.keep fun g hg => h2 g ?_, q6.row.keep fun g hg => h2 g ?_, q6.hp.keep fun g hg => h2 g ?_, q6.nd, fun g hg => ?_⟩, ?_, fun g o hg => ?_⟩
  · have := q6.bd g (by simp [hg]); omega
  · have := q6.bd g (by simp [hg]); omega
  · have := q6.bd g (by simp [hg]); omega
  · have := q6.bd g hg; omega
  · refine .agg _ _ rfl fun j v u hv hu => ?_
    match j with
    | 0 => cases hv; cases hu; exact .same _
    | 1 => cases hv; cases hu; exact .same _
    | 2 => cases hv; cases hu; exact q4.wide fun g ⟨h1, h2⟩ => ⟨by omega, h2⟩
    | 3 => cases hv; cases hu; exact q5.wide fun g ⟨h1, h2⟩ => ⟨by omega, h2⟩
    | 4 => cases hv; cases hu; exact .same _
    | 5 => cases hv; cases hu; exact .same _
    | 6 => cases hv; cases hu; exact .same _
    | 7 => cases hv; cases hu; exact .same _
    | 8 => cases hv; cases hu; exact .same _
    | j + 9 => simp at hv
  · by_cases h : n ≤ g ∧ g < mid
    · simp only [H2, if_pos h] at hg; cases hg
    · exact ⟨h, by rw [h2 g h] at hg; exact hg⟩
end Go.Proofs.YtdmibdjokofclaaGreatDoor
set_option maxRecDepth 8000
namespace Go.Proofs.YtdmibdjokofclaaGreatDoor
open Go Go.RowKit
theorem Slot.frzN {H : Heap} {nx sz : Nat} {xs : List (List AV)} {a : AV} (hs : Slot H sz xs.length xs.flatten a) (ho : ∀ g ∈ own a, nx ≤ g) (hsz : ∀ x ∈ xs, x.length = sz) (hb : ∀ x ∈ xs, ∀ c ∈ x, scal c = true) : Frz H nx a (.ro xs) := by
  rcases hs with ⟨h0, rfl | rfl⟩ | ⟨g, cs, rfl, h1, h2, h3⟩
  · rw [List.eq_nil_of_length_eq_zero h0]; exact .nils
  · rw [List.eq_nil_of_length_eq_zero h0]; exact .zs
  · have e : ∀ (i : Nat) (x : List AV) (j : Nat) (v : AV), xs[i]? = some x → x[j]? = some v → cs[0 + i * sz + j]? = some v := fun i x j v hx hv => by
      have hxl : x.length = sz := hsz x (List.mem_of_getElem? hx)
      have hj : j < sz := by have := (List.getElem?_eq_some_iff.1 hv).1; omega
      have hi := (List.getElem?_eq_some_iff.1 hx).1
      have e1 := zfy hsz hx
      have e2 := congrArg (·[j]?) e1
      simp only [List.getElem?_take, List.getElem?_drop, hj, if_true] at e2
      rw [← h2, List.getElem?_take, hv] at e2
      have : i * sz + sz ≤ xs.length * sz := by rw [← Nat.succ_mul]; exact Nat.mul_le_mul_right _ hi
      rw [if_pos (by omega)] at e2
      rw [Nat.zero_add]; exact e2
    refine .slc g 0 _ sz cs xs (ho g (by simp [own])) h1 (by omega) rfl hsz (fun i j => (cs[0 + i * sz + j]?).getD .junk) (fun i x j v hx hv => ?_) (fun i x j v hx hv => ?_)
    · rw [e i x j v hx hv]; rfl
    · rw [e i x j v hx hv]; exact .same _ (zbf (hb x (List.mem_of_getElem? hx) v (List.mem_of_getElem? hv)))
theorem Slot.frzV {H : Heap} {nx : Nat} {l : List Val} {a : AV} (hs : Slot H 3 l.length (rowV l) a) (ho : ∀ g ∈ own a, nx ≤ g) : Frz H nx a (.ro (l.map Val.avs)) :=
  Slot.frzN (sz := 3) (by simpa [rowV] using hs) ho (zft l) (zfw l)
theorem Slot.frzH {H : Heap} {nx : Nat} {l : List Cl} {a : AV} (hs : Slot H 6 l.length (rowC l) a) (ho : ∀ g ∈ own a, nx ≤ g) : Frz H nx a (.ro (l.map Cl.avs)) :=
  Slot.frzN (sz := 6) (by simpa [rowC] using hs) ho (zbq l) (zdu l)
theorem zabq : ∀ {fs : List Frm} {ss : List (AV × AV)} {i : Nat} {f : Frm} {s : AV × AV}, fs[i]? = some f → ss[i]? = some s → (frow fs ss)[i * 4]? = some (.int .i64 f.fn) ∧ (frow fs ss)[i * 4 + 1]? = some (.int .i64 f.at_) ∧ (frow fs ss)[i * 4 + 2]? = some s.1 ∧ (frow fs ss)[i * 4 + 3]? = some s.2
  | [], _, i, f, s, h, _ => by simp at h
  | _ :: _, [], i, f, s, _, h => by simp at h
  | g :: fs, t :: ss, 0, f, s, h1, h2 => by simp at h1 h2; subst h1; subst h2; exact ⟨rfl, rfl, rfl, rfl⟩
  | g :: fs, t :: ss, i + 1, f, s, h1, h2 => by
    have := zabq (fs := fs) (ss := ss) (i := i) (f := f) (s := s) (by simpa using h1) (by simpa using h2)
    have e : ∀ k, (frow (g :: fs) (t :: ss))[(i + 1) * 4 + k]? = (frow fs ss)[i * 4 + k]? := fun k => by
      rw [show (i + 1) * 4 + k = i * 4 + k + 1 + 1 + 1 + 1 by omega]
      simp [frow]
    exact ⟨(e 0).trans this.1, (e 1).trans this.2.1, (e 2).trans this.2.2.1, (e 3).trans this.2.2.2⟩
theorem zad.frz {H : Heap} {nx : Nat} {fs : List Frm} {ss : List (AV × AV)} {g k : Nat} {cs : List AV} (h : zad H fs ss) (h1 : H g = some (.row 4 cs)) (h2 : cs.take (fs.length * 4) = frow fs ss) (h3 : fs.length * 4 ≤ cs.length) (hg : nx ≤ g) (ho : ∀ x ∈ owns ss, nx ≤ x) (hk : k = fs.length) : Frz H nx (.slc g 0 k) (.ro (fs.map Frm.avs)) := by
  subst hk
  have key : ∀ (i : Nat) (x : List AV) (j : Nat) (v : AV), (fs.map Frm.avs)[i]? = some x → x[j]? = some v → ∃ u, cs[0 + i * 4 + j]? = some u ∧ Frz H nx u v := fun i x j v hx hv => by
    rw [List.getElem?_map] at hx
    obtain ⟨f, hf, rfl⟩ := Option.map_eq_some_iff.1 hx
    have hi := (List.getElem?_eq_some_iff.1 hf).1
    have hs : ss[i]? = some (ss[i]'(by rw [h.1]; exact hi)) := List.getElem?_eq_getElem _
    obtain ⟨a, b⟩ := h.2 i f _ hf hs
    obtain ⟨q0, q1, q2, q3⟩ := zabq hf hs
    have hm := List.mem_of_getElem? hs
    have up : ∀ (j : Nat) (u : AV), j < 4 → (frow fs ss)[i * 4 + j]? = some u → cs[0 + i * 4 + j]? = some u := fun j u hj hu => by
      rw [← h2, List.getElem?_take, if_pos (by omega)] at hu; rw [Nat.zero_add]; exact hu
    match j, hv with
    | 0, hv => cases hv; exact ⟨_, up 0 _ (by omega) q0, .same _ (.int _ _)⟩
    | 1, hv => cases hv; exact ⟨_, up 1 _ (by omega) q1, .same _ (.int _ _)⟩
    | 2, hv => cases hv; exact ⟨_, up 2 _ (by omega) q2, a.frzV fun x hx => ho x (List.mem_flatMap.2 ⟨_, hm, List.mem_append_left _ hx⟩)⟩
    | 3, hv => cases hv; exact ⟨_, up 3 _ (by omega) q3, b.frzV fun x hx => ho x (List.mem_flatMap.2 ⟨_, hm, List.mem_append_right _ hx⟩)⟩
    | j + 4, hv => simp [Frm.avs] at hv
  refine .slc g 0 _ 4 cs _ hg h1 (by omega) (by simp) (fun x hx => ?_) (fun i j => (cs[0 + i * 4 + j]?).getD .junk) (fun i x j v hx hv => ?_) (fun i x j v hx hv => ?_)
  · obtain ⟨f, _, rfl⟩ := List.mem_map.1 hx; rfl
  · obtain ⟨u, q1, q2⟩ := key i x j v hx hv; rw [q1]; rfl
  · obtain ⟨u, q1, q2⟩ := key i x j v hx hv; rw [q1]; exact q2
theorem zxh (l : List Cod) {A : Nat → Prop} : Bel A (.ro (l.map Cod.avs)) := .ro _ fun i x j v hx hv => by
  rw [List.getElem?_map] at hx
  obtain ⟨c, _, rfl⟩ := Option.map_eq_some_iff.1 hx
  match j, hv with
  | 0, hv => cases hv; exact .int _ _
  | 1, hv => cases hv; exact .int _ _
  | 2, hv => cases hv; exact zgn (zwn _)
  | j + 3, hv => simp [Cod.avs] at hv
theorem zxg (l : List Str) {A : Nat → Prop} : Bel A (.ro (l.map fun w => [.str w])) := zgn (zlq l)
theorem zlw {H : Heap} {nx : Nat} {id trip : Int} {p : Prg} {fs : List Frm} {h : List Cl} {m : Pmt} {fa ha : AV} (h1 : Frz H nx fa (.ro (fs.map Frm.avs))) (h2 : Frz H nx ha (.ro (h.map Cl.avs))) : Frz H nx (.agg (zaq id trip p fa ha m)) (.agg (Agt.avs ⟨id, trip, p, fs, h, m⟩)) := by
  refine .agg _ _ rfl fun j v u hv hu => ?_
  match j with
  | 0 => cases hv; cases hu; exact .same _ (.int _ _)
  | 1 => cases hv; cases hu; exact .same _ (.int _ _)
  | 2 => cases hv; cases hu; exact .same _ (zxh _)
  | 3 => cases hv; cases hu; exact .same _ (zxg _)
  | 4 => cases hv; cases hu; exact h1
  | 5 => cases hv; cases hu; exact h2
  | 6 => cases hv; cases hu; exact .same _ (.int _ _)
  | 7 => cases hv; cases hu; exact .same _ (.int _ _)
  | 8 => cases hv; cases hu; exact .same _ (.int _ _)
  | j + 9 => simp [zaq] at hv
theorem Live.codes {a : Agt} {fs : List Frm} {f : Frm} (l : VM.Live a fs f) : a.prog.codes.length ≤ 5 ∧ a.prog.words.length ≤ 16 ∧ ∀ c ∈ a.prog.codes, c.ins.length ≤ 200 ∧ 0 ≤ c.vars ∧ c.vars ≤ 8 ∧ (∀ x ∈ (VM.heights c.ins).1, -1 ≤ x ∧ x ≤ 16) := by
  obtain ⟨h1, h2, h3⟩ := zag l.prog
  refine ⟨h2, h3, fun c hc => ?_⟩
  obtain ⟨q1, q2, q3⟩ := h1 c hc
  unfold VM.codeRange at q1
  rw [decide_eq_false_iff_not] at q1
  exact ⟨by omega, by omega, by omega, (zff q2 q3).2⟩
theorem zwu {xs : List (List AV)} {sz : Nat} (hsz : ∀ x ∈ xs, x.length = sz) {i j : Nat} {x : List AV} {v : AV} (hx : xs[i]? = some x) (hv : x[j]? = some v) : xs.flatten[i * sz + j]? = some v := by
  have hxl : x.length = sz := hsz x (List.mem_of_getElem? hx)
  have hj : j < sz := by have := (List.getElem?_eq_some_iff.1 hv).1; omega
  have e2 := congrArg (·[j]?) (zfy hsz hx)
  simp only [List.getElem?_take, List.getElem?_drop, hj, if_true] at e2
  rw [e2, hv]
end Go.Proofs.YtdmibdjokofclaaGreatDoor
set_option maxRecDepth 8000
namespace Go.Proofs.YtdmibdjokofclaaGreatDoor
open Go Go.RowKit
theorem Live.stk {a : Agt} {fs : List Frm} {f : Frm} (l : VM.Live a fs f) : ∀ g ∈ a.frames, g.vars.length ≤ 8 ∧ g.stack.length ≤ 16 := by
  obtain ⟨_, _, h3⟩ := Live.codes l
  intro g hg
  rw [l.fr] at hg
  have ok := l.ok g hg
  obtain ⟨q1, q2, q3, q4⟩ := h3 _ (VM.code_mem ok.code)
  have hv := ok.vars
  refine ⟨by omega, ?_⟩
  rcases List.mem_append.1 hg with hg | hg
  · have := zvz l g hg; omega
  · simp at hg; subst hg
    have hst := l.still
    unfold VM.Still VM.hts at hst
    have := q4 _ (List.mem_of_getElem? hst)
    omega
theorem Live.sized {a : Agt} {fs : List Frm} {f : Frm} (l : VM.Live a fs f) : zom a := by
  obtain ⟨h1, h2, h3⟩ := Live.codes l
  have hf : a.frames.length ≤ 12 := by rw [l.fr]; simp; have := l.flen; omega
  have hh : a.heap.length ≤ 60 := by have := l.hlen; have := l.room; omega
  exact ⟨by omega, fun c hc => by have := (h3 c hc).1; omega, by omega, by omega, by omega, fun g hg => by have := Live.stk l g hg; omega⟩
theorem RL.of_owned {H0 H : Heap} {lo n gs : Nat} {id trip : Int} {p : Prg} {s : Spt} {fs : List Frm} {f : Frm} {ss : List (AV × AV)} {fa : AV} {h : List Cl} {ha : AV} {m : Pmt} {e : Evt} (ow : zjw H lo n (fs ++ [f]) ss fa h ha) (hn : lo ≤ n) (h2 : gs < lo) (hs : H gs = some (.row 4 s.avs)) (hk : Keep lo H H0) :
    ∃ gf ss' va sa, fa = .slc gf 0 (fs.length + 1) ∧ RL H0 (H.put n (some (.row 13 (zc id trip p (.slc gf 0 (fs.length + 1)) ha m gs e)))) lo (n + 1) n gs gf id trip p s fs ss' f va sa h ha m e := by
  obtain ⟨f1, f2, f3, f4, f5⟩ := ow
  have hl : ss.length = fs.length + 1 := by rw [f1.1]; simp
  obtain ⟨ss', t, rfl⟩ : ∃ ss' t, ss = ss' ++ [t] := by
    rcases List.eq_nil_or_concat ss with rfl | ⟨ss', t, h⟩
    · simp at hl
    · exact ⟨ss', t, by simpa using h⟩
  rcases f2 with ⟨h0, _⟩ | ⟨gf, cs, rfl, c1, c2, c3⟩
  · simp at h0
  have nb : ∀ g ∈ own (AV.slc gf 0 (fs ++ [f]).length) ++ (own ha ++ owns (ss' ++ [t])), g ≠ n ∧ lo ≤ g ∧ g < n := fun g hg => by have := f5 g hg; omega
  have put : ∀ g, g < n → (H.put n (some (.row 13 (zc id trip p (.slc gf 0 (fs.length + 1)) ha m gs e)))) g = H g := fun g hg => Heap.put_ne _ _ (by omega)
  obtain ⟨l1, l2, l3⟩ := f1.last
  have ef : (fs ++ [f]).length = fs.length + 1 := by simp
  rw [ef] at c2 c3 nb f4 f5
  rw [zbv l1.1] at c2
  have bh : ∀ g ∈ own ha, lo ≤ g ∧ g < n := fun g hg => f5 g (by simp [hg])
  have bs : ∀ g ∈ owns (ss' ++ [t]), lo ≤ g ∧ g < n := fun g hg => f5 g (by rw [List.mem_append, List.mem_append]; exact .inr (.inr hg))
  have bf : lo ≤ gf ∧ gf < n := f5 gf (by simp [own])
  have es := zbu ss' t
  refine ⟨gf, ss', t.1, t.2, by rw [ef], Heap.put_at _ _ _, ⟨cs, by rw [put gf bf.2]; exact c1, c2, c3⟩, l1.keep fun g hg => put g (bs g (by rw [es]; simp [hg])).2, l2.keep fun g hg => put g (bs g (by rw [es]; simp [hg])).2, l3.keep fun g hg => put g (bs g (by rw [es]; simp [hg])).2, f3.keep fun g hg => put g (bh g hg).2, by rw [put gs (by omega)]; exact hs, ?_, by omega, ?_, ?_, by omega⟩
  · rw [es] at f4
    have e0 : own (AV.slc gf 0 (fs.length + 1)) = [gf] := rfl
    rw [e0, List.singleton_append] at f4
    refine List.nodup_cons.2 ⟨?_, List.nodup_cons.2 ⟨?_, f4⟩⟩
    · intro hm
      rcases List.mem_cons.1 hm with h | h
      · omega
      · have := f5 n (by rw [es, e0]; exact h); omega
    · intro hm
      have := f5 gs (by rw [es, e0]; exact hm); omega
  · intro g hg
    rcases List.mem_cons.1 hg with h | hg
    · omega
    have := f5 g (by rw [es]; exact hg)
    omega
  · intro g hg
    rw [put g (by omega)]; exact hk g hg
def zakg (H0 H : Heap) (lo n gr : Nat) (r : Agt × Evt) : Prop := r.2.kind ≠ 0 ∧ gr < n ∧ Fin H0 H lo gr r.1.id r.1.trip r.1.prog r.1.frames r.1.heap r.1.permit r.2
end Go.Proofs.YtdmibdjokofclaaGreatDoor
set_option maxRecDepth 8000
namespace Go.Proofs.YtdmibdjokofclaaGreatDoor
open Go Go.RowKit
theorem Fin.frz {H0 H : Heap} {lo nx gr : Nat} {id trip : Int} {p : Prg} {frames : List Frm} {h : List Cl} {m : Pmt} {e : Evt} (fi : Fin H0 H lo gr id trip p frames h m e) (hnx : nx ≤ lo) :
    ∃ gs fa ha, H gr = some (.row 13 (zc id trip p fa ha m gs e)) ∧ Keep lo H H0 ∧ fa.one = true ∧ fa.sure = true ∧ ha.one = true ∧ ha.sure = true ∧ fa.cells = [fa] ∧ ha.cells = [ha] ∧ ∀ H2 : Heap, (∀ g, lo ≤ g → H2 g = H g) → Frz H2 nx (.agg (zaq id trip p fa ha m)) (.agg (Agt.avs ⟨id, trip, p, frames, h, m⟩)) := by
  obtain ⟨gs, gf, ss, ha, cs, h1, h2, h3, h4, h5, h6, h7, h8, h9, h10⟩ := fi
  refine ⟨gs, _, ha, h1, h10, rfl, rfl, h6.one.2.1, h6.one.2.2, rfl, h6.one.1, fun H2 hk => ?_⟩
  refine zlw (zad.frz (h5.keep fun g hg => hk g (h9 g hg)) (by rw [hk gf h7]; exact h2) h3 h4 (by omega) (fun x hx => by have := h9 x hx; omega) rfl) ((h6.keep fun g hg => hk g (h8 g hg)).frzH fun x hx => by have := h8 x hx; omega)
theorem zahs (s : Spt) (a : Agt) : VM.run s 0 a = (a, ⟨1, [], 0⟩) := rfl
theorem zaht (s : Spt) (n : Nat) (a : Agt) : VM.run s (n + 1) a = if (VM.step a s).2.kind ≠ 0 then VM.step a s else VM.run s n (VM.step a s).1 := rfl
structure zkf (H0 H : Heap) (lo nx n : Nat) (gr gs : Nat) (most x : Int) (s : Spt) (r : Agt × Evt) (k : Nat) : Prop where
  r1 : ∃ z, H (nx + 2) = some (.row 9 z) ∧ z.length = 9
  r2 : ∃ z, H (nx + 3) = some (.row 3 z) ∧ z.length = 3
  grn : lo ≤ gr ∧ gr < n
  keep : Keep lo H H0
  st : (∃ i : Nat, x = i ∧ i ≤ most.toNat ∧ k = most.toNat - i + 1 ∧ ∃ b fs f gf ss va sa ha, VM.Live b fs f ∧ RL H0 H lo n gr gs gf b.id b.trip b.prog s fs ss f va sa b.heap ha b.permit VM.ev0 ∧ VM.run s (most.toNat - i) b = r) ∨ (k = 0 ∧ zakg H0 H lo n gr r)
theorem zakk {c : Agt} {fs : List Frm} {f : Frm} (l : VM.Live c fs f) (hf : c.permit.fuel ≠ 0) (s : Spt) : VM.step c s = VM.opDo { c with permit := { c.permit with fuel := c.permit.fuel - 1 } } s fs { f with at_ := f.at_ + 1 } (VM.insAt c.prog f) := by
  have e1 : c.frames.getLast? = some f := by rw [l.fr]; simp
  have e2 : c.frames.dropLast = fs := by rw [l.fr]; simp
  unfold VM.step
  rw [if_neg hf, e1, e2]
set_option maxRecDepth 20000 in
set_option maxHeartbeats 1000000 in
theorem zahv {s : Spt} {most : Int} {r : Agt × Evt} {nx gr : Nat} {H0 H : Heap} {n : Nat} {Q : AV → Heap → Nat → Prop} (hname : s.name.length ≤ maxLen) (hfacts : s.facts.length ≤ 4611686018427387903) (hw : ∀ x ∈ s.facts, VM.WrongOk x.val (0 : Int)) (hm : most ≤ 9223372036854775807)
    (h0 : ∃ k, zkf H0 H (nx + 4) nx n gr (nx + 1) most 0 s r k)
    (hq : ∀ H' n' fa ha, r.2.kind ≠ 0 → Keep nx H' H0 → Frz H' nx (.agg (zaq r.1.id r.1.trip r.1.prog fa ha r.1.permit)) (.agg r.1.avs) → Q (.tup [.agg (zaq r.1.id r.1.trip r.1.prog fa ha r.1.permit), .agg r.2.avs]) H' n') :
    LP (zds Q) [.int .i64 most, .ptr (nx + 2) 0, .ptr (nx + 3) 0, .ptr gr 0, .int .i64 0] H n := by
  obtain ⟨k0, h0⟩ := h0
  refine LP.mk (fun k xs H' n' => ∃ x : Int, xs = [.int .i64 most, .ptr (nx + 2) 0, .ptr (nx + 3) 0, .ptr gr 0, .int .i64 x] ∧ zkf H0 H' (nx + 4) nx n' gr (nx + 1) most x s r k) k0 ⟨0, rfl, h0⟩ ?_
  rintro k xs H' n' ⟨x, rfl, b⟩
  suffices key : ∀ K : J3, (∀ (x : Int) H' n' k', k' < k → zkf H0 H' (nx + 4) nx n' gr (nx + 1) most x s r k' → K [.int .i64 most, .ptr (nx + 2) 0, .ptr (nx + 3) 0, .ptr gr 0, .int .i64 x] H' n') → zds Q K [.int .i64 most, .ptr (nx + 2) 0, .ptr (nx + 3) 0, .ptr gr 0, .int .i64 x] H' n' from
    key _ fun x H' n' k' hk hb => ⟨k', hk, x, rfl, hb⟩
  intro K hK
  obtain ⟨⟨z1, z2, z3⟩, ⟨y1, y2, y3⟩, ⟨g1, g2⟩, hkeep, st⟩ := b
  rcases st with ⟨i, rfl, hi, rfl, c, fs, f, gf, ss, va, sa, ha, l, st, hr⟩ | ⟨rfl, hk0, g3, fi⟩
  · have hrun := st.run
    have e0 : VM.ev0.kind = 0 := rfl
    have go : ∀ H1 n1 x k', n' ≤ n1 → Keep (nx + 4) H1 H0 → ((∃ i : Nat, x = (i : Int) ∧ i ≤ most.toNat ∧ k' = most.toNat - i + 1 ∧ ∃ b fs f gf ss va sa ha, VM.Live b fs f ∧ RL H0 H1 (nx + 4) n1 gr (nx + 1) gf b.id b.trip b.prog s fs ss f va sa b.heap ha b.permit VM.ev0 ∧ VM.run s (most.toNat - i) b = r) ∨ (k' = 0 ∧ zakg H0 H1 (nx + 4) n1 gr r)) → zkf H0 H1 (nx + 4) nx n1 gr (nx + 1) most x s r k' := fun H1 n1 x k' hn hk hs =>
      ⟨⟨z1, by rw [hk _ (by omega), ← hkeep _ (by omega)]; exact z2, z3⟩, ⟨y1, by rw [hk _ (by omega), ← hkeep _ (by omega)]; exact y2, y3⟩, ⟨g1, by omega⟩, hk, hs⟩
    by_cases hge : most ≤ i
    · have : most.toNat - i = 0 := by omega
      rw [this, zahs] at hr
      simp [zds, hrun, zc, e0, hge]
      have st1 := st.setrun c.permit ⟨1, [], 0⟩
      refine hK _ _ _ 0 (by omega) (go _ _ _ _ (Nat.le_refl _) st1.keep (.inr ⟨rfl, ?_⟩))
      rw [← hr]
      refine ⟨by simp, g2, ?_⟩
      have := st1.fin
      rw [← l.fr] at this
      exact this
    · obtain ⟨j, hj⟩ : ∃ j, most.toNat - i = j + 1 := ⟨most.toNat - i - 1, by omega⟩
      have hadd : IntKind.i64.wrap ((i : Int) + 1) = ((i + 1 : Nat) : Int) := by rw [i64w (by omega)]; rfl
      rw [hj, zaht] at hr
      by_cases hfu : c.permit.fuel = 0
      · simp [zds, hrun, zc, e0, hge, hfu]
        refine zhg st 12 fun H1 st1 => ?_
        have hs : VM.step c s = (c, VM.dead 12) := by unfold VM.step; rw [if_pos hfu]
        rw [hs, if_pos (by simp [VM.dead])] at hr
        simp [zwe, hadd]
        refine hK _ _ _ 0 (by omega) (go _ _ _ _ (Nat.le_refl _) st1.keep (.inr ⟨rfl, ?_⟩))
        rw [← hr]
        refine ⟨by simp [VM.dead], g2, ?_⟩
        have := st1.fin
        rw [← l.fr] at this
        exact this
      · simp [zds, hrun, zc, e0, hge, hfu]
        refine zakl l hfu st hname hfacts fun H1 n1 hn1 sp => ?_
        rw [← zakk l hfu s] at sp
        simp [zwd]
        rw [hadd]
        rcases sp with ⟨hev, gf', fs', ss', f', va', sa', ha', hfr, st1⟩ | ⟨hev, fi⟩
        · have hk : (VM.step c s).2.kind = 0 := by rw [hev]; rfl
          rw [if_neg (by rw [hk]; simp)] at hr
          obtain ⟨gs, g, l'⟩ := VM.step_live l hw hk
          have := l'.fr
          rw [hfr] at this
          obtain ⟨rfl, e⟩ := List.append_inj' this rfl
          simp at e
          subst e
          refine hK _ _ _ (most.toNat - (i + 1) + 1) (by omega) (go _ _ _ _ hn1 st1.keep (.inl ⟨i + 1, rfl, by omega, rfl, _, _, _, _, _, _, _, _, l', st1, ?_⟩))
          rw [show most.toNat - (i + 1) = j by omega]
          exact hr
        · rw [if_pos hev] at hr
          obtain ⟨_, _, _, _, _, _, _, _, _, _, _, _, _, _, kp⟩ := id fi
          refine hK _ _ _ 0 (by omega) (go _ _ _ _ hn1 kp (.inr ⟨rfl, ?_⟩))
          rw [← hr]
          exact ⟨hev, by omega, fi⟩
  · obtain ⟨gs, fa, ha, hrun, _, o1, o2, o3, o4, o5, o6, hz⟩ := fi.frz (nx := nx) (by omega)
    simp [zds, hrun, zc, hk0, z2, y2, z3, y3, o1, o2, o3, o4, o5, o6]
    refine ⟨by omega, hq _ _ fa ha hk0 (fun g hg => ?_) (hz _ fun g hg => ?_)⟩
    · rw [Heap.put_ne _ _ (by omega), Heap.put_ne _ _ (by omega)]; exact hkeep g (by omega)
    · rw [Heap.put_ne _ _ (by omega), Heap.put_ne _ _ (by omega)]
theorem zaac (e : Evt) {A : Nat → Prop} : Bel A (.agg e.avs) := by
  refine .agg _ fun i x hv => ?_
  match i with
  | 0 => cases hv; exact .int _ _
  | 1 => cases hv; exact .str _
  | 2 => cases hv; exact .int _ _
  | i + 3 => simp [Evt.avs] at hv
set_option maxRecDepth 20000 in
theorem zalu {a : Agt} {fs : List Frm} {f : Frm} {s : Spt} {most : Int} (l : VM.Live a fs f) (hname : s.name.length ≤ maxLen) (hfacts : s.facts.length ≤ 4611686018427387903) (hw : ∀ x ∈ s.facts, VM.WrongOk x.val (0 : Int)) (hm : most ≤ 9223372036854775807) :
    QC Tryz.prog 19 [.agg a.avs, .agg s.avs, .int .i64 most] (.tup [.agg (VM.run s most.toNat a).1.avs, .agg (VM.run s most.toNat a).2.avs]) := by
  refine QC.of' fun H nx => ?_
  refine zym _ _ _ H nx _ ?_
  have av : (AV.agg a.avs).cells = a.avs := by simp
  have al : a.avs.length = 9 := rfl
  have sv : (AV.agg s.avs).cells = s.avs := by simp
  have sl : s.avs.length = 4 := rfl
  have hsu : (AV.agg a.avs).sure = true := by simp [Agt.avs]
  have hss : (AV.agg s.avs).sure = true := by simp [Spt.avs]
  unfold zwb
  rw [av, al, sv, sl]
  refine ⟨hsu, hss, ?_⟩
  have at9 : a.avs.take 9 = a.avs := by rw [← al, List.take_length]
  simp [al, at9]
  refine zuh (Live.sized l) fun H1 n1 ss fa ha hn1 k1 ow => ?_
  generalize hHH : Heap.put _ (nx + 3) _ = HH at *
  have q1 : HH (nx + 1) = some (.row 4 s.avs) := by rw [← hHH, Heap.put_ne _ _ (by omega), Heap.put_ne _ _ (by omega), Heap.put_at]
  have q2 : ∃ z, HH (nx + 2) = some (.row 9 z) ∧ z.length = 9 := ⟨_, by rw [← hHH, Heap.put_ne _ _ (by omega), Heap.put_at], rfl⟩
  have q3 : ∃ z, HH (nx + 3) = some (.row 3 z) ∧ z.length = 3 := ⟨_, by rw [← hHH, Heap.put_at], rfl⟩
  have q4 : Keep nx HH H := fun g hg => by rw [← hHH, Heap.put_ne _ _ (by omega), Heap.put_ne _ _ (by omega), Heap.put_ne _ _ (by omega), Heap.put_ne _ _ (by omega)]
  rw [l.fr] at ow
  have hs1 : H1 (nx + 1) = some (.row 4 s.avs) := (k1 _ (by omega)).trans q1
  obtain ⟨gf, ss', va, sa, rfl, st⟩ := RL.of_owned (e := VM.ev0) (id := a.id) (trip := a.trip) (p := a.prog) (m := a.permit) ow hn1 (by omega) hs1 k1
  have h1 := ow.hp.one
  simp [zwc, zaq, h1.1, h1.2.1, h1.2.2]
  refine zahv (r := VM.run s most.toNat a) (H0 := HH) hname hfacts hw hm ⟨most.toNat - 0 + 1, ?_⟩ fun H' n' fa' ha' hk0 kp fz => ⟨Frz.tup2 fz (.same _ (zaac _)), fun g hg => (kp g hg).trans (q4 g hg)⟩
  have up : ∀ g, g < nx + 4 → ∀ o, (H1.put n1 o) g = HH g := fun g hg o => by rw [Heap.put_ne _ _ (by omega)]; exact k1 g hg
  refine ⟨?_, ?_, ⟨hn1, by omega⟩, st.keep, .inl ⟨0, rfl, by omega, rfl, a, fs, f, gf, ss', va, sa, ha, l, st, rfl⟩⟩
  · obtain ⟨z, z1, z2⟩ := q2
    exact ⟨z, by rw [up _ (by omega)]; exact z1, z2⟩
  · obtain ⟨z, z1, z2⟩ := q3
    exact ⟨z, by rw [up _ (by omega)]; exact z1, z2⟩
end Go.Proofs.YtdmibdjokofclaaGreatDoor
set_option maxRecDepth 8000
namespace Go.Proofs.YtdmibdjokofclaaGreatDoor
open Go Go.RowKit
structure zamm (H : Heap) (lo n gf : Nat) (cs : List AV) (fs : List Frm) (ss : List (AV × AV)) (f : Frm) (va sa : AV) : Prop where
  row : H gf = some (.row 4 cs)
  cs' : cs.take ((fs.length + 1) * 4) = frow fs ss ++ [.int .i64 f.fn, .int .i64 f.at_, va, sa]
  len : (fs.length + 1) * 4 ≤ cs.length
  frs : zad H fs ss
  sv : Slot H 3 f.vars.length (rowV f.vars) va
  st : Slot H 3 f.stack.length (rowV f.stack) sa
  bd : ∀ g, (g = gf ∨ g ∈ owns ss ∨ g ∈ own va ∨ g ∈ own sa) → lo ≤ g ∧ g < n
  ns : gf ∉ own sa ∧ gf ∉ own va ∧ gf ∉ owns ss ∧ (∀ g ∈ own sa, g ∉ own va ∧ g ∉ owns ss) ∧ ∀ g ∈ own va, g ∉ owns ss
theorem zjw.last {H : Heap} {lo n : Nat} {fs : List Frm} {f : Frm} {ss : List (AV × AV)} {fa ha : AV} {h : List Cl} (ow : zjw H lo n (fs ++ [f]) ss fa h ha) :
    ∃ gf cs ss' va sa, fa = .slc gf 0 (fs.length + 1) ∧ ss = ss' ++ [(va, sa)] ∧ zamm H lo n gf cs fs ss' f va sa ∧ ∀ g ∈ own ha, g ≠ gf ∧ g ∉ own va ∧ g ∉ own sa ∧ g ∉ owns ss' := by
  obtain ⟨f1, f2, f3, f4, f5⟩ := ow
  have hl : ss.length = fs.length + 1 := by rw [f1.1]; simp
  obtain ⟨ss', t, rfl⟩ : ∃ ss' t, ss = ss' ++ [t] := by
    rcases List.eq_nil_or_concat ss with rfl | ⟨ss', t, h⟩
    · simp at hl
    · exact ⟨ss', t, by simpa using h⟩
  rcases f2 with ⟨h0, _⟩ | ⟨gf, cs, rfl, c1, c2, c3⟩
  · simp at h0
  obtain ⟨l1, l2, l3⟩ := f1.last
  have ef : (fs ++ [f]).length = fs.length + 1 := by simp
  rw [ef] at c2 c3 f4 f5
  rw [zbv l1.1] at c2
  have es := zbu ss' t
  have e0 : own (AV.slc gf 0 (fs.length + 1)) = [gf] := rfl
  rw [es, e0, List.singleton_append, List.nodup_cons] at f4
  simp only [List.mem_append, not_or, List.nodup_append] at f4
  obtain ⟨⟨a1, a2, a3, a4⟩, n1, ⟨n2, ⟨n3, n4, n5⟩, n6⟩, n7⟩ := f4
  rw [es, e0] at f5
  refine ⟨gf, cs, ss', t.1, t.2, by rw [ef], rfl, ⟨c1, c2, c3, l1, l2, l3, fun g hg => f5 g ?_, ⟨a4, a3, a2, fun g hg => ⟨fun h => n5 g h g hg rfl, fun h => n6 g h g (.inr hg) rfl⟩, fun g hg h => n6 g h g (.inl hg) rfl⟩⟩, fun g hg => ⟨fun e => a1 (e ▸ hg), fun h => n7 g hg g (.inr (.inl h)) rfl, fun h => n7 g hg g (.inr (.inr h)) rfl, fun h => n7 g hg g (.inl h) rfl⟩⟩
  simp only [List.mem_append, List.mem_singleton]
  rcases hg with h | h | h | h
  · exact .inl h
  · exact .inr (.inr (.inl h))
  · exact .inr (.inr (.inr (.inl h)))
  · exact .inr (.inr (.inr (.inr h)))
theorem zagq {a : Agt} {fs : List Frm} {f : Frm} {k : Int} (hfr : a.frames = fs ++ [f]) : VM.answer a k = ⟨a.id, a.trip, a.prog, fs ++ [{ f with stack := f.stack ++ [⟨0, k, []⟩] }], a.heap, a.permit⟩ := by
  have e1 : a.frames.getLast? = some f := by rw [hfr]; simp
  have e2 : a.frames.dropLast = fs := by rw [hfr]; simp
  unfold VM.answer
  rw [e1, e2]; rfl
set_option maxRecDepth 20000 in
set_option maxHeartbeats 1000000 in
theorem zxl {a : Agt} {fs : List Frm} {f : Frm} {k : Int} (sz : zom a) (hfr : a.frames = fs ++ [f]) (hf : fs.length ≤ 4096) (hst : f.stack.length ≤ 4096) :
    QC Tryz.prog 20 [.agg a.avs, .int .i64 k] (.agg (VM.answer a k).avs) := by
  refine QC.of' fun H nx => ?_
  refine zuc _ _ H nx _ ?_
  have av : (AV.agg a.avs).cells = a.avs := by simp
  have al : a.avs.length = 9 := rfl
  have hsu : (AV.agg a.avs).sure = true := by simp [Agt.avs]
  have at9 : a.avs.take 9 = a.avs := by rw [← al, List.take_length]
  unfold zqb
  rw [av, al]
  refine ⟨hsu, ?_⟩
  simp [al, at9]
  refine zuh sz fun H1 n1 ss fa ha hn1 k1 ow => ?_
  generalize hHH : Heap.put _ (nx + 1) _ = HH at *
  have q2 : ∃ z, HH (nx + 1) = some (.row 9 z) ∧ z.length = 9 := ⟨_, by rw [← hHH, Heap.put_at], rfl⟩
  have q4 : Keep nx HH H := fun g hg => by rw [← hHH, Heap.put_ne _ _ (by omega), Heap.put_ne _ _ (by omega)]
  have h1 := ow.hp.one
  rw [hfr] at ow
  obtain ⟨gf, cs, ss', va, sa, rfl, rfl, lf, lh⟩ := ow.last
  have c1 := lf.row
  obtain ⟨b0, b1, b2, b3⟩ := zabr lf.cs' (zak lf.frs.1) lf.len
  have hw : IntKind.i64.wrap (fs.length : Int) = fs.length := i64w (by omega)
  have gn : gf ≠ n1 := by have := lf.bd gf (.inl rfl); omega
  have gn1 : gf ≠ n1 + 1 := by have := lf.bd gf (.inl rfl); omega
  have len := lf.len
  simp [zqc, zaq, h1.1, h1.2.1, h1.2.2, hw, c1, gn, gn1, b3]
  refine ⟨by omega, ?_⟩
  have bd := lf.bd
  generalize hrow : [AV.int .i64 a.id, AV.int .i64 a.trip, AV.ro (a.prog.codes.map Cod.avs), AV.ro (a.prog.words.map fun w => [AV.str w]), AV.slc gf 0 (fs.length + 1), ha, AV.int .i64 a.permit.fuel, AV.int .i64 a.permit.room, AV.int .i64 a.permit.hops] = row
  have lrow : row.length = 9 := by rw [← hrow]; rfl
  have orow : ∀ x ∈ row, x.one = true := by rw [← hrow]; intro x hx; simp at hx; rcases hx with rfl | rfl | rfl | rfl | rfl | rfl | rfl | rfl | rfl <;> first | rfl | exact h1.2.1
  have trow : row.take 9 = row := by rw [← lrow, List.take_length]
  refine Slot.app (new := [.int .i64 0, .int .i64 k, .str []]) (lf.st.keep fun g hg => ?_) (by simp) (Heap.put_at _ _ _) rfl rfl (by omega) fun H3 q1 q3 => ?_
  · have := bd g (.inr (.inr (.inr hg)))
    rw [Heap.put_ne _ _ (by omega), Heap.put_ne _ _ (by omega)]
  have old : ∀ g, g ≤ n1 → g ∉ own sa → H3 g = (H1.put n1 (some (.row 9 row))) g := fun g h1 h2 => by rw [q3 g h2 (by omega), Heap.put_ne _ _ (by omega)]
  have o1 : H3 gf = some (.row 4 cs) := by rw [old gf (by have := bd gf (.inl rfl); omega) lf.ns.1, Heap.put_ne _ _ gn]; exact c1
  have o2 : H3 n1 = some (.row 9 row) := by rw [old n1 (Nat.le_refl _) (fun h => by have := bd _ (.inr (.inr (.inr h))); omega), Heap.put_at]
  obtain ⟨z, z1, z2⟩ := q2
  have o3 : H3 (nx + 1) = some (.row 9 z) := by rw [old (nx + 1) (by omega) (fun h => by have := bd _ (.inr (.inr (.inr h))); omega), Heap.put_ne _ _ (by omega), k1 _ (by omega)]; exact z1
  obtain ⟨d1, d2⟩ := zic (u := AV.slc (n1 + 2) 0 (f.stack.length + 1)) lf.cs' (zak lf.frs.1) lf.len (j := 3) (by omega)
  have n1g : n1 ≠ gf := gn.symm
  have nxg : nx + 1 ≠ gf := by have := bd gf (.inl rfl); omega
  simp [o1, o2, o3, n1g, nxg, lrow, trow, z2]
  simp at d1 d2
  have up : ∀ g, g < n1 → g ≠ gf → g ≠ nx + 1 → g ∉ own sa → ∀ o o', ((H3.put gf o).put (nx + 1) o') g = H1 g := fun g h1 h2 h3 h4 o o' => by
    rw [Heap.put_ne _ _ h3, Heap.put_ne _ _ h2, old g (by omega) h4, Heap.put_ne _ _ (by omega)]
  refine ⟨by omega, orow, ?_, fun g hg => ?_⟩
  · rw [← hrow, zagq hfr]
    have bh : ∀ g ∈ own ha, nx + 2 ≤ g ∧ g < n1 := fun g hg => ow.bd g (by simp [hg])
    refine zlw (zad.frz (ss := ss' ++ [(va, AV.slc (n1 + 2) 0 (f.stack.length + 1))]) ((lf.frs.keep fun g hg => ?_).snoc (lf.sv.keep fun g hg => ?_) (.inr ⟨n1 + 2, _, by simp, ?_, List.take_of_length_le (by simp), by simp⟩)) (by rw [Heap.put_ne _ _ nxg.symm, Heap.put_at]) ?_ ?_ ?_ ?_ (by simp)) ?_
    · have := bd g (.inr (.inl hg))
      exact up g (by omega) (fun e => lf.ns.2.2.1 (e ▸ hg)) (by omega) (fun h => (lf.ns.2.2.2.1 g h).2 hg) _ _
    · have := bd g (.inr (.inr (.inl hg)))
      exact up g (by omega) (fun e => lf.ns.2.1 (e ▸ hg)) (by omega) (fun h => (lf.ns.2.2.2.1 g h).1 hg) _ _
    · rw [Heap.put_ne _ _ (by omega), Heap.put_ne _ _ (by have := bd gf (.inl rfl); omega), q1, zls]; rfl
    · rw [zbv lf.frs.1]; simpa using d1
    · simpa using d2
    · have := bd gf (.inl rfl); omega
    · intro x hx
      rw [zbu] at hx
      simp [own] at hx
      rcases hx with h | h | h
      · have := bd x (.inr (.inl h)); omega
      · have := bd x (.inr (.inr (.inl h))); omega
      · omega
    · refine Slot.frzH (ow.hp.keep fun g hg => ?_) fun g hg => ?_
      · have := bh g hg
        exact up g (by omega) (lh g hg).1 (by omega) (lh g hg).2.2.1 _ _
      · have := bh g hg; omega
  · have := bd gf (.inl rfl)
    rw [Heap.put_ne _ _ (by omega), old g (by omega) (fun h => by have := bd _ (.inr (.inr (.inr h))); omega), Heap.put_ne _ _ (by omega), k1 g (by omega)]
    exact q4 g hg
end Go.Proofs.YtdmibdjokofclaaGreatDoor
set_option maxRecDepth 8000
namespace Go.Proofs.YtdmibdjokofclaaGreatDoor
open Go Go.RowKit
def zhp (H : Heap) (G : Nat → Prop) (xs ys : List AV) : Prop := ys.length = xs.length ∧ ∀ (j : Nat) (v u : AV), xs[j]? = some v → ys[j]? = some u → FrzP H G v u
theorem zhp.nil {H : Heap} {G : Nat → Prop} : zhp H G [] [] := ⟨rfl, fun j v u h => by simp at h⟩
theorem zhp.cons {H : Heap} {G : Nat → Prop} {v u : AV} {xs ys : List AV} (h : FrzP H G v u) (k : zhp H G xs ys) : zhp H G (v :: xs) (u :: ys) := by
  refine ⟨by simp [k.1], fun j a b ha hb => ?_⟩
  cases j with
  | zero => simp at ha hb; subst ha; subst hb; exact h
  | succ j => exact k.2 j a b (by simpa using ha) (by simpa using hb)
theorem za.thaw {P : Program} {f : FuncId} {args args' : List AV} {H H0 : Heap} {nx : Nat} {G : Nat → Prop} {Q : AV → Heap → Nat → Prop} (h : za P f args H0 nx Q) (hf : zhp H G args' args) (h0 : ∀ g o, H0 g = some o → ¬ G g ∧ H g = some o) : za P f args' H nx Q := by
  intro ρ w cargs s ha
  obtain ⟨s0, f0⟩ := s.drop (H' := H0) fun g o ho => (h0 g o ho).2
  refine zo (h ρ w cargs s0 ⟨ha.1.trans hf.1.symm, fun j u c hu hc => ?_⟩) fun cv w' ⟨r', H', nx', ρ', q1, q3, q4, q5⟩ => ⟨r', H', nx', ρ', q1, q3, q4, f0.trans q5⟩
  have hj : j < args'.length := by have := (List.getElem?_eq_some_iff.1 hu).1; rw [hf.1] at this; exact this
  have hv : args'[j]? = some args'[j] := List.getElem?_eq_getElem hj
  exact (hf.2 j _ u hv hu).rel s h0 c (ha.2 j _ c hv hc)
end Go.Proofs.YtdmibdjokofclaaGreatDoor
set_option maxRecDepth 8000
namespace Go.Proofs.YtdmibdjokofclaaGreatDoor
open Go Go.RowKit
theorem zjw.frz {H : Heap} {lo n nx : Nat} {fs : List Frm} {ss : List (AV × AV)} {fa ha : AV} {h : List Cl} {id trip : Int} {p : Prg} {m : Pmt} (ow : zjw H lo n fs ss fa h ha) (hl : nx ≤ lo) {H' : Heap} (hk : ∀ g, lo ≤ g → g < n → H' g = H g) : Frz H' nx (.agg (zaq id trip p fa ha m)) (.agg (Agt.avs ⟨id, trip, p, fs, h, m⟩)) := by
  have b : ∀ g ∈ own fa ++ (own ha ++ owns ss), nx ≤ g ∧ H' g = H g := fun g hg => by have := ow.bd g hg; exact ⟨by omega, hk g this.1 this.2⟩
  refine zlw ?_ ((ow.hp.keep fun g hg => (b g (by simp [hg])).2).frzH fun g hg => (b g (by simp [hg])).1)
  have fr := ow.frs.keep (H' := H') fun g hg => (b g (by simp [hg])).2
  rcases ow.row with ⟨h0, rfl | rfl⟩ | ⟨gf, cs, rfl, c1, c2, c3⟩
  · rw [List.eq_nil_of_length_eq_zero h0]; exact .nils
  · rw [List.eq_nil_of_length_eq_zero h0]; exact .zs
  · have := b gf (by simp [own])
    exact zad.frz fr (by rw [this.2]; exact c1) c2 c3 this.1 (fun x hx => (b x (by simp [hx])).1) rfl
theorem zadq {H : Heap} {G : Nat → Prop} {id trip : Int} {p : Prg} {fs : List Frm} {h : List Cl} {m : Pmt} {fa ha : AV} (h1 : FrzP H G fa (.ro (fs.map Frm.avs))) (h2 : FrzP H G ha (.ro (h.map Cl.avs))) : FrzP H G (.agg (zaq id trip p fa ha m)) (.agg (Agt.avs ⟨id, trip, p, fs, h, m⟩)) := by
  refine .agg _ _ rfl fun j v u hv hu => ?_
  match j with
  | 0 => cases hv; cases hu; exact .same _
  | 1 => cases hv; cases hu; exact .same _
  | 2 => cases hv; cases hu; exact .same _
  | 3 => cases hv; cases hu; exact .same _
  | 4 => cases hv; cases hu; exact h1
  | 5 => cases hv; cases hu; exact h2
  | 6 => cases hv; cases hu; exact .same _
  | 7 => cases hv; cases hu; exact .same _
  | 8 => cases hv; cases hu; exact .same _
  | j + 9 => simp [zaq] at hv
def Pmt.avs (m : Pmt) : List AV := [.int .i64 m.fuel, .int .i64 m.room, .int .i64 m.hops]
set_option maxRecDepth 20000 in
set_option maxHeartbeats 1000000 in
theorem zalw {id : Int} {p : Prg} {m : Pmt} (sz : zom (VM.newAgt id p m)) (hp : 0 < p.codes.length) (hv : 0 ≤ (VM.codeAt p 0).vars ∧ (VM.codeAt p 0).vars ≤ 4096) :
    QC Tryz.prog 18 [.int .i64 id, .agg p.avs, .agg m.avs] (.agg (VM.newAgt id p m).avs) := by
  refine QC.of' fun H nx => ?_
  refine zyo _ _ _ H nx _ ?_
  have pv : (AV.agg p.avs).cells = p.avs := by simp
  have pl : p.avs.length = 2 := rfl
  have mv : (AV.agg m.avs).cells = m.avs := by simp
  have ml : m.avs.length = 3 := rfl
  have hsp : (AV.agg p.avs).sure = true := by simp [Prg.avs]
  have hsm : (AV.agg m.avs).sure = true := by simp [Pmt.avs]
  unfold zwj
  rw [pv, pl, mv, ml]
  refine ⟨hsp, hsm, ?_⟩
  have hc : p.codes[0]? = some (VM.codeAt p 0) := zrt (p := p) (k := 0) hp
  obtain ⟨k, hk⟩ : ∃ k : Nat, (VM.codeAt p 0).vars = k := ⟨(VM.codeAt p 0).vars.toNat, by omega⟩
  have hc' : p.codes[0] = VM.codeAt p 0 := (List.getElem?_eq_some_iff.1 hc).2
  have na : VM.newAgt id p m = ⟨id, 0, p, [⟨0, 0, List.replicate k VM.vzero, []⟩], [], m⟩ := by unfold VM.newAgt; rw [hk]; rfl
  simp [Prg.avs, Pmt.avs, hp, hc', Cod.avs, hk]
  refine ⟨by omega, by omega, fun x hx => by rcases hx with (rfl | rfl | rfl | rfl) | rfl | rfl | rfl | rfl | rfl <;> rfl, ?_⟩
  generalize hHH : Heap.put _ (nx + 5) _ = HH
  have q2 : ∃ z, HH (nx + 2) = some (.row 9 z) ∧ z.length = 9 := ⟨_, by rw [← hHH, Heap.put_ne _ _ (by omega), Heap.put_ne _ _ (by omega), Heap.put_ne _ _ (by omega), Heap.put_at], rfl⟩
  have q3 : HH (nx + 3) = some (.row 3 (List.replicate k [AV.int .i64 0, AV.int .i64 0, AV.str []]).flatten) := by rw [← hHH, Heap.put_ne _ _ (by omega), Heap.put_ne _ _ (by omega), Heap.put_at]
  have q4 : HH (nx + 4) = some (.row 4 [AV.int .i64 0, AV.int .i64 0, .slc (nx + 3) 0 k, .nils]) := by rw [← hHH, Heap.put_ne _ _ (by omega), Heap.put_at]
  have q5 : Keep nx HH H := fun g hg => by rw [← hHH, Heap.put_ne _ _ (by omega), Heap.put_ne _ _ (by omega), Heap.put_ne _ _ (by omega), Heap.put_ne _ _ (by omega), Heap.put_ne _ _ (by omega), Heap.put_ne _ _ (by omega)]
  let G : Nat → Prop := fun g => g = nx + 3 ∨ g = nx + 4
  let H0 : Heap := fun g => if g = nx + 3 ∨ g = nx + 4 then none else HH g
  have h0 : ∀ g o, H0 g = some o → ¬ G g ∧ HH g = some o := fun g o hg => by
    by_cases h : g = nx + 3 ∨ g = nx + 4
    · simp only [H0, if_pos h] at hg; cases hg
    · simp only [H0, if_neg h] at hg; exact ⟨h, hg⟩
  have hr : (List.replicate k VM.vzero).map Val.avs = List.replicate k [AV.int .i64 0, AV.int .i64 0, AV.str []] := by rw [List.map_replicate]; rfl
  refine za.thaw (args := [.agg (VM.newAgt id p m).avs]) (H0 := H0) (G := G) ?_ (zhp.cons ?_ .nil) h0
  · refine zuh sz fun H1 n1 ss fa ha hn1 k1 ow => ?_
    obtain ⟨z, z1, z2⟩ := q2
    have e2 : H1 (nx + 2) = some (.row 9 z) := by
      rw [k1 _ (by omega)]; simp only [H0]; rw [if_neg (by omega)]; exact z1
    have h1 := ow.hp.one
    have f1 := ow.row.one
    simp [zwk, zaq, h1.1, h1.2.1, h1.2.2, f1.1, f1.2.1, f1.2.2, e2, z2]
    have put : ∀ o g, g ≠ nx + 2 → (H1.put (nx + 2) o) g = H1 g := fun o g hg => Heap.put_ne _ _ hg
    refine ⟨ow.frz (by omega) fun g h1 h2 => put _ g (by omega), fun g hg => ?_⟩
    · rw [k1 g (by omega)]
      simp only [H0]
      rw [if_neg (by omega)]
      exact q5 g hg
  · rw [na]
    refine zadq ?_ .nils
    refine FrzP.row (.inr rfl) q4 rfl (fun x hx => by simp at hx; subst hx; rfl) (fun i x j v hx hv => ?_) (by simp)
    match i, hx with
    | 0, hx =>
      simp at hx; subst hx
      match j, hv with
      | 0, hv => cases hv; exact ⟨_, rfl, .same _⟩
      | 1, hv => cases hv; exact ⟨_, rfl, .same _⟩
      | 2, hv =>
        cases hv
        refine ⟨_, rfl, ?_⟩
        rw [hr]
        refine FrzP.row (.inl rfl) q3 (by simp) (fun x hx => by rw [(List.mem_replicate.1 hx).2]; rfl) (fun i x j v hx hv => ⟨v, ?_, .same _⟩) (by simp)
        exact zwu (fun y hy => by rw [(List.mem_replicate.1 hy).2]; rfl) hx hv
      | 3, hv => cases hv; exact ⟨_, rfl, .nils⟩
      | j + 4, hv => simp [Frm.avs] at hv
    | i + 1, hx => simp at hx
end Go.Proofs.YtdmibdjokofclaaGreatDoor
set_option maxRecDepth 8000
namespace Go.Proofs.YtdmibdjokofclaaGreatDoor
open Go Go.RowKit
theorem zajk (h : List Cl) (l : List Val) (hr : VM.right h l = true) (hs : h.length * 64 ≤ 140737488355328) (hl : l.length * 32 ≤ 140737488355328) : QC Tryz.prog 42 [.ro (h.map Cl.avs), .ro (l.map Val.avs)] (.tup [.ro ((VM.canonV h l).map Val.avs), .ro ((VM.canonC h l).map Cl.avs)]) :=
  QC.of' fun H nx => zajl h l hr hs hl .ro .ro
end Go.Proofs.YtdmibdjokofclaaGreatDoor
set_option maxRecDepth 8000
namespace Go.Proofs.YtdmibdjokofclaaGreatDoor
open Go Go.RowKit
section
variable {ki : IntKind}
theorem zyq {s : Nat} {xs : List (List AV)} {a : Int} {H : Heap} {k : AV → Prop} (hs : ∀ x ∈ xs, x.length = s) (h0 : 0 ≤ a) (h1 : a ≤ xs.length) (hk : k (.ro (xs.drop a.toNat))) : SL s (.ro xs) (some (.int ki a)) none H k := by
  simp only [SL, zax, lohi, PURE, qk, Int.toNat_natCast, List.take_length]
  exact ⟨h0, h1, Int.le_refl _, hs, hk⟩
end
theorem Slot.cp {H : Heap} {sz k : Nat} {cells : List AV} {a : AV} {kh : AV → Heap → Prop} (hg : Slot H sz k cells a) {ys rest : List (List AV)} (hs : ∀ x ∈ ys ++ rest, x.length = sz) (hy : ys.length = k) (hone : ∀ x ∈ ys ++ rest, ∀ c ∈ x, c.one = true)
    (hk : ∀ H', Slot H' sz k ys.flatten a → (∀ g, g ∉ own a → H' g = H g) → kh (.int .i64 k) H') : CP sz a (.ro (ys ++ rest)) H kh := by
  have hsrc := zaev (H := H) hs
  rcases hg with ⟨rfl, rfl | rfl⟩ | ⟨g, cs, rfl, h1, h2, h3⟩
  · unfold CP COPY
    rw [hsrc]
    exact hk _ (.inl ⟨rfl, .inl rfl⟩) fun g _ => rfl
  · unfold CP COPY
    rw [hsrc]
    exact hk _ (.inl ⟨rfl, .inr rfl⟩) fun g _ => rfl
  · have hl : ys.flatten.length = k * sz := by rw [zdf fun x hx => hs x (List.mem_append_left _ hx), hy]
    refine zrs hsrc h1 (by omega) ?_ ?_
    · refine List.all_eq_true.2 fun c hc => ?_
      obtain ⟨x, hx, hcx⟩ := List.mem_flatten.1 hc
      exact hone x hx c hcx
    · have e : min (ys ++ rest).length k = k := by simp [hy]
      rw [e]
      have et : ((ys ++ rest).flatten.take (k * sz)) = ys.flatten := by rw [List.flatten_append, List.take_append_of_le_length (by omega), List.take_of_length_le (by omega)]
      rw [et]
      refine hk _ (.inr ⟨g, _, rfl, Heap.put_at _ _ _, ?_, ?_⟩) fun x hx => Heap.put_ne _ _ (by simpa [own] using hx)
      · unfold zal
        simp [hl]
      · unfold zal
        simp [hl]
theorem Slot.gather {H : Heap} {sz k bytes nx m : Nat} {cells new : List AV} {a x : AV} {rdx : List Nat} {kt : Kt} (hg : Slot H sz k cells a) (hlen : cells.length = k * sz) (hs : zi sz H x = some (m, new, rdx)) (hnl : new.length = m * sz) (hone : new.all AV.one = true)
    (hb : (k + m) * bytes ≤ 140737488355328) (hk : ∀ v rd fr D, fr.length ≤ 1 → (∀ g ∈ domD D, g ∈ own a ∨ g = nx) → Slot (H.apply D) sz (k + m) (cells ++ new) v → (∀ g ∈ own v, g = nx ∧ fr.length = 1) → (∀ g, g ∉ own a → g ≠ nx → (H.apply D) g = H g) → kt v rd fr D) : zah sz bytes a x H nx kt := by
  rcases hg with ⟨rfl, rfl | rfl⟩ | ⟨g, cs, rfl, h1, h2, h3⟩
  · have hc : cells = [] := List.eq_nil_of_length_eq_zero (by omega)
    subst hc
    rw [zmm, hs, optk]
    refine ⟨hone, fun hm => ?_, fun hm => ⟨by simpa using hb, ?_⟩⟩
    · simp only at hm; subst hm
      exact hk _ _ _ _ (by simp) (by simp) (.inl ⟨rfl, .inl rfl⟩) (by simp [own]) fun g _ _ => rfl
    · exact hk _ _ _ _ (by simp) (by simp) (.inr ⟨nx, new, by simp, by simp only [zap, zau, Heap.put_at], by rw [List.nil_append, List.take_of_length_le (by rw [Nat.zero_add]; omega)], by rw [Nat.zero_add]; omega⟩) (by simp [own]) fun g _ hx => by simp only [zap, zau]; exact Heap.put_ne _ _ hx
  · have hc : cells = [] := List.eq_nil_of_length_eq_zero (by omega)
    subst hc
    rw [zxj, hs, optk]
    refine ⟨hone, fun hm => ?_, fun hm => ⟨by simpa using hb, ?_⟩⟩
    · simp only at hm; subst hm
      exact hk _ _ _ _ (by simp) (by simp) (.inl ⟨rfl, .inr rfl⟩) (by simp [own]) fun g _ _ => rfl
    · exact hk _ _ _ _ (by simp) (by simp) (.inr ⟨nx, new, by simp, by simp only [zap, zau, Heap.put_at], by rw [List.nil_append, List.take_of_length_le (by rw [Nat.zero_add]; omega)], by rw [Nat.zero_add]; omega⟩) (by simp [own]) fun g _ hx => by simp only [zap, zau]; exact Heap.put_ne _ _ hx
  · rw [zoj, hs, optk, h1, rowk]
    refine ⟨rfl, hone, by omega, Nat.le_add_right_of_le hb, hk _ _ _ _ (by simp) (by simp [own]) (.inr ⟨nx, cells ++ new, rfl, ?_, ?_, ?_⟩) (by simp [own]) (fun x hx1 hx => ?_)⟩
    · simp only [zap, zau]; rw [Heap.put_at, List.drop_zero, h2]
    · rw [List.take_of_length_le]; rw [List.length_append, hlen, hnl, Nat.add_mul]; exact Nat.le_refl _
    · rw [List.length_append, hlen, hnl, Nat.add_mul]; exact Nat.le_refl _
    · simp only [zap, zau]; rw [Heap.put_ne _ _ hx, Heap.put_ne _ _ (by simpa [own] using hx1)]
theorem QC.thaw {P : Program} {f : FuncId} {args args' : List AV} {r : AV} (h : QC P f args r) {H H0 : Heap} {nx : Nat} {G : Nat → Prop} (hf : zhp H G args' args) (h0 : ∀ g o, H0 g = some o → ¬ G g ∧ H g = some o) {kk : AV → Heap → Nat → Prop} (hk : kk r H0 nx) : za P f args' H nx kk :=
  za.thaw ((h H0 nx).mono fun v H' n' ⟨a, b, c⟩ => by subst a; subst b; subst c; exact hk) hf h0
theorem znw : ∀ {ss : List (AV × AV)} {k i : Nat} {s t : AV × AV} {g : Nat}, (owns ss).Nodup → ss[k]? = some s → ss[i]? = some t → k ≠ i → g ∈ own s.1 ++ own s.2 → g ∈ own t.1 ++ own t.2 → False
  | [], k, i, s, t, g, _, h, _, _, _, _ => by simp at h
  | u :: ss, k, i, s, t, g, nd, h1, h2, hne, m1, m2 => by
    have e : owns (u :: ss) = (own u.1 ++ own u.2) ++ owns ss := by simp [owns]
    rw [e, List.nodup_append] at nd
    obtain ⟨_, n2, n3⟩ := nd
    have mem : ∀ {j : Nat} {v : AV × AV}, ss[j]? = some v → g ∈ own v.1 ++ own v.2 → g ∈ owns ss := fun hv hg => List.mem_flatMap.2 ⟨_, List.mem_of_getElem? hv, hg⟩
    match k, i with
    | 0, 0 => exact hne rfl
    | 0, i + 1 =>
      simp at h1 h2; subst h1
      exact n3 g m1 g (mem h2 m2) rfl
    | k + 1, 0 =>
      simp at h1 h2; subst h2
      exact n3 g m2 g (mem h1 m1) rfl
    | k + 1, i + 1 => exact znw n2 (by simpa using h1) (by simpa using h2) (by omega) m1 m2
theorem zad.set {H H' : Heap} {fs : List Frm} {ss : List (AV × AV)} {i : Nat} {f : Frm} {s : AV × AV} (h : zad H fs ss) (nd : (owns ss).Nodup) (hs : ss[i]? = some s) (hk : ∀ g, g ∉ own s.1 → g ∉ own s.2 → H' g = H g) (h1 : Slot H' 3 f.vars.length (rowV f.vars) s.1) (h2 : Slot H' 3 f.stack.length (rowV f.stack) s.2) : zad H' (fs.set i f) ss := by
  refine ⟨by simp [h.1], fun k f' s' hf hs' => ?_⟩
  by_cases e : k = i
  · subst e
    rw [hs] at hs'; cases hs'
    have hl : k < fs.length := by rw [← h.1]; exact (List.getElem?_eq_some_iff.1 hs).1
    rw [List.getElem?_set_self hl] at hf
    cases hf
    exact ⟨h1, h2⟩
  · rw [List.getElem?_set_ne (Ne.symm e)] at hf
    obtain ⟨q1, q2⟩ := h.2 k f' s' hf hs'
    have hd : ∀ g, (g ∈ own s'.1 ∨ g ∈ own s'.2) → g ∉ own s.1 ∧ g ∉ own s.2 := fun g hg => by
      exact ⟨fun hx => znw nd hs' hs e (List.mem_append.2 hg) (List.mem_append_left _ hx), fun hx => znw nd hs' hs e (List.mem_append.2 hg) (List.mem_append_right _ hx)⟩
    exact ⟨q1.keep fun g hg => hk g (hd g (.inl hg)).1 (hd g (.inl hg)).2, q2.keep fun g hg => hk g (hd g (.inr hg)).1 (hd g (.inr hg)).2⟩
end Go.Proofs.YtdmibdjokofclaaGreatDoor
set_option maxRecDepth 8000
namespace Go.Proofs.YtdmibdjokofclaaGreatDoor
open Go Go.RowKit
theorem zzh : ∀ {fs : List Frm} {ss : List (AV × AV)} {i : Nat} {f : Frm} {s : AV × AV}, ss.length = fs.length → fs[i]? = some f → ss[i]? = some s → ((frow fs ss).drop (i * 4)).take 4 = [.int .i64 f.fn, .int .i64 f.at_, s.1, s.2]
  | [], _, i, f, s, _, h, _ => by simp at h
  | _ :: _, [], i, f, s, h0, _, h => by simp at h
  | g :: fs, t :: ss, 0, f, s, h0, h1, h2 => by simp at h1 h2; subst h1; subst h2; simp [frow]
  | g :: fs, t :: ss, i + 1, f, s, h0, h1, h2 => by
    have := zzh (fs := fs) (ss := ss) (i := i) (f := f) (s := s) (by simpa using h0) (by simpa using h1) (by simpa using h2)
    rw [← this, show (i + 1) * 4 = i * 4 + 1 + 1 + 1 + 1 by omega]
    simp [frow]
theorem zafz {cs : List AV} {fs : List Frm} {ss : List (AV × AV)} {i : Nat} {f : Frm} {s : AV × AV} (h : cs.take (fs.length * 4) = frow fs ss) (hl : ss.length = fs.length) (h1 : fs[i]? = some f) (h2 : ss[i]? = some s) : (cs.drop (i * 4)).take 4 = [.int .i64 f.fn, .int .i64 f.at_, s.1, s.2] := by
  have e := zzh hl h1 h2
  have hi := (List.getElem?_eq_some_iff.1 h1).1
  rw [← h, List.drop_take, List.take_take] at e
  rw [← e]; congr 1; omega
theorem Slot.frzP {H : Heap} {G : Nat → Prop} {sz : Nat} {xs : List (List AV)} {a : AV} (hs : Slot H sz xs.length xs.flatten a) (ho : ∀ g ∈ own a, G g) (hsz : ∀ x ∈ xs, x.length = sz) : FrzP H G a (.ro xs) := by
  rcases hs with ⟨h0, rfl | rfl⟩ | ⟨g, cs, rfl, h1, h2, h3⟩
  · rw [List.eq_nil_of_length_eq_zero h0]; exact .nils
  · rw [List.eq_nil_of_length_eq_zero h0]; exact .zs
  · refine FrzP.row (ho g (by simp [own])) h1 rfl hsz (fun i x j v hx hv => ⟨v, ?_, .same _⟩) h3
    have := zwu hsz hx hv
    rw [← h2, List.getElem?_take] at this
    split at this
    · exact this
    · cases this
def zq (fs : List Frm) : List Val := fs.flatMap fun f => f.vars ++ f.stack
theorem zyw (fs : List Frm) (f : Frm) : zq (fs ++ [f]) = zq fs ++ f.vars ++ f.stack := by simp [zq]
theorem zaam {fs : List Frm} (i : Nat) : (zq (fs.take i)).length ≤ (zq fs).length := by
  have e : zq fs = zq (fs.take i) ++ zq (fs.drop i) := by unfold zq; rw [← List.flatMap_append, List.take_append_drop]
  rw [e, List.length_append]; omega
set_option maxRecDepth 20000 in
set_option maxHeartbeats 1000000 in
theorem zaap {a : Agt} {H5 : Heap} {lo n1 gf p1 : Nat} {ss : List (AV × AV)} {cs : List AV} {Q : AV → Heap → Nat → Prop} (hb : (zq a.frames).length ≤ 4096) (hfl : a.frames.length ≤ 4096) (c1 : H5 gf = some (.row 4 cs)) (c2 : cs.take (a.frames.length * 4) = frow a.frames ss) (c3 : a.frames.length * 4 ≤ cs.length)
    (fr : zad H5 a.frames ss) (bd : ∀ g, (g = gf ∨ g ∈ owns ss) → lo ≤ g ∧ g < n1)
    (hend : ∀ H' n' l, n1 + 1 ≤ n' → (∀ g, g < n1 + 1 → H' g = H5 g) → Slot H' 3 (zq a.frames).length (rowV (zq a.frames)) l → (∀ g ∈ own l, n1 < g ∧ g < n') →
      FA 5 (.ptr n1 0) fun v29 => LD false 1 v29 H' fun v30 => za Tryz.prog 42 [v30, l] H' n' (zns [.ptr p1 0, .ptr n1 0, l, .slc gf 0 a.frames.length, .int .i64 a.frames.length, .int .i64 a.frames.length] Q)) :
    LP (zge Q) [.ptr p1 0, .ptr n1 0, .nils, .slc gf 0 a.frames.length, .int .i64 a.frames.length, .int .i64 0] H5 (n1 + 1) := by
  refine LP.mk (fun k xs H' n' => ∃ (i : Nat) (l : AV), k = a.frames.length - i ∧ i ≤ a.frames.length ∧ xs = [.ptr p1 0, .ptr n1 0, l, .slc gf 0 a.frames.length, .int .i64 a.frames.length, .int .i64 i] ∧ n1 + 1 ≤ n' ∧ (∀ g, g < n1 + 1 → H' g = H5 g) ∧
    Slot H' 3 (zq (a.frames.take i)).length (rowV (zq (a.frames.take i))) l ∧ ∀ g ∈ own l, n1 < g ∧ g < n') a.frames.length ⟨0, .nils, rfl, by omega, rfl, Nat.le_refl _, fun _ _ => rfl, .inl ⟨rfl, .inl rfl⟩, by simp [own]⟩ ?_
  rintro k xs H' n' ⟨i, l, rfl, hi, rfl, hn, keep, sl, bl⟩
  suffices key : ∀ K : J3, (∀ (i' : Nat) (l : AV) H' n', a.frames.length - i' < a.frames.length - i → i' ≤ a.frames.length → n1 + 1 ≤ n' → (∀ g, g < n1 + 1 → H' g = H5 g) → Slot H' 3 (zq (a.frames.take i')).length (rowV (zq (a.frames.take i'))) l → (∀ g ∈ own l, n1 < g ∧ g < n') → K [.ptr p1 0, .ptr n1 0, l, .slc gf 0 a.frames.length, .int .i64 a.frames.length, .int .i64 i'] H' n') →
      zge Q K [.ptr p1 0, .ptr n1 0, l, .slc gf 0 a.frames.length, .int .i64 a.frames.length, .int .i64 i] H' n' from
    key _ fun i' l H' n' h1 h2 h3 h4 h5 h6 => ⟨_, h1, i', l, rfl, h2, rfl, h3, h4, h5, h6⟩
  intro K hK
  by_cases hil : i < a.frames.length
  · have hf : a.frames[i]? = some a.frames[i] := List.getElem?_eq_getElem hil
    have hs : ss[i]? = some (ss[i]'(by rw [fr.1]; exact hil)) := List.getElem?_eq_getElem _
    generalize a.frames[i] = f at hf
    generalize ss[i]'(by rw [fr.1]; exact hil) = s at hs
    obtain ⟨sv, st⟩ := fr.2 i f s hf hs
    have hgf := bd gf (.inl rfl)
    have e1 : H' gf = some (.row 4 cs) := (keep gf (by omega)).trans c1
    have e2 := zafz c2 fr.1 hf hs
    have one : s.1.one = true ∧ s.2.one = true := ⟨sv.one.2.1, st.one.2.1⟩
    have hsm : ∀ g, (g ∈ own s.1 ∨ g ∈ own s.2) → g < n1 := fun g hg => by
      refine (bd g (.inr (List.mem_flatMap.2 ⟨s, List.mem_of_getElem? hs, ?_⟩))).2
      simpa using hg
    have htk : a.frames.take (i + 1) = a.frames.take i ++ [f] := zfu hf
    have hle := zaam (fs := a.frames) (i + 1)
    have hadd : IntKind.i64.wrap ((i : Int) + 1) = ((i + 1 : Nat) : Int) := by rw [i64w (by omega)]; rfl
    have hr1 : zq (a.frames.take (i + 1)) = zq (a.frames.take i) ++ f.vars ++ f.stack := by rw [htk, zyw]
    rw [hr1] at hle
    simp only [List.length_append] at hle
    simp [zge, hil, e1, e2, sv.one, st.one]
    refine ⟨by omega, ?_⟩
    have lst : (frow a.frames ss).length = a.frames.length * 4 := zak fr.1
    have b0 : ∀ l : List Val, (rowV l).all AV.one = true := fun l => List.all_eq_true.2 fun c hc => zcq (zhw _ c hc)
    have z0 : ∀ l : List Val, l.length = 0 → rowV l = [] := fun l h => by rw [List.eq_nil_of_length_eq_zero h]; rfl
    generalize hX : Heap.put H' n' _ = HX
    have x1 : HX n' = some (.row 4 [.int .i64 f.fn, .int .i64 f.at_, s.1, s.2]) := by rw [← hX, Heap.put_at]
    have xk : ∀ g, g ≠ n' → HX g = H' g := fun g hg => by rw [← hX, Heap.put_ne _ _ hg]
    have xs : ∀ g, (g ∈ own s.1 ∨ g ∈ own s.2) → HX g = H5 g := fun g hg => by have := hsm g hg; rw [xk g (by omega), keep g (by omega)]
    obtain ⟨rd0, hs1⟩ := (sv.keep fun g hg => xs g (.inl hg)).src (z0 f.vars)
    refine Slot.gather (sl.keep fun g hg => xk g (by have := bl g hg; omega)) (by simp) hs1 (by simp) (b0 _) (by omega) fun v1 rd1 fr1 D1 l1 d1 s1 o1 k1 => ?_
    have y1 : (HX.apply D1) n' = some (.row 4 [.int .i64 f.fn, .int .i64 f.at_, s.1, s.2]) := by rw [k1 n' (fun h => by have := bl _ h; omega) (by omega)]; exact x1
    have yk : ∀ g, g < n1 + 1 → (HX.apply D1) g = H5 g := fun g hg => by rw [k1 g (fun h => by have := bl _ h; omega) (by omega), xk g (by omega), keep g hg]
    have dd : n' ∉ domD D1 := fun h => by
      rcases d1 n' h with h | h
      · have := bl _ h; omega
      · omega
    generalize HX.apply D1 = HY at *
    simp only [y1, rowk]
    simp
    obtain ⟨rd2, hs2⟩ := (st.keep fun g hg => yk g (by have := hsm g (.inr hg); omega)).src (z0 f.stack)
    refine Slot.gather s1 (by simp; omega) hs2 (by simp) (b0 _) (by omega) fun v2 rd3 fr2 D2 l2 d2 s2 o2 k2 => ?_
    have zk : ∀ g, g < n1 + 1 → (HY.apply D2) g = H5 g := fun g hg => by rw [k2 g (fun h => by have := o1 _ h; omega) (by omega), yk g hg]
    generalize HY.apply D2 = HZ at *
    refine zbp (fun g _ => by simp) (zbp (fun g _ => by simp) (zbp (fun g hg => by simp; rintro rfl; exact dd hg) (zbp (fun g _ => by simp) ?_)))
    rw [hadd]
    refine hK (i + 1) v2 HZ _ (by omega) (by omega) (by omega) zk ?_ fun g hg => ?_
    · rw [hr1, zku, zku]
      simpa [Nat.add_assoc] using s2
    · have := o2 g hg; omega
  · obtain rfl : i = a.frames.length := by omega
    rw [List.take_length] at sl
    have := hend H' n' l hn keep sl bl
    simpa [zge] using this
theorem zzg {p : Val → Val} : ∀ (fs : List Frm) (ss : List (AV × AV)), frow (fs.map fun f => { f with vars := f.vars.map p, stack := f.stack.map p }) ss = frow fs ss
  | [], _ => rfl
  | _ :: _, [] => rfl
  | f :: fs, s :: ss => by simp only [List.map_cons, frow]; rw [zzg fs ss]
def pkF (p : Val → Val) (f : Frm) : Frm := { f with vars := f.vars.map p, stack := f.stack.map p }
set_option maxRecDepth 20000 in
set_option maxHeartbeats 1000000 in
theorem zafe {fs : List Frm} {id trip : Int} {pr : Prg} {m : Pmt} {p : Val → Val} {hp : List Cl} {H1 : Heap} {n1 gf p1 n : Nat} {ss : List (AV × AV)} {cs : List AV} {ha : AV} {Q : AV → Heap → Nat → Prop} (hfl : fs.length ≤ 4096) (c1 : H1 gf = some (.row 4 cs)) (c2 : cs.take (fs.length * 4) = frow fs ss) (c3 : fs.length * 4 ≤ cs.length)
    (fr : zad H1 fs ss) (nd : (owns ss).Nodup) (g0 : gf ∉ owns ss) (g1 : n1 ∉ owns ss) (g2 : p1 ∉ owns ss) (g3 : p1 ≠ n1) (r1 : H1 n1 = some (.row 9 (zaq id trip pr (.slc gf 0 fs.length) ha m))) (r2 : ∃ z, H1 p1 = some (.row 9 z) ∧ z.length = 9)
    (hend : ∀ H', zad H' (fs.map (pkF p)) ss → (∀ g, g ∉ owns ss → g ≠ n1 → g ≠ p1 → H' g = H1 g) → Q (.agg (zaq id trip pr (.slc gf 0 fs.length) (.ro (hp.map Cl.avs)) m)) H' n) :
    LP (zgf Q) [.ptr p1 0, .ptr n1 0, .ro ((zq fs).map fun v => (p v).avs), .ro (hp.map Cl.avs), .int .i64 fs.length, .int .i64 0] H1 n := by
  refine LP.mk (fun k xs H' n' => ∃ i : Nat, k = fs.length - i ∧ i ≤ fs.length ∧ n' = n ∧ xs = [.ptr p1 0, .ptr n1 0, .ro ((zq (fs.drop i)).map fun v => (p v).avs), .ro (hp.map Cl.avs), .int .i64 fs.length, .int .i64 i] ∧
    zad H' ((fs.take i).map (pkF p) ++ fs.drop i) ss ∧ ∀ g, g ∉ owns ss → H' g = H1 g) fs.length ⟨0, rfl, by omega, rfl, rfl, by simpa using fr, fun _ _ => rfl⟩ ?_
  rintro k xs H' n' ⟨i, rfl, hi, rfl, rfl, fr', keep⟩
  suffices key : ∀ K : J3, (∀ (i' : Nat) H', fs.length - i' < fs.length - i → i' ≤ fs.length → zad H' ((fs.take i').map (pkF p) ++ fs.drop i') ss → (∀ g, g ∉ owns ss → H' g = H1 g) → K [.ptr p1 0, .ptr n1 0, .ro ((zq (fs.drop i')).map fun v => (p v).avs), .ro (hp.map Cl.avs), .int .i64 fs.length, .int .i64 i'] H' n') →
      zgf Q K [.ptr p1 0, .ptr n1 0, .ro ((zq (fs.drop i)).map fun v => (p v).avs), .ro (hp.map Cl.avs), .int .i64 fs.length, .int .i64 i] H' n' from
    key _ fun i' H' h1 h2 h3 h4 => ⟨_, h1, i', rfl, h2, rfl, rfl, h3, h4⟩
  intro K hK
  have e0 := (keep _ g0).trans c1
  have e1 := (keep _ g1).trans r1
  obtain ⟨z, z1, z2⟩ := r2
  have e2 := (keep _ g2).trans z1
  by_cases hil : i < fs.length
  · have hf : fs[i]? = some fs[i] := List.getElem?_eq_getElem hil
    have hs : ss[i]? = some (ss[i]'(by rw [fr.1]; exact hil)) := List.getElem?_eq_getElem _
    have hdrop : fs.drop i = fs[i] :: fs.drop (i + 1) := List.drop_eq_getElem_cons hil
    have htk : fs.take (i + 1) = fs.take i ++ [fs[i]] := zfu hf
    generalize fs[i] = f at *
    generalize ss[i]'(by rw [fr.1]; exact hil) = s at hs
    have e3 := zafz c2 fr.1 hf hs
    have hadd : IntKind.i64.wrap ((i : Int) + 1) = ((i + 1 : Nat) : Int) := by rw [i64w (by omega)]; rfl
    have hm : ((fs.take i).map (pkF p) ++ fs.drop i)[i]? = some f := by rw [List.getElem?_append_right (by simp; omega)]; simp [Nat.min_eq_left (Nat.le_of_lt hil), hf]
    obtain ⟨sv, st⟩ := fr'.2 i f s hm hs
    have hroots : zq (fs.drop i) = f.vars ++ (f.stack ++ zq (fs.drop (i + 1))) := by rw [hdrop]; simp [zq]
    have q2 : cs[i * 4 + 2]? = some s.1 := by
      have := congrArg (·[2]?) e3
      simpa using this
    have q3 : cs[i * 4 + 3]? = some s.2 := by
      have := congrArg (·[3]?) e3
      simpa using this
    rw [hroots]
    have hown : ∀ g, (g ∈ own s.1 ∨ g ∈ own s.2) → g ∈ owns ss := fun g hg => List.mem_flatMap.2 ⟨s, List.mem_of_getElem? hs, by simpa using hg⟩
    have hdis : ∀ g ∈ own s.1, g ∉ own s.2 := by
      obtain ⟨hi1, rfl⟩ := List.getElem?_eq_some_iff.1 hs
      have hsub : (own ss[i].1 ++ own ss[i].2).Sublist (owns ss) := List.sublist_flatten_of_mem (List.mem_map.2 ⟨_, List.getElem_mem hi1, rfl⟩)
      have := List.nodup_append.1 (nd.sublist hsub)
      exact fun g h1 h2 => this.2.2 g h1 g h2 rfl
    have len3 : ∀ l : List Val, ∀ x ∈ l.map (fun v => (p v).avs), x.length = 3 := fun l x hx => by obtain ⟨v, _, rfl⟩ := List.mem_map.1 hx; rfl
    have one3 : ∀ l : List Val, ∀ x ∈ l.map (fun v => (p v).avs), ∀ c ∈ x, c.one = true := fun l x hx c hc => by obtain ⟨v, _, rfl⟩ := List.mem_map.1 hx; exact zcq (zbb _ c hc)
    have fl : ∀ l : List Val, (l.map fun v => (p v).avs).flatten = rowV (l.map p) := fun l => by simp [rowV, List.map_map, Function.comp_def]
    simp [zgf, hil, e0, e1, zaq, q2, q3]
    refine Slot.cp sv (fun x hx => ?_) (by simp) (fun x hx => ?_) fun H2 s2 k2 => ?_
    · rw [← List.map_append, ← List.map_append] at hx; exact len3 _ x hx
    · rw [← List.map_append, ← List.map_append] at hx; exact one3 _ x hx
    refine zyq (fun x hx => ?_) (by omega) (by simp; omega) ?_
    · rw [← List.map_append, ← List.map_append] at hx; exact len3 _ x hx
    have h2 : H2 gf = some (.row 4 cs) := by rw [k2 gf (fun h => g0 (hown _ (.inl h)))]; exact e0
    have hd1 : ∀ (A B : List (List AV)) (n : Nat), A.length = n → (A ++ B).drop ((n : Int).toNat) = B := fun A B n h => by simp [← h]
    rw [hd1 _ _ _ (by simp)]
    simp only [h2, rowk, q3, optk]
    refine Slot.cp (st.keep fun g hg => k2 g fun h => hdis g h hg) (fun x hx => ?_) (by simp) (fun x hx => ?_) fun H3 s3 k3 => ?_
    · rw [← List.map_append] at hx; exact len3 _ x hx
    · rw [← List.map_append] at hx; exact one3 _ x hx
    refine zyq (fun x hx => ?_) (by omega) (by simp; omega) ?_
    · rw [← List.map_append] at hx; exact len3 _ x hx
    rw [hd1 _ _ _ (by simp), hadd]
    rw [fl] at s2 s3
    have e4 : (fs.take (i + 1)).map (pkF p) ++ fs.drop (i + 1) = ((fs.take i).map (pkF p) ++ fs.drop i).set i (pkF p f) := by
      rw [htk, hdrop, List.set_append_right _ _ (by simp; omega)]
      simp [Nat.min_eq_left (Nat.le_of_lt hil)]
    refine hK (i + 1) H3 (by omega) (by omega) ?_ fun g hg => ?_
    · rw [e4]
      refine fr'.set nd hs (fun g h1 h2 => by rw [k3 g h2, k2 g h1]) ?_ ?_
      · have := s2.keep (H' := H3) fun g hg => k3 g (hdis g hg)
        simpa [pkF] using this
      · simpa [pkF] using s3
    · rw [k3 g (fun h => hg (hown _ (.inr h))), k2 g (fun h => hg (hown _ (.inl h)))]
      exact keep g hg
  · obtain rfl : i = fs.length := by omega
    rw [List.take_length, List.drop_length, List.append_nil] at fr'
    simp [zgf, e1, e2, zaq, z2, g3]
    have := hend ((H'.put n1 (some (.row 9 (zaq id trip pr (.slc gf 0 fs.length) (.ro (hp.map Cl.avs)) m)))).put p1 (some (.row 9 (zaq id trip pr (.slc gf 0 fs.length) (.ro (hp.map Cl.avs)) m ++ z.drop 9)))) (fr'.keep fun g hg => ?_) fun g q1 q2 q3 => ?_
    · simpa [zaq] using this
    · have a1 : g ≠ p1 := fun e => g2 (e ▸ hg)
      have a2 : g ≠ n1 := fun e => g1 (e ▸ hg)
      rw [Heap.put_ne _ _ a1, Heap.put_ne _ _ a2]
    · rw [Heap.put_ne _ _ q3, Heap.put_ne _ _ q2]; exact keep g q1
set_option maxRecDepth 20000 in
set_option maxHeartbeats 1000000 in
theorem zakq {a : Agt} {fs : List Frm} {f : Frm} (sz : zom a) (hfr : a.frames = fs ++ [f]) (hfl : a.frames.length ≤ 4096) (hb : (zq a.frames).length ≤ 4096) (hr : VM.right a.heap (zq a.frames) = true) :
    QC Tryz.prog 23 [.agg a.avs] (.agg (VM.pack a).avs) := by
  refine QC.of' fun H nx => ?_
  refine zxn _ H nx _ ?_
  have av : (AV.agg a.avs).cells = a.avs := by simp
  have al : a.avs.length = 9 := rfl
  have hsu : (AV.agg a.avs).sure = true := by simp [Agt.avs]
  have at9 : a.avs.take 9 = a.avs := by rw [← al, List.take_length]
  unfold zua
  rw [av, al]
  refine ⟨hsu, ?_⟩
  simp [al, at9]
  refine zuh sz fun H1 n1 ss fa ha hn1 k1 ow => ?_
  generalize hHH : Heap.put _ (nx + 1) _ = HH at *
  have q2 : ∃ z, HH (nx + 1) = some (.row 9 z) ∧ z.length = 9 := ⟨_, by rw [← hHH, Heap.put_at], rfl⟩
  have q4 : Keep nx HH H := fun g hg => by rw [← hHH, Heap.put_ne _ _ (by omega), Heap.put_ne _ _ (by omega)]
  have h1 := ow.hp.one
  obtain ⟨gf, cs, rfl, c1, c2, c3⟩ : ∃ gf cs, fa = .slc gf 0 a.frames.length ∧ H1 gf = some (.row 4 cs) ∧ cs.take (a.frames.length * 4) = frow a.frames ss ∧ a.frames.length * 4 ≤ cs.length := by
    rcases ow.row with ⟨h0, _⟩ | ⟨gf, cs, h2⟩
    · rw [hfr] at h0; simp at h0
    · exact ⟨gf, cs, h2⟩
  have bd : ∀ g, (g = gf ∨ g ∈ owns ss) → nx + 2 ≤ g ∧ g < n1 := fun g hg => ow.bd g (by rcases hg with rfl | h <;> simp [own, *])
  have bh : ∀ g ∈ own ha, nx + 2 ≤ g ∧ g < n1 := fun g hg => ow.bd g (by simp [hg])
  have nd := ow.nd
  have e0 : own (AV.slc gf 0 a.frames.length) = [gf] := rfl
  rw [e0, List.singleton_append, List.nodup_cons, List.nodup_append] at nd
  obtain ⟨nd1, nd2, nd3, nd4⟩ := nd
  simp only [List.mem_append, not_or] at nd1
  simp [zub, zaq, h1.1, h1.2.1, h1.2.2]
  generalize hX : Heap.put H1 n1 _ = HX
  have x1 : HX n1 = some (.row 9 (zaq a.id a.trip a.prog (.slc gf 0 a.frames.length) ha a.permit)) := by rw [← hX, Heap.put_at]; rfl
  have xk : ∀ g, g < n1 → HX g = H1 g := fun g hg => by rw [← hX, Heap.put_ne _ _ (by omega)]
  refine zaap (lo := nx + 2) hb hfl (by rw [xk gf (bd gf (.inl rfl)).2]; exact c1) c2 c3 (ow.frs.keep fun g hg => xk g (bd g (.inr hg)).2) bd fun H' n' l hn keep sl bl => ?_
  have x2 := (keep n1 (by omega)).trans x1
  simp [x2, zaq]
  let G : Nat → Prop := fun g => g ∈ own ha ∨ g ∈ own l
  let H0 : Heap := fun g => if g ∈ own ha ∨ g ∈ own l then none else H' g
  have h0 : ∀ g o, H0 g = some o → ¬ G g ∧ H' g = some o := fun g o hg => by
    by_cases h : g ∈ own ha ∨ g ∈ own l
    · simp only [H0, if_pos h] at hg; cases hg
    · simp only [H0, if_neg h] at hg; exact ⟨h, hg⟩
  have up : ∀ g, g ∉ own ha → g < n1 + 1 → H0 g = HX g := fun g h1 h2 => by
    simp only [H0]
    rw [if_neg (fun h => by
      rcases h with h | h
      · exact h1 h
      · have := bl g h; omega)]
    exact keep g h2
  refine QC.thaw (zajk a.heap (zq a.frames) hr sz.b5 (by omega)) (G := G) (H0 := H0) (zhp.cons (Slot.frzP (sz := 6) ?_ (fun g hg => .inl hg) (zbq _)) (zhp.cons (Slot.frzP (sz := 3) ?_ (fun g hg => .inr hg) (zft _)) .nil)) h0 ?_
  · have := ow.hp.keep (H' := H') fun g hg => by have := bh g hg; rw [keep g (by omega), xk g (by omega)]
    simpa [rowC] using this
  · simpa [rowV] using sl
  have y1 : H0 n1 = some (.row 9 (zaq a.id a.trip a.prog (.slc gf 0 a.frames.length) ha a.permit)) := by
    rw [up n1 (fun h => by have := bh _ h; omega) (by omega)]; exact x1
  have lowk : ∀ g, g < nx + 2 → H0 g = HH g := fun g hg => by
    rw [up g (fun h => by have := bh _ h; omega) (by omega), xk g (by omega), k1 g (by omega)]
  simp [zns, y1, zaq]
  obtain ⟨z, z1, z2⟩ := q2
  have hcv : (VM.canonV a.heap (zq a.frames)).map Val.avs = (zq a.frames).map fun v => (VM.put (VM.order a.heap (zq a.frames)) v).avs := by
    unfold VM.canonV; rw [List.map_map]; rfl
  rw [hcv]
  have gdis : ∀ g ∈ owns ss, g ∉ own ha := fun g hg h => nd4 g h g hg rfl
  refine zafe (id := a.id) (trip := a.trip) (pr := a.prog) (m := a.permit) (p := VM.put (VM.order a.heap (zq a.frames))) (hp := VM.canonC a.heap (zq a.frames)) (ss := ss) (cs := cs) (ha := ha) hfl ?_ c2 c3 (ow.frs.keep fun g hg => ?_) nd3 nd1.2 (fun h => by have := bd _ (.inr h); omega) (fun h => by have := bd _ (.inr h); omega) (by omega) y1 ⟨z, by rw [lowk _ (by omega)]; exact z1, z2⟩ fun H3 fr3 k3 => ?_
  · rw [up gf nd1.1 (by have := bd gf (.inl rfl); omega), xk gf (bd gf (.inl rfl)).2]; exact c1
  · rw [up g (gdis g hg) (by have := bd g (.inr hg); omega), xk g (bd g (.inr hg)).2]
  have hgf := bd gf (.inl rfl)
  refine ⟨?_, fun g hg => ?_⟩
  · have hp : VM.pack a = ⟨a.id, a.trip, a.prog, a.frames.map (pkF (VM.put (VM.order a.heap (zq a.frames)))), VM.canonC a.heap (zq a.frames), a.permit⟩ := rfl
    rw [hp]
    have ef : frow (a.frames.map (pkF (VM.put (VM.order a.heap (zq a.frames))))) ss = frow a.frames ss := zzg _ _
    refine zlw (zad.frz (cs := cs) fr3 ?_ (by simpa [ef] using c2) (by simpa using c3) (by omega) (fun x hx => by have := bd x (.inr hx); omega) (by simp)) (.same _ (zgn (zdu _)))
    rw [k3 gf nd1.2 (by omega) (by omega), up gf nd1.1 (by omega), xk gf hgf.2]; exact c1
  · rw [k3 g (fun h => by have := bd _ (.inr h); omega) (by omega) (by omega), lowk g (by omega)]
    exact q4 g hg
end Go.Proofs.YtdmibdjokofclaaGreatDoor
set_option maxRecDepth 8000
namespace Go.Proofs.YtdmibdjokofclaaGreatDoor
open Go Go.RowKit
theorem zalj {A : Nat → Prop} (f : Frm) : ∀ (j : Nat) (v : AV), f.avs[j]? = some v → Bel A v := fun j v hv => by
  match j, hv with
  | 0, hv => cases hv; exact .int _ _
  | 1, hv => cases hv; exact .int _ _
  | 2, hv => cases hv; exact zgn (zfw _)
  | 3, hv => cases hv; exact zgn (zfw _)
  | j + 4, hv => simp [Frm.avs] at hv
theorem zali {A : Nat → Prop} (fs : List Frm) : Bel A (.ro (fs.map Frm.avs)) := by
  refine .ro _ fun i x j v hx hv => ?_
  rw [List.getElem?_map] at hx
  obtain ⟨f, _, rfl⟩ := Option.map_eq_some_iff.1 hx
  exact zalj f j v hv
theorem zbx (a : Agt) : a.avs.drop 9 = [] ∧ a.avs.take 9 = a.avs ∧ a.avs.length = 9 := ⟨rfl, rfl, rfl⟩
theorem zkd (a : Agt) : ∀ x ∈ a.avs, x.one = true := fun x hx => by
  simp [Agt.avs] at hx
  rcases hx with rfl | rfl | rfl | rfl | rfl | rfl | rfl | rfl | rfl <;> rfl
theorem eavs (e : Evt) : e.avs = [.int .i64 e.kind, .str e.text, .int .i64 e.err] := rfl
end Go.Proofs.YtdmibdjokofclaaGreatDoor
set_option maxRecDepth 8000
namespace Go.Proofs.YtdmibdjokofclaaGreatDoor
open Go Go.RowKit
end Go.Proofs.YtdmibdjokofclaaGreatDoor
set_option maxRecDepth 8000
namespace Go.Proofs.YtdmibdjokofclaaGreatDoor
open Go Go.RowKit
theorem zvv {A : Nat → Prop} (a : Agt) : Bel A (.agg a.avs) := by
  refine .agg _ fun j v hv => ?_
  match j, hv with
  | 0, hv => cases hv; exact .int _ _
  | 1, hv => cases hv; exact .int _ _
  | 2, hv => cases hv; exact zxh _
  | 3, hv => cases hv; exact zxg _
  | 4, hv => cases hv; exact zali _
  | 5, hv => cases hv; exact zgn (zdu _)
  | 6, hv => cases hv; exact .int _ _
  | 7, hv => cases hv; exact .int _ _
  | 8, hv => cases hv; exact .int _ _
  | j + 9, hv => simp [Agt.avs] at hv
end Go.Proofs.YtdmibdjokofclaaGreatDoor
set_option maxRecDepth 8000
namespace Go.Proofs.YtdmibdjokofclaaGreatDoor
open Go Go.RowKit
theorem zvu : Tryz.prog.cellsOf 45 = 3 := by kernel_rfl
def Ins.rd (x : Ins) : Prop := zcp x.op ∧ zcp x.a ∧ zcp x.b
theorem oIns : OpA Tryz.prog 45 Ins.avs Ins.rd :=
  ⟨fun _ _ => zvu.symm, fun enc w base sp held fuel cs x h hw => by
    obtain ⟨hl, hf⟩ := zcb Tryz.underlying45 h hw
    rw [zvu] at hl
    obtain ⟨x0, h0, r0⟩ := hf 0 3 0 1 (by kernel_rfl) cInt oInt
    obtain ⟨x1, h1, r1⟩ := hf 1 3 1 1 (by kernel_rfl) cInt oInt
    obtain ⟨x2, h2, r2⟩ := hf 2 3 2 1 (by kernel_rfl) cInt oInt
    match cs, hl with
    | [c0, c1, c2], _ => exact ⟨⟨x0, x1, x2⟩, ⟨h0, h1, h2⟩, fun ρ A => ((r0 ρ A).append ((r1 ρ A).append (r2 ρ A)))⟩⟩
theorem zzw : Tryz.prog.cellsOf 41 = 1 := by kernel_rfl
theorem zamx : OpA Tryz.prog 41 (fun l : List Ins => [.ro (l.map Ins.avs)]) (rdL Ins.rd (Tryz.prog.bytesOf 45)) := zia Tryz.underlying41 zzw oIns (by rw [zvu]; decide)
theorem zzy : Tryz.prog.cellsOf 43 = 3 := by kernel_rfl
def Cod.rd (x : Cod) : Prop := zcp x.params ∧ zcp x.vars ∧ rdL Ins.rd (Tryz.prog.bytesOf 45) x.ins
theorem oCod : OpA Tryz.prog 43 Cod.avs Cod.rd :=
  ⟨fun _ _ => zzy.symm, fun enc w base sp held fuel cs x h hw => by
    obtain ⟨hl, hf⟩ := zcb Tryz.underlying43 h hw
    rw [zzy] at hl
    obtain ⟨x0, h0, r0⟩ := hf 0 3 0 1 (by kernel_rfl) cInt oInt
    obtain ⟨x1, h1, r1⟩ := hf 1 3 1 1 (by kernel_rfl) cInt oInt
    obtain ⟨x2, h2, r2⟩ := hf 2 41 2 1 (by kernel_rfl) zzw zamx
    match cs, hl with
    | [c0, c1, c2], _ => exact ⟨⟨x0, x1, x2⟩, ⟨h0, h1, h2⟩, fun ρ A => ((r0 ρ A).append ((r1 ρ A).append (r2 ρ A)))⟩⟩
theorem zabx : Tryz.prog.cellsOf 23 = 1 := by kernel_rfl
theorem zamz : OpA Tryz.prog 23 (fun l : List Cod => [.ro (l.map Cod.avs)]) (rdL Cod.rd (Tryz.prog.bytesOf 43)) := zia Tryz.underlying23 zabx oCod (by rw [zzy]; decide)
theorem zxe : Tryz.prog.cellsOf 24 = 1 := by kernel_rfl
theorem zamv : OpA Tryz.prog 24 (fun l : List (List UInt8) => [.ro (l.map (fun w => [.str w]))]) (rdL (fun s => s.length ≤ reachBytes) (Tryz.prog.bytesOf 9)) := zia Tryz.underlying24 zxe oStr (by rw [cStr]; decide)
theorem zxd : Tryz.prog.cellsOf 26 = 2 := by kernel_rfl
def Prg.rd (x : Prg) : Prop := rdL Cod.rd (Tryz.prog.bytesOf 43) x.codes ∧ rdL (fun s => s.length ≤ reachBytes) (Tryz.prog.bytesOf 9) x.words
theorem oPrg : OpA Tryz.prog 26 Prg.avs Prg.rd :=
  ⟨fun _ _ => zxd.symm, fun enc w base sp held fuel cs x h hw => by
    obtain ⟨hl, hf⟩ := zcb Tryz.underlying26 h hw
    rw [zxd] at hl
    obtain ⟨x0, h0, r0⟩ := hf 0 23 0 1 (by kernel_rfl) zabx zamz
    obtain ⟨x1, h1, r1⟩ := hf 1 24 1 1 (by kernel_rfl) zxe zamv
    match cs, hl with
    | [c0, c1], _ => exact ⟨⟨x0, x1⟩, ⟨h0, h1⟩, fun ρ A => ((r0 ρ A).append (r1 ρ A))⟩⟩
def Frm.rd (x : Frm) : Prop := zcp x.fn ∧ zcp x.at_ ∧ rdL Val.rd (Tryz.prog.bytesOf 78) x.vars ∧ rdL Val.rd (Tryz.prog.bytesOf 78) x.stack
theorem zzv : Tryz.prog.cellsOf 28 = 3 := by kernel_rfl
def Pmt.rd (x : Pmt) : Prop := zcp x.fuel ∧ zcp x.room ∧ zcp x.hops
theorem oPmt : OpA Tryz.prog 28 Pmt.avs Pmt.rd :=
  ⟨fun _ _ => zzv.symm, fun enc w base sp held fuel cs x h hw => by
    obtain ⟨hl, hf⟩ := zcb Tryz.underlying28 h hw
    rw [zzv] at hl
    obtain ⟨x0, h0, r0⟩ := hf 0 3 0 1 (by kernel_rfl) cInt oInt
    obtain ⟨x1, h1, r1⟩ := hf 1 3 1 1 (by kernel_rfl) cInt oInt
    obtain ⟨x2, h2, r2⟩ := hf 2 3 2 1 (by kernel_rfl) cInt oInt
    match cs, hl with
    | [c0, c1, c2], _ => exact ⟨⟨x0, x1, x2⟩, ⟨h0, h1, h2⟩, fun ρ A => ((r0 ρ A).append ((r1 ρ A).append (r2 ρ A)))⟩⟩
def Agt.rd (x : Agt) : Prop := zcp x.id ∧ zcp x.trip ∧ x.prog.rd ∧ rdL Frm.rd (Tryz.prog.bytesOf 76) x.frames ∧ rdL Cl.rd (Tryz.prog.bytesOf 120) x.heap ∧ x.permit.rd
theorem zzx : Tryz.prog.cellsOf 83 = 4 := by kernel_rfl
def Fct.rd (x : Fct) : Prop := x.key.length ≤ reachBytes ∧ x.val.rd
theorem oFct : OpA Tryz.prog 83 Fct.avs Fct.rd :=
  ⟨fun _ _ => zzx.symm, fun enc w base sp held fuel cs x h hw => by
    obtain ⟨hl, hf⟩ := zcb Tryz.underlying83 h hw
    rw [zzx] at hl
    obtain ⟨x0, h0, r0⟩ := hf 0 9 0 1 (by kernel_rfl) cStr oStr
    obtain ⟨x1, h1, r1⟩ := hf 1 78 1 3 (by kernel_rfl) cVal oVal
    match cs, hl with
    | [c0, c1, c2, c3], _ => exact ⟨⟨x0, x1⟩, ⟨h0, h1⟩, fun ρ A => ((r0 ρ A).append (r1 ρ A))⟩⟩
theorem zabw : Tryz.prog.cellsOf 32 = 1 := by kernel_rfl
theorem zamy : OpA Tryz.prog 32 (fun l : List Fct => [.ro (l.map Fct.avs)]) (rdL Fct.rd (Tryz.prog.bytesOf 83)) := zia Tryz.underlying32 zabw oFct (by rw [zzx]; decide)
theorem zzu : Tryz.prog.cellsOf 34 = 4 := by kernel_rfl
def Spt.rd (x : Spt) : Prop := x.name.length ≤ reachBytes ∧ rdL Fct.rd (Tryz.prog.bytesOf 83) x.facts ∧ zcp x.fuel ∧ zcp x.cells
theorem oSpt : OpA Tryz.prog 34 Spt.avs Spt.rd :=
  ⟨fun _ _ => zzu.symm, fun enc w base sp held fuel cs x h hw => by
    obtain ⟨hl, hf⟩ := zcb Tryz.underlying34 h hw
    rw [zzu] at hl
    obtain ⟨x0, h0, r0⟩ := hf 0 9 0 1 (by kernel_rfl) cStr oStr
    obtain ⟨x1, h1, r1⟩ := hf 1 32 1 1 (by kernel_rfl) zabw zamy
    obtain ⟨x2, h2, r2⟩ := hf 2 3 2 1 (by kernel_rfl) cInt oInt
    obtain ⟨x3, h3, r3⟩ := hf 3 3 3 1 (by kernel_rfl) cInt oInt
    match cs, hl with
    | [c0, c1, c2, c3], _ => exact ⟨⟨x0, x1, x2, x3⟩, ⟨h0, h1, h2, h3⟩, fun ρ A => ((r0 ρ A).append ((r1 ρ A).append ((r2 ρ A).append (r3 ρ A))))⟩⟩
end Go.Proofs.YtdmibdjokofclaaGreatDoor
set_option maxRecDepth 8000
namespace Go.Proofs.YtdmibdjokofclaaGreatDoor
open Go Go.RowKit
theorem zalg : Tryz.prog.cellsOf 22 = 1 := by kernel_rfl
theorem zamw : OpA Tryz.prog 22 (fun l : List Spt => [.ro (l.map Spt.avs)]) (rdL Spt.rd (Tryz.prog.bytesOf 34)) := zia Tryz.underlying22 zalg oSpt (by rw [zzu]; decide)
end Go.Proofs.YtdmibdjokofclaaGreatDoor
