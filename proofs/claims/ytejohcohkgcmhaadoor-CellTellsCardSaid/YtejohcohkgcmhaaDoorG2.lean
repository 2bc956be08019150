/- The operations' effects, on: values, stores, what is new. The operations' effects, on: aggregates, addresses, lengths, stores. The operations' effects, on: structs, slices made, stores, numbers, texts. The operations' effects, on: numbers, texts, functions, maps, slices. The operations' effects, on: slices made and cut, maps. -/
import Derived.Test.YtejohcohkgcmhaaDoorG1
import Derived.Laws.Strings
import Derived.IntWalk
namespace Go.Proofs.YtejohcohkgcmhaaDoor
open Go Go.RowKit

/-- Lists of values, one by one. -/
def LRel (K : KHeap) (ρ : Nat → Loc) (A : Nat → Prop) (xs : List AV) (cs : List Value) : Prop := cs.length = xs.length ∧ ∀ (j : Nat) v c, xs[j]? = some v → cs[j]? = some c → VRel K ρ A v c

section
variable {K : KHeap} {ρ : Nat → Loc} {A : Nat → Prop}

theorem LRel.get {xs : List AV} {cs : List Value} (h : LRel K ρ A xs cs) {j : Nat} {v : AV} (hv : xs[j]? = some v) : ∃ c, cs[j]? = some c ∧ VRel K ρ A v c := by
  have hlt := (List.getElem?_eq_some_iff.1 hv).1
  have : j < cs.length := by rw [h.1]; exact hlt
  exact ⟨cs[j], List.getElem?_eq_getElem this, h.2 j v _ hv (List.getElem?_eq_getElem this)⟩
theorem LRel.nil : LRel K ρ A [] [] := ⟨rfl, fun j v c h => by simp at h⟩
theorem LRel.cons {v : AV} {c : Value} {xs : List AV} {cs : List Value} (h : VRel K ρ A v c) (k : LRel K ρ A xs cs) : LRel K ρ A (v :: xs) (c :: cs) := by
  refine ⟨by simp [k.1], fun j u d hu hd => ?_⟩
  cases j with
  | zero => simp at hu hd; subst hu; subst hd; exact h
  | succ j => exact k.2 j u d (by simpa using hu) (by simpa using hd)
theorem LRel.append {xs ys : List AV} {cs ds : List Value} (h : LRel K ρ A xs cs) (k : LRel K ρ A ys ds) : LRel K ρ A (xs ++ ys) (cs ++ ds) := by
  refine ⟨by simp [h.1, k.1], fun j u d hu hd => ?_⟩
  rw [List.getElem?_append] at hu hd
  rw [h.1] at hd
  split at hu
  · rename_i hlt; rw [if_pos hlt] at hd; exact h.2 j u d hu hd
  · rename_i hlt; rw [if_neg hlt] at hd; exact k.2 _ u d hu hd
theorem LRel.take {xs : List AV} {cs : List Value} (h : LRel K ρ A xs cs) (n : Nat) : LRel K ρ A (xs.take n) (cs.take n) := by
  refine ⟨by simp [h.1], fun j u d hu hd => ?_⟩
  rw [List.getElem?_take] at hu hd
  split at hu
  · rename_i hlt; rw [if_pos hlt] at hd; exact h.2 j u d hu hd
  · cases hu
theorem LRel.drop {xs : List AV} {cs : List Value} (h : LRel K ρ A xs cs) (n : Nat) : LRel K ρ A (xs.drop n) (cs.drop n) := by
  refine ⟨by simp [h.1], fun j u d hu hd => ?_⟩
  rw [List.getElem?_drop] at hu hd
  exact h.2 _ u d hu hd
theorem LRel.mono {K' : KHeap} {ρ' : Nat → Loc} {A' : Nat → Prop} {xs : List AV} {cs : List Value} (h : LRel K ρ A xs cs) (hK : ∀ b o, K b = some o → K' b = some o) (hA : ∀ g, A g → ρ' g = ρ g ∧ A' g) : LRel K' ρ' A' xs cs :=
  ⟨h.1, fun j v c hv hc => (h.2 j v c hv hc).mono hK hA⟩
theorem LRel.replicate {xs : List AV} {cs : List Value} (h : LRel K ρ A xs cs) : ∀ n : Nat, LRel K ρ A (List.replicate n xs).flatten (List.replicate n cs).flatten
  | 0 => by simpa using LRel.nil
  | n + 1 => by simp only [List.replicate_succ, List.flatten_cons]; exact h.append (LRel.replicate h n)
theorem LRel.scalars (cs : List Value) : LRel K ρ A (cs.map AV.ofScalar) cs := by
  refine ⟨by simp, fun j v c hv hc => ?_⟩
  simp only [List.getElem?_map, hc, Option.map_some, Option.some.injEq] at hv
  subst hv
  exact vrel_scalar _ _ _ _
theorem LRel.agg {xs : List AV} {cs : Array Value} (h : LRel K ρ A xs cs.toList) : VRel K ρ A (.agg xs) (.agg cs) :=
  .agg xs cs (by simpa using h.1) fun j v c hv hc => h.2 j v c hv (by simpa using hc)

theorem VRel.cells {v : AV} {c : Value} (h : VRel K ρ A v c) (hs : v.sure = true) : LRel K ρ A v.cells c.cells.toList := by
  cases h with
  | junk => cases hs
  | agg xs cs h1 h2 => exact ⟨by simpa [Value.cells, AV.cells] using h1, fun j v c hv hc => h2 j v c hv (by simpa [Value.cells] using hc)⟩
  | und => exact LRel.cons .und .nil
  | int k n => exact LRel.cons (.int k n) .nil
  | bool b => exact LRel.cons (.bool b) .nil
  | bany b => exact LRel.cons (.bany b) .nil
  | str s => exact LRel.cons (.str s) .nil
  | nilp => exact LRel.cons .nilp .nil
  | nils => exact LRel.cons .nils .nil
  | nilf => exact LRel.cons .nilf .nil
  | nilm => exact LRel.cons .nilm .nil
  | zs a => exact LRel.cons (.zs a) .nil
  | ptr g off a h1 h2 => exact LRel.cons (.ptr g off a h1 h2) .nil
  | slc g off len cap a h1 h2 h3 => exact LRel.cons (.slc g off len cap a h1 h2 h3) .nil
  | amap g r h1 h2 => exact LRel.cons (.amap g r h1 h2) .nil
  | ro xs a len cap sz b off C h1 h2 h3 h4 h5 h6 => exact LRel.cons (.ro xs a len cap sz b off C h1 h2 h3 h4 h5 h6) .nil
  | rop cs o b p a C h1 h2 h3 => exact LRel.cons (.rop cs o b p a C h1 h2 h3) .nil
  | tup xs cs h1 h2 => exact LRel.cons (.tup xs cs h1 h2) .nil
  | clo f xs cs h1 h2 => exact LRel.cons (.clo f xs cs h1 h2) .nil
theorem VRel.one {v : AV} {c : Value} (h : VRel K ρ A v c) (hs : v.one = true) : c.oneCell' = true := by
  cases h <;> first | rfl | cases hs
theorem LRel.ones {xs : List AV} {cs : List Value} (h : LRel K ρ A xs cs) (hs : xs.all AV.one = true) : ∀ c ∈ cs, c.oneCell' = true := by
  intro c hc
  obtain ⟨j, hj⟩ := List.getElem?_of_mem hc
  have hlt := (List.getElem?_eq_some_iff.1 hj).1
  have hx : j < xs.length := by rw [← h.1]; exact hlt
  refine (h.2 j _ c (List.getElem?_eq_getElem hx) hj).one ?_
  exact List.all_eq_true.1 hs _ (List.getElem_mem hx)

theorem objrel_new {sz : Nat} {cells : List AV} {cs : Array Value} {el : TypeId} {b : Nat} {lo hi : Nat} (h : LRel K ρ A cells (cs.toList.take cells.length)) (hlen : cells.length ≤ cs.size) (hf : ∀ j, j < cs.size → ¬ (lo ≤ j ∧ j < hi))
    {w' : World} (hw : w'.heap[b]? = some (.cells cs el (lo, hi))) : ObjRel K ρ A w' ⟨b, 0, cs.size, sz⟩ (.row sz cells) := by
  refine ⟨cs, el, lo, hi, hw, hf, rfl, rfl, by simpa using hlen, fun j v hv => ?_⟩
  obtain ⟨c, hc, hR⟩ := h.get hv
  have hlt := (List.getElem?_eq_some_iff.1 hv).1
  rw [List.getElem?_take, if_pos hlt] at hc
  exact ⟨c, by simpa using hc, hR⟩
theorem objrel_new' {sz : Nat} {cells : List AV} {cs : Array Value} {el : TypeId} {b : Nat} (h : LRel K ρ A cells cs.toList) {w' : World} (hw : w'.heap[b]? = some (.cells cs el (0, 0))) : ObjRel K ρ A w' ⟨b, 0, cs.size, sz⟩ (.row sz cells) := by
  have hl : cells.length = cs.size := by simpa using h.1.symm
  exact objrel_new (by rw [hl, List.take_of_length_le (by simp)]; exact h) (by omega) (fun j _ => by omega) hw

theorem fold_set (vs : List Value) : ∀ (k off : Nat) (cs : Array Value),
    ((vs.zipIdx k).foldl (fun (cs : Array Value) (x : Value × Nat) => cs.setIfInBounds (off + x.2) x.1) cs).size = cs.size ∧
    ∀ m, ((vs.zipIdx k).foldl (fun (cs : Array Value) (x : Value × Nat) => cs.setIfInBounds (off + x.2) x.1) cs)[m]? = if off + k ≤ m ∧ m < off + k + vs.length ∧ m < cs.size then vs[m - (off + k)]? else cs[m]? := by
  induction vs with
  | nil => intro k off cs; simp; intro m h1 h2; omega
  | cons v r ih =>
    intro k off cs
    obtain ⟨h1, h2⟩ := ih (k + 1) off (cs.setIfInBounds (off + k) v)
    simp only [List.zipIdx_cons, List.foldl_cons]
    refine ⟨by rw [h1]; simp, fun m => ?_⟩
    rw [h2 m]
    simp only [Array.size_setIfInBounds, List.length_cons]
    by_cases hm : m = off + k
    · subst hm
      rw [if_neg (by omega)]
      by_cases hs : off + k < cs.size
      · rw [if_pos (by omega)]; simp [hs]
      · rw [if_neg (by omega), Array.getElem?_eq_none (by simp; omega), Array.getElem?_eq_none (by omega)]
    · rw [Array.getElem?_setIfInBounds_ne (Ne.symm hm)]
      by_cases hc : off + (k + 1) ≤ m ∧ m < off + (k + 1) + r.length ∧ m < cs.size
      · rw [if_pos hc, if_pos (by omega), show m - (off + k) = (m - (off + (k + 1))) + 1 by omega, List.getElem?_cons_succ]
      · rw [if_neg hc, if_neg (by omega)]

theorem splice_get (cells : List AV) (off : Nat) (vs : List AV) (h : off + vs.length ≤ cells.length) (m : Nat) :
    (splice cells off vs)[m]? = if off ≤ m ∧ m < off + vs.length then vs[m - off]? else cells[m]? := by
  unfold splice
  by_cases h1 : m < off
  · rw [List.append_assoc, List.getElem?_append_left (by simp; omega), List.getElem?_take, if_pos h1, if_neg (by omega)]
  · by_cases h2 : m < off + vs.length
    · rw [List.getElem?_append_left (by simp; omega), List.getElem?_append_right (by simp; omega), if_pos (by omega)]
      congr 1; simp; omega
    · rw [List.getElem?_append_right (by simp; omega), List.getElem?_drop, if_neg (by omega)]
      congr 1; simp; omega
theorem splice_length (cells : List AV) (off : Nat) (vs : List AV) (h : off + vs.length ≤ cells.length) : (splice cells off vs).length = cells.length := by
  unfold splice; simp; omega

theorem LRel.set {cells : List AV} {cs : Array Value} (h : LRel K ρ A cells cs.toList) {vs : List AV} {us : Array Value} (hv : LRel K ρ A vs us.toList) (off : Nat) (hl : off + vs.length ≤ cells.length) :
    LRel K ρ A (splice cells off vs) (us.zipIdx.foldl (fun (cs : Array Value) (x : Value × Nat) => cs.setIfInBounds (off + x.2) x.1) cs).toList := by
  have e : us.zipIdx.foldl (fun (cs : Array Value) (x : Value × Nat) => cs.setIfInBounds (off + x.2) x.1) cs = (us.toList.zipIdx 0).foldl (fun (cs : Array Value) (x : Value × Nat) => cs.setIfInBounds (off + x.2) x.1) cs := by
    rw [← Array.foldl_toList]; simp
  obtain ⟨h1, h2⟩ := fold_set us.toList 0 off cs
  have hcl : cs.size = cells.length := by simpa using h.1
  have hul : us.size = vs.length := by simpa using hv.1
  refine ⟨by rw [e, splice_length _ _ _ hl]; simp [h1, hcl], fun j v c hj hc => ?_⟩
  rw [e] at hc
  simp only [Array.getElem?_toList] at hc
  rw [h2 j] at hc
  rw [splice_get _ _ _ hl] at hj
  simp only [Nat.add_zero, Array.length_toList, hul, hcl] at hc
  by_cases hin : off ≤ j ∧ j < off + vs.length
  · rw [if_pos hin] at hj
    rw [if_pos (by omega)] at hc
    exact hv.2 _ v c hj hc
  · rw [if_neg hin] at hj
    rw [if_neg (by omega)] at hc
    exact h.2 j v c hj (by simpa using hc)

theorem fill_rel {place : Nat → Option (Nat × Nat)} : ∀ (ps : List (Nat × AV)) (qs : List (Nat × Value)) (cells : List AV) (cs : Array Value) (res : List AV), ps.length = qs.length →
    (∀ (j : Nat) p q, ps[j]? = some p → qs[j]? = some q → p.1 = q.1 ∧ VRel K ρ A p.2 q.2) → LRel K ρ A cells cs.toList → fillA place cells ps = some res →
    ∃ rc, Instr.fill place cs qs = some rc ∧ LRel K ρ A res rc.toList
  | [], qs, cells, cs, res, hl, _, hc, hf => by
    have : qs = [] := List.eq_nil_of_length_eq_zero (by simpa using hl.symm)
    subst this
    simp only [fillA, Option.some.injEq] at hf
    subst hf
    exact ⟨cs, rfl, hc⟩
  | (i, v) :: ps, qs, cells, cs, res, hl, hp, hc, hf => by
    obtain ⟨⟨i', u⟩, qs, rfl⟩ : ∃ q r, qs = q :: r := by
      cases qs with
      | nil => simp at hl
      | cons q r => exact ⟨q, r, rfl⟩
    obtain ⟨h1, h2⟩ := hp 0 _ _ rfl rfl
    simp only at h1 h2
    subst h1
    simp only [fillA] at hf
    simp only [Instr.fill]
    cases hpl : place i with
    | none => rw [hpl] at hf; cases hf
    | some os =>
      obtain ⟨off, size⟩ := os
      rw [hpl] at hf
      simp only at hf ⊢
      split at hf
      · rename_i hcond
        obtain ⟨a1, a2, a3⟩ := hcond
        have hr := h2.cells a3
        have hus : u.cells.size = size := by have := hr.1; simp at this; omega
        have hcs : cs.size = cells.length := by simpa using hc.1
        rw [if_neg (by simp [hus]; omega)]
        exact fill_rel ps qs _ _ res (by simpa using hl) (fun j p q hj hq => hp (j + 1) p q (by simpa using hj) (by simpa using hq)) (hc.set hr off (by omega)) hf
      · cases hf
end

section
variable {P : Program} {o : Oper} {e : Operand → AV} {H0 : Heap}

theorem eff_pure_k {v : AV} {k : Kt} (hk : PURE v k) (h : ∀ (K : KHeap) (ρ : Nat → Loc) (A : Nat → Prop) (w : World) (ev : Operand → Value), (∀ x ∈ o.op.operands.toList, VRel K ρ A (e x) (ev x)) →
    ∃ cv, (execOp ev o).run P w = .ok (.value cv) w ∧ VRel K ρ A v cv) : ∃ v rd, Eff P o e H0 rd [] [] v ∧ k v rd [] [] := ⟨v, [], Eff.pure h, hk⟩

theorem eff_move {x : Operand} (ho : o.op = .move x ∨ o.op = .assign x) {k : Kt} (hk : PURE (e x) k) : ∃ v rd, Eff P o e H0 rd [] [] v ∧ k v rd [] [] :=
  eff_pure_k hk fun K ρ A w ev hx => ⟨ev x, by rcases ho with ho | ho <;> simp [execOp, ho, Sem.run, pure], hx x (by rcases ho with ho | ho <;> simp [Op.operands, ho])⟩

theorem eff_pick {c a b : Operand} (ho : o.op = .pick c a b) {k : Kt} (hk : PICK (e c) (e a) (e b) k) : ∃ v rd, Eff P o e H0 rd [] [] v ∧ k v rd [] [] := by
  unfold PICK at hk
  split at hk
  · rename_i t ht
    refine eff_pure_k hk fun K ρ A w ev hx => ?_
    have h1 := hx c (by simp [Op.operands, ho])
    have h2 := hx a (by simp [Op.operands, ho])
    have h3 := hx b (by simp [Op.operands, ho])
    rw [ht] at h1
    generalize hc : ev c = cv at h1
    cases h1
    refine ⟨bif t then ev a else ev b, ?_, by cases t <;> assumption⟩
    cases t <;> simp [execOp, ho, hc, asBool, Sem.run_bind, Sem.run_pure]
  · exact hk.elim

/-- What comes of a new row. -/
theorem eff_row {esz : Nat} {cells : List AV} {v : AV} {nx : Nat} {k : Kt} (hk : NEW nx (.row esz cells) v k)
    (h : ∀ (A : Nat → Prop) (ρ : Nat → Loc) (H : Heap) (w : World) (ev : Operand → Value), Sim A ρ H w → (∀ x ∈ o.op.operands.toList, VRel (Kof ρ H w) ρ A (e x) (ev x)) →
      ∃ cv cs el, (execOp ev o).run P w = .ok (.value cv) (w.alloc (.cells cs el (0, 0))) ∧ LRel (Kof ρ H w) ρ A cells cs.toList ∧
        (∀ (K : KHeap) ρ' (A' : Nat → Prop), ρ' nx = ⟨w.heap.size, 0, cs.size, esz⟩ → A' nx → VRel K ρ' A' v cv)) :
    ∃ v rd, Eff P o e H0 rd [nx] [(nx, some (.row esz cells))] v ∧ k v rd [nx] [(nx, some (.row esz cells))] := by
  refine ⟨v, [], Eff.new fun A ρ H w ev s hx _ => ?_, hk⟩
  obtain ⟨cv, cs, el, hr, hR, hv⟩ := h A ρ H w ev s hx
  exact ⟨cv, _, ⟨w.heap.size, 0, cs.size, esz⟩, _, hr, rfl, rfl, rfl, rfl, rfl, fun w' hw => objrel_new' hR hw, hv⟩

theorem vrel_ptr0 {nx : Nat} {b n s : Nat} (K : KHeap) (ρ' : Nat → Loc) (A' : Nat → Prop) (h : ρ' nx = ⟨b, 0, n, s⟩) (hA : A' nx) : VRel K ρ' A' (.ptr nx 0) (.pointer (some ⟨b, 0, none⟩)) :=
  .ptr nx 0 _ hA (by rw [h])

theorem eff_alloc {t : Nat} {a : AT} {i : TypeInfo} {d : TypeDesc} {z : Value} (h : AtOk P t a i d z) (ho : o.op = .alloc t) {nx sz : Nat} {k : Kt} (hk : NEW nx (.row sz a.zero) (.ptr nx 0) k) :
    ∃ v rd, Eff P o e H0 rd [nx] [(nx, some (.row sz a.zero))] v ∧ k v rd [nx] [(nx, some (.row sz a.zero))] := by
  refine eff_row hk fun A ρ H w ev s hx => ⟨.pointer (some ⟨w.heap.size, 0, none⟩), z.cells, t, ?_, by rw [h.cells]; exact LRel.scalars _, fun K ρ' A' h1 h2 => vrel_ptr0 K ρ' A' h1 h2⟩
  simp [execOp, ho, Instr.alloc, zeroValue, typeInfo, program, newVar, newRow, newObj, Sem.run_bind, Sem.run, h.info, h.zero]

theorem eff_box {t : Nat} {x : Operand} (ho : o.op = .box t x) {nx : Nat} {k : Kt} (hs : (e x).sure = true) (hk : NEW nx (.row (e x).cells.length (e x).cells) (.ptr nx 0) k) :
    ∃ v rd, Eff P o e H0 rd [nx] [(nx, some (.row (e x).cells.length (e x).cells))] v ∧ k v rd [nx] [(nx, some (.row (e x).cells.length (e x).cells))] := by
  refine eff_row hk fun A ρ H w ev s hx => ?_
  have hR := (hx x (by simp [Op.operands, ho])).cells hs
  refine ⟨.pointer (some ⟨w.heap.size, 0, none⟩), (ev x).cells, t, ?_, hR, fun K ρ' A' h1 h2 => vrel_ptr0 K ρ' A' h1 h2⟩
  simp [execOp, ho, Instr.box, newVar, newRow, newObj, Sem.run_bind, Sem.run]

theorem eff_nilc {x : Operand} (ho : o.op = .nilCheck x) {k : Kt} (hk : NILC (e x) k) : ∃ v rd, Eff P o e H0 rd [] [] v ∧ k v rd [] [] := by
  have key : ∀ (K : KHeap) (ρ : Nat → Loc) (A : Nat → Prop) (w : World) (ev : Operand → Value), (∀ y ∈ o.op.operands.toList, VRel K ρ A (e y) (ev y)) → ((∃ g off, e x = .ptr g off) ∨ (∃ cs off, e x = .rop cs off) ∨ (∃ f cs, e x = .clo f cs)) →
      ∃ cv, (execOp ev o).run P w = .ok (.value cv) w ∧ VRel K ρ A (e x) cv := by
    intro K ρ A w ev hx hc
    have h1 := hx x (by simp [Op.operands, ho])
    refine ⟨ev x, ?_, h1⟩
    rcases hc with ⟨g, off, hc⟩ | ⟨cs, off, hc⟩ | ⟨f, cs, hc⟩ <;> rw [hc] at h1 <;> generalize hcv : ev x = cv at h1 <;> cases h1 <;> simp [execOp, ho, hcv, Sem.run, pure]
  unfold NILC at hk
  split at hk
  · exact eff_pure_k hk fun K ρ A w ev hx => key K ρ A w ev hx (.inl ⟨_, _, ‹_›⟩)
  · exact eff_pure_k hk fun K ρ A w ev hx => key K ρ A w ev hx (.inr (.inl ⟨_, _, ‹_›⟩))
  · exact eff_pure_k hk fun K ρ A w ev hx => key K ρ A w ev hx (.inr (.inr ⟨_, _, ‹_›⟩))
  · exact hk.elim

theorem eff_extr {x : Operand} {i : Nat} (ho : o.op = .extract x i) {k : Kt} (hk : EXTR (e x) i k) : ∃ v rd, Eff P o e H0 rd [] [] v ∧ k v rd [] [] := by
  unfold EXTR at hk
  split at hk
  · rename_i vs hvs
    split at hk
    · rename_i v hv
      refine eff_pure_k hk fun K ρ A w ev hx => ?_
      have h1 := hx x (by simp [Op.operands, ho])
      rw [hvs] at h1
      generalize hcv : ev x = cv at h1
      cases h1 with
      | tup _ cs hl hR =>
        have hlt := (List.getElem?_eq_some_iff.1 hv).1
        have hc : cs[i]? = some cs[i] := Array.getElem?_eq_getElem (by omega)
        exact ⟨_, by simp [execOp, ho, hcv, Instr.extract, hc, Sem.run_bind, Sem.run_pure], hR i v _ hv hc⟩
    · exact hk.elim
  · exact hk.elim
end
end Go.Proofs.YtejohcohkgcmhaaDoor
namespace Go.Proofs.YtejohcohkgcmhaaDoor
open Go Go.RowKit

section
variable {P : Program} {T : Nat → Option AT} {o : Oper} {e : Operand → AV} {H0 : Heap}

theorem struct_und {t : Nat} {fs : List (Nat × Nat)} {s b : Nat} {z0 : List AV} {i : TypeInfo} {d : TypeDesc} {z : Value} (h : AtOk P t ⟨.struct fs, s, b, z0⟩ i d z) :
    ∃ fields : Array Field, P.underlying t = some (.struct fields) ∧ fs = fields.toList.map fun f => (f.type, f.offset) := by
  have hk := h.kind
  cases d <;> simp only [kindOf] at hk <;> cases hk
  exact ⟨_, h.und, rfl⟩
theorem slice_und {t el : Nat} {s b : Nat} {z0 : List AV} {i : TypeInfo} {d : TypeDesc} {z : Value} (h : AtOk P t ⟨.slice el, s, b, z0⟩ i d z) : P.underlying t = some (.slice el) := by
  have hk := h.kind
  cases d <;> simp only [kindOf] at hk <;> cases hk
  exact h.und
theorem array_und {t n el : Nat} {s b : Nat} {z0 : List AV} {i : TypeInfo} {d : TypeDesc} {z : Value} (h : AtOk P t ⟨.array n el, s, b, z0⟩ i d z) : P.underlying t = some (.array n el) := by
  have hk := h.kind
  cases d <;> simp only [kindOf] at hk <;> cases hk
  exact h.und
theorem str_und {t : Nat} {s b : Nat} {z0 : List AV} {i : TypeInfo} {d : TypeDesc} {z : Value} (h : AtOk P t ⟨.str, s, b, z0⟩ i d z) : P.underlying t = some .string := by
  have hk := h.kind
  cases d <;> simp only [kindOf] at hk <;> cases hk
  exact h.und
theorem int_und {t : Nat} {k : IntKind} {s b : Nat} {z0 : List AV} {i : TypeInfo} {d : TypeDesc} {z : Value} (h : AtOk P t ⟨.int k, s, b, z0⟩ i d z) : P.underlying t = some (.int k) := by
  have hk := h.kind
  cases d <;> simp only [kindOf] at hk <;> cases hk
  exact h.und
theorem map_und {t k el : Nat} {s b : Nat} {z0 : List AV} {i : TypeInfo} {d : TypeDesc} {z : Value} (h : AtOk P t ⟨.map k el, s, b, z0⟩ i d z) : P.underlying t = some (.map k el) := by
  have hk := h.kind
  cases d <;> simp only [kindOf] at hk <;> cases hk
  exact h.und

theorem sizeT_pos (hT : TOk P T) {t : Nat} (h : sizeT T t ≠ 0) (w : World) : (sizeOf t).run P w = .ok (sizeT T t) w := by
  unfold sizeT at *
  cases ht : T t with
  | none => rw [ht] at h; simp at h
  | some a => obtain ⟨i, d, z, ha⟩ := hT.at ht; exact run_sizeOf_of ha w

theorem eff_faddr (hT : TOk P T) {t f off sz : Nat} {x : Operand} {fs : List (Nat × Nat)} {s b : Nat} {z0 : List AV} {i : TypeInfo} {d : TypeDesc} {z : Value} (h : AtOk P t ⟨.struct fs, s, b, z0⟩ i d z)
    (hp : placeOf T fs f = some (off, sz)) (hsz : sz ≠ 0) (ho : o.op = .fieldAddr t x f) {k : Kt} (hk : FADDR off (e x) k) : ∃ v rd, Eff P o e H0 rd [] [] v ∧ k v rd [] [] := by
  obtain ⟨fields, hu, rfl⟩ := struct_und h
  unfold placeOf at hp
  split at hp
  · rename_i ft fo hf
    simp only [Option.some.injEq, Prod.mk.injEq] at hp
    obtain ⟨rfl, rfl⟩ := hp
    simp only [List.getElem?_map, Option.map_eq_some_iff, Array.getElem?_toList, Prod.mk.injEq] at hf
    obtain ⟨fl, hfl, rfl, rfl⟩ := hf
    have hso := fun w => sizeT_pos hT hsz w
    have key : ∀ (a : Addr) (w : World) (ev : Operand → Value), ev x = .pointer (some a) → (execOp ev o).run P w = .ok (.value (.pointer (some (a.add fl.offset)))) w := by
      intro a w ev hev
      simp [execOp, ho, Instr.fieldAt, hev, Instr.sureAddr, fieldPlace, Sem.run_bind, Sem.run_pure, run_underlying hu, hfl, hso, hsz]
    unfold FADDR at hk
    split at hk
    · rename_i g q hx
      refine eff_pure_k hk fun K ρ A w ev hr => ?_
      have h1 := hr x (by simp [Op.operands, ho])
      rw [hx] at h1
      generalize hcv : ev x = cv at h1
      cases h1 with
      | ptr _ _ a hA ha =>
        subst ha
        exact ⟨_, key _ w ev hcv, .ptr _ _ _ hA (by rw [add_addr, Nat.add_assoc])⟩
    · rename_i cs q hx
      refine eff_pure_k hk fun K ρ A w ev hr => ?_
      have h1 := hr x (by simp [Op.operands, ho])
      rw [hx] at h1
      generalize hcv : ev x = cv at h1
      cases h1 with
      | rop _ _ b p a C ha h2 h3 =>
        subst ha
        exact ⟨_, key _ w ev hcv, .rop _ _ b p _ C (by rw [add_addr, Nat.add_assoc]) h2 h3⟩
    · exact hk.elim
  · cases hp

/-- A part of an aggregate. -/
theorem run_part_of {t : Nat} {a : AT} {i : TypeInfo} {d : TypeDesc} {z : Value} (h : AtOk P t a i d z) {K : KHeap} {ρ : Nat → Loc} {A : Nat → Prop} {w : World} {cells : List AV} {cs : Array Value} {off : Nat} {v : AV}
    (hc : LRel K ρ A cells cs.toList) (hl : ldv a.kind.isAgg a.size cells off = some v) : ∃ cv, (Go.part t cs off).run P w = .ok cv w ∧ VRel K ρ A v cv := by
  unfold ldv at hl
  unfold Go.part
  simp only [Sem.run_bind, run_isAgg_of h, Result.andThen_ok]
  cases hag : a.kind.isAgg with
  | true =>
    simp only [hag, cond_true] at hl
    split at hl
    · obtain rfl := Option.some.inj hl
      simp only [Sem.run_bind, run_sizeOf_of h, Result.andThen_ok, if_true, Sem.run_pure]
      refine ⟨_, rfl, LRel.agg ?_⟩
      rw [Array.toList_extract]
      simp only [List.extract_eq_drop_take']
      rw [List.drop_take, show off + a.size - off = a.size by omega]
      exact (hc.drop off).take a.size
    · cases hl
  | false =>
    simp only [hag, cond_false] at hl
    obtain ⟨c, h1, h2⟩ := hc.get hl
    simp only [Array.getElem?_toList] at h1
    exact ⟨c, by simp [h1, Sem.run_pure], h2⟩

theorem eff_field {t ft f off : Nat} {a : AT} {x : Operand} {fs : List (Nat × Nat)} {s b : Nat} {z0 : List AV} {i i' : TypeInfo} {d d' : TypeDesc} {z z' : Value} (h : AtOk P t ⟨.struct fs, s, b, z0⟩ i d z)
    (hf : fs[f]? = some (ft, off)) (ha : AtOk P ft a i' d' z') (ho : o.op = .field t x f) {k : Kt} (hk : FIELD a.kind.isAgg a.size off (e x) k) : ∃ v rd, Eff P o e H0 rd [] [] v ∧ k v rd [] [] := by
  obtain ⟨fields, hu, rfl⟩ := struct_und h
  simp only [List.getElem?_map, Option.map_eq_some_iff, Array.getElem?_toList, Prod.mk.injEq] at hf
  obtain ⟨fl, hfl, rfl, rfl⟩ := hf
  unfold FIELD at hk
  split at hk
  · rename_i cs hx
    split at hk
    · rename_i v hv
      refine eff_pure_k hk fun K ρ A w ev hr => ?_
      have h1 := hr x (by simp [Op.operands, ho])
      rw [hx] at h1
      generalize hcv : ev x = cv at h1
      cases h1 with
      | agg _ vs hl hR =>
        obtain ⟨u, hrun, hu2⟩ := run_part_of (P := P) (w := w) ha (K := K) (ρ := ρ) (A := A) (cells := cs) (cs := vs) ⟨by simpa using hl, fun j v c h1 h2 => hR j v c h1 (by simpa using h2)⟩ hv
        refine ⟨u, ?_, hu2⟩
        simp [execOp, ho, Instr.field, hcv, asAgg, Sem.run_bind, Sem.run_pure, run_underlying hu, hfl, hrun]
    · exact hk.elim
  · exact hk.elim

theorem eff_aindex {t el n : Nat} {a : AT} {x ix : Operand} {s b : Nat} {z0 : List AV} {i i' : TypeInfo} {d d' : TypeDesc} {z z' : Value} (h : AtOk P t ⟨.array n el, s, b, z0⟩ i d z)
    (ha : AtOk P el a i' d' z') (ho : o.op = .index t x ix) {k : Kt} (hk : AINDEX a.kind.isAgg a.size n (e x) (e ix) k) : ∃ v rd, Eff P o e H0 rd [] [] v ∧ k v rd [] [] := by
  have hu := array_und h
  unfold AINDEX at hk
  split at hk
  · rename_i ki m hix
    obtain ⟨h0, h1, hk⟩ := hk
    unfold FIELD at hk
    split at hk
    · rename_i cs hx
      split at hk
      · rename_i v hv
        refine eff_pure_k hk fun K ρ A w ev hr => ?_
        have r1 := hr x (by simp [Op.operands, ho])
        have r2 := hr ix (by simp [Op.operands, ho])
        rw [hx] at r1
        rw [hix] at r2
        generalize hcv : ev x = cv at r1
        generalize hci : ev ix = ci at r2
        cases r2
        cases r1 with
        | agg _ vs hl hR =>
          obtain ⟨u, hrun, hu2⟩ := run_part_of (P := P) (w := w) ha (K := K) (ρ := ρ) (A := A) (cells := cs) (cs := vs) ⟨by simpa using hl, fun j v c h1 h2 => hR j v c h1 (by simpa using h2)⟩ hv
          refine ⟨u, ?_, hu2⟩
          simp [execOp, ho, Instr.index, hcv, hci, asIntOf, Sem.run_bind, Sem.run_pure, run_underlying hu, h0, h1, run_sizeOf_of ha, hrun]
      · exact hk.elim
    · exact hk.elim
  · exact hk.elim

theorem eff_index {t : Nat} {x ix : Operand} {s b : Nat} {z0 : List AV} {i : TypeInfo} {d : TypeDesc} {z : Value} (h : AtOk P t ⟨.str, s, b, z0⟩ i d z) (ho : o.op = .index t x ix) {k : Kt} (hk : INDEX (e x) (e ix) k) :
    ∃ v rd, Eff P o e H0 rd [] [] v ∧ k v rd [] [] := by
  have hu := str_und h
  unfold INDEX at hk
  split at hk
  · rename_i ki m hix
    split at hk
    · rename_i l hx
      obtain ⟨h0, h1, hk⟩ := hk
      refine eff_pure_k hk fun K ρ A w ev hr => ?_
      have r1 := hr x (by simp [Op.operands, ho])
      have r2 := hr ix (by simp [Op.operands, ho])
      rw [hx] at r1
      rw [hix] at r2
      generalize hcv : ev x = cv at r1
      generalize hci : ev ix = ci at r2
      cases r2
      cases r1
      have hlt : m.toNat < l.length := by omega
      have hget : (ByteArray.mk l.toArray)[m.toNat]? = some l[m.toNat] := by
        rw [getElem?_pos (ByteArray.mk l.toArray) m.toNat (by show m.toNat < l.toArray.size; simpa using hlt)]
        rfl
      refine ⟨.int .u8 (l[m.toNat].toNat : Int), ?_, ?_⟩
      · simp [execOp, ho, Instr.index, hcv, hci, asIntOf, Sem.run_bind, Sem.run_pure, run_underlying hu, h0, hget]
      · rw [List.getD_eq_getElem?_getD, List.getElem?_eq_getElem hlt]
        exact .int _ _
    · exact hk.elim
  · exact hk.elim


theorem eff_lens {t : Nat} {x : Operand} {s b : Nat} {z0 : List AV} {i : TypeInfo} {d : TypeDesc} {z : Value} (h : AtOk P t ⟨.str, s, b, z0⟩ i d z) (ho : o.op = .call { callee := .builtin .len, args := #[x], argTypes := #[t] }) {k : Kt}
    (hk : LENS (e x) k) : ∃ v rd, Eff P o e H0 rd [] [] v ∧ k v rd [] [] := by
  have hu := str_und h
  unfold LENS at hk
  split at hk
  · rename_i l hx
    refine eff_pure_k hk fun K ρ A w ev hr => ?_
    have r1 := hr x (by simp [Op.operands, Call.operands, ho])
    rw [hx] at r1
    generalize hcv : ev x = cv at r1
    cases r1
    refine ⟨.int .i64 (l.length : Int), ?_, .int _ _⟩
    simp only [execOp, ho, resolve, invoke, builtin, Sem.run_bind, Sem.run_pure, Result.andThen_ok, List.map_toArray, List.map_cons, List.map_nil, hcv]
    have hsz : (ByteArray.mk l.toArray).size = l.length := by show l.toArray.size = _; simp
    simp [Builtin.len_, Sem.run_bind, Sem.run_pure, run_underlying hu, goInt, hsz]
  · exact hk.elim
theorem eff_lenl {t el : Nat} {x : Operand} {s b : Nat} {z0 : List AV} {i : TypeInfo} {d : TypeDesc} {z : Value} (h : AtOk P t ⟨.slice el, s, b, z0⟩ i d z) (ho : o.op = .call { callee := .builtin .len, args := #[x], argTypes := #[t] }) {k : Kt}
    (hk : LENL (e x) k) : ∃ v rd, Eff P o e H0 rd [] [] v ∧ k v rd [] [] := by
  have hu := slice_und h
  have key : ∀ (w : World) (ev : Operand → Value) a n c, ev x = .slice a n c → (execOp ev o).run P w = .ok (.value (.int .i64 (n : Int))) w := by
    intro w ev a n c hcv
    simp only [execOp, ho, resolve, invoke, builtin, Sem.run_bind, Sem.run_pure, Result.andThen_ok, List.map_toArray, List.map_cons, List.map_nil, hcv]
    simp [Builtin.len_, Sem.run_bind, Sem.run_pure, run_underlying hu, goInt]
  unfold LENL at hk
  split at hk
  all_goals first | exact hk.elim | skip
  all_goals
    rename_i hx
    refine eff_pure_k hk fun K ρ A w ev hr => ?_
    have r1 := hr x (by simp [Op.operands, Call.operands, ho])
    rw [hx] at r1
    generalize hcv : ev x = cv at r1
  · cases r1; exact ⟨_, key w ev _ _ _ hcv, .int _ _⟩
  · cases r1; exact ⟨_, key w ev _ _ _ hcv, .int _ _⟩
  · cases r1; exact ⟨_, key w ev _ _ _ hcv, .int _ _⟩
  · cases r1 with
    | ro _ a len cap sz b off C h1 h2 h3 h4 h5 h6 => subst h1; exact ⟨_, key w ev _ _ _ hcv, .int _ _⟩

theorem eff_lenm {t el kt : Nat} {x : Operand} {s b : Nat} {z0 : List AV} {i : TypeInfo} {d : TypeDesc} {z : Value} (h : AtOk P t ⟨.map kt el, s, b, z0⟩ i d z) (ho : o.op = .call { callee := .builtin .len, args := #[x], argTypes := #[t] }) {k : Kt}
    (hk : LENM (e x) H0 k) : ∃ v rd, Eff P o e H0 rd [] [] v ∧ k v rd [] [] := by
  have hu := map_und h
  unfold LENM at hk
  split at hk
  · rename_i hx
    refine eff_pure_k hk fun K ρ A w ev hr => ?_
    have r1 := hr x (by simp [Op.operands, Call.operands, ho])
    rw [hx] at r1
    generalize hcv : ev x = cv at r1
    cases r1
    refine ⟨.int .i64 0, ?_, .int _ _⟩
    simp only [execOp, ho, resolve, invoke, builtin, Sem.run_bind, Sem.run_pure, Result.andThen_ok, List.map_toArray, List.map_cons, List.map_nil, hcv]
    simp [Builtin.len_, Sem.run_bind, Sem.run_pure, run_underlying hu, goInt]
  · rename_i g hx
    split at hk
    · rename_i es hg
      refine ⟨_, _, Eff.read fun A ρ H w ev s hr hrd => ?_, hk⟩
      have r1 := hr x (by simp [Op.operands, Call.operands, ho])
      rw [hx] at r1
      generalize hcv : ev x = cv at r1
      cases r1 with
      | amap _ r hA hrr =>
        subst hrr
        obtain ⟨en, cl, h1, h2, h3⟩ := s.obj g _ (by rw [hrd g (by simp)]; exact hg)
        refine ⟨.int .i64 (en.size : Int), ?_, by rw [h2]; exact .int _ _⟩
        simp only [execOp, ho, resolve, invoke, builtin, Sem.run_bind, Sem.run_pure, Result.andThen_ok, List.map_toArray, List.map_cons, List.map_nil, hcv]
        simp [Builtin.len_, Sem.run_bind, Sem.run_pure, run_underlying hu, goInt, getObj, Sem.run, h1]
    · exact hk.elim
  · exact hk.elim

theorem getD_lt {xs : List (List AV)} {i : Nat} (h : i < xs.length) : xs[i]? = some (xs.getD i []) := by
  rw [List.getD_eq_getElem?_getD, List.getElem?_eq_getElem h]; rfl

theorem eff_iaddr (hT : TOk P T) {t el : Nat} {x ix : Operand} {s b : Nat} {z0 : List AV} {i : TypeInfo} {d : TypeDesc} {z : Value} (h : AtOk P t ⟨.slice el, s, b, z0⟩ i d z) (hsz : sizeT T el ≠ 0) (ho : o.op = .indexAddr t x ix) {k : Kt}
    (hk : IADDR (sizeT T el) (e x) (e ix) k) : ∃ v rd, Eff P o e H0 rd [] [] v ∧ k v rd [] [] := by
  have hu := slice_und h
  have hso := fun w => sizeT_pos hT hsz w
  have key : ∀ (w : World) (ev : Operand → Value) a n c ki m, ev x = .slice (some a) n c → ev ix = .int ki m → 0 ≤ m → m < n → (execOp ev o).run P w = .ok (.value (.pointer (some (a.add (m.toNat * sizeT T el))))) w := by
    intro w ev a n c ki m hcv hci h0 h1
    simp [execOp, ho, Instr.indexAt, hcv, hci, asIntOf, Sem.run_bind, Sem.run_pure, run_underlying hu, h0, h1, hso]
  unfold IADDR at hk
  split at hk
  · rename_i ki m hix
    split at hk
    · rename_i g off len hx
      obtain ⟨h0, h1, hk⟩ := hk
      refine eff_pure_k hk fun K ρ A w ev hr => ?_
      have r1 := hr x (by simp [Op.operands, ho])
      have r2 := hr ix (by simp [Op.operands, ho])
      rw [hx] at r1
      rw [hix] at r2
      generalize hcv : ev x = cv at r1
      generalize hci : ev ix = ci at r2
      cases r2
      cases r1 with
      | slc _ _ _ cap a hA hle hcap =>
        obtain ⟨_, rfl⟩ := hcap (by omega)
        exact ⟨_, key w ev _ _ _ _ _ hcv hci h0 h1, .ptr _ _ _ hA (by rw [add_addr, Nat.add_assoc])⟩
    · rename_i xs hx
      obtain ⟨h0, h1, h2, hk⟩ := hk
      have hlt : m.toNat < xs.length := by omega
      have hget := getD_lt hlt
      refine eff_pure_k hk fun K ρ A w ev hr => ?_
      have r1 := hr x (by simp [Op.operands, ho])
      have r2 := hr ix (by simp [Op.operands, ho])
      rw [hx] at r1
      rw [hix] at r2
      generalize hcv : ev x = cv at r1
      generalize hci : ev ix = ci at r2
      cases r2
      cases r1 with
      | ro _ a len cap sz b off C e1 e2 e3 e4 e5 e6 =>
        subst e1
        have hne : xs ≠ [] := by intro h; rw [h] at hlt; simp at hlt
        obtain rfl := e3 hne
        have hs : sz = sizeT T el := by rw [← h2]; exact (e4 _ (List.mem_of_getElem? hget)).symm
        subst hs
        exact ⟨_, key w ev _ _ _ _ _ hcv hci h0 h1, .rop _ 0 b (off + m.toNat * sizeT T el) _ (C m.toNat) (by rw [add_addr, Nat.add_zero]) (fun j v hv => e5 _ _ j v hget hv) (fun j v hv => e6 _ _ j v hget hv)⟩
    · exact hk.elim
  · exact hk.elim

theorem eff_aaddr (hT : TOk P T) {t el n : Nat} {x ix : Operand} {s b : Nat} {z0 : List AV} {i : TypeInfo} {d : TypeDesc} {z : Value} (h : AtOk P t ⟨.array n el, s, b, z0⟩ i d z) (hsz : sizeT T el ≠ 0) (ho : o.op = .indexAddr t x ix) {k : Kt}
    (hk : AADDR (sizeT T el) n (e x) (e ix) k) : ∃ v rd, Eff P o e H0 rd [] [] v ∧ k v rd [] [] := by
  have hu := array_und h
  have hso := fun w => sizeT_pos hT hsz w
  have key : ∀ (w : World) (ev : Operand → Value) a ki m, ev x = .pointer (some a) → ev ix = .int ki m → 0 ≤ m → m < n → (execOp ev o).run P w = .ok (.value (.pointer (some (a.add (m.toNat * sizeT T el))))) w := by
    intro w ev a ki m hcv hci h0 h1
    simp [execOp, ho, Instr.indexAt, hcv, hci, asIntOf, Instr.sureAddr, Sem.run_bind, Sem.run_pure, run_underlying hu, h0, h1, hso]
  unfold AADDR at hk
  split at hk
  · rename_i ki m hix
    obtain ⟨h0, h1, hk⟩ := hk
    split at hk
    · rename_i g off hx
      refine eff_pure_k hk fun K ρ A w ev hr => ?_
      have r1 := hr x (by simp [Op.operands, ho])
      have r2 := hr ix (by simp [Op.operands, ho])
      rw [hx] at r1
      rw [hix] at r2
      generalize hcv : ev x = cv at r1
      generalize hci : ev ix = ci at r2
      cases r2
      cases r1 with
      | ptr _ _ a hA ha =>
        subst ha
        exact ⟨_, key w ev _ _ _ hcv hci h0 h1, .ptr _ _ _ hA (by rw [add_addr, Nat.add_assoc])⟩
    · rename_i cs off hx
      refine eff_pure_k hk fun K ρ A w ev hr => ?_
      have r1 := hr x (by simp [Op.operands, ho])
      have r2 := hr ix (by simp [Op.operands, ho])
      rw [hx] at r1
      rw [hix] at r2
      generalize hcv : ev x = cv at r1
      generalize hci : ev ix = ci at r2
      cases r2
      cases r1 with
      | rop _ _ b p a C ha e5 e6 =>
        subst ha
        exact ⟨_, key w ev _ _ _ hcv hci h0 h1, .rop _ _ b p _ C (by rw [add_addr, Nat.add_assoc]) e5 e6⟩
    · exact hk.elim
  · exact hk.elim

theorem parts_rel {K : KHeap} {ρ : Nat → Loc} {A : Nat → Prop} {ev : Operand → Value} {ps : Array (Nat × Operand)} (h : ∀ x ∈ (ps.toList.map (·.2)), VRel K ρ A (e x) (ev x)) :
    (ps.toList.map fun p => (p.1, e p.2)).length = ((ps.map fun p => (p.1, ev p.2)).toList).length ∧
    ∀ (j : Nat) p q, (ps.toList.map fun p => (p.1, e p.2))[j]? = some p → ((ps.map fun p => (p.1, ev p.2)).toList)[j]? = some q → p.1 = q.1 ∧ VRel K ρ A p.2 q.2 := by
  refine ⟨by simp, fun j p q hp hq => ?_⟩
  simp only [Array.toList_map, List.getElem?_map, Option.map_eq_some_iff] at hp hq
  obtain ⟨x, hx, rfl⟩ := hp
  obtain ⟨y, hy, rfl⟩ := hq
  rw [hx] at hy
  obtain rfl := Option.some.inj hy
  exact ⟨rfl, h _ (List.mem_map.2 ⟨x, List.mem_of_getElem? hx, rfl⟩)⟩

theorem run_zeroValue_of {t : Nat} {a : AT} {i : TypeInfo} {d : TypeDesc} {z : Value} (h : AtOk P t a i d z) (w : World) : (zeroValue t).run P w = .ok z w := by
  simp [zeroValue, typeInfo, program, Sem.run_bind, Sem.run, h.info, h.zero]

theorem eff_build_arr (hT : TOk P T) {t el n : Nat} {ps : Array (Nat × Operand)} {s b : Nat} {z0 : List AV} {i : TypeInfo} {d : TypeDesc} {z : Value} (h : AtOk P t ⟨.array n el, s, b, z0⟩ i d z) (hsz : sizeT T el ≠ 0) (ho : o.op = .build t ps) {k : Kt}
    (hk : BUILD (fun i => some (i * sizeT T el, sizeT T el)) z0 (ps.toList.map fun p => (p.1, e p.2)) k) : ∃ v rd, Eff P o e H0 rd [] [] v ∧ k v rd [] [] := by
  have hu := array_und h
  have hso := fun w => sizeT_pos hT hsz w
  unfold BUILD at hk
  split at hk
  · rename_i cells hf
    refine eff_pure_k hk fun K ρ A w ev hr => ?_
    obtain ⟨p1, p2⟩ := parts_rel (K := K) (ρ := ρ) (A := A) (ev := ev) (e := e) (ps := ps) (fun x hx => hr x (by simpa [Op.operands, ho] using hx))
    obtain ⟨rc, hrc, hR⟩ := fill_rel _ _ z0 z.cells cells p1 p2 (by have := h.cells; simp only at this; rw [this]; exact LRel.scalars _) hf
    refine ⟨.agg rc, ?_, LRel.agg hR⟩
    simp [execOp, ho, Instr.build, Sem.run_bind, Sem.run_pure, run_underlying hu, run_zeroValue_of h, hso]
    simp at hrc
    simp [hrc, Sem.run_pure]
  · exact hk.elim
end
end Go.Proofs.YtejohcohkgcmhaaDoor
namespace Go.Proofs.YtejohcohkgcmhaaDoor
open Go Go.RowKit

section
variable {P : Program} {T : Nat → Option AT} {o : Oper} {e : Operand → AV} {H0 : Heap}

theorem run_places (hT : TOk P T) (w : World) : ∀ (fields : List Field) (acc : Array (Nat × Nat)), (∀ f ∈ fields, sizeT T f.type ≠ 0) →
    (Sem.run P (List.foldlM (fun (acc : Array (Nat × Nat)) (f : Field) => acc.push <$> (do pure (f.offset, ← sizeOf f.type) : Sem (Nat × Nat))) acc fields) w) = .ok (acc ++ (fields.map fun f => (f.offset, sizeT T f.type)).toArray) w
  | [], acc, _ => by simp [Sem.run, pure]
  | f :: r, acc, h => by
    have hs := sizeT_pos hT (h f (by simp)) w
    have ih := run_places hT w r (acc.push (f.offset, sizeT T f.type)) fun x hx => h x (by simp [hx])
    have hf : (acc.push <$> (do pure (f.offset, ← sizeOf f.type) : Sem (Nat × Nat))) = ((do pure (f.offset, ← sizeOf f.type) : Sem (Nat × Nat)) >>= fun x => pure (acc.push x)) := rfl
    simp only [List.foldlM_cons, hf, Sem.run_bind, hs, Result.andThen_ok, Sem.run_pure, ih]
    congr 1
    apply Array.ext'
    simp
theorem run_places' (hT : TOk P T) (w : World) (fields : Array Field) (h : ∀ f ∈ fields.toList, sizeT T f.type ≠ 0) :
    (Sem.run P (fields.mapM fun f => do pure (f.offset, ← sizeOf f.type)) w) = .ok (fields.map fun f => (f.offset, sizeT T f.type)) w := by
  rw [Array.mapM_eq_foldlM]
  have := run_places hT w fields.toList #[] h
  rw [Array.foldlM_toList] at this
  rw [this]
  congr 1
  apply Array.ext'
  simp

theorem eff_build_struct (hT : TOk P T) {t : Nat} {fs : List (Nat × Nat)} {ps : Array (Nat × Operand)} {s b : Nat} {z0 : List AV} {i : TypeInfo} {d : TypeDesc} {z : Value} (h : AtOk P t ⟨.struct fs, s, b, z0⟩ i d z)
    (hsz : (fs.all fun p => sizeT T p.1 != 0) = true) (ho : o.op = .build t ps) {k : Kt}
    (hk : BUILD (placeOf T fs) z0 (ps.toList.map fun p => (p.1, e p.2)) k) : ∃ v rd, Eff P o e H0 rd [] [] v ∧ k v rd [] [] := by
  obtain ⟨fields, hu, rfl⟩ := struct_und h
  have hall : ∀ f ∈ fields.toList, sizeT T f.type ≠ 0 := by
    intro f hf
    have := List.all_eq_true.1 hsz (f.type, f.offset) (List.mem_map.2 ⟨f, hf, rfl⟩)
    simpa using this
  unfold BUILD at hk
  split at hk
  · rename_i cells hf
    refine eff_pure_k hk fun K ρ A w ev hr => ?_
    obtain ⟨p1, p2⟩ := parts_rel (K := K) (ρ := ρ) (A := A) (ev := ev) (e := e) (ps := ps) (fun x hx => hr x (by simpa [Op.operands, ho] using hx))
    obtain ⟨rc, hrc, hR⟩ := fill_rel _ _ z0 z.cells cells p1 p2 (by have := h.cells; simp only at this; rw [this]; exact LRel.scalars _) hf
    have hpl : placeOf T (fields.toList.map fun f => (f.type, f.offset)) = ((fields.map fun f => (f.offset, sizeT T f.type))[·]?) := by
      funext j
      unfold placeOf
      simp only [List.getElem?_map, Array.getElem?_map, Array.getElem?_toList]
      cases fields[j]? <;> rfl
    rw [hpl] at hrc
    refine ⟨.agg rc, ?_, LRel.agg hR⟩
    have hp := run_places' hT w fields hall
    simp only [execOp, ho, Instr.build, Sem.run_bind, run_underlying hu, run_zeroValue_of h, Result.andThen_ok, hp]
    simp only [Array.toList_map] at hrc ⊢
    simp only [hrc, Sem.run_pure, Result.andThen_ok]
  · exact hk.elim

theorem zero_rows (cs : Array Value) (n m : Nat) (h : cs.size = m) (hm : 0 < m) : ((Array.range (n * m)).map (cs[· % cs.size]!)).toList = (List.replicate n cs.toList).flatten := by
  apply List.ext_getElem?
  intro j
  simp only [Array.toList_map, Array.toList_range, List.getElem?_map]
  induction n generalizing j with
  | zero => simp
  | succ n ih =>
    simp only [List.replicate_succ, List.flatten_cons]
    by_cases hj : j < m
    · rw [List.getElem?_append_left (by simpa [h] using hj)]
      have : j < (n + 1) * m := by rw [Nat.add_mul]; omega
      simp only [List.getElem?_range this, Option.map_some]
      rw [h, Nat.mod_eq_of_lt hj, Array.getElem?_toList, getElem!_def]
      have : cs[j]? = some (cs[j]'(by omega)) := Array.getElem?_eq_getElem (by omega)
      rw [this]
    · rw [List.getElem?_append_right (by simpa [h] using Nat.le_of_not_lt hj)]
      have ihj := ih (j - m)
      simp only [Array.length_toList, h]
      rw [← ihj]
      by_cases hlt : j < (n + 1) * m
      · have h2 : j - m < n * m := by rw [Nat.add_mul] at hlt; omega
        simp only [List.getElem?_range hlt, List.getElem?_range h2, Option.map_some, h]
        rw [show j % m = (j - m) % m by rw [Nat.mod_eq_sub_mod (by omega)]]
      · have h2 : ¬ j - m < n * m := by rw [Nat.add_mul] at hlt; omega
        rw [List.getElem?_eq_none (by simpa using Nat.le_of_not_lt hlt), List.getElem?_eq_none (by simpa using Nat.le_of_not_lt h2)]
        rfl

theorem AtOk.zsize {t : Nat} {a : AT} {i : TypeInfo} {d : TypeDesc} {z : Value} (h : AtOk P t a i d z) : z.cells.size = a.zero.length := by rw [h.cells]; simp

theorem vrel_slc0 {nx : Nat} {b n tot s : Nat} {c : Nat} (hc : c * s ≤ tot) (hn : n ≤ c) (K : KHeap) (ρ' : Nat → Loc) (A' : Nat → Prop) (h : ρ' nx = ⟨b, 0, tot, s⟩) (hA : A' nx) : VRel K ρ' A' (.slc nx 0 n) (.slice (some ⟨b, 0, none⟩) n c) :=
  .slc nx 0 n c _ hA hn fun _ => by rw [h]; exact ⟨by simpa using hc, rfl⟩

theorem flatten_length (xs : List AV) (n : Nat) : (List.replicate n xs).flatten.length = n * xs.length := by simp

theorem fillA_length {place : Nat → Option (Nat × Nat)} : ∀ (ps : List (Nat × AV)) (cells res : List AV), fillA place cells ps = some res → res.length = cells.length
  | [], cells, res, h => by simp only [fillA, Option.some.injEq] at h; rw [h]
  | (i, v) :: ps, cells, res, h => by
    simp only [fillA] at h
    split at h
    · cases h
    · split at h
      · rename_i hc
        rw [fillA_length ps _ _ h, splice_length _ _ _ (by omega)]
      · cases h

theorem eff_bslice {t el len : Nat} {a : AT} {ps : Array (Nat × Operand)} {s b : Nat} {z0 : List AV} {i i' : TypeInfo} {d d' : TypeDesc} {z z' : Value} (h : AtOk P t ⟨.slice el, s, b, z0⟩ i d z) (ha : AtOk P el a i' d' z')
    (hzl : a.zero.length = a.size) (hpos : 0 < a.size) (h24 : len * a.size ≤ 16777216) (ho : o.op = .buildSlice t len ps) {nx : Nat} {k : Kt}
    (hk : BSLICE len a.size a.zero (ps.toList.map fun p => (p.1, e p.2)) nx k) : ∃ v rd cells, Eff P o e H0 rd [nx] [(nx, some (.row a.size cells))] v ∧ k v rd [nx] [(nx, some (.row a.size cells))] := by
  have hu := slice_und h
  unfold BSLICE at hk
  split at hk
  · rename_i cells hf
    have hlen := fillA_length _ _ _ hf
    rw [flatten_length, hzl] at hlen
    obtain ⟨v, rd, h1, h2⟩ : ∃ v rd, Eff P o e H0 rd [nx] [(nx, some (.row a.size cells))] v ∧ k v rd [nx] [(nx, some (.row a.size cells))] := by
      refine eff_row hk fun A ρ H w ev s hr => ?_
      obtain ⟨p1, p2⟩ := parts_rel (K := Kof ρ H w) (ρ := ρ) (A := A) (ev := ev) (e := e) (ps := ps) (fun x hx => hr x (by simpa [Op.operands, ho] using hx))
      obtain ⟨rc, hrc, hR⟩ := fill_rel _ _ _ ((Array.range (len * a.size)).map (z'.cells[· % z'.cells.size]!)) cells p1 p2 (by
        rw [zero_rows z'.cells len a.size (by rw [ha.zsize, hzl]) hpos, ha.cells]
        exact (LRel.scalars _).replicate len) hf
      refine ⟨.slice (some ⟨w.heap.size, 0, none⟩) len len, rc, el, ?_, hR, fun K ρ' A' g1 g2 => vrel_slc0 (by have := hR.1; simp at this; omega) (Nat.le_refl _) K ρ' A' g1 g2⟩
      simp only [Array.toList_map] at hrc
      simp only [execOp, ho, Instr.buildSlice, Sem.run_bind, run_underlying hu, run_sizeOf_of ha, Result.andThen_ok]
      rw [if_neg (by omega)]
      by_cases h0 : len * a.size = 0
      · have hr0 : (Array.range (len * a.size)).map (fun x => (#[] : Array Value)[x % (#[] : Array Value).size]!) = (Array.range (len * a.size)).map (z'.cells[· % z'.cells.size]!) := by simp [h0]
        simp only [Sem.run_pure, Result.andThen_ok, Sem.run_bind, if_pos h0, hr0, Array.toList_map, hrc, newRow, newObj]
        rfl
      · simp only [Sem.run_pure, Result.andThen_ok, Sem.run_bind, if_neg h0, run_zeroValue_of ha, Array.toList_map, hrc, newRow, newObj]
        rfl
    exact ⟨v, rd, cells, h1, h2⟩
  · exact hk.elim

theorem setCells_block (b : Nat) : ∀ (vs : List Value) (q : Nat) (w : World) (c : Array Value) (el : TypeId) (fr : Nat × Nat), w.heap[b]? = some (.cells c el fr) → q + vs.length ≤ c.size →
    ∃ c', (w.setCells b q vs).heap[b]? = some (.cells c' el fr) ∧ c'.size = c.size ∧ ∀ j, c'[j]? = if q ≤ j ∧ j < q + vs.length then vs[j - q]? else c[j]?
  | [], q, w, c, el, fr, h, _ => ⟨c, h, rfl, fun j => by rw [if_neg (by simp)]⟩
  | v :: r, q, w, c, el, fr, h, hl => by
    simp only [List.length_cons] at hl
    have h1 : (w.setCell ⟨b, q, none⟩ v).heap[b]? = some (.cells (c.setIfInBounds q v) el fr) := by
      simp [World.setCell, Array.getElem?_modify, h]
    obtain ⟨c', a1, a2, a3⟩ := setCells_block b r (q + 1) (w.setCell ⟨b, q, none⟩ v) (c.setIfInBounds q v) el fr h1 (by simp; omega)
    refine ⟨c', a1, by simpa using a2, fun j => ?_⟩
    rw [a3 j]
    simp only [List.length_cons]
    by_cases hj : j = q
    · subst hj
      rw [if_neg (by omega), if_pos (by omega)]
      have : j < c.size := by omega
      simp [this]
    · rw [Array.getElem?_setIfInBounds_ne (Ne.symm hj)]
      by_cases hc : q + 1 ≤ j ∧ j < q + 1 + r.length
      · rw [if_pos hc, if_pos (by omega), show j - q = (j - (q + 1)) + 1 by omega, List.getElem?_cons_succ]
      · rw [if_neg hc, if_neg (by omega)]
theorem setCells_rest (b : Nat) : ∀ (vs : List Value) (q : Nat) (w : World), (∀ k, k ≠ b → (w.setCells b q vs).heap[k]? = w.heap[k]?) ∧ (w.setCells b q vs).heap.size = w.heap.size ∧ (w.setCells b q vs).os = w.os ∧ (w.setCells b q vs).tape = w.tape ∧ (w.setCells b q vs).output = w.output
  | [], q, w => ⟨fun _ _ => rfl, rfl, rfl, rfl, rfl⟩
  | v :: r, q, w => by
    obtain ⟨h1, h2, h3, h4, h5⟩ := setCells_rest b r (q + 1) (w.setCell ⟨b, q, none⟩ v)
    refine ⟨fun k hk => (h1 k hk).trans (Below.heap_setCell _ _ _ _ hk), h2.trans (by simp [World.setCell]), h3, h4, h5⟩

/-- Cells of an owned row are written. -/
theorem write_row {A : Nat → Prop} {ρ : Nat → Loc} {H : Heap} {w : World} (s : Sim A ρ H w) {g : Nat} {sz : Nat} {cells : List AV} (hg : H g = some (.row sz cells)) {off : Nat} {vs : List AV} {us : List Value}
    (hv : LRel (Kof ρ H w) ρ A vs us) (h1 : vs.all AV.one = true) (hl : off + vs.length ≤ cells.length) :
    ∃ w', (storeCells ⟨(ρ g).block, (ρ g).base + off, none⟩ us).run P w = .ok () w' ∧ Sim A ρ (H.put g (some (.row sz (splice cells off vs)))) w' ∧ Fr A ρ H w A ρ (H.put g (some (.row sz (splice cells off vs)))) w' ∧
      w'.heap.size = w.heap.size := by
  obtain ⟨c, el, lo, hi, e1, e2, e3, e4, e5, e6⟩ := s.obj g _ hg
  have hul : us.length = vs.length := hv.1
  have hrun := run_storeCells_cells (P := P) (ρ g).block ((ρ g).base + off) us 0 w (fun j hj => by
      have : (ρ g).base + off + 0 + j < c.size := by omega
      simp only [World.cell?, e1]
      simp
      omega)
    (fun j hj => by
      simp only [World.frozen?, e1]
      have := e2 ((ρ g).base + off + 0 + j) (by omega)
      simp; omega) (hv.ones h1)
  simp only [Nat.add_zero] at hrun
  obtain ⟨c', b1, b2, b3⟩ := setCells_block (ρ g).block us ((ρ g).base + off) w c el (lo, hi) e1 (by omega)
  obtain ⟨r1, r2, r3, r4, r5⟩ := setCells_rest (ρ g).block us ((ρ g).base + off) w
  refine ⟨_, hrun, ?_⟩
  obtain ⟨s', f'⟩ := s.write (w' := w.setCells (ρ g).block ((ρ g).base + off) us) (g := g) (by rw [hg]; rfl) (.row sz (splice cells off vs)) (fun b hb => r1 b hb) (by omega)
    ⟨c', el, lo, hi, b1, e2, by omega, e4, by rw [splice_length _ _ _ hl]; exact e5, fun j v hj => by
      rw [splice_get _ _ _ hl] at hj
      by_cases hin : off ≤ j ∧ j < off + vs.length
      · rw [if_pos hin] at hj
        obtain ⟨u, hu, hR⟩ := hv.get hj
        refine ⟨u, ?_, hR⟩
        rw [b3, if_pos (by omega)]
        rw [show (ρ g).base + j - ((ρ g).base + off) = j - off by omega]; exact hu
      · rw [if_neg hin] at hj
        obtain ⟨cv, hc, hR⟩ := e6 j v hj
        exact ⟨cv, by rw [b3, if_neg (by omega)]; exact hc, hR⟩⟩ r3 r4 r5
  exact ⟨s', f', r2⟩

theorem eff_store {t : Nat} {a : AT} {p x : Operand} {i : TypeInfo} {d : TypeDesc} {z : Value} (h : AtOk P t a i d z) (ho : o.op = .store t p x) {k : Kt} (hk : STORE a.size (e p) (e x) H0 k) :
    ∃ v rd D, Eff P o e H0 rd [] D v ∧ k v rd [] D := by
  unfold STORE at hk
  split at hk
  · rename_i g off hp
    split at hk
    · rename_i es cells hg
      obtain ⟨h1, h2, h3, h4, hk⟩ := hk
      refine ⟨_, _, _, fun A ρ H w ev s hr hrd _ => ?_, hk⟩
      have hH : H g = some (.row es cells) := by rw [hrd g (by simp)]; exact hg
      have r1 := hr p (by simp [Op.operands, ho])
      have r2 := (hr x (by simp [Op.operands, ho])).cells h4
      rw [hp] at r1
      generalize hcv : ev p = cv at r1
      cases r1 with
      | ptr _ _ ad hA ha =>
        subst ha
        obtain ⟨w', q1, q2, q3, _⟩ := write_row (P := P) (off := off) s hH r2 h3 (by omega)
        have hsz : (ev x).cells.size = a.size := by have := r2.1; simp at this; omega
        have hrun : (storeVar t ⟨(ρ g).block, (ρ g).base + off, none⟩ (ev x)).run P w = .ok () w' := by
          simp [storeVar, Sem.run_bind, run_sizeOf_of h, hsz, q1]
        have e0 : execOp ev o = (do Instr.storeAt t (ev p) (ev x); pure Next.skip) := by simp only [execOp, ho]
        rw [e0]
        refine flow_unit (w' := w') (by simp [Instr.storeAt, hcv, Instr.sureAddr, Sem.run_bind, Sem.run_pure, hrun]) ⟨ρ, ?_, ?_, ?_⟩
        · rw [or_nil]; exact q2
        · exact .und
        · rw [or_nil]; exact q3
    · exact hk.elim
  · exact hk.elim
end
end Go.Proofs.YtejohcohkgcmhaaDoor
namespace Go.Proofs.YtejohcohkgcmhaaDoor
open Go Go.RowKit

section
variable {P : Program} {T : Nat → Option AT} {o : Oper} {e : Operand → AV} {H0 : Heap}

theorem ba_toList (l : List UInt8) : (ByteArray.mk l.toArray).toList = l := by
  rw [ByteArray.toList_eq]

/-- What an operation of two integers gives. -/
def ibinV (op : BinOp) (k : IntKind) (a b : Int) : AV := match op with
  | .add => .int k (k.wrap (a + b))
  | .sub => .int k (k.wrap (a - b))
  | .mul => .int k (k.wrap (a * b))
  | .quo => .int k (k.wrap (a.tdiv b))
  | .rem => .int k (a.tmod b)
  | .shl => .int k (k.wrap (a * 2 ^ (min b.toNat k.bits)))
  | .shr => .int k (a.fdiv (2 ^ (min b.toNat k.bits)))
  | .and | .or | .xor | .andNot => match ibits op k a b with | some r => .int k r | none => .junk
  | .eql | .neq | .lss | .leq | .gtr | .geq => match icmp op a b with | some r => .bool r | none => .junk

theorem run_ibin {op : BinOp} {k : IntKind} {a b : Int} {K : Kt} {yk : IntKind} (hyk : shiftOp op = false → yk = k) (hk : IBIN op k a b K) :
    PURE (ibinV op k a b) K ∧ ∀ (w : World) (t : TypeId), ∃ cv, (binOp op t (.int k a) (.int yk b)).run P w = .ok cv w ∧ ∀ K ρ A, VRel K ρ A (ibinV op k a b) cv := by
  cases op <;> simp only [IBIN, icmp, ibits] at hk
  case add => have := hyk rfl; subst this; exact ⟨hk, fun w t => ⟨_, by simp [binOp, Op.intArith, Sem.run_pure], fun _ _ _ => .int _ _⟩⟩
  case sub => have := hyk rfl; subst this; exact ⟨hk, fun w t => ⟨_, by simp [binOp, Op.intArith, Sem.run_pure], fun _ _ _ => .int _ _⟩⟩
  case mul => have := hyk rfl; subst this; exact ⟨hk, fun w t => ⟨_, by simp [binOp, Op.intArith, Sem.run_pure], fun _ _ _ => .int _ _⟩⟩
  case quo => have := hyk rfl; subst this; exact ⟨hk.2, fun w t => ⟨_, by simp [binOp, Op.intDiv, hk.1, Sem.run_pure], fun _ _ _ => .int _ _⟩⟩
  case rem => have := hyk rfl; subst this; exact ⟨hk.2, fun w t => ⟨_, by simp [binOp, Op.intDiv, hk.1, Sem.run_pure], fun _ _ _ => .int _ _⟩⟩
  case shl =>
    have h0 : ¬ b < 0 := by omega
    exact ⟨hk.2, fun w t => ⟨_, by simp [binOp, Op.shift, h0, Sem.run_pure], fun _ _ _ => .int _ _⟩⟩
  case shr =>
    have h0 : ¬ b < 0 := by omega
    exact ⟨hk.2, fun w t => ⟨_, by simp [binOp, Op.shift, h0, Sem.run_pure], fun _ _ _ => .int _ _⟩⟩
  case and => have := hyk rfl; subst this; exact ⟨hk, fun w t => ⟨_, by simp [binOp, Op.intBits, Sem.run_pure], fun _ _ _ => .int _ _⟩⟩
  case or => have := hyk rfl; subst this; exact ⟨hk, fun w t => ⟨_, by simp [binOp, Op.intBits, Sem.run_pure], fun _ _ _ => .int _ _⟩⟩
  case xor => have := hyk rfl; subst this; exact ⟨hk, fun w t => ⟨_, by simp [binOp, Op.intBits, Sem.run_pure], fun _ _ _ => .int _ _⟩⟩
  case andNot => have := hyk rfl; subst this; exact ⟨hk, fun w t => ⟨_, by simp [binOp, Op.intBits, Sem.run_pure], fun _ _ _ => .int _ _⟩⟩
  all_goals
    have := hyk rfl
    subst this
    exact ⟨hk, fun w t => ⟨_, by simp [binOp, Op.intCmp, Sem.run_pure], fun _ _ _ => .bool _⟩⟩

def sbinV (op : BinOp) (a b : List UInt8) : AV := match op with
  | .add => .str (a ++ b)
  | .eql => .bool (a == b)
  | .neq => .bool (!(a == b))
  | .lss => .bool (Op.bytesLess a b)
  | .leq => .bool (Op.bytesLess a b || a == b)
  | .gtr => .bool (!(Op.bytesLess a b || a == b))
  | .geq => .bool (!Op.bytesLess a b)
  | _ => .junk
theorem run_sbin {op : BinOp} {a b : List UInt8} {K : Kt} (hk : SBIN op a b K) :
    PURE (sbinV op a b) K ∧ ∀ (w : World) (t : TypeId), ∃ cv, (binOp op t (.string ⟨a.toArray⟩) (.string ⟨b.toArray⟩)).run P w = .ok cv w ∧ ∀ K ρ A, VRel K ρ A (sbinV op a b) cv := by
  have ea := ba_toList a
  have eb := ba_toList b
  cases op <;> simp only [SBIN] at hk
  case add =>
    have hs : (⟨a.toArray⟩ : ByteArray) ++ ⟨b.toArray⟩ = ⟨(a ++ b).toArray⟩ := by
      apply ByteArray.ext; simp
    have h1 : (ByteArray.mk a.toArray).size = a.length := by show a.toArray.size = _; simp
    have h2 : (ByteArray.mk b.toArray).size = b.length := by show b.toArray.size = _; simp
    have hmax : IntKind.i64.max = 9223372036854775807 := by decide
    refine ⟨hk.2, fun w t => ⟨_, ?_, fun _ _ _ => .str _⟩⟩
    simp only [binOp, Op.stringOp, h1, h2, hmax]
    rw [if_neg (by omega), hs]
    rfl
  all_goals first | exact hk.elim | exact ⟨hk, fun w t => ⟨_, by simp [binOp, Op.stringOp, ea, eb, Sem.run_pure], fun _ _ _ => .bool _⟩⟩

theorem run_eqGuard_other {op : BinOp} {t : TypeId} {x y : Operand} {a b : Value} (h1 : ¬ (a = .nilIface ∧ b = .nilIface)) (h2 : ∀ xs ys, ¬ (a = .agg xs ∧ b = .agg ys)) (w : World) : (eqGuard op t x y a b).run P w = .ok () w := by
  unfold eqGuard
  cases op <;> try rfl
  all_goals
    cases a <;> first
      | rfl
      | (cases b <;> first
        | rfl
        | exact absurd ⟨rfl, rfl⟩ h1
        | exact absurd ⟨rfl, rfl⟩ (h2 _ _))

/-- How two values of a type are compared, where that is by their cells. -/
def EqTy (P : Program) (t : TypeId) (zs : List AV) : Prop := ∀ (w : World) (K : KHeap) (ρ : Nat → Loc) (A : Nat → Prop) (xs ys : List AV) (cs ds : Array Value) (r : Bool) (x y : Operand) (op : BinOp), LRel K ρ A xs cs.toList → LRel K ρ A ys ds.toList → (eqCells zs xs).isSome = true → eqCells xs ys = some r →
  (Op.equal t (.agg cs) (.agg ds)).run P w = .ok r w ∧ (eqGuard op t x y (.agg cs) (.agg ds)).run P w = .ok () w

theorem run_bool_eq {t : TypeId} (h : P.underlying t = some .bool) (a b : Bool) (w : World) : (Op.equal t (.bool a) (.bool b)).run P w = .ok (a == b) w := by
  unfold Op.equal Op.maxDepth
  rw [show (10000 : Nat) = 9999 + 1 from rfl, Op.equalIn]
  simp [Sem.run_bind, run_underlying h, Sem.run_pure]


theorem exec_bin {t yt : Nat} {op : BinOp} {x y : Operand} (ho : o.op = .binOp op t x y yt) {a b : Value} (h1 : ¬ (a = .nilIface ∧ b = .nilIface)) (h2 : ∀ xs ys, ¬ (a = .agg xs ∧ b = .agg ys)) {w : World} {cv : Value}
    (hr : (binOp op t a b).run P w = .ok cv w) {ev : Operand → Value} (e1 : ev x = a) (e2 : ev y = b) : (execOp ev o).run P w = .ok (.value cv) w := by
  simp only [execOp, ho, e1, e2, Sem.run_bind, run_eqGuard_other h1 h2, Result.andThen_ok, hr, Sem.run_pure]

theorem eff_bini {t yt : Nat} {op : BinOp} {x y : Operand} (ho : o.op = .binOp op t x y yt) {k : Kt} (hk : BINI op (e x) (e y) k) : ∃ v rd, Eff P o e H0 rd [] [] v ∧ k v rd [] [] := by
  unfold BINI at hk
  split at hk
  · rename_i ki a yk b hx hy
    obtain ⟨hs, hk⟩ := hk
    obtain ⟨hp, hrun⟩ := run_ibin (P := P) hs hk
    refine eff_pure_k hp fun K ρ A w ev hr => ?_
    have r1 := hr x (by simp [Op.operands, ho])
    have r2 := hr y (by simp [Op.operands, ho])
    rw [hx] at r1
    rw [hy] at r2
    generalize hcv : ev x = cx at r1
    generalize hcw : ev y = cy at r2
    cases r1
    cases r2
    obtain ⟨cv, h1, h2⟩ := hrun w t
    exact ⟨cv, exec_bin ho (by rintro ⟨h, _⟩; cases h) (by rintro _ _ ⟨h, _⟩; cases h) h1 hcv hcw, h2 _ _ _⟩
  · exact hk.elim
theorem eff_bins {t yt : Nat} {op : BinOp} {x y : Operand} (ho : o.op = .binOp op t x y yt) {k : Kt} (hk : BINS op (e x) (e y) k) : ∃ v rd, Eff P o e H0 rd [] [] v ∧ k v rd [] [] := by
  unfold BINS at hk
  split at hk
  · rename_i a b hx hy
    obtain ⟨hp, hrun⟩ := run_sbin (P := P) hk
    refine eff_pure_k hp fun K ρ A w ev hr => ?_
    have r1 := hr x (by simp [Op.operands, ho])
    have r2 := hr y (by simp [Op.operands, ho])
    rw [hx] at r1
    rw [hy] at r2
    generalize hcv : ev x = cx at r1
    generalize hcw : ev y = cy at r2
    cases r1
    cases r2
    obtain ⟨cv, h1, h2⟩ := hrun w t
    exact ⟨cv, exec_bin ho (by rintro ⟨h, _⟩; cases h) (by rintro _ _ ⟨h, _⟩; cases h) h1 hcv hcw, h2 _ _ _⟩
  · exact hk.elim
theorem eff_binb {t yt : Nat} {op : BinOp} {x y : Operand} (hu : P.underlying t = some .bool) (ho : o.op = .binOp op t x y yt) {k : Kt} (hk : BINB op (e x) (e y) k) : ∃ v rd, Eff P o e H0 rd [] [] v ∧ k v rd [] [] := by
  unfold BINB at hk
  split at hk
  · rename_i neg hop
    split at hk
    · rename_i a b hx hy
      refine eff_pure_k hk fun K ρ A w ev hr => ?_
      have r1 := hr x (by simp [Op.operands, ho])
      have r2 := hr y (by simp [Op.operands, ho])
      rw [hx] at r1
      rw [hy] at r2
      generalize hcv : ev x = cx at r1
      generalize hcw : ev y = cy at r2
      cases r1
      cases r2
      refine ⟨.bool (neg ^^ (a == b)), exec_bin ho (by rintro ⟨h, _⟩; cases h) (by rintro _ _ ⟨h, _⟩; cases h) ?_ hcv hcw, .bool _⟩
      cases op <;> simp only [eqlOp] at hop <;> cases hop
      · simp [binOp, Sem.run_bind, run_bool_eq hu, Sem.run_pure]
      · simp [binOp, Sem.run_bind, run_bool_eq hu, Sem.run_pure]
    · exact hk.elim
  · exact hk.elim
theorem eff_bina {t yt : Nat} {zs : List AV} {op : BinOp} {x y : Operand} (hE : EqTy P t zs) (ho : o.op = .binOp op t x y yt) {k : Kt} (hk : BINA zs op (e x) (e y) k) : ∃ v rd, Eff P o e H0 rd [] [] v ∧ k v rd [] [] := by
  unfold BINA at hk
  split at hk
  · rename_i neg hop
    split at hk
    · rename_i a b hx hy
      obtain ⟨hlen, hk⟩ := hk
      split at hk
      · rename_i r hcells
        refine eff_pure_k hk fun K ρ A w ev hr => ?_
        have r1 := hr x (by simp [Op.operands, ho])
        have r2 := hr y (by simp [Op.operands, ho])
        rw [hx] at r1
        rw [hy] at r2
        generalize hcv : ev x = cx at r1
        generalize hcw : ev y = cy at r2
        cases r1 with
        | agg _ cs g1 g2 =>
        cases r2 with
        | agg _ ds g3 g4 =>
        obtain ⟨q1, q2⟩ := hE w K ρ A a b cs ds r x y op ⟨by simpa using g1, fun j v c h1 h2 => g2 j v c h1 (by simpa using h2)⟩ ⟨by simpa using g3, fun j v c h1 h2 => g4 j v c h1 (by simpa using h2)⟩ hlen hcells
        refine ⟨.bool (neg ^^ r), ?_, .bool _⟩
        cases op <;> simp only [eqlOp] at hop <;> cases hop
        · simp only [execOp, ho, hcv, hcw, Sem.run_bind, q2, Result.andThen_ok, binOp, q1, Sem.run_pure]; simp
        · simp only [execOp, ho, hcv, hcw, Sem.run_bind, q2, Result.andThen_ok, binOp, q1, Sem.run_pure]; simp
      · exact hk.elim
    · exact hk.elim
  · exact hk.elim

theorem run_ptr_eq {t el : TypeId} (h : P.underlying t = some (.pointer el)) {a b : Option Addr} (hab : a = none ∨ b = none) (w : World) : (Op.equal t (.pointer a) (.pointer b)).run P w = .ok (a.isNone && b.isNone) w := by
  unfold Op.equal Op.maxDepth
  rw [show (10000 : Nat) = 9999 + 1 from rfl, Op.equalIn]
  rcases hab with rfl | rfl
  · simp [Sem.run_bind, run_underlying h, Sem.run_pure]
  · cases a <;> simp [Sem.run_bind, run_underlying h, Sem.run_pure]

theorem nilP_rel {K : KHeap} {ρ : Nat → Loc} {A : Nat → Prop} {v : AV} {c : Value} {r : Bool} (h : VRel K ρ A v c) (hn : nilP v = some r) : ∃ a, c = .pointer a ∧ a.isNone = r := by
  cases h <;> simp only [nilP] at hn <;> cases hn
  · exact ⟨_, rfl, rfl⟩
  · exact ⟨_, rfl, rfl⟩
  · exact ⟨_, rfl, rfl⟩

theorem eff_binp {t yt el : Nat} {op : BinOp} {x y : Operand} (hu : P.underlying t = some (.pointer el)) (ho : o.op = .binOp op t x y yt) {k : Kt} (hk : BINP op (e x) (e y) k) : ∃ v rd, Eff P o e H0 rd [] [] v ∧ k v rd [] [] := by
  have key : ∀ neg r r', eqlOp op = some neg → nilP (e x) = some r → nilP (e y) = some r' → (r = true ∨ r' = true) → PURE (.bool (neg ^^ (r && r'))) k → ∃ v rd, Eff P o e H0 rd [] [] v ∧ k v rd [] [] := by
    intro neg r r' hop h1 h2 h3 hk
    refine eff_pure_k hk fun K ρ A w ev hr => ?_
    obtain ⟨a, ha, har⟩ := nilP_rel (hr x (by simp [Op.operands, ho])) h1
    obtain ⟨b, hb, hbr⟩ := nilP_rel (hr y (by simp [Op.operands, ho])) h2
    have hab : a = none ∨ b = none := by
      rcases h3 with h | h
      · left; rw [h] at har; simpa using har
      · right; rw [h] at hbr; simpa using hbr
    have heq := run_ptr_eq (P := P) hu hab w
    rw [har, hbr] at heq
    refine ⟨.bool (neg ^^ (r && r')), exec_bin ho (by rintro ⟨h, _⟩; cases h) (by rintro _ _ ⟨h, _⟩; cases h) ?_ ha hb, .bool _⟩
    cases op <;> simp only [eqlOp] at hop <;> cases hop
    · simp [binOp, Sem.run_bind, heq, Sem.run_pure]
    · simp [binOp, Sem.run_bind, heq, Sem.run_pure]
  unfold BINP at hk
  split at hk
  · rename_i neg hop
    split at hk
    · rename_i hx
      split at hk
      · rename_i r hr
        exact key neg true r hop (by rw [hx]; rfl) hr (.inl rfl) (by simpa using hk)
      · exact hk.elim
    · have hy : e y = .nilp := by assumption
      split at hk
      · rename_i r hr
        exact key neg r true hop hr (by rw [hy]; rfl) (.inr rfl) (by simpa using hk)
      · exact hk.elim
    · exact hk.elim
  · exact hk.elim

theorem run_slice_eq {t el : TypeId} (h : P.underlying t = some (.slice el)) (a : Option Addr) (l c : Nat) (w : World) : (Op.equal t (.slice a l c) (.slice none 0 0)).run P w = .ok a.isNone w := by
  unfold Op.equal Op.maxDepth
  rw [show (10000 : Nat) = 9999 + 1 from rfl, Op.equalIn]
  cases a <;> simp [Sem.run_bind, run_underlying h, Sem.run_pure]
theorem eff_binl {t yt el : Nat} {op : BinOp} {x y : Operand} (hu : P.underlying t = some (.slice el)) (ho : o.op = .binOp op t x y yt) {k : Kt} (hk : BINL op (e x) (e y) k) : ∃ v rd, Eff P o e H0 rd [] [] v ∧ k v rd [] [] := by
  unfold BINL at hk
  split at hk
  case h_2 => exact hk.elim
  rename_i _ _ neg hop hy
  have run : ∀ (a : Option Addr) (l c : Nat) (w : World) (ev : Operand → Value), ev x = .slice a l c → ev y = .slice none 0 0 → (execOp ev o).run P w = .ok (.value (.bool (neg ^^ a.isNone))) w := by
    intro a l c w ev h1 h2
    refine exec_bin ho (by rintro ⟨h, _⟩; cases h) (by rintro _ _ ⟨h, _⟩; cases h) ?_ h1 h2
    cases op <;> simp only [eqlOp] at hop <;> cases hop
    · simp [binOp, Sem.run_bind, run_slice_eq (P := P) hu, Sem.run_pure]
    · simp [binOp, Sem.run_bind, run_slice_eq (P := P) hu, Sem.run_pure]
  have main : ∀ (v : AV), (∀ (K : KHeap) (ρ : Nat → Loc) (A : Nat → Prop) (c : Value), VRel K ρ A (e x) c → ∃ a l q, c = .slice a l q ∧ VRel K ρ A v (.bool (neg ^^ a.isNone))) → PURE v k → ∃ v rd, Eff P o e H0 rd [] [] v ∧ k v rd [] [] := by
    intro v hv hk
    refine eff_pure_k hk fun K ρ A w ev hr => ?_
    obtain ⟨a, l, q, h1, h2⟩ := hv K ρ A _ (hr x (by simp [Op.operands, ho]))
    have r2 := hr y (by simp [Op.operands, ho])
    rw [hy] at r2
    generalize hcw : ev y = cw at r2
    cases r2
    exact ⟨_, run a l q w ev h1 hcw, h2⟩
  split at hk
  · rename_i hx
    refine main _ (fun K ρ A c h => ?_) hk
    rw [hx] at h; cases h
    exact ⟨_, _, _, rfl, .bool _⟩
  · rename_i hx
    refine main _ (fun K ρ A c h => ?_) hk
    rw [hx] at h; cases h
    exact ⟨_, _, _, rfl, .bany _⟩
  · rename_i xs hx
    by_cases h0 : xs = []
    · refine main _ (fun K ρ A c h => ?_) (hk.1 h0)
      rw [hx] at h; cases h
      exact ⟨_, _, _, rfl, .bany _⟩
    · refine main _ (fun K ρ A c h => ?_) (hk.2 h0)
      rw [hx] at h
      cases h with
      | ro _ a len cap sz b off C h1 h2 h3 =>
        rw [h3 h0]
        exact ⟨_, _, _, rfl, .bool _⟩
  · rename_i g off n hx
    by_cases h0 : n = 0
    · refine main _ (fun K ρ A c h => ?_) (hk.1 h0)
      rw [hx] at h; cases h
      exact ⟨_, _, _, rfl, .bany _⟩
    · refine main _ (fun K ρ A c h => ?_) (hk.2 h0)
      rw [hx] at h
      cases h with
      | slc _ _ _ cap a h1 h2 h3 =>
        rw [(h3 (by omega)).2]
        exact ⟨_, _, _, rfl, .bool _⟩
  · exact hk.elim

theorem eff_un {t : Nat} {op : UnOp} {x : Operand} (ho : o.op = .unOp op t x) {k : Kt} (hk : UN op (e x) k) : ∃ v rd, Eff P o e H0 rd [] [] v ∧ k v rd [] [] := by
  unfold UN at hk
  split at hk
  · rename_i b hx
    refine eff_pure_k hk fun K ρ A w ev hr => ?_
    have r1 := hr x (by simp [Op.operands, ho])
    rw [hx] at r1
    generalize hcv : ev x = cv at r1
    cases r1
    exact ⟨.bool (!b), by simp [execOp, ho, hcv, Op.unary, Sem.run_pure, Sem.run_bind], .bool _⟩
  · rename_i ki n hx
    refine eff_pure_k hk fun K ρ A w ev hr => ?_
    have r1 := hr x (by simp [Op.operands, ho])
    rw [hx] at r1
    generalize hcv : ev x = cv at r1
    cases r1
    exact ⟨.int ki (ki.wrap (0 - n)), by simp [execOp, ho, hcv, Op.unary, Op.intArith, Sem.run_pure, Sem.run_bind], .int _ _⟩
  · rename_i ki n hx
    simp only [IBIN, ibits] at hk
    refine eff_pure_k hk fun K ρ A w ev hr => ?_
    have r1 := hr x (by simp [Op.operands, ho])
    rw [hx] at r1
    generalize hcv : ev x = cv at r1
    cases r1
    refine ⟨_, ?_, .int _ _⟩
    simp only [execOp, ho, hcv, Op.unary, Op.intBits, Sem.run_pure, Sem.run_bind, Result.andThen_ok]
  · exact hk.elim

theorem eff_convi {ss d : Nat} {kd : IntKind} {x : Operand} {us : TypeDesc} (hs : P.underlying ss = some us) (hd : P.underlying d = some (.int kd)) (ho : o.op = .convert ss d x) {k : Kt} (hk : CONVI kd (e x) k) : ∃ v rd, Eff P o e H0 rd [] [] v ∧ k v rd [] [] := by
  unfold CONVI at hk
  split at hk
  · rename_i ki n hx
    refine eff_pure_k hk fun K ρ A w ev hr => ?_
    have r1 := hr x (by simp [Op.operands, ho])
    rw [hx] at r1
    generalize hcv : ev x = cv at r1
    cases r1
    refine ⟨_, ?_, .int _ _⟩
    simp [execOp, ho, hcv, convert, Conv.intToInt, Sem.run_pure, Sem.run_bind, run_underlying hs, run_underlying hd]
  · exact hk.elim

theorem eff_mkfunc {f : FuncId} {cap : Array Operand} (ho : o.op = .makeFunc (.func f) #[] cap) {k : Kt} (hk : PURE (.clo f (cap.toList.map e)) k) : ∃ v rd, Eff P o e H0 rd [] [] v ∧ k v rd [] [] := by
  refine eff_pure_k hk fun K ρ A w ev hr => ⟨.func (.func f) #[] (cap.map ev), by simp [execOp, ho, Instr.makeFunc, Sem.run_pure, Sem.run_bind], .clo f _ _ (by simp) fun j v c hv hc => ?_⟩
  simp only [List.getElem?_map, Option.map_eq_some_iff, Array.getElem?_map, Array.getElem?_toList] at hv hc
  obtain ⟨x, hx, rfl⟩ := hv
  obtain ⟨y, hy, rfl⟩ := hc
  rw [hx] at hy
  obtain rfl := Option.some.inj hy
  exact hr x (by simp only [Op.operands, ho]; simp; exact Array.mem_of_getElem? hx)

theorem eff_mkmap {t : Nat} (ho : o.op = .makeMap t none) {nx : Nat} {k : Kt} (hk : NEW nx (.mp []) (.amap nx) k) : ∃ v rd, Eff P o e H0 rd [nx] [(nx, some (.mp []))] v ∧ k v rd [nx] [(nx, some (.mp []))] := by
  refine ⟨_, [], Eff.new fun A ρ H w ev s hx _ => ⟨.map (some w.heap.size), .map #[] 0, ⟨w.heap.size, 0, 0, 0⟩, w.alloc (.map #[] 0), ?_, rfl, rfl, rfl, rfl, rfl, fun w' hw => ⟨#[], 0, hw, rfl, fun j kv en h => by simp at h⟩, fun K ρ' A' h1 h2 => .amap _ _ h2 (by rw [h1])⟩, hk⟩
  simp only [execOp, ho, Instr.makeMap, newObj, Option.map_none, Sem.run_bind, Sem.run_pure, Result.andThen_ok]
  rfl
end
end Go.Proofs.YtejohcohkgcmhaaDoor
namespace Go.Proofs.YtejohcohkgcmhaaDoor
open Go Go.RowKit

section
variable {P : Program} {T : Nat → Option AT} {o : Oper} {e : Operand → AV} {H0 : Heap}

theorem run_askRoom {n : Nat} (h : n ≤ 140737488355328) (w : World) : (askRoom n).run P w = .ok () w := by
  unfold askRoom roomBytes
  rw [if_neg (by omega)]
  rfl

theorem eff_make {t el : Nat} {a : AT} {l c : Operand} {s b : Nat} {z0 : List AV} {i i' : TypeInfo} {d d' : TypeDesc} {z z' : Value} (h : AtOk P t ⟨.slice el, s, b, z0⟩ i d z) (ha : AtOk P el a i' d' z')
    (hzl : a.zero.length = a.size) (hpos : 0 < a.size) (ho : o.op = .makeSlice t l c) {nx : Nat} {k : Kt}
    (hk : MAKE a.size a.bytes a.zero (e l) (e c) nx k) : ∃ v rd cells, Eff P o e H0 rd [nx] [(nx, some (.row a.size cells))] v ∧ k v rd [nx] [(nx, some (.row a.size cells))] := by
  have hu := slice_und h
  unfold MAKE at hk
  split at hk
  · rename_i k1 n k2 m hl hc
    obtain ⟨rfl, h0, hn47, hnb, hk⟩ := hk
    obtain ⟨v, rd, h1, h2⟩ : ∃ v rd, Eff P o e H0 rd [nx] [(nx, some (.row a.size (List.replicate m.toNat a.zero).flatten))] v ∧ k v rd [nx] [(nx, some (.row a.size (List.replicate m.toNat a.zero).flatten))] := by
      refine eff_row hk fun A ρ H w ev s hr => ?_
      have r1 := hr l (by simp [Op.operands, ho])
      have r2 := hr c (by simp [Op.operands, ho])
      rw [hl] at r1
      rw [hc] at r2
      generalize hcv : ev l = cl at r1
      generalize hcw : ev c = cc at r2
      cases r1
      cases r2
      have hw : IntKind.i64.wrap m = m := IntWalk.i64_in _ (by omega)
      have hb : a.bytes * m ≤ 140737488355328 := by
        have e1 : (m.toNat * a.bytes : Nat) ≤ 140737488355328 := hnb
        have e2 : ((m.toNat * a.bytes : Nat) : Int) = a.bytes * m := by
          rw [Int.natCast_mul, Int.toNat_of_nonneg h0, Int.mul_comm]
        omega
      refine ⟨.slice (some ⟨w.heap.size, 0, none⟩) m.toNat m.toNat, (Array.range (m.toNat * a.size)).map (z'.cells[· % z'.cells.size]!), el, ?_, ?_, fun K ρ' A' g1 g2 => vrel_slc0 (by simp) (Nat.le_refl _) K ρ' A' g1 g2⟩
      · have hinfo : ∀ w : World, (typeInfo el).run P w = .ok i' w := fun w => by simp [typeInfo, program, Sem.run_bind, Sem.run, ha.info]
        have hcond : ((decide (m < 0) || decide ((a.bytes : Int) * m > 2 ^ 48)) || decide (m < 0) || decide (m > m)) = false := by
          simp
          omega
        simp only [execOp, ho, Instr.makeSlice, hcv, hcw, Sem.run_bind, run_underlying hu, Result.andThen_ok, asInt, asIntOf, Sem.run_pure, hinfo, hw, ha.bytes]
        simp only [hcond, Bool.false_eq_true, if_false, Sem.run_bind, Result.andThen_ok, run_askRoom hnb, run_sizeOf_of ha]
        by_cases hz : m.toNat * a.size = 0
        · have hr0 : (Array.range (m.toNat * a.size)).map (fun x => (#[] : Array Value)[x % (#[] : Array Value).size]!) = (Array.range (m.toNat * a.size)).map (z'.cells[· % z'.cells.size]!) := by simp [hz]
          simp only [if_pos hz, Sem.run_pure, Sem.run_bind, Result.andThen_ok, hr0, newRow, newObj]
          rfl
        · simp only [if_neg hz, Sem.run_pure, Sem.run_bind, Result.andThen_ok, run_zeroValue_of ha, newRow, newObj]
          rfl
      · rw [zero_rows z'.cells m.toNat a.size (by rw [ha.zsize, hzl]) hpos, ha.cells]
        exact (LRel.scalars _).replicate _
    exact ⟨v, rd, _, h1, h2⟩
  · exact hk.elim

theorem run_sliceBound {k : IntKind} {n : Int} {y : Nat} {code : BoundsCode} (h0 : 0 ≤ n) (h1 : n ≤ y) (w : World) : (Instr.sliceBound (.int k n) y code).run P w = .ok n.toNat w := by
  simp [Instr.sliceBound, asIntOf, Sem.run_bind, Sem.run_pure, h0, h1]

theorem run_bounds {isS : Bool} {len cap : Nat} {lo hi : Option AV} {clo chi : Option Value} {K : KHeap} {ρ : Nat → Loc} {A : Nat → Prop} {a b : Int}
    (hlo : ∀ x, lo = some x → ∃ c, clo = some c ∧ VRel K ρ A x c) (hlo' : lo = none → clo = none) (hhi : ∀ x, hi = some x → ∃ c, chi = some c ∧ VRel K ρ A x c) (hhi' : hi = none → chi = none)
    (h : lohi lo hi len = some (a, b)) (h0 : 0 ≤ a) (h1 : a ≤ b) (h2 : b ≤ len) (h3 : len ≤ cap) (w : World) :
    (Instr.sliceBounds isS len cap clo chi none).run P w = .ok (a.toNat, b.toNat, cap) w := by
  unfold lohi at h
  have hb : ∀ (k : IntKind) (n : Int) (y : Nat) code, 0 ≤ n → n ≤ y → (Instr.sliceBound (.int k n) y code).run P w = .ok n.toNat w := fun k n y code p q => run_sliceBound p q w
  split at h
  · simp only [Option.some.injEq, Prod.mk.injEq] at h
    obtain ⟨rfl, rfl⟩ := h
    rw [hlo' rfl, hhi' rfl]
    simp [Instr.sliceBounds, Sem.run_bind, Sem.run_pure]
  · rename_i k n
    simp only [Option.some.injEq, Prod.mk.injEq] at h
    obtain ⟨rfl, rfl⟩ := h
    obtain ⟨c, rfl, hc⟩ := hlo _ rfl
    cases hc
    rw [hhi' rfl]
    simp [Instr.sliceBounds, Sem.run_bind, Sem.run_pure, hb, h0, h1]
  · rename_i k n
    simp only [Option.some.injEq, Prod.mk.injEq] at h
    obtain ⟨rfl, rfl⟩ := h
    obtain ⟨c, rfl, hc⟩ := hhi _ rfl
    cases hc
    rw [hlo' rfl]
    have : n ≤ cap := by omega
    simp [Instr.sliceBounds, Sem.run_bind, Sem.run_pure, hb, h1, this]
  · rename_i k n k' n'
    simp only [Option.some.injEq, Prod.mk.injEq] at h
    obtain ⟨rfl, rfl⟩ := h
    obtain ⟨c, rfl, hc⟩ := hlo _ rfl
    cases hc
    obtain ⟨c, rfl, hc⟩ := hhi _ rfl
    cases hc
    have g1 : n' ≤ cap := by omega
    have g2 : 0 ≤ n' := by omega
    have g3 : n ≤ (n'.toNat : Nat) := by omega
    have g4 := hb k n n'.toNat .sliceB h0 g3
    simp [Instr.sliceBounds, Sem.run_bind, Sem.run_pure, hb, g1, g2, g4]
  · cases h

theorem opt_rel {lo : Option Operand} {K : KHeap} {ρ : Nat → Loc} {A : Nat → Prop} {ev : Operand → Value} (h : ∀ x, lo = some x → VRel K ρ A (e x) (ev x)) :
    (∀ x, lo.map e = some x → ∃ c, lo.map ev = some c ∧ VRel K ρ A x c) ∧ (lo.map e = none → lo.map ev = none) := by
  cases lo with
  | none => exact ⟨fun x h => by simp at h, fun _ => rfl⟩
  | some y => exact ⟨fun x hx => ⟨ev y, rfl, by simp at hx; subst hx; exact h y rfl⟩, fun h => by simp at h⟩

theorem eff_slice_str {t : Nat} {x : Operand} {lo hi : Option Operand} {s b : Nat} {z0 : List AV} {i : TypeInfo} {d : TypeDesc} {z : Value} (h : AtOk P t ⟨.str, s, b, z0⟩ i d z) (ho : o.op = .slice t x lo hi none) {k : Kt}
    (hk : SLICES (e x) (lo.map e) (hi.map e) k) : ∃ v rd, Eff P o e H0 rd [] [] v ∧ k v rd [] [] := by
  have hu := str_und h
  unfold SLICES at hk
  split at hk
  rotate_left
  · exact hk.elim
  rename_i l hx
  split at hk
  · rename_i a b' hl
    obtain ⟨h0, h1, h2, hk⟩ := hk
    refine eff_pure_k hk fun K ρ A w ev hr => ?_
    have r1 := hr x (by simp [Op.operands, ho])
    rw [hx] at r1
    generalize hcv : ev x = cv at r1
    cases r1
    obtain ⟨q1, q2⟩ := opt_rel (e := e) (K := K) (ρ := ρ) (A := A) (ev := ev) (lo := lo) fun y hy => hr y (by simp [Op.operands, ho, hy])
    obtain ⟨q3, q4⟩ := opt_rel (e := e) (K := K) (ρ := ρ) (A := A) (ev := ev) (lo := hi) fun y hy => hr y (by simp [Op.operands, ho, hy])
    have hsz : (ByteArray.mk l.toArray).size = l.length := by show l.toArray.size = _; simp
    have hrun := run_bounds (P := P) (isS := false) q1 q2 q3 q4 hl h0 h1 h2 (Nat.le_refl _) w
    refine ⟨.string ⟨((l.take b'.toNat).drop a.toNat).toArray⟩, ?_, .str _⟩
    have hext : (ByteArray.mk l.toArray).extract a.toNat b'.toNat = ⟨((l.take b'.toNat).drop a.toNat).toArray⟩ := by
      apply ByteArray.ext
      simp [ByteArray.data_extract, List.extract_toArray, List.extract_eq_drop_take']
    simp [execOp, ho, hcv, Instr.sliceAt, Instr.slice, Sem.run_bind, Sem.run_pure, run_underlying hu, hsz, hrun, hext]
  · exact hk.elim

theorem eff_slice (hT : TOk P T) {t el : Nat} {x : Operand} {lo hi : Option Operand} {s b : Nat} {z0 : List AV} {i : TypeInfo} {d : TypeDesc} {z : Value} (h : AtOk P t ⟨.slice el, s, b, z0⟩ i d z) (hsz : sizeT T el ≠ 0) (ho : o.op = .slice t x lo hi none) {k : Kt}
    (hk : SLICE (sizeT T el) (e x) (lo.map e) (hi.map e) H0 k) : ∃ v rd, Eff P o e H0 rd [] [] v ∧ k v rd [] [] := by
  have hu := slice_und h
  have hso := fun w => sizeT_pos hT hsz w
  have key : ∀ (K : KHeap) (ρ : Nat → Loc) (A : Nat → Prop) (w : World) (ev : Operand → Value) ad n c a b', (∀ y ∈ o.op.operands.toList, VRel K ρ A (e y) (ev y)) → ev x = .slice ad n c → lohi (lo.map e) (hi.map e) n = some (a, b') → 0 ≤ a → a ≤ b' → b' ≤ n → n ≤ c →
      (execOp ev o).run P w = .ok (.value (.slice (if c = a.toNat then ad else ad.map (·.add (a.toNat * sizeT T el))) (b'.toNat - a.toNat) (c - a.toNat))) w := by
    intro K ρ A w ev ad n c a b' hr hcv hl h0 h1 h2 h3
    obtain ⟨q1, q2⟩ := opt_rel (e := e) (K := K) (ρ := ρ) (A := A) (ev := ev) (lo := lo) fun y hy => hr y (by simp [Op.operands, ho, hy])
    obtain ⟨q3, q4⟩ := opt_rel (e := e) (K := K) (ρ := ρ) (A := A) (ev := ev) (lo := hi) fun y hy => hr y (by simp [Op.operands, ho, hy])
    have hrun := run_bounds (P := P) (isS := true) q1 q2 q3 q4 hl h0 h1 h2 h3 w
    simp [execOp, ho, hcv, Instr.sliceAt, Instr.slice, Sem.run_bind, Sem.run_pure, run_underlying hu, hso, hrun]
  generalize hxe : e x = xv at hk
  cases xv <;> simp only [SLICE] at hk
  all_goals first | exact hk.elim | skip
  case nils =>
    split at hk
    · rename_i a b' hl
      obtain ⟨rfl, rfl, hk⟩ := hk
      refine eff_pure_k hk fun K ρ A w ev hr => ?_
      have r1 := hr x (by simp [Op.operands, ho])
      rw [hxe] at r1
      generalize hcv : ev x = cv at r1
      cases r1
      exact ⟨_, key K ρ A w ev _ _ _ _ _ hr hcv hl (by omega) (by omega) (by simp) (by simp), by simpa using VRel.nils⟩
    · exact hk.elim
  case zs =>
    split at hk
    · rename_i a b' hl
      obtain ⟨rfl, rfl, hk⟩ := hk
      refine eff_pure_k hk fun K ρ A w ev hr => ?_
      have r1 := hr x (by simp [Op.operands, ho])
      rw [hxe] at r1
      generalize hcv : ev x = cv at r1
      cases r1
      exact ⟨_, key K ρ A w ev _ _ _ _ _ hr hcv hl (by omega) (by omega) (by simp) (by simp), by simpa using VRel.zs _⟩
    · exact hk.elim
  case ro xs =>
    split at hk
    · rename_i a b' hl
      obtain ⟨h0, h1, h2, hall, hk⟩ := hk
      refine eff_pure_k hk fun K ρ A w ev hr => ?_
      have r1 := hr x (by simp [Op.operands, ho])
      rw [hxe] at r1
      generalize hcv : ev x = cv at r1
      cases r1 with
      | ro _ ad len cap sz b off C e1 e2 e3 e4 e5 e6 =>
        subst e1
        refine ⟨_, key K ρ A w ev _ _ _ _ _ hr hcv hl h0 h1 h2 e2, ?_⟩
        have hlen : ((xs.take b'.toNat).drop a.toNat).length = b'.toNat - a.toNat := by simp; omega
        have hel : ∀ (j : Nat) (y : List AV), ((xs.take b'.toNat).drop a.toNat)[j]? = some y → xs[a.toNat + j]? = some y := by
          intro j y hy
          rw [List.getElem?_drop, List.getElem?_take] at hy
          split at hy
          · exact hy
          · cases hy
        refine .ro _ _ _ _ sz b (off + a.toNat * sz) (fun i j => C (a.toNat + i) j) hlen.symm (by omega) (fun hne => ?_) (fun y hy => e4 y (List.mem_of_mem_take (List.mem_of_mem_drop hy))) (fun i y j v hy hv => ?_) (fun i y j v hy hv => e6 _ _ j v (hel i y hy) hv)
        · have hpos : a.toNat < cap := by
            have : 0 < ((xs.take b'.toNat).drop a.toNat).length := List.length_pos_iff.2 hne
            omega
          have hxne : xs ≠ [] := by
            intro h; subst h; simp at hne
          obtain rfl := e3 hxne
          have hs : sz = sizeT T el := by
            obtain ⟨y, hy⟩ := List.exists_mem_of_ne_nil _ hxne
            rw [← e4 y hy]; exact hall y hy
          rw [if_neg (by omega)]
          simp only [Option.map_some, add_addr, hs]
        · have := e5 _ _ j v (hel i y hy) hv
          rw [Nat.add_mul] at this
          rw [← this]; congr 1; omega
    · exact hk.elim
  case slc g off len =>
    split at hk
    · rename_i a b' hl
      split at hk
      · rename_i sz cells hg
        obtain ⟨rfl, h0, h1, h2, hk⟩ := hk
        refine ⟨_, _, Eff.read fun A ρ H w ev s hr hrd => ?_, hk⟩
        have hH : H g = some (.row (sizeT T el) cells) := by rw [hrd g (by simp)]; exact hg
        have r1 := hr x (by simp [Op.operands, ho])
        rw [hxe] at r1
        generalize hcv : ev x = cv at r1
        cases r1 with
        | slc _ _ _ cap ad hA hle hcap =>
          obtain ⟨c, el', lo', hi', _, _, _, hs, _, _⟩ := s.obj g _ hH
          refine ⟨_, key _ ρ A w ev _ _ _ _ _ hr hcv hl h0 h1 h2 hle, ?_⟩
          have e1 : b'.toNat - a.toNat = (b' - a).toNat := by omega
          rw [e1]
          refine .slc g _ _ _ _ hA (by omega) fun hc => ?_
          obtain ⟨q1, rfl⟩ := hcap (by omega)
          rw [if_neg (by omega), ← hs]
          rw [← hs] at q1
          refine ⟨?_, by simp only [Option.map_some, add_addr, Nat.add_assoc]⟩
          have : cap * sizeT T el = a.toNat * sizeT T el + (cap - a.toNat) * sizeT T el := by rw [← Nat.add_mul]; congr 1; omega
          omega
      · exact hk.elim
    · exact hk.elim

theorem eff_slice0 (hT : TOk P T) {t el : Nat} {x lo hi mx : Operand} {s b : Nat} {z0 : List AV} {i : TypeInfo} {d : TypeDesc} {z : Value} (h : AtOk P t ⟨.slice el, s, b, z0⟩ i d z) (hsz : sizeT T el ≠ 0) (ho : o.op = .slice t x (some lo) (some hi) (some mx)) {k : Kt}
    (hk : SLICE0 (e x) (e lo) (e hi) (e mx) k) : ∃ v rd, Eff P o e H0 rd [] [] v ∧ k v rd [] [] := by
  have hu := slice_und h
  have hso := fun w => sizeT_pos hT hsz w
  have key : ∀ (w : World) (ev : Operand → Value) ad n c k1 k2 k3, ev x = .slice ad n c → ev lo = .int k1 0 → ev hi = .int k2 0 → ev mx = .int k3 0 → ∃ ad', (execOp ev o).run P w = .ok (.value (.slice ad' 0 0)) w ∧ (ad = none → ad' = none) := by
    intro w ev ad n c k1 k2 k3 hcv e1 e2 e3
    refine ⟨ad, ?_, id⟩
    have hb : ∀ (y : Nat) (kk : IntKind) code (w : World), (Instr.sliceBound (.int kk 0) y code).run P w = .ok 0 w := fun y kk code w => by have := run_sliceBound (P := P) (k := kk) (n := 0) (y := y) (code := code) (by omega) (by omega) w; simpa using this
    simp only [execOp, ho, hcv, e1, e2, e3, Instr.sliceAt, Instr.slice, Option.map_some, Sem.run_bind, Sem.run_pure, run_underlying hu, hso, Result.andThen_ok, Instr.sliceBounds, hb]
    simp
  unfold SLICE0 at hk
  split at hk
  · rename_i k1 n1 k2 n2 k3 n3 q1 q2 q3
    obtain ⟨rfl, rfl, rfl, hk⟩ := hk
    split at hk
    · rename_i hxe
      refine eff_pure_k hk fun K ρ A w ev hr => ?_
      have r0 := hr x (by simp [Op.operands, ho])
      have r1 := hr lo (by simp [Op.operands, ho])
      have r2 := hr hi (by simp [Op.operands, ho])
      have r3 := hr mx (by simp [Op.operands, ho])
      rw [hxe] at r0; rw [q1] at r1; rw [q2] at r2; rw [q3] at r3
      generalize c0 : ev x = v0 at r0
      generalize c1 : ev lo = v1 at r1
      generalize c2 : ev hi = v2 at r2
      generalize c3 : ev mx = v3 at r3
      cases r1; cases r2; cases r3; cases r0
      obtain ⟨ad', hrun, hn⟩ := key w ev _ _ _ _ _ _ c0 c1 c2 c3
      rw [hn rfl] at hrun
      exact ⟨_, hrun, .nils⟩
    · rename_i hxe
      refine eff_pure_k hk fun K ρ A w ev hr => ?_
      have r0 := hr x (by simp [Op.operands, ho])
      have r1 := hr lo (by simp [Op.operands, ho])
      have r2 := hr hi (by simp [Op.operands, ho])
      have r3 := hr mx (by simp [Op.operands, ho])
      rw [hxe] at r0; rw [q1] at r1; rw [q2] at r2; rw [q3] at r3
      generalize c0 : ev x = v0 at r0
      generalize c1 : ev lo = v1 at r1
      generalize c2 : ev hi = v2 at r2
      generalize c3 : ev mx = v3 at r3
      cases r1; cases r2; cases r3; cases r0
      obtain ⟨ad', hrun, hn⟩ := key w ev _ _ _ _ _ _ c0 c1 c2 c3
      exact ⟨_, hrun, .zs _⟩
    · rename_i xs hxe
      refine eff_pure_k hk fun K ρ A w ev hr => ?_
      have r0 := hr x (by simp [Op.operands, ho])
      have r1 := hr lo (by simp [Op.operands, ho])
      have r2 := hr hi (by simp [Op.operands, ho])
      have r3 := hr mx (by simp [Op.operands, ho])
      rw [hxe] at r0; rw [q1] at r1; rw [q2] at r2; rw [q3] at r3
      generalize c0 : ev x = v0 at r0
      generalize c1 : ev lo = v1 at r1
      generalize c2 : ev hi = v2 at r2
      generalize c3 : ev mx = v3 at r3
      cases r1; cases r2; cases r3; cases r0
      obtain ⟨ad', hrun, hn⟩ := key w ev _ _ _ _ _ _ c0 c1 c2 c3
      exact ⟨_, hrun, .zs _⟩
    · rename_i g off len hxe
      refine eff_pure_k hk fun K ρ A w ev hr => ?_
      have r0 := hr x (by simp [Op.operands, ho])
      have r1 := hr lo (by simp [Op.operands, ho])
      have r2 := hr hi (by simp [Op.operands, ho])
      have r3 := hr mx (by simp [Op.operands, ho])
      rw [hxe] at r0; rw [q1] at r1; rw [q2] at r2; rw [q3] at r3
      generalize c0 : ev x = v0 at r0
      generalize c1 : ev lo = v1 at r1
      generalize c2 : ev hi = v2 at r2
      generalize c3 : ev mx = v3 at r3
      cases r1; cases r2; cases r3; cases r0
      obtain ⟨ad', hrun, hn⟩ := key w ev _ _ _ _ _ _ c0 c1 c2 c3
      exact ⟨_, hrun, .zs _⟩
    · exact hk.elim
  · exact hk.elim
end
end Go.Proofs.YtejohcohkgcmhaaDoor
