/- The operations' effects, on: values, stores, what is new. -/
import Derived.Test.YtckhbfbbpdjmdaaEff
namespace Go.Proofs.Ytckhbfbbpdjmdaa
open Go Go.RowKit

/-- Lists of values, one by one. -/
def LRel (K : KHeap) (ρ : Nat → Loc) (A : Nat → Prop) (xs : List AV) (cs : List Value) : Prop := cs.length = xs.length ∧ ∀ (j : Nat) v c, xs[j]? = some v → cs[j]? = some c → VRel K ρ A v c

section
variable {K : KHeap} {ρ : Nat → Loc} {A : Nat → Prop}

theorem LRel.get {xs : List AV} {cs : List Value} (h : LRel K ρ A xs cs) {j : Nat} {v : AV} (hv : xs[j]? = some v) : ∃ c, cs[j]? = some c ∧ VRel K ρ A v c := by
  have hlt := (List.getElem?_eq_some_iff.1 hv).1
  have : j < cs.length := by rw [h.1]; exact hlt
  exact ⟨cs[j], List.getElem?_eq_getElem this, h.2 j v _ hv (List.getElem?_eq_getElem this)⟩
theorem LRel.nil : LRel K ρ A [] [] := ⟨rfl, fun j v c h => by simp at h⟩
theorem LRel.cons {v : AV} {c : Value} {xs : List AV} {cs : List Value} (h : VRel K ρ A v c) (k : LRel K ρ A xs cs) : LRel K ρ A (v :: xs) (c :: cs) := by
  refine ⟨by simp [k.1], fun j u d hu hd => ?_⟩
  cases j with
  | zero => simp at hu hd; subst hu; subst hd; exact h
  | succ j => exact k.2 j u d (by simpa using hu) (by simpa using hd)
theorem LRel.append {xs ys : List AV} {cs ds : List Value} (h : LRel K ρ A xs cs) (k : LRel K ρ A ys ds) : LRel K ρ A (xs ++ ys) (cs ++ ds) := by
  refine ⟨by simp [h.1, k.1], fun j u d hu hd => ?_⟩
  rw [List.getElem?_append] at hu hd
  rw [h.1] at hd
  split at hu
  · rename_i hlt; rw [if_pos hlt] at hd; exact h.2 j u d hu hd
  · rename_i hlt; rw [if_neg hlt] at hd; exact k.2 _ u d hu hd
theorem LRel.take {xs : List AV} {cs : List Value} (h : LRel K ρ A xs cs) (n : Nat) : LRel K ρ A (xs.take n) (cs.take n) := by
  refine ⟨by simp [h.1], fun j u d hu hd => ?_⟩
  rw [List.getElem?_take] at hu hd
  split at hu
  · rename_i hlt; rw [if_pos hlt] at hd; exact h.2 j u d hu hd
  · cases hu
theorem LRel.drop {xs : List AV} {cs : List Value} (h : LRel K ρ A xs cs) (n : Nat) : LRel K ρ A (xs.drop n) (cs.drop n) := by
  refine ⟨by simp [h.1], fun j u d hu hd => ?_⟩
  rw [List.getElem?_drop] at hu hd
  exact h.2 _ u d hu hd
theorem LRel.mono {K' : KHeap} {ρ' : Nat → Loc} {A' : Nat → Prop} {xs : List AV} {cs : List Value} (h : LRel K ρ A xs cs) (hK : ∀ b o, K b = some o → K' b = some o) (hA : ∀ g, A g → ρ' g = ρ g ∧ A' g) : LRel K' ρ' A' xs cs :=
  ⟨h.1, fun j v c hv hc => (h.2 j v c hv hc).mono hK hA⟩
theorem LRel.replicate {xs : List AV} {cs : List Value} (h : LRel K ρ A xs cs) : ∀ n : Nat, LRel K ρ A (List.replicate n xs).flatten (List.replicate n cs).flatten
  | 0 => by simpa using LRel.nil
  | n + 1 => by simp only [List.replicate_succ, List.flatten_cons]; exact h.append (LRel.replicate h n)
theorem LRel.scalars (cs : List Value) : LRel K ρ A (cs.map AV.ofScalar) cs := by
  refine ⟨by simp, fun j v c hv hc => ?_⟩
  simp only [List.getElem?_map, hc, Option.map_some, Option.some.injEq] at hv
  subst hv
  exact vrel_scalar _ _ _ _
theorem LRel.agg {xs : List AV} {cs : Array Value} (h : LRel K ρ A xs cs.toList) : VRel K ρ A (.agg xs) (.agg cs) :=
  .agg xs cs (by simpa using h.1) fun j v c hv hc => h.2 j v c hv (by simpa using hc)

theorem VRel.cells {v : AV} {c : Value} (h : VRel K ρ A v c) (hs : v.sure = true) : LRel K ρ A v.cells c.cells.toList := by
  cases h with
  | junk => cases hs
  | agg xs cs h1 h2 => exact ⟨by simpa [Value.cells, AV.cells] using h1, fun j v c hv hc => h2 j v c hv (by simpa [Value.cells] using hc)⟩
  | und => exact LRel.cons .und .nil
  | int k n => exact LRel.cons (.int k n) .nil
  | bool b => exact LRel.cons (.bool b) .nil
  | str s => exact LRel.cons (.str s) .nil
  | nilp => exact LRel.cons .nilp .nil
  | nils => exact LRel.cons .nils .nil
  | nilf => exact LRel.cons .nilf .nil
  | nilm => exact LRel.cons .nilm .nil
  | zs a => exact LRel.cons (.zs a) .nil
  | ptr g off a h1 h2 => exact LRel.cons (.ptr g off a h1 h2) .nil
  | slc g off len cap a h1 h2 h3 => exact LRel.cons (.slc g off len cap a h1 h2 h3) .nil
  | amap g r h1 h2 => exact LRel.cons (.amap g r h1 h2) .nil
  | ro xs a len cap sz b off C h1 h2 h3 h4 h5 h6 => exact LRel.cons (.ro xs a len cap sz b off C h1 h2 h3 h4 h5 h6) .nil
  | rop cs o b p a C h1 h2 h3 => exact LRel.cons (.rop cs o b p a C h1 h2 h3) .nil
  | tup xs cs h1 h2 => exact LRel.cons (.tup xs cs h1 h2) .nil
  | clo f xs cs h1 h2 => exact LRel.cons (.clo f xs cs h1 h2) .nil
theorem VRel.one {v : AV} {c : Value} (h : VRel K ρ A v c) (hs : v.one = true) : c.oneCell' = true := by
  cases h <;> first | rfl | cases hs
theorem LRel.ones {xs : List AV} {cs : List Value} (h : LRel K ρ A xs cs) (hs : xs.all AV.one = true) : ∀ c ∈ cs, c.oneCell' = true := by
  intro c hc
  obtain ⟨j, hj⟩ := List.getElem?_of_mem hc
  have hlt := (List.getElem?_eq_some_iff.1 hj).1
  have hx : j < xs.length := by rw [← h.1]; exact hlt
  refine (h.2 j _ c (List.getElem?_eq_getElem hx) hj).one ?_
  exact List.all_eq_true.1 hs _ (List.getElem_mem hx)

theorem objrel_new {sz : Nat} {cells : List AV} {cs : Array Value} {el : TypeId} {b : Nat} {lo hi : Nat} (h : LRel K ρ A cells (cs.toList.take cells.length)) (hlen : cells.length ≤ cs.size) (hf : ∀ j, j < cs.size → ¬ (lo ≤ j ∧ j < hi))
    {w' : World} (hw : w'.heap[b]? = some (.cells cs el (lo, hi))) : ObjRel K ρ A w' ⟨b, 0, cs.size, sz⟩ (.row sz cells) := by
  refine ⟨cs, el, lo, hi, hw, hf, rfl, rfl, by simpa using hlen, fun j v hv => ?_⟩
  obtain ⟨c, hc, hR⟩ := h.get hv
  have hlt := (List.getElem?_eq_some_iff.1 hv).1
  rw [List.getElem?_take, if_pos hlt] at hc
  exact ⟨c, by simpa using hc, hR⟩
theorem objrel_new' {sz : Nat} {cells : List AV} {cs : Array Value} {el : TypeId} {b : Nat} (h : LRel K ρ A cells cs.toList) {w' : World} (hw : w'.heap[b]? = some (.cells cs el (0, 0))) : ObjRel K ρ A w' ⟨b, 0, cs.size, sz⟩ (.row sz cells) := by
  have hl : cells.length = cs.size := by simpa using h.1.symm
  exact objrel_new (by rw [hl, List.take_of_length_le (by simp)]; exact h) (by omega) (fun j _ => by omega) hw

theorem fold_set (vs : List Value) : ∀ (k off : Nat) (cs : Array Value),
    ((vs.zipIdx k).foldl (fun (cs : Array Value) (x : Value × Nat) => cs.setIfInBounds (off + x.2) x.1) cs).size = cs.size ∧
    ∀ m, ((vs.zipIdx k).foldl (fun (cs : Array Value) (x : Value × Nat) => cs.setIfInBounds (off + x.2) x.1) cs)[m]? = if off + k ≤ m ∧ m < off + k + vs.length ∧ m < cs.size then vs[m - (off + k)]? else cs[m]? := by
  induction vs with
  | nil => intro k off cs; simp; intro m h1 h2; omega
  | cons v r ih =>
    intro k off cs
    obtain ⟨h1, h2⟩ := ih (k + 1) off (cs.setIfInBounds (off + k) v)
    simp only [List.zipIdx_cons, List.foldl_cons]
    refine ⟨by rw [h1]; simp, fun m => ?_⟩
    rw [h2 m]
    simp only [Array.size_setIfInBounds, List.length_cons]
    by_cases hm : m = off + k
    · subst hm
      rw [if_neg (by omega)]
      by_cases hs : off + k < cs.size
      · rw [if_pos (by omega)]; simp [hs]
      · rw [if_neg (by omega), Array.getElem?_eq_none (by simp; omega), Array.getElem?_eq_none (by omega)]
    · rw [Array.getElem?_setIfInBounds_ne (Ne.symm hm)]
      by_cases hc : off + (k + 1) ≤ m ∧ m < off + (k + 1) + r.length ∧ m < cs.size
      · rw [if_pos hc, if_pos (by omega), show m - (off + k) = (m - (off + (k + 1))) + 1 by omega, List.getElem?_cons_succ]
      · rw [if_neg hc, if_neg (by omega)]

theorem splice_get (cells : List AV) (off : Nat) (vs : List AV) (h : off + vs.length ≤ cells.length) (m : Nat) :
    (splice cells off vs)[m]? = if off ≤ m ∧ m < off + vs.length then vs[m - off]? else cells[m]? := by
  unfold splice
  by_cases h1 : m < off
  · rw [List.append_assoc, List.getElem?_append_left (by simp; omega), List.getElem?_take, if_pos h1, if_neg (by omega)]
  · by_cases h2 : m < off + vs.length
    · rw [List.getElem?_append_left (by simp; omega), List.getElem?_append_right (by simp; omega), if_pos (by omega)]
      congr 1; simp; omega
    · rw [List.getElem?_append_right (by simp; omega), List.getElem?_drop, if_neg (by omega)]
      congr 1; simp; omega
theorem splice_length (cells : List AV) (off : Nat) (vs : List AV) (h : off + vs.length ≤ cells.length) : (splice cells off vs).length = cells.length := by
  unfold splice; simp; omega

theorem LRel.set {cells : List AV} {cs : Array Value} (h : LRel K ρ A cells cs.toList) {vs : List AV} {us : Array Value} (hv : LRel K ρ A vs us.toList) (off : Nat) (hl : off + vs.length ≤ cells.length) :
    LRel K ρ A (splice cells off vs) (us.zipIdx.foldl (fun (cs : Array Value) (x : Value × Nat) => cs.setIfInBounds (off + x.2) x.1) cs).toList := by
  have e : us.zipIdx.foldl (fun (cs : Array Value) (x : Value × Nat) => cs.setIfInBounds (off + x.2) x.1) cs = (us.toList.zipIdx 0).foldl (fun (cs : Array Value) (x : Value × Nat) => cs.setIfInBounds (off + x.2) x.1) cs := by
    rw [← Array.foldl_toList]; simp
  obtain ⟨h1, h2⟩ := fold_set us.toList 0 off cs
  have hcl : cs.size = cells.length := by simpa using h.1
  have hul : us.size = vs.length := by simpa using hv.1
  refine ⟨by rw [e, splice_length _ _ _ hl]; simp [h1, hcl], fun j v c hj hc => ?_⟩
  rw [e] at hc
  simp only [Array.getElem?_toList] at hc
  rw [h2 j] at hc
  rw [splice_get _ _ _ hl] at hj
  simp only [Nat.add_zero, Array.length_toList, hul, hcl] at hc
  by_cases hin : off ≤ j ∧ j < off + vs.length
  · rw [if_pos hin] at hj
    rw [if_pos (by omega)] at hc
    exact hv.2 _ v c hj hc
  · rw [if_neg hin] at hj
    rw [if_neg (by omega)] at hc
    exact h.2 j v c hj (by simpa using hc)

theorem fill_rel {place : Nat → Option (Nat × Nat)} : ∀ (ps : List (Nat × AV)) (qs : List (Nat × Value)) (cells : List AV) (cs : Array Value) (res : List AV), ps.length = qs.length →
    (∀ (j : Nat) p q, ps[j]? = some p → qs[j]? = some q → p.1 = q.1 ∧ VRel K ρ A p.2 q.2) → LRel K ρ A cells cs.toList → fillA place cells ps = some res →
    ∃ rc, Instr.fill place cs qs = some rc ∧ LRel K ρ A res rc.toList
  | [], qs, cells, cs, res, hl, _, hc, hf => by
    have : qs = [] := List.eq_nil_of_length_eq_zero (by simpa using hl.symm)
    subst this
    simp only [fillA, Option.some.injEq] at hf
    subst hf
    exact ⟨cs, rfl, hc⟩
  | (i, v) :: ps, qs, cells, cs, res, hl, hp, hc, hf => by
    obtain ⟨⟨i', u⟩, qs, rfl⟩ : ∃ q r, qs = q :: r := by
      cases qs with
      | nil => simp at hl
      | cons q r => exact ⟨q, r, rfl⟩
    obtain ⟨h1, h2⟩ := hp 0 _ _ rfl rfl
    simp only at h1 h2
    subst h1
    simp only [fillA] at hf
    simp only [Instr.fill]
    cases hpl : place i with
    | none => rw [hpl] at hf; cases hf
    | some os =>
      obtain ⟨off, size⟩ := os
      rw [hpl] at hf
      simp only at hf ⊢
      split at hf
      · rename_i hcond
        obtain ⟨a1, a2, a3⟩ := hcond
        have hr := h2.cells a3
        have hus : u.cells.size = size := by have := hr.1; simp at this; omega
        have hcs : cs.size = cells.length := by simpa using hc.1
        rw [if_neg (by simp [hus]; omega)]
        exact fill_rel ps qs _ _ res (by simpa using hl) (fun j p q hj hq => hp (j + 1) p q (by simpa using hj) (by simpa using hq)) (hc.set hr off (by omega)) hf
      · cases hf
end

section
variable {P : Program} {o : Oper} {e : Operand → AV} {H0 : Heap}

theorem eff_pure_k {v : AV} {k : Kt} (hk : PURE v k) (h : ∀ (K : KHeap) (ρ : Nat → Loc) (A : Nat → Prop) (w : World) (ev : Operand → Value), (∀ x ∈ o.op.operands.toList, VRel K ρ A (e x) (ev x)) →
    ∃ cv, (execOp ev o).run P w = .ok (.value cv) w ∧ VRel K ρ A v cv) : ∃ v rd, Eff P o e H0 rd [] [] v ∧ k v rd [] [] := ⟨v, [], Eff.pure h, hk⟩

theorem eff_move {x : Operand} (ho : o.op = .move x ∨ o.op = .assign x) {k : Kt} (hk : PURE (e x) k) : ∃ v rd, Eff P o e H0 rd [] [] v ∧ k v rd [] [] :=
  eff_pure_k hk fun K ρ A w ev hx => ⟨ev x, by rcases ho with ho | ho <;> simp [execOp, ho, Sem.run, pure], hx x (by rcases ho with ho | ho <;> simp [Op.operands, ho])⟩

theorem eff_pick {c a b : Operand} (ho : o.op = .pick c a b) {k : Kt} (hk : PICK (e c) (e a) (e b) k) : ∃ v rd, Eff P o e H0 rd [] [] v ∧ k v rd [] [] := by
  unfold PICK at hk
  split at hk
  · rename_i t ht
    refine eff_pure_k hk fun K ρ A w ev hx => ?_
    have h1 := hx c (by simp [Op.operands, ho])
    have h2 := hx a (by simp [Op.operands, ho])
    have h3 := hx b (by simp [Op.operands, ho])
    rw [ht] at h1
    generalize hc : ev c = cv at h1
    cases h1
    refine ⟨bif t then ev a else ev b, ?_, by cases t <;> assumption⟩
    cases t <;> simp [execOp, ho, hc, asBool, Sem.run_bind, Sem.run_pure]
  · exact hk.elim

/-- What comes of a new row. -/
theorem eff_row {esz : Nat} {cells : List AV} {v : AV} {nx : Nat} {k : Kt} (hk : NEW nx (.row esz cells) v k)
    (h : ∀ (A : Nat → Prop) (ρ : Nat → Loc) (H : Heap) (w : World) (ev : Operand → Value), Sim A ρ H w → (∀ x ∈ o.op.operands.toList, VRel (Kof ρ H w) ρ A (e x) (ev x)) →
      ∃ cv cs el, (execOp ev o).run P w = .ok (.value cv) (w.alloc (.cells cs el (0, 0))) ∧ LRel (Kof ρ H w) ρ A cells cs.toList ∧
        (∀ (K : KHeap) ρ' (A' : Nat → Prop), ρ' nx = ⟨w.heap.size, 0, cs.size, esz⟩ → A' nx → VRel K ρ' A' v cv)) :
    ∃ v rd, Eff P o e H0 rd [nx] [(nx, some (.row esz cells))] v ∧ k v rd [nx] [(nx, some (.row esz cells))] := by
  refine ⟨v, [], Eff.new fun A ρ H w ev s hx _ => ?_, hk⟩
  obtain ⟨cv, cs, el, hr, hR, hv⟩ := h A ρ H w ev s hx
  exact ⟨cv, _, ⟨w.heap.size, 0, cs.size, esz⟩, _, hr, rfl, rfl, rfl, rfl, rfl, fun w' hw => objrel_new' hR hw, hv⟩

theorem vrel_ptr0 {nx : Nat} {b n s : Nat} (K : KHeap) (ρ' : Nat → Loc) (A' : Nat → Prop) (h : ρ' nx = ⟨b, 0, n, s⟩) (hA : A' nx) : VRel K ρ' A' (.ptr nx 0) (.pointer (some ⟨b, 0, none⟩)) :=
  .ptr nx 0 _ hA (by rw [h])

theorem eff_alloc {t : Nat} {a : AT} {i : TypeInfo} {d : TypeDesc} {z : Value} (h : AtOk P t a i d z) (ho : o.op = .alloc t) {nx : Nat} {k : Kt} (hk : NEW nx (.row a.size a.zero) (.ptr nx 0) k) :
    ∃ v rd, Eff P o e H0 rd [nx] [(nx, some (.row a.size a.zero))] v ∧ k v rd [nx] [(nx, some (.row a.size a.zero))] := by
  refine eff_row hk fun A ρ H w ev s hx => ⟨.pointer (some ⟨w.heap.size, 0, none⟩), z.cells, t, ?_, by rw [h.cells]; exact LRel.scalars _, fun K ρ' A' h1 h2 => vrel_ptr0 K ρ' A' h1 h2⟩
  simp [execOp, ho, Instr.alloc, zeroValue, typeInfo, program, newVar, newRow, newObj, Sem.run_bind, Sem.run, h.info, h.zero]

theorem eff_box {t : Nat} {x : Operand} (ho : o.op = .box t x) {nx : Nat} {k : Kt} (hs : (e x).sure = true) (hk : NEW nx (.row (e x).cells.length (e x).cells) (.ptr nx 0) k) :
    ∃ v rd, Eff P o e H0 rd [nx] [(nx, some (.row (e x).cells.length (e x).cells))] v ∧ k v rd [nx] [(nx, some (.row (e x).cells.length (e x).cells))] := by
  refine eff_row hk fun A ρ H w ev s hx => ?_
  have hR := (hx x (by simp [Op.operands, ho])).cells hs
  refine ⟨.pointer (some ⟨w.heap.size, 0, none⟩), (ev x).cells, t, ?_, hR, fun K ρ' A' h1 h2 => vrel_ptr0 K ρ' A' h1 h2⟩
  simp [execOp, ho, Instr.box, newVar, newRow, newObj, Sem.run_bind, Sem.run]

theorem eff_nilc {x : Operand} (ho : o.op = .nilCheck x) {k : Kt} (hk : NILC (e x) k) : ∃ v rd, Eff P o e H0 rd [] [] v ∧ k v rd [] [] := by
  have key : ∀ (K : KHeap) (ρ : Nat → Loc) (A : Nat → Prop) (w : World) (ev : Operand → Value), (∀ y ∈ o.op.operands.toList, VRel K ρ A (e y) (ev y)) → ((∃ g off, e x = .ptr g off) ∨ (∃ cs off, e x = .rop cs off) ∨ (∃ f cs, e x = .clo f cs)) →
      ∃ cv, (execOp ev o).run P w = .ok (.value cv) w ∧ VRel K ρ A (e x) cv := by
    intro K ρ A w ev hx hc
    have h1 := hx x (by simp [Op.operands, ho])
    refine ⟨ev x, ?_, h1⟩
    rcases hc with ⟨g, off, hc⟩ | ⟨cs, off, hc⟩ | ⟨f, cs, hc⟩ <;> rw [hc] at h1 <;> generalize hcv : ev x = cv at h1 <;> cases h1 <;> simp [execOp, ho, hcv, Sem.run, pure]
  unfold NILC at hk
  split at hk
  · exact eff_pure_k hk fun K ρ A w ev hx => key K ρ A w ev hx (.inl ⟨_, _, ‹_›⟩)
  · exact eff_pure_k hk fun K ρ A w ev hx => key K ρ A w ev hx (.inr (.inl ⟨_, _, ‹_›⟩))
  · exact eff_pure_k hk fun K ρ A w ev hx => key K ρ A w ev hx (.inr (.inr ⟨_, _, ‹_›⟩))
  · exact hk.elim

theorem eff_extr {x : Operand} {i : Nat} (ho : o.op = .extract x i) {k : Kt} (hk : EXTR (e x) i k) : ∃ v rd, Eff P o e H0 rd [] [] v ∧ k v rd [] [] := by
  unfold EXTR at hk
  split at hk
  · rename_i vs hvs
    split at hk
    · rename_i v hv
      refine eff_pure_k hk fun K ρ A w ev hx => ?_
      have h1 := hx x (by simp [Op.operands, ho])
      rw [hvs] at h1
      generalize hcv : ev x = cv at h1
      cases h1 with
      | tup _ cs hl hR =>
        have hlt := (List.getElem?_eq_some_iff.1 hv).1
        have hc : cs[i]? = some cs[i] := Array.getElem?_eq_getElem (by omega)
        exact ⟨_, by simp [execOp, ho, hcv, Instr.extract, hc, Sem.run_bind, Sem.run_pure], hR i v _ hv hc⟩
    · exact hk.elim
  · exact hk.elim
end
end Go.Proofs.Ytckhbfbbpdjmdaa
