/- The operations' effects, on: structs, slices made, stores, numbers, texts. -/
import Derived.Test.YtckhbfbbpdjmdaaEff3
namespace Go.Proofs.Ytckhbfbbpdjmdaa
open Go Go.RowKit

section
variable {P : Program} {T : Nat → Option AT} {o : Oper} {e : Operand → AV} {H0 : Heap}

theorem run_places (hT : TOk P T) (w : World) : ∀ (fields : List Field) (acc : Array (Nat × Nat)), (∀ f ∈ fields, sizeT T f.type ≠ 0) →
    (Sem.run P (List.foldlM (fun (acc : Array (Nat × Nat)) (f : Field) => acc.push <$> (do pure (f.offset, ← sizeOf f.type) : Sem (Nat × Nat))) acc fields) w) = .ok (acc ++ (fields.map fun f => (f.offset, sizeT T f.type)).toArray) w
  | [], acc, _ => by simp [Sem.run, pure]
  | f :: r, acc, h => by
    have hs := sizeT_pos hT (h f (by simp)) w
    have ih := run_places hT w r (acc.push (f.offset, sizeT T f.type)) fun x hx => h x (by simp [hx])
    have hf : (acc.push <$> (do pure (f.offset, ← sizeOf f.type) : Sem (Nat × Nat))) = ((do pure (f.offset, ← sizeOf f.type) : Sem (Nat × Nat)) >>= fun x => pure (acc.push x)) := rfl
    simp only [List.foldlM_cons, hf, Sem.run_bind, hs, Result.andThen_ok, Sem.run_pure, ih]
    congr 1
    apply Array.ext'
    simp
theorem run_places' (hT : TOk P T) (w : World) (fields : Array Field) (h : ∀ f ∈ fields.toList, sizeT T f.type ≠ 0) :
    (Sem.run P (fields.mapM fun f => do pure (f.offset, ← sizeOf f.type)) w) = .ok (fields.map fun f => (f.offset, sizeT T f.type)) w := by
  rw [Array.mapM_eq_foldlM]
  have := run_places hT w fields.toList #[] h
  rw [Array.foldlM_toList] at this
  rw [this]
  congr 1
  apply Array.ext'
  simp

theorem eff_build_struct (hT : TOk P T) {t : Nat} {fs : List (Nat × Nat)} {ps : Array (Nat × Operand)} {s b : Nat} {z0 : List AV} {i : TypeInfo} {d : TypeDesc} {z : Value} (h : AtOk P t ⟨.struct fs, s, b, z0⟩ i d z)
    (hsz : (fs.all fun p => sizeT T p.1 != 0) = true) (ho : o.op = .build t ps) {k : Kt}
    (hk : BUILD (placeOf T fs) z0 (ps.toList.map fun p => (p.1, e p.2)) k) : ∃ v rd, Eff P o e H0 rd [] [] v ∧ k v rd [] [] := by
  obtain ⟨fields, hu, rfl⟩ := struct_und h
  have hall : ∀ f ∈ fields.toList, sizeT T f.type ≠ 0 := by
    intro f hf
    have := List.all_eq_true.1 hsz (f.type, f.offset) (List.mem_map.2 ⟨f, hf, rfl⟩)
    simpa using this
  unfold BUILD at hk
  split at hk
  · rename_i cells hf
    refine eff_pure_k hk fun K ρ A w ev hr => ?_
    obtain ⟨p1, p2⟩ := parts_rel (K := K) (ρ := ρ) (A := A) (ev := ev) (e := e) (ps := ps) (fun x hx => hr x (by simpa [Op.operands, ho] using hx))
    obtain ⟨rc, hrc, hR⟩ := fill_rel _ _ z0 z.cells cells p1 p2 (by have := h.cells; simp only at this; rw [this]; exact LRel.scalars _) hf
    have hpl : placeOf T (fields.toList.map fun f => (f.type, f.offset)) = ((fields.map fun f => (f.offset, sizeT T f.type))[·]?) := by
      funext j
      unfold placeOf
      simp only [List.getElem?_map, Array.getElem?_map, Array.getElem?_toList]
      cases fields[j]? <;> rfl
    rw [hpl] at hrc
    refine ⟨.agg rc, ?_, LRel.agg hR⟩
    have hp := run_places' hT w fields hall
    simp only [execOp, ho, Instr.build, Sem.run_bind, run_underlying hu, run_zeroValue_of h, Result.andThen_ok, hp]
    simp only [Array.toList_map] at hrc ⊢
    simp only [hrc, Sem.run_pure, Result.andThen_ok]
  · exact hk.elim

theorem zero_rows (cs : Array Value) (n m : Nat) (h : cs.size = m) (hm : 0 < m) : ((Array.range (n * m)).map (cs[· % cs.size]!)).toList = (List.replicate n cs.toList).flatten := by
  apply List.ext_getElem?
  intro j
  simp only [Array.toList_map, Array.toList_range, List.getElem?_map]
  induction n generalizing j with
  | zero => simp
  | succ n ih =>
    simp only [List.replicate_succ, List.flatten_cons]
    by_cases hj : j < m
    · rw [List.getElem?_append_left (by simpa [h] using hj)]
      have : j < (n + 1) * m := by rw [Nat.add_mul]; omega
      simp only [List.getElem?_range this, Option.map_some]
      rw [h, Nat.mod_eq_of_lt hj, Array.getElem?_toList, getElem!_def]
      have : cs[j]? = some (cs[j]'(by omega)) := Array.getElem?_eq_getElem (by omega)
      rw [this]
    · rw [List.getElem?_append_right (by simpa [h] using Nat.le_of_not_lt hj)]
      have ihj := ih (j - m)
      simp only [Array.length_toList, h]
      rw [← ihj]
      by_cases hlt : j < (n + 1) * m
      · have h2 : j - m < n * m := by rw [Nat.add_mul] at hlt; omega
        simp only [List.getElem?_range hlt, List.getElem?_range h2, Option.map_some, h]
        rw [show j % m = (j - m) % m by rw [Nat.mod_eq_sub_mod (by omega)]]
      · have h2 : ¬ j - m < n * m := by rw [Nat.add_mul] at hlt; omega
        rw [List.getElem?_eq_none (by simpa using Nat.le_of_not_lt hlt), List.getElem?_eq_none (by simpa using Nat.le_of_not_lt h2)]
        rfl

theorem AtOk.zsize {t : Nat} {a : AT} {i : TypeInfo} {d : TypeDesc} {z : Value} (h : AtOk P t a i d z) : z.cells.size = a.zero.length := by rw [h.cells]; simp

theorem vrel_slc0 {nx : Nat} {b n tot s : Nat} {c : Nat} (hc : c * s ≤ tot) (hn : n ≤ c) (K : KHeap) (ρ' : Nat → Loc) (A' : Nat → Prop) (h : ρ' nx = ⟨b, 0, tot, s⟩) (hA : A' nx) : VRel K ρ' A' (.slc nx 0 n) (.slice (some ⟨b, 0, none⟩) n c) :=
  .slc nx 0 n c _ hA hn fun _ => by rw [h]; exact ⟨by simpa using hc, rfl⟩

theorem flatten_length (xs : List AV) (n : Nat) : (List.replicate n xs).flatten.length = n * xs.length := by simp

theorem fillA_length {place : Nat → Option (Nat × Nat)} : ∀ (ps : List (Nat × AV)) (cells res : List AV), fillA place cells ps = some res → res.length = cells.length
  | [], cells, res, h => by simp only [fillA, Option.some.injEq] at h; rw [h]
  | (i, v) :: ps, cells, res, h => by
    simp only [fillA] at h
    split at h
    · cases h
    · split at h
      · rename_i hc
        rw [fillA_length ps _ _ h, splice_length _ _ _ (by omega)]
      · cases h

theorem eff_bslice {t el len : Nat} {a : AT} {ps : Array (Nat × Operand)} {s b : Nat} {z0 : List AV} {i i' : TypeInfo} {d d' : TypeDesc} {z z' : Value} (h : AtOk P t ⟨.slice el, s, b, z0⟩ i d z) (ha : AtOk P el a i' d' z')
    (hzl : a.zero.length = a.size) (hpos : 0 < a.size) (h24 : len * a.size ≤ 16777216) (ho : o.op = .buildSlice t len ps) {nx : Nat} {k : Kt}
    (hk : BSLICE len a.size a.zero (ps.toList.map fun p => (p.1, e p.2)) nx k) : ∃ v rd cells, Eff P o e H0 rd [nx] [(nx, some (.row a.size cells))] v ∧ k v rd [nx] [(nx, some (.row a.size cells))] := by
  have hu := slice_und h
  unfold BSLICE at hk
  split at hk
  · rename_i cells hf
    have hlen := fillA_length _ _ _ hf
    rw [flatten_length, hzl] at hlen
    obtain ⟨v, rd, h1, h2⟩ : ∃ v rd, Eff P o e H0 rd [nx] [(nx, some (.row a.size cells))] v ∧ k v rd [nx] [(nx, some (.row a.size cells))] := by
      refine eff_row hk fun A ρ H w ev s hr => ?_
      obtain ⟨p1, p2⟩ := parts_rel (K := Kof ρ H w) (ρ := ρ) (A := A) (ev := ev) (e := e) (ps := ps) (fun x hx => hr x (by simpa [Op.operands, ho] using hx))
      obtain ⟨rc, hrc, hR⟩ := fill_rel _ _ _ ((Array.range (len * a.size)).map (z'.cells[· % z'.cells.size]!)) cells p1 p2 (by
        rw [zero_rows z'.cells len a.size (by rw [ha.zsize, hzl]) hpos, ha.cells]
        exact (LRel.scalars _).replicate len) hf
      refine ⟨.slice (some ⟨w.heap.size, 0, none⟩) len len, rc, el, ?_, hR, fun K ρ' A' g1 g2 => vrel_slc0 (by have := hR.1; simp at this; omega) (Nat.le_refl _) K ρ' A' g1 g2⟩
      simp only [Array.toList_map] at hrc
      simp only [execOp, ho, Instr.buildSlice, Sem.run_bind, run_underlying hu, run_sizeOf_of ha, Result.andThen_ok]
      rw [if_neg (by omega)]
      by_cases h0 : len * a.size = 0
      · have hr0 : (Array.range (len * a.size)).map (fun x => (#[] : Array Value)[x % (#[] : Array Value).size]!) = (Array.range (len * a.size)).map (z'.cells[· % z'.cells.size]!) := by simp [h0]
        simp only [Sem.run_pure, Result.andThen_ok, Sem.run_bind, if_pos h0, hr0, Array.toList_map, hrc, newRow, newObj]
        rfl
      · simp only [Sem.run_pure, Result.andThen_ok, Sem.run_bind, if_neg h0, run_zeroValue_of ha, Array.toList_map, hrc, newRow, newObj]
        rfl
    exact ⟨v, rd, cells, h1, h2⟩
  · exact hk.elim

theorem setCells_block (b : Nat) : ∀ (vs : List Value) (q : Nat) (w : World) (c : Array Value) (el : TypeId) (fr : Nat × Nat), w.heap[b]? = some (.cells c el fr) → q + vs.length ≤ c.size →
    ∃ c', (w.setCells b q vs).heap[b]? = some (.cells c' el fr) ∧ c'.size = c.size ∧ ∀ j, c'[j]? = if q ≤ j ∧ j < q + vs.length then vs[j - q]? else c[j]?
  | [], q, w, c, el, fr, h, _ => ⟨c, h, rfl, fun j => by rw [if_neg (by simp)]⟩
  | v :: r, q, w, c, el, fr, h, hl => by
    simp only [List.length_cons] at hl
    have h1 : (w.setCell ⟨b, q, none⟩ v).heap[b]? = some (.cells (c.setIfInBounds q v) el fr) := by
      simp [World.setCell, Array.getElem?_modify, h]
    obtain ⟨c', a1, a2, a3⟩ := setCells_block b r (q + 1) (w.setCell ⟨b, q, none⟩ v) (c.setIfInBounds q v) el fr h1 (by simp; omega)
    refine ⟨c', a1, by simpa using a2, fun j => ?_⟩
    rw [a3 j]
    simp only [List.length_cons]
    by_cases hj : j = q
    · subst hj
      rw [if_neg (by omega), if_pos (by omega)]
      have : j < c.size := by omega
      simp [this]
    · rw [Array.getElem?_setIfInBounds_ne (Ne.symm hj)]
      by_cases hc : q + 1 ≤ j ∧ j < q + 1 + r.length
      · rw [if_pos hc, if_pos (by omega), show j - q = (j - (q + 1)) + 1 by omega, List.getElem?_cons_succ]
      · rw [if_neg hc, if_neg (by omega)]
theorem setCells_rest (b : Nat) : ∀ (vs : List Value) (q : Nat) (w : World), (∀ k, k ≠ b → (w.setCells b q vs).heap[k]? = w.heap[k]?) ∧ (w.setCells b q vs).heap.size = w.heap.size ∧ (w.setCells b q vs).os = w.os ∧ (w.setCells b q vs).tape = w.tape ∧ (w.setCells b q vs).output = w.output
  | [], q, w => ⟨fun _ _ => rfl, rfl, rfl, rfl, rfl⟩
  | v :: r, q, w => by
    obtain ⟨h1, h2, h3, h4, h5⟩ := setCells_rest b r (q + 1) (w.setCell ⟨b, q, none⟩ v)
    refine ⟨fun k hk => (h1 k hk).trans (Below.heap_setCell _ _ _ _ hk), h2.trans (by simp [World.setCell]), h3, h4, h5⟩

/-- Cells of an owned row are written. -/
theorem write_row {A : Nat → Prop} {ρ : Nat → Loc} {H : Heap} {w : World} (s : Sim A ρ H w) {g : Nat} {sz : Nat} {cells : List AV} (hg : H g = some (.row sz cells)) {off : Nat} {vs : List AV} {us : List Value}
    (hv : LRel (Kof ρ H w) ρ A vs us) (h1 : vs.all AV.one = true) (hl : off + vs.length ≤ cells.length) :
    ∃ w', (storeCells ⟨(ρ g).block, (ρ g).base + off, none⟩ us).run P w = .ok () w' ∧ Sim A ρ (H.put g (some (.row sz (splice cells off vs)))) w' ∧ Fr A ρ H w A ρ (H.put g (some (.row sz (splice cells off vs)))) w' ∧
      w'.heap.size = w.heap.size := by
  obtain ⟨c, el, lo, hi, e1, e2, e3, e4, e5, e6⟩ := s.obj g _ hg
  have hul : us.length = vs.length := hv.1
  have hrun := run_storeCells_cells (P := P) (ρ g).block ((ρ g).base + off) us 0 w (fun j hj => by
      have : (ρ g).base + off + 0 + j < c.size := by omega
      simp only [World.cell?, e1]
      simp
      omega)
    (fun j hj => by
      simp only [World.frozen?, e1]
      have := e2 ((ρ g).base + off + 0 + j) (by omega)
      simp; omega) (hv.ones h1)
  simp only [Nat.add_zero] at hrun
  obtain ⟨c', b1, b2, b3⟩ := setCells_block (ρ g).block us ((ρ g).base + off) w c el (lo, hi) e1 (by omega)
  obtain ⟨r1, r2, r3, r4, r5⟩ := setCells_rest (ρ g).block us ((ρ g).base + off) w
  refine ⟨_, hrun, ?_⟩
  obtain ⟨s', f'⟩ := s.write (w' := w.setCells (ρ g).block ((ρ g).base + off) us) (g := g) (by rw [hg]; rfl) (.row sz (splice cells off vs)) (fun b hb => r1 b hb) (by omega)
    ⟨c', el, lo, hi, b1, e2, by omega, e4, by rw [splice_length _ _ _ hl]; exact e5, fun j v hj => by
      rw [splice_get _ _ _ hl] at hj
      by_cases hin : off ≤ j ∧ j < off + vs.length
      · rw [if_pos hin] at hj
        obtain ⟨u, hu, hR⟩ := hv.get hj
        refine ⟨u, ?_, hR⟩
        rw [b3, if_pos (by omega)]
        rw [show (ρ g).base + j - ((ρ g).base + off) = j - off by omega]; exact hu
      · rw [if_neg hin] at hj
        obtain ⟨cv, hc, hR⟩ := e6 j v hj
        exact ⟨cv, by rw [b3, if_neg (by omega)]; exact hc, hR⟩⟩ r3 r4 r5
  exact ⟨s', f', r2⟩

theorem eff_store {t : Nat} {a : AT} {p x : Operand} {i : TypeInfo} {d : TypeDesc} {z : Value} (h : AtOk P t a i d z) (ho : o.op = .store t p x) {k : Kt} (hk : STORE a.size (e p) (e x) H0 k) :
    ∃ v rd D, Eff P o e H0 rd [] D v ∧ k v rd [] D := by
  unfold STORE at hk
  split at hk
  · rename_i g off hp
    split at hk
    · rename_i es cells hg
      obtain ⟨h1, h2, h3, h4, hk⟩ := hk
      refine ⟨_, _, _, fun A ρ H w ev s hr hrd _ => ?_, hk⟩
      have hH : H g = some (.row es cells) := by rw [hrd g (by simp)]; exact hg
      have r1 := hr p (by simp [Op.operands, ho])
      have r2 := (hr x (by simp [Op.operands, ho])).cells h4
      rw [hp] at r1
      generalize hcv : ev p = cv at r1
      cases r1 with
      | ptr _ _ ad hA ha =>
        subst ha
        obtain ⟨w', q1, q2, q3, _⟩ := write_row (P := P) (off := off) s hH r2 h3 (by omega)
        have hsz : (ev x).cells.size = a.size := by have := r2.1; simp at this; omega
        have hrun : (storeVar t ⟨(ρ g).block, (ρ g).base + off, none⟩ (ev x)).run P w = .ok () w' := by
          simp [storeVar, Sem.run_bind, run_sizeOf_of h, hsz, q1]
        have e0 : execOp ev o = (do Instr.storeAt t (ev p) (ev x); pure Next.skip) := by simp only [execOp, ho]
        rw [e0]
        refine flow_unit (w' := w') (by simp [Instr.storeAt, hcv, Instr.sureAddr, Sem.run_bind, Sem.run_pure, hrun]) ⟨ρ, ?_, ?_, ?_⟩
        · rw [or_nil]; exact q2
        · exact .und
        · rw [or_nil]; exact q3
    · exact hk.elim
  · exact hk.elim
end
end Go.Proofs.Ytckhbfbbpdjmdaa
