/- More of how what is to be shown is taken apart. -/
import Derived.Test.YtckhbfbbpdjmdaaUse
namespace Go.Proofs.Ytckhbfbbpdjmdaa
open Go Go.RowKit

section
variable {k : AV → Prop} {ki : IntKind} {A : Prop}
def rowOf : Option AObj → Option (List AV)
  | some (.row _ cs) => some cs
  | _ => none
@[simp ↓] theorem ld_rop (sz : Nat) (cs : List AV) (q : Nat) (H : Heap) : LD false sz (.rop cs q) H k = OPTK cs[q]? k := by
  simp only [LD, LOAD, rdp, ldv, cond_false, qk, OPTK]
  cases cs[q]? <;> simp
@[simp ↓] theorem ld_rop_agg (sz : Nat) (cs : List AV) (q : Nat) (H : Heap) : LD true sz (.rop cs q) H k = (q + sz ≤ cs.length ∧ k (.agg ((cs.drop q).take sz))) := by
  simp only [LD, LOAD, rdp, ldv, cond_true, qk]
  by_cases h : q + sz ≤ cs.length <;> simp [h]
theorem rowk_ex {o : Option AObj} {kr : Nat → List AV → Prop} (h : ∀ s cs, o = some (.row s cs) → (A ↔ kr s cs)) (hn : (∀ s cs, o ≠ some (.row s cs)) → ¬ A) : A = ROWK o kr := by
  apply propext; constructor
  · intro ha
    by_cases he : ∃ s cs, o = some (.row s cs)
    · obtain ⟨s, cs, he⟩ := he; exact ⟨s, cs, he, (h s cs he).1 ha⟩
    · exact absurd ha (hn fun s cs e => he ⟨s, cs, e⟩)
  · rintro ⟨s, cs, he, hk⟩; exact (h s cs he).2 hk
@[simp ↓] theorem ld_p {sz g q : Nat} {H : Heap} : LD false sz (.ptr g q) H k = ROWK (H g) fun _ cs => OPTK cs[q]? k := by
  refine rowk_ex (fun s cs h => ?_) fun h => ?_
  · simp only [LD, LOAD, rdp, qk, h, ldv, cond_false, OPTK]; cases hq : cs[q]? <;> simp [hq]
  · simp only [LD, LOAD, rdp, qk]
    exact id
@[simp ↓] theorem ld_p_agg {sz g q : Nat} {H : Heap} : LD true sz (.ptr g q) H k = ROWK (H g) fun _ cs => q + sz ≤ cs.length ∧ k (.agg ((cs.drop q).take sz)) := by
  refine rowk_ex (fun s cs h => ?_) fun h => ?_
  · simp only [LD, LOAD, rdp, qk, h, ldv, cond_true]; by_cases hq : q + sz ≤ cs.length <;> simp [hq]
  · simp only [LD, LOAD, rdp, qk]
    exact id
@[simp ↓] theorem ldr_rop {kr : AV → List Nat → Prop} (sz : Nat) (cs : List AV) (q : Nat) (H : Heap) : LDR false sz (.rop cs q) H kr = OPTK cs[q]? fun v => kr v [] := by
  simp only [LDR, LOAD, rdp, ldv, cond_false, OPTK]
  cases cs[q]? <;> simp
@[simp ↓] theorem ldr_rop_agg {kr : AV → List Nat → Prop} (sz : Nat) (cs : List AV) (q : Nat) (H : Heap) : LDR true sz (.rop cs q) H kr = (q + sz ≤ cs.length ∧ kr (.agg ((cs.drop q).take sz)) []) := by
  simp only [LDR, LOAD, rdp, ldv, cond_true]
  by_cases h : q + sz ≤ cs.length <;> simp [h]
@[simp ↓] theorem ldr_p {kr : AV → List Nat → Prop} {sz g q : Nat} {H : Heap} : LDR false sz (.ptr g q) H kr = ROWK (H g) fun _ cs => OPTK cs[q]? fun v => kr v [g] := by
  refine rowk_ex (fun s cs h => ?_) fun h => ?_
  · simp only [LDR, LOAD, rdp, h, ldv, cond_false, OPTK]; cases hq : cs[q]? <;> simp [hq]
  · simp only [LDR, LOAD, rdp]
    exact id
@[simp ↓] theorem ldr_p_agg {kr : AV → List Nat → Prop} {sz g q : Nat} {H : Heap} : LDR true sz (.ptr g q) H kr = ROWK (H g) fun _ cs => q + sz ≤ cs.length ∧ kr (.agg ((cs.drop q).take sz)) [g] := by
  refine rowk_ex (fun s cs h => ?_) fun h => ?_
  · simp only [LDR, LOAD, rdp, h, ldv, cond_true]; by_cases hq : q + sz ≤ cs.length <;> simp [hq]
  · simp only [LDR, LOAD, rdp]
    exact id
@[simp ↓] theorem st_p {sz g q : Nat} {H : Heap} {v : AV} {kh : Heap → Prop} :
    ST sz (.ptr g q) v H kh = ROWK (H g) fun es cs => v.cells.length = sz ∧ q + sz ≤ cs.length ∧ v.cells.all AV.one = true ∧ v.sure = true ∧ kh (H.put g (some (.row es (splice cs q v.cells)))) := by
  refine rowk_ex (fun s cs h => ?_) fun h => ?_
  · simp only [ST, STORE, h, Heap.apply]
  · simp only [ST, STORE]
    exact id
@[simp ↓] theorem store_p {sz g q : Nat} {H : Heap} {v : AV} {kt : Kt} :
    STORE sz (.ptr g q) v H kt = ROWK (H g) fun es cs => v.cells.length = sz ∧ q + sz ≤ cs.length ∧ v.cells.all AV.one = true ∧ v.sure = true ∧ kt .und [g] [] [(g, some (.row es (splice cs q v.cells)))] := by
  refine rowk_ex (fun s cs h => ?_) fun h => ?_
  · simp only [STORE, h]
  · simp only [STORE]
    exact id
@[simp ↓] theorem bd_eq {pl : Nat → Option (Nat × Nat)} {z : List AV} {ps : List (Nat × AV)} : BD pl z ps k = OPTK (fillA pl z ps) fun cells => k (.agg cells) := by
  simp only [BD, BUILD, PURE, qk, OPTK]
  cases fillA pl z ps <;> simp
@[simp ↓] theorem bsl_eq {len esz : Nat} {z : List AV} {ps : List (Nat × AV)} {kc : List AV → Prop} : BSL len esz z ps kc = OPTK (fillA (fun i => some (i * esz, esz)) ((List.replicate len z).flatten) ps) kc := by
  simp only [BSL, OPTK]
  cases fillA (fun i => some (i * esz, esz)) ((List.replicate len z).flatten) ps <;> simp
@[simp] theorem fillA_nil {pl : Nat → Option (Nat × Nat)} {z : List AV} : fillA pl z [] = some z := rfl
@[simp ↓] theorem fillA_cons {pl : Nat → Option (Nat × Nat)} {z : List AV} {i : Nat} {v : AV} {r : List (Nat × AV)} {kc : List AV → Prop} : OPTK (fillA pl z ((i, v) :: r)) kc =
    OPTK (pl i) fun p => v.cells.length = p.2 ∧ p.1 + p.2 ≤ z.length ∧ v.sure = true ∧ OPTK (fillA pl (splice z p.1 v.cells) r) kc := by
  have e : fillA pl z ((i, v) :: r) = match pl i with
    | none => none
    | some (off, size) => if v.cells.length = size ∧ off + size ≤ z.length ∧ v.sure = true then fillA pl (splice z off v.cells) r else none := rfl
  rw [e]
  cases pl i with
  | none => simp
  | some p =>
    obtain ⟨off, size⟩ := p
    simp only [optk]
    by_cases h : v.cells.length = size ∧ off + size ≤ z.length ∧ v.sure = true
    · rw [if_pos h]; simp [h]
    · rw [if_neg h]
      rw [optk_none]
      apply propext
      constructor
      · intro h; exact h.elim
      · rintro ⟨h1, h2, h3, _⟩; exact h ⟨h1, h2, h3⟩
@[simp] theorem placeOf_eq {T : Nat → Option AT} {fs : List (Nat × Nat)} {i : Nat} : placeOf T fs i = match fs[i]? with | some (t, off) => some (off, sizeT T t) | none => none := rfl
@[simp ↓] theorem mk_int {b : Nat} {k1 k2 : IntKind} {n m : Int} {kn : Nat → Prop} : MK b (.int k1 n) (.int k2 m) kn = (m = n ∧ 0 ≤ n ∧ n ≤ 140737488355328 ∧ n.toNat * b ≤ 140737488355328 ∧ kn n.toNat) := rfl
@[simp ↓] theorem fi_one {s o : Nat} {xs : List AV} : FI false s o (.agg xs) k = OPTK xs[o]? k := by
  simp only [FI, FIELD, partOf, ldv, cond_false, PURE, qk, OPTK]
  cases xs[o]? <;> simp
@[simp ↓] theorem fi_agg {s o : Nat} {xs : List AV} : FI true s o (.agg xs) k = (o + s ≤ xs.length ∧ k (.agg ((xs.drop o).take s))) := by
  simp only [FI, FIELD, partOf, ldv, cond_true, PURE, qk]
  by_cases h : o + s ≤ xs.length <;> simp [h]
@[simp ↓] theorem ai_one {s l : Nat} {xs : List AV} {n : Int} : AI false s l (.agg xs) (.int ki n) k = (0 ≤ n ∧ n < l ∧ OPTK xs[n.toNat * s]? k) := by
  simp only [AI, AINDEX, FIELD, partOf, ldv, cond_false, PURE, qk, OPTK]
  cases xs[n.toNat * s]? <;> simp
@[simp ↓] theorem aa_ptr {s l g o : Nat} {n : Int} : AA s l (.ptr g o) (.int ki n) k = (0 ≤ n ∧ n < l ∧ k (.ptr g (o + n.toNat * s))) := rfl
@[simp ↓] theorem aa_rop {s l o : Nat} {cs : List AV} {n : Int} : AA s l (.rop cs o) (.int ki n) k = (0 ≤ n ∧ n < l ∧ k (.rop cs (o + n.toNat * s))) := rfl
@[simp ↓] theorem lnl_none : LNL (.ro []) k = k (.int .i64 0) := rfl
@[simp ↓] theorem nc_clo {f : FuncId} {c : List AV} : NC (.clo f c) k = k (.clo f c) := rfl

@[simp] theorem app_nil {H : Heap} : H.apply [] = H := rfl
@[simp] theorem app_cons {H : Heap} {g : Nat} {o : Option AObj} {r : Delta} : H.apply ((g, o) :: r) = (H.put g o).apply r := rfl
@[simp ↓] theorem disjK_nil {l : List Nat} {A : Prop} : disjK [] l A = A := rfl
@[simp ↓] theorem disjK_cons {g : Nat} {r l : List Nat} {A : Prop} : disjK (g :: r) l A = (g ∉ l ∧ disjK r l A) := rfl
@[simp] theorem domD_nil : domD [] = [] := rfl
@[simp] theorem domD_cons {g : Nat} {o : Option AObj} {r : Delta} : domD ((g, o) :: r) = g :: domD r := rfl
@[simp ↓] theorem gd_true {A : Prop} : gd true A = A := rfl
@[simp] theorem cells_ptr (g o : Nat) : (AV.ptr g o).cells = [AV.ptr g o] := rfl
@[simp] theorem cells_nils : AV.nils.cells = [AV.nils] := rfl
@[simp] theorem cells_amap (g : Nat) : (AV.amap g).cells = [AV.amap g] := rfl
@[simp] theorem sure_ptr (g o : Nat) : (AV.ptr g o).sure = true := rfl
@[simp] theorem sure_nils : AV.nils.sure = true := rfl
@[simp] theorem sure_amap (g : Nat) : (AV.amap g).sure = true := rfl
@[simp] theorem one_ptr (g o : Nat) : (AV.ptr g o).one = true := rfl
@[simp] theorem one_nils : AV.nils.one = true := rfl
@[simp] theorem one_amap (g : Nat) : (AV.amap g).one = true := rfl
theorem cells_clo (f : FuncId) (c : List AV) : (AV.clo f c).cells = [AV.clo f c] := rfl
@[simp] theorem sure_clo (f : FuncId) (c : List AV) : (AV.clo f c).sure = true := rfl
@[simp] theorem one_clo (f : FuncId) (c : List AV) : (AV.clo f c).one = true := rfl
@[simp] theorem splice_eq (cs : List AV) (o : Nat) (vs : List AV) : splice cs o vs = cs.take o ++ vs ++ cs.drop (o + vs.length) := rfl
@[simp] theorem nth_10 (x0 x1 x2 x3 x4 x5 x6 x7 x8 x9 x10 : AV) (xs : List AV) : nth (x0 :: x1 :: x2 :: x3 :: x4 :: x5 :: x6 :: x7 :: x8 :: x9 :: x10 :: xs) 10 = x10 := rfl
@[simp] theorem nth_11 (x0 x1 x2 x3 x4 x5 x6 x7 x8 x9 x10 x11 : AV) (xs : List AV) : nth (x0 :: x1 :: x2 :: x3 :: x4 :: x5 :: x6 :: x7 :: x8 :: x9 :: x10 :: x11 :: xs) 11 = x11 := rfl
@[simp] theorem nth_12 (x0 x1 x2 x3 x4 x5 x6 x7 x8 x9 x10 x11 x12 : AV) (xs : List AV) : nth (x0 :: x1 :: x2 :: x3 :: x4 :: x5 :: x6 :: x7 :: x8 :: x9 :: x10 :: x11 :: x12 :: xs) 12 = x12 := rfl
@[simp] theorem nth_13 (x0 x1 x2 x3 x4 x5 x6 x7 x8 x9 x10 x11 x12 x13 : AV) (xs : List AV) : nth (x0 :: x1 :: x2 :: x3 :: x4 :: x5 :: x6 :: x7 :: x8 :: x9 :: x10 :: x11 :: x12 :: x13 :: xs) 13 = x13 := rfl
@[simp] theorem nth_14 (x0 x1 x2 x3 x4 x5 x6 x7 x8 x9 x10 x11 x12 x13 x14 : AV) (xs : List AV) : nth (x0 :: x1 :: x2 :: x3 :: x4 :: x5 :: x6 :: x7 :: x8 :: x9 :: x10 :: x11 :: x12 :: x13 :: x14 :: xs) 14 = x14 := rfl
@[simp] theorem nth_15 (x0 x1 x2 x3 x4 x5 x6 x7 x8 x9 x10 x11 x12 x13 x14 x15 : AV) (xs : List AV) : nth (x0 :: x1 :: x2 :: x3 :: x4 :: x5 :: x6 :: x7 :: x8 :: x9 :: x10 :: x11 :: x12 :: x13 :: x14 :: x15 :: xs) 15 = x15 := rfl
@[simp] theorem nth_16 (x0 x1 x2 x3 x4 x5 x6 x7 x8 x9 x10 x11 x12 x13 x14 x15 x16 : AV) (xs : List AV) : nth (x0 :: x1 :: x2 :: x3 :: x4 :: x5 :: x6 :: x7 :: x8 :: x9 :: x10 :: x11 :: x12 :: x13 :: x14 :: x15 :: x16 :: xs) 16 = x16 := rfl
@[simp] theorem nth_17 (x0 x1 x2 x3 x4 x5 x6 x7 x8 x9 x10 x11 x12 x13 x14 x15 x16 x17 : AV) (xs : List AV) : nth (x0 :: x1 :: x2 :: x3 :: x4 :: x5 :: x6 :: x7 :: x8 :: x9 :: x10 :: x11 :: x12 :: x13 :: x14 :: x15 :: x16 :: x17 :: xs) 17 = x17 := rfl
@[simp] theorem nth_18 (x0 x1 x2 x3 x4 x5 x6 x7 x8 x9 x10 x11 x12 x13 x14 x15 x16 x17 x18 : AV) (xs : List AV) : nth (x0 :: x1 :: x2 :: x3 :: x4 :: x5 :: x6 :: x7 :: x8 :: x9 :: x10 :: x11 :: x12 :: x13 :: x14 :: x15 :: x16 :: x17 :: x18 :: xs) 18 = x18 := rfl
@[simp] theorem nth_19 (x0 x1 x2 x3 x4 x5 x6 x7 x8 x9 x10 x11 x12 x13 x14 x15 x16 x17 x18 x19 : AV) (xs : List AV) : nth (x0 :: x1 :: x2 :: x3 :: x4 :: x5 :: x6 :: x7 :: x8 :: x9 :: x10 :: x11 :: x12 :: x13 :: x14 :: x15 :: x16 :: x17 :: x18 :: x19 :: xs) 19 = x19 := rfl
@[simp] theorem nth_20 (x0 x1 x2 x3 x4 x5 x6 x7 x8 x9 x10 x11 x12 x13 x14 x15 x16 x17 x18 x19 x20 : AV) (xs : List AV) : nth (x0 :: x1 :: x2 :: x3 :: x4 :: x5 :: x6 :: x7 :: x8 :: x9 :: x10 :: x11 :: x12 :: x13 :: x14 :: x15 :: x16 :: x17 :: x18 :: x19 :: x20 :: xs) 20 = x20 := rfl
@[simp] theorem nth_21 (x0 x1 x2 x3 x4 x5 x6 x7 x8 x9 x10 x11 x12 x13 x14 x15 x16 x17 x18 x19 x20 x21 : AV) (xs : List AV) : nth (x0 :: x1 :: x2 :: x3 :: x4 :: x5 :: x6 :: x7 :: x8 :: x9 :: x10 :: x11 :: x12 :: x13 :: x14 :: x15 :: x16 :: x17 :: x18 :: x19 :: x20 :: x21 :: xs) 21 = x21 := rfl
@[simp] theorem nth_22 (x0 x1 x2 x3 x4 x5 x6 x7 x8 x9 x10 x11 x12 x13 x14 x15 x16 x17 x18 x19 x20 x21 x22 : AV) (xs : List AV) : nth (x0 :: x1 :: x2 :: x3 :: x4 :: x5 :: x6 :: x7 :: x8 :: x9 :: x10 :: x11 :: x12 :: x13 :: x14 :: x15 :: x16 :: x17 :: x18 :: x19 :: x20 :: x21 :: x22 :: xs) 22 = x22 := rfl
@[simp] theorem nth_23 (x0 x1 x2 x3 x4 x5 x6 x7 x8 x9 x10 x11 x12 x13 x14 x15 x16 x17 x18 x19 x20 x21 x22 x23 : AV) (xs : List AV) : nth (x0 :: x1 :: x2 :: x3 :: x4 :: x5 :: x6 :: x7 :: x8 :: x9 :: x10 :: x11 :: x12 :: x13 :: x14 :: x15 :: x16 :: x17 :: x18 :: x19 :: x20 :: x21 :: x22 :: x23 :: xs) 23 = x23 := rfl
attribute [simp] Heap.put_eq
@[simp] theorem Heap.put_put (H : Heap) (g : Nat) (a b : Option AObj) : (H.put g a).put g b = H.put g b := by
  funext x; simp only [Heap.put_eq]; split <;> rfl

/-- Appending. -/
@[simp ↓] theorem app_slc {esz bytes g off len nx : Nat} {x : AV} {H : Heap} {kk : AV → Heap → Nat → Prop} : APP esz bytes (.slc g off len) x H nx kk = OPTK (srcCells esz H x) fun p => ROWK (H g) fun s cells => s = esz ∧ p.2.1.all AV.one = true ∧
    off + len * esz ≤ cells.length ∧ (len + p.1) * bytes ≤ 140737488355328 ∧ kk (.slc nx 0 (len + p.1)) ((H.put g none).put nx (some (.row esz ((cells.drop off).take (len * esz) ++ p.2.1)))) (nx + 1) := by
  simp only [APP, APPEND, OPTK, ROWK]
  cases hs : srcCells esz H x with
  | none => simp
  | some p =>
    obtain ⟨m, news, rd⟩ := p
    cases hg : H g with
    | none => simp
    | some o =>
      cases o with
      | mp es => simp
      | row sz cells =>
        simp [Heap.apply]
        constructor
        · rintro ⟨h1, rfl, h2, h3, h4⟩; exact ⟨_, _, ⟨rfl, rfl⟩, rfl, h1, h2, h3, h4⟩
        · rintro ⟨_, _, ⟨rfl, rfl⟩, rfl, h1, h2, h3, h4⟩; exact ⟨h1, rfl, h2, h3, h4⟩
@[simp ↓] theorem app_nils {esz bytes nx : Nat} {x : AV} {H : Heap} {kk : AV → Heap → Nat → Prop} : APP esz bytes .nils x H nx kk = OPTK (srcCells esz H x) fun p => p.2.1.all AV.one = true ∧
    (p.1 = 0 → kk .nils H nx) ∧ (p.1 ≠ 0 → p.1 * bytes ≤ 140737488355328 ∧ kk (.slc nx 0 p.1) (H.put nx (some (.row esz p.2.1))) (nx + 1)) := by
  simp only [APP, APPEND, OPTK]
  cases hs : srcCells esz H x with
  | none => simp
  | some p => obtain ⟨m, news, rd⟩ := p; simp [Heap.apply]
@[simp ↓] theorem append_slc {esz bytes g off len nx : Nat} {x : AV} {H : Heap} {kt : Kt} : APPEND esz bytes (.slc g off len) x H nx kt = OPTK (srcCells esz H x) fun p => ROWK (H g) fun s cells => s = esz ∧ p.2.1.all AV.one = true ∧
    off + len * esz ≤ cells.length ∧ (len + p.1) * bytes ≤ 140737488355328 ∧ kt (.slc nx 0 (len + p.1)) (g :: p.2.2) [nx] [(g, none), (nx, some (.row esz ((cells.drop off).take (len * esz) ++ p.2.1)))] := by
  simp only [APPEND, OPTK, ROWK]
  cases hs : srcCells esz H x with
  | none => simp
  | some p =>
    obtain ⟨m, news, rd⟩ := p
    cases hg : H g with
    | none => simp
    | some o =>
      cases o with
      | mp es => simp
      | row sz cells =>
        simp
        constructor
        · rintro ⟨h1, rfl, h2, h3, h4⟩; exact ⟨_, _, ⟨rfl, rfl⟩, rfl, h1, h2, h3, h4⟩
        · rintro ⟨_, _, ⟨rfl, rfl⟩, rfl, h1, h2, h3, h4⟩; exact ⟨h1, rfl, h2, h3, h4⟩
@[simp ↓] theorem append_nils {esz bytes nx : Nat} {x : AV} {H : Heap} {kt : Kt} : APPEND esz bytes .nils x H nx kt = OPTK (srcCells esz H x) fun p => p.2.1.all AV.one = true ∧
    (p.1 = 0 → kt .nils p.2.2 [] []) ∧ (p.1 ≠ 0 → p.1 * bytes ≤ 140737488355328 ∧ kt (.slc nx 0 p.1) p.2.2 [nx] [(nx, some (.row esz p.2.1))]) := by
  simp only [APPEND, OPTK]
  cases hs : srcCells esz H x with
  | none => simp
  | some p => obtain ⟨m, news, rd⟩ := p; simp
@[simp ↓] theorem src_slc {esz g off len : Nat} {H : Heap} {kp : Nat × List AV × List Nat → Prop} : OPTK (srcCells esz H (.slc g off len)) kp = ROWK (H g) fun _ cells => off + len * esz ≤ cells.length ∧ kp (len, (cells.drop off).take (len * esz), [g]) := by
  simp only [srcCells, OPTK, ROWK]
  cases hg : H g with
  | none => simp
  | some o =>
    cases o with
    | mp es => simp
    | row sz cells =>
      by_cases h : off + len * esz ≤ cells.length
      · simp [h]
        constructor
        · intro hk; exact ⟨_, _, ⟨rfl, rfl⟩, h, hk⟩
        · rintro ⟨_, _, ⟨rfl, rfl⟩, _, hk⟩; exact hk
      · simp [h]
@[simp] theorem src_ro {esz : Nat} {xs : List (List AV)} {H : Heap} (h : ∀ x ∈ xs, x.length = esz) : srcCells esz H (.ro xs) = some (xs.length, xs.flatten, []) := by
  simp only [srcCells]
  rw [if_pos (by simpa using h)]
@[simp] theorem src_str {s : List UInt8} {H : Heap} : srcCells 1 H (.str s) = some (s.length, s.map (fun b => .int .u8 (b.toNat : Int)), []) := rfl
@[simp] theorem src_nils {esz : Nat} {H : Heap} : srcCells esz H .nils = some (0, [], []) := rfl

/-- What was there is there as it was. -/
def Keep (nx : Nat) (H' H : Heap) : Prop := ∀ g, g < nx → H' g = H g
@[simp] theorem Keep.rfl {nx : Nat} {H : Heap} : Keep nx H H = True := by simp [Keep]
theorem Keep.put {nx g : Nat} {o : Option AObj} {H H0 : Heap} (h : nx ≤ g) : Keep nx (H.put g o) H0 = Keep nx H H0 := by
  unfold Keep
  apply propext
  constructor
  · intro hk x hx; have := hk x hx; rwa [Heap.put_ne _ _ (by omega)] at this
  · intro hk x hx; rw [Heap.put_ne _ _ (by omega)]; exact hk x hx
@[simp] theorem Keep.put0 {nx : Nat} {o : Option AObj} {H H0 : Heap} : Keep nx (H.put nx o) H0 = Keep nx H H0 := Keep.put (Nat.le_refl _)
@[simp] theorem Keep.putS {nx i : Nat} {o : Option AObj} {H H0 : Heap} : Keep nx (H.put (nx + i) o) H0 = Keep nx H H0 := Keep.put (by omega)
theorem Keep.trans {n m : Nat} {H1 H2 H3 : Heap} (h : Keep m H1 H2) (hn : n ≤ m) (k : Keep n H2 H3) : Keep n H1 H3 := fun g hg => (h g (by omega)).trans (k g hg)
theorem QC.of' {P : Program} {f : FuncId} {args : List AV} {r : AV} (h : ∀ H nx, ACalls P f args H nx fun v H' _ => Frz H' nx v r ∧ Keep nx H' H) : QC P f args r := QC.of h
@[simp] theorem frz_i {H : Heap} {nx : Nat} {a : Int} {r : AV} : Frz H nx (.int ki a) r = (r = .int ki a) := by
  apply propext; constructor
  · intro h; cases h; rfl
  · rintro rfl; exact .same _ (.int _ _)
@[simp] theorem frz_b {H : Heap} {nx : Nat} {a : Bool} {r : AV} : Frz H nx (.bool a) r = (r = .bool a) := by
  apply propext; constructor
  · intro h; cases h; rfl
  · rintro rfl; exact .same _ (.bool _)
@[simp] theorem frz_s {H : Heap} {nx : Nat} {a : List UInt8} {r : AV} : Frz H nx (.str a) r = (r = .str a) := by
  apply propext; constructor
  · intro h; cases h; rfl
  · rintro rfl; exact .same _ (.str _)
theorem QC.call {P : Program} {f : FuncId} {args : List AV} {r : AV} (h : QC P f args r) {H : Heap} {nx : Nat} {kk : AV → Heap → Nat → Prop} (hk : kk r H nx) : ACalls P f args H nx kk :=
  (h H nx).mono fun v H' nx' ⟨h1, h2, h3⟩ => by subst h1; subst h2; subst h3; exact hk
end
end Go.Proofs.Ytckhbfbbpdjmdaa
