/- Maps, and more. -/
import Derived.Test.YtckhbfbbpdjmdaaUse2
namespace Go.Proofs.Ytckhbfbbpdjmdaa
open Go Go.RowKit

section
variable {k : AV → Prop} {ki : IntKind}
@[simp ↓] theorem mu_p {g : Nat} {key v : AV} {H : Heap} {kh : Heap → Prop} : MU (.amap g) key v H kh = MAPK (H g) fun es => OPTK (findK key es) fun r => kh (H.put g (some (.mp (match r with | some (i, _) => es.set i (key, v) | none => es ++ [(key, v)])))) := by
  simp only [MU, MUPD, OPTK, MAPK]
  cases hg : H g with
  | none => simp
  | some o =>
    cases o with
    | row s cs => simp
    | mp es =>
      simp only [Option.some.injEq, AObj.mp.injEq, exists_eq_left']
      cases findK key es with
      | none => simp
      | some r => cases r <;> simp [Heap.apply]
@[simp ↓] theorem lk_p {z : List AV} {agg ok : Bool} {g : Nat} {key : AV} {H : Heap} : LK z agg (.amap g) key ok H k = MAPK (H g) fun es => OPTK (findK key es) fun r => k (match r with | some (_, v) => (bif ok then .tup [v, .bool true] else v) | none => (bif ok then .tup [(bif agg then .agg z else z.getD 0 .junk), .bool false] else (bif agg then .agg z else z.getD 0 .junk))) := by
  simp only [LK, LOOK, qk, OPTK, MAPK]
  cases hg : H g with
  | none => simp
  | some o =>
    cases o with
    | row s cs => simp
    | mp es =>
      simp only [Option.some.injEq, AObj.mp.injEq, exists_eq_left']
      cases findK key es with
      | none => simp
      | some r => cases r <;> simp [Heap.apply]
@[simp ↓] theorem look_p {z : List AV} {agg ok : Bool} {g : Nat} {key : AV} {H : Heap} {kt : Kt} : LOOK z agg (.amap g) key ok H kt = MAPK (H g) fun es => OPTK (findK key es) fun r => kt (match r with | some (_, v) => (bif ok then .tup [v, .bool true] else v) | none => (bif ok then .tup [(bif agg then .agg z else z.getD 0 .junk), .bool false] else (bif agg then .agg z else z.getD 0 .junk))) [g] [] [] := by
  simp only [LOOK, OPTK, MAPK]
  cases hg : H g with
  | none => simp
  | some o =>
    cases o with
    | row s cs => simp
    | mp es =>
      simp only [Option.some.injEq, AObj.mp.injEq, exists_eq_left']
      cases findK key es with
      | none => simp
      | some r => cases r <;> simp [Heap.apply]
@[simp ↓] theorem mupd_p {g : Nat} {key v : AV} {H : Heap} {kt : Kt} : MUPD (.amap g) key v H kt = MAPK (H g) fun es => OPTK (findK key es) fun r => kt .und [g] [] [(g, some (.mp (match r with | some (i, _) => es.set i (key, v) | none => es ++ [(key, v)])))] := by
  simp only [MUPD, OPTK, MAPK]
  cases hg : H g with
  | none => simp
  | some o =>
    cases o with
    | row s cs => simp
    | mp es =>
      simp only [Option.some.injEq, AObj.mp.injEq, exists_eq_left']
      cases findK key es with
      | none => simp
      | some r => cases r <;> simp [Heap.apply]
theorem mu_new {n g p : Nat} {op : Option AObj} {es : List (AV × AV)} {key v : AV} {H H0 : Heap} {kh : Heap → Prop} (hH : H g = some (.mp es)) (hp : H p = op) (hpg : p ≠ g) (hK : Keep n H H0) (hn : n ≤ g) (hf : findK key es = some none)
    (hk : ∀ H', H' g = some (.mp (es ++ [(key, v)])) → H' p = op → Keep n H' H0 → kh H') : MU (.amap g) key v H kh := by
  rw [mu_p, hH, mapk, hf, optk]
  exact hk _ (Heap.put_at _ _ _) (by rw [Heap.put_ne _ _ hpg]; exact hp) ((Keep.put hn).symm ▸ hK)
@[simp ↓ high] theorem ia_map {α : Type} {esz : Nat} {l : List α} {f : α → List AV} {n : Int} : IA esz (.ro (l.map f)) (.int ki n) k = (0 ≤ n ∧ n < l.length ∧ OPTK l[n.toNat]? fun x => (f x).length = esz ∧ k (.rop (f x) 0)) := by
  rw [ia_ro]
  apply propext
  constructor
  · rintro ⟨h0, h1, h2, h3⟩
    have hlt : n.toNat < l.length := by simp at h1; omega
    refine ⟨h0, by simpa using h1, l[n.toNat], by simp [hlt], ?_⟩
    simp [List.getD_eq_getElem?_getD, hlt] at h2 h3
    exact ⟨h2, h3⟩
  · rintro ⟨h0, h1, x, h2, h3, h4⟩
    refine ⟨h0, by simpa using h1, ?_⟩
    simp [List.getD_eq_getElem?_getD, h2]
    exact ⟨h3, h4⟩
theorem optk_of {α : Type} {o : Option α} {v : α} {kk : α → Prop} (h : o = some v) (hk : kk v) : OPTK o kk := ⟨v, h, hk⟩
theorem optk_lt {α : Type} {l : List α} {n : Nat} {kk : α → Prop} (h : n < l.length) (hk : ∀ x, l[n]? = some x → kk x) : OPTK l[n]? kk := ⟨l[n], by simp [h], hk _ (by simp [h])⟩
@[simp] theorem findK_nil {key : AV} : findK key [] = some none := rfl
theorem findK_cons {key v : AV} {q : AV} {r : List (AV × AV)} : findK key ((q, v) :: r) = match keyEq key q with
    | some true => some (some (0, v))
    | some false => (findK key r).map (fun o => o.map fun p => (p.1 + 1, p.2))
    | none => none := rfl
@[simp] theorem findK_int {k1 : IntKind} {x y : Int} {v : AV} {r : List (AV × AV)} : findK (.int k1 x) ((.int k1 y, v) :: r) = if x = y then some (some (0, v)) else (findK (.int k1 x) r).map (fun o => o.map fun p => (p.1 + 1, p.2)) := by
  rw [findK_cons]
  by_cases h : x = y
  · simp [keyEq, h]
  · have e : (x == y) = false := by simpa using h
    simp [keyEq, h, e]
@[simp] theorem findK_str {x y : List UInt8} {v : AV} {r : List (AV × AV)} : findK (.str x) ((.str y, v) :: r) = if x = y then some (some (0, v)) else (findK (.str x) r).map (fun o => o.map fun p => (p.1 + 1, p.2)) := by
  rw [findK_cons]
  by_cases h : x = y
  · simp [keyEq, h]
  · have e : (x == y) = false := by simpa using h
    simp [keyEq, h, e]
@[simp] theorem keyEq_int {k1 : IntKind} {a b : Int} : keyEq (.int k1 a) (.int k1 b) = some (a == b) := by simp [keyEq]
@[simp] theorem keyEq_str {a b : List UInt8} : keyEq (.str a) (.str b) = some (a == b) := rfl
@[simp] theorem keyFit_int {k1 k2 : IntKind} {a : Int} : keyFit (.int k1) (.int k2 a) = true := rfl
@[simp] theorem keyFit_str {a : List UInt8} : keyFit .str (.str a) = true := rfl
theorem Frz.tup2 {H : Heap} {nx : Nat} {a b x y : AV} (h1 : Frz H nx a x) (h2 : Frz H nx b y) : Frz H nx (.tup [a, b]) (.tup [x, y]) := by
  refine .tup _ _ rfl fun j v u hv hu => ?_
  match j, hv, hu with
  | 0, hv, hu => cases hv; cases hu; exact h1
  | 1, hv, hu => cases hv; cases hu; exact h2
@[simp] theorem frz_tup2 {H : Heap} {nx : Nat} {a b x y : AV} : Frz H nx (.tup [a, b]) (.tup [x, y]) = (Frz H nx a x ∧ Frz H nx b y) := by
  apply propext; constructor
  · intro h
    cases h with
    | same _ h => cases h with | tup _ h => exact ⟨.same _ (h 0 _ rfl), .same _ (h 1 _ rfl)⟩
    | tup _ _ _ h => exact ⟨h 0 _ _ rfl rfl, h 1 _ _ rfl rfl⟩
  · rintro ⟨h1, h2⟩; exact h1.tup2 h2
/-- A row of numbers, made in the call. -/
theorem Frz.row {H : Heap} {nx g : Nat} {sz len : Nat} {cells : List AV} {xs : List (List AV)} (hg : nx ≤ g) (hH : H g = some (.row sz cells)) (hl : xs.length = len) (hs : ∀ x ∈ xs, x.length = sz) (hc : xs.flatten = cells) (hb : ∀ c ∈ cells, Bel (· < nx) c) :
    Frz H nx (.slc g 0 len) (.ro xs) := by
  have hflat : ∀ (xs : List (List AV)), (∀ x ∈ xs, x.length = sz) → ∀ (i : Nat) (x : List AV) (j : Nat) (v : AV), xs[i]? = some x → x[j]? = some v → xs.flatten[i * sz + j]? = some v := by
    intro xs
    induction xs with
    | nil => intro _ i x j v hx; simp at hx
    | cons y r ih =>
      intro hs i x j v hx hv
      have hy : y.length = sz := hs y (by simp)
      cases i with
      | zero =>
        simp at hx; subst hx
        have hj := (List.getElem?_eq_some_iff.1 hv).1
        rw [List.flatten_cons, List.getElem?_append_left (by omega)]; simpa using hv
      | succ i =>
        have hm : (i + 1) * sz = sz + i * sz := by rw [Nat.succ_mul, Nat.add_comm]
        rw [List.flatten_cons, List.getElem?_append_right (by omega)]
        rw [show (i + 1) * sz + j - y.length = i * sz + j by omega]
        exact ih (fun z hz => hs z (by simp [hz])) i x j v (by simpa using hx) hv
  have hlen : cells.length = len * sz := by
    have : ∀ xs : List (List AV), (∀ x ∈ xs, x.length = sz) → xs.flatten.length = xs.length * sz := by
      intro xs
      induction xs with
      | nil => intro _; simp
      | cons y r ih => intro hs; rw [List.flatten_cons, List.length_append, ih fun z hz => hs z (by simp [hz]), hs y (by simp), List.length_cons, Nat.succ_mul, Nat.add_comm]
    rw [← hc, ← hl]; exact this xs hs
  refine .slc g 0 len sz cells xs hg hH (by omega) hl hs (fun i j => (xs.getD i []).getD j .junk) (fun i x j v hx hv => ?_) (fun i x j v hx hv => ?_)
  · have := hflat xs hs i x j v hx hv
    rw [hc] at this
    simp only [Nat.zero_add, this, List.getD_eq_getElem?_getD, hx, Option.getD_some, hv]
  · have := hflat xs hs i x j v hx hv
    rw [hc] at this
    simp only [List.getD_eq_getElem?_getD, hx, Option.getD_some, hv]
    exact .same _ (hb v (List.mem_of_getElem? this))
@[simp] theorem frz_nils {H : Heap} {nx : Nat} : Frz H nx .nils (.ro []) = True := by simp [Frz.nils]
end
end Go.Proofs.Ytckhbfbbpdjmdaa
