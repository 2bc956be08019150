/- More of how what is to be shown is taken apart. Maps, and more. Calls that only read: what they are handed may be owned. How Go data lies in memory, as Lean data: a predicate with the set of blocks that it rests on. The plain data of the program: values, cells, code, programs, agents; and how they lie in memory. What is wrong with values, programs, and agents: plain functions. Values, and cells of values: plain functions (chapter 1). Values, code, programs and agents, as abstract values. What is wrong with a value: what the program's function, and the document's, make of it. A law's arguments, read as abstract values; and a law's call, out of an abstract one. Values, and cells of values, read as data. Agents and bytes that laws are handed, read as data. The plain law of wire: numbers as bytes, and back; no program in sight. The machine: an agent's steps, as a plain function (chapter 7). Agents as bytes, and back: the plain functions. Plain laws of what is wrong with programs. Heights hold together: as many values lie ahead of an instruction as were reckoned, on whichever way it is come to. What is right never gets stuck: an agent's steps keep it right. -/
import Derived.Test.YtiinnjjmoifoeaaGreatDoorG5
import Derived.WalkKit
import Derived.Deep.Slices
import Derived.Lib.ItoaNum
import Derived.SizedLaws
import Derived.ChangeSame
set_option linter.unusedSimpArgs false
set_option linter.unusedVariables false
set_option maxRecDepth 8000
namespace Go.Proofs.YtiinnjjmoifoeaaGreatDoor
open Go Go.RowKit
section
variable {k : AV → Prop} {ki : IntKind} {A : Prop}
@[simp ↓] theorem zahb (sz : Nat) (cs : List AV) (q : Nat) (H : Heap) : LD false sz (.rop cs q) H k = OPTK cs[q]? k := by
  simp only [LD, LOAD, rdp, ldv, cond_false, qk, OPTK]
  cases cs[q]? <;> simp
@[simp ↓] theorem zsl (sz : Nat) (cs : List AV) (q : Nat) (H : Heap) : LD true sz (.rop cs q) H k = (q + sz ≤ cs.length ∧ k (.agg ((cs.drop q).take sz))) := by
  simp only [LD, LOAD, rdp, ldv, cond_true, qk]
  by_cases h : q + sz ≤ cs.length <;> simp [h]
theorem zdc {o : Option AObj} {kr : Nat → List AV → Prop} (h : ∀ s cs, o = some (.row s cs) → (A ↔ kr s cs)) (hn : (∀ s cs, o ≠ some (.row s cs)) → ¬ A) : A = ROWK o kr := by
  apply propext; constructor
  · intro ha
    by_cases he : ∃ s cs, o = some (.row s cs)
    · obtain ⟨s, cs, he⟩ := he; exact ⟨s, cs, he, (h s cs he).1 ha⟩
    · exact absurd ha (hn fun s cs e => he ⟨s, cs, e⟩)
  · rintro ⟨s, cs, he, hk⟩; exact (h s cs he).2 hk
@[simp ↓] theorem ld_p {sz g q : Nat} {H : Heap} : LD false sz (.ptr g q) H k = ROWK (H g) fun _ cs => OPTK cs[q]? k := by
  refine zdc (fun s cs h => ?_) fun h => ?_
  · simp only [LD, LOAD, rdp, qk, h, ldv, cond_false, OPTK]; cases hq : cs[q]? <;> simp [hq]
  · simp only [LD, LOAD, rdp, qk]
    exact id
@[simp ↓] theorem zwf {sz g q : Nat} {H : Heap} : LD true sz (.ptr g q) H k = ROWK (H g) fun _ cs => q + sz ≤ cs.length ∧ k (.agg ((cs.drop q).take sz)) := by
  refine zdc (fun s cs h => ?_) fun h => ?_
  · simp only [LD, LOAD, rdp, qk, h, ldv, cond_true]; by_cases hq : q + sz ≤ cs.length <;> simp [hq]
  · simp only [LD, LOAD, rdp, qk]
    exact id
@[simp ↓] theorem zafb {kr : AV → List Nat → Prop} (sz : Nat) (cs : List AV) (q : Nat) (H : Heap) : LDR false sz (.rop cs q) H kr = OPTK cs[q]? fun v => kr v [] := by
  simp only [LDR, LOAD, rdp, ldv, cond_false, OPTK]
  cases cs[q]? <;> simp
@[simp ↓] theorem zzz {kr : AV → List Nat → Prop} (sz : Nat) (cs : List AV) (q : Nat) (H : Heap) : LDR true sz (.rop cs q) H kr = (q + sz ≤ cs.length ∧ kr (.agg ((cs.drop q).take sz)) []) := by
  simp only [LDR, LOAD, rdp, ldv, cond_true]
  by_cases h : q + sz ≤ cs.length <;> simp [h]
@[simp ↓] theorem zajl {kr : AV → List Nat → Prop} {sz g q : Nat} {H : Heap} : LDR false sz (.ptr g q) H kr = ROWK (H g) fun _ cs => OPTK cs[q]? fun v => kr v [g] := by
  refine zdc (fun s cs h => ?_) fun h => ?_
  · simp only [LDR, LOAD, rdp, h, ldv, cond_false, OPTK]; cases hq : cs[q]? <;> simp [hq]
  · simp only [LDR, LOAD, rdp]
    exact id
@[simp ↓] theorem zabu {kr : AV → List Nat → Prop} {sz g q : Nat} {H : Heap} : LDR true sz (.ptr g q) H kr = ROWK (H g) fun _ cs => q + sz ≤ cs.length ∧ kr (.agg ((cs.drop q).take sz)) [g] := by
  refine zdc (fun s cs h => ?_) fun h => ?_
  · simp only [LDR, LOAD, rdp, h, ldv, cond_true]; by_cases hq : q + sz ≤ cs.length <;> simp [hq]
  · simp only [LDR, LOAD, rdp]
    exact id
@[simp ↓] theorem st_p {sz g q : Nat} {H : Heap} {v : AV} {kh : Heap → Prop} :
    ST sz (.ptr g q) v H kh = ROWK (H g) fun es cs => v.cells.length = sz ∧ q + sz ≤ cs.length ∧ v.cells.all AV.one = true ∧ v.sure = true ∧ kh (H.put g (some (.row es (zy cs q v.cells)))) := by
  refine zdc (fun s cs h => ?_) fun h => ?_
  · simp only [ST, zbq, h, Heap.apply]
  · simp only [ST, zbq]
    exact id
@[simp ↓] theorem zaej {sz g q : Nat} {H : Heap} {v : AV} {kt : Kt} :
    zbq sz (.ptr g q) v H kt = ROWK (H g) fun es cs => v.cells.length = sz ∧ q + sz ≤ cs.length ∧ v.cells.all AV.one = true ∧ v.sure = true ∧ kt .und [g] [] [(g, some (.row es (zy cs q v.cells)))] := by
  refine zdc (fun s cs h => ?_) fun h => ?_
  · simp only [zbq, h]
  · simp only [zbq]
    exact id
@[simp ↓] theorem zajy {pl : Nat → Option (Nat × Nat)} {z : List AV} {ps : List (Nat × AV)} : BD pl z ps k = OPTK (zao pl z ps) fun cells => k (.agg cells) := by
  simp only [BD, zdb, PURE, qk, OPTK]
  cases zao pl z ps <;> simp
@[simp ↓] theorem zaho {len esz : Nat} {z : List AV} {ps : List (Nat × AV)} {kc : List AV → Prop} : BSL len esz z ps kc = OPTK (zao (fun i => some (i * esz, esz)) ((List.replicate len z).flatten) ps) kc := by
  simp only [BSL, OPTK]
  cases zao (fun i => some (i * esz, esz)) ((List.replicate len z).flatten) ps <;> simp
@[simp] theorem zacb {pl : Nat → Option (Nat × Nat)} {z : List AV} : zao pl z [] = some z := rfl
@[simp ↓] theorem zaap {pl : Nat → Option (Nat × Nat)} {z : List AV} {i : Nat} {v : AV} {r : List (Nat × AV)} {kc : List AV → Prop} : OPTK (zao pl z ((i, v) :: r)) kc =
    OPTK (pl i) fun p => v.cells.length = p.2 ∧ p.1 + p.2 ≤ z.length ∧ v.sure = true ∧ OPTK (zao pl (zy z p.1 v.cells) r) kc := by
  have e : zao pl z ((i, v) :: r) = match pl i with
    | none => none
    | some (off, size) => if v.cells.length = size ∧ off + size ≤ z.length ∧ v.sure = true then zao pl (zy z off v.cells) r else none := rfl
  rw [e]
  cases pl i with
  | none => simp
  | some p =>
    obtain ⟨off, size⟩ := p
    simp only [optk]
    by_cases h : v.cells.length = size ∧ off + size ≤ z.length ∧ v.sure = true
    · rw [if_pos h]; simp [h]
    · rw [if_neg h]
      rw [ztz]
      apply propext
      constructor
      · intro h; exact h.elim
      · rintro ⟨h1, h2, h3, _⟩; exact h ⟨h1, h2, h3⟩
@[simp] theorem zaag {T : Nat → Option AT} {fs : List (Nat × Nat)} {i : Nat} : zas T fs i = match fs[i]? with | some (t, off) => some (off, za T t) | none => none := rfl
@[simp ↓] theorem zagv {b : Nat} {k1 k2 : IntKind} {n m : Int} {kn : Nat → Prop} : MK b (.int k1 n) (.int k2 m) kn = (m = n ∧ 0 ≤ n ∧ n ≤ 140737488355328 ∧ n.toNat * b ≤ 140737488355328 ∧ kn n.toNat) := rfl
@[simp ↓] theorem zahe {s o : Nat} {xs : List AV} : FI false s o (.agg xs) k = OPTK xs[o]? k := by
  simp only [FI, zby, zjk, ldv, cond_false, PURE, qk, OPTK]
  cases xs[o]? <;> simp
@[simp ↓] theorem zahf {s o : Nat} {xs : List AV} : FI true s o (.agg xs) k = (o + s ≤ xs.length ∧ k (.agg ((xs.drop o).take s))) := by
  simp only [FI, zby, zjk, ldv, cond_true, PURE, qk]
  by_cases h : o + s ≤ xs.length <;> simp [h]
@[simp ↓] theorem zaip {s l : Nat} {xs : List AV} {n : Int} : AI false s l (.agg xs) (.int ki n) k = (0 ≤ n ∧ n < l ∧ OPTK xs[n.toNat * s]? k) := by
  simp only [AI, zen, zby, zjk, ldv, cond_false, PURE, qk, OPTK]
  cases xs[n.toNat * s]? <;> simp
@[simp ↓] theorem zair {s l g o : Nat} {n : Int} : AA s l (.ptr g o) (.int ki n) k = (0 ≤ n ∧ n < l ∧ k (.ptr g (o + n.toNat * s))) := rfl
@[simp ↓] theorem zaiq {s l o : Nat} {cs : List AV} {n : Int} : AA s l (.rop cs o) (.int ki n) k = (0 ≤ n ∧ n < l ∧ k (.rop cs (o + n.toNat * s))) := rfl
@[simp ↓] theorem zadt : LNL (.ro []) k = k (.int .i64 0) := rfl
@[simp ↓] theorem zagq {f : FuncId} {c : List AV} : NC (.clo f c) k = k (.clo f c) := rfl
@[simp] theorem zbv {H : Heap} : H.apply [] = H := rfl
@[simp] theorem zbi {H : Heap} {g : Nat} {o : Option AObj} {r : zi} : H.apply ((g, o) :: r) = (H.put g o).apply r := rfl
@[simp ↓] theorem zace {l : List Nat} {A : Prop} : zo [] l A = A := rfl
@[simp ↓] theorem zaas {g : Nat} {r l : List Nat} {A : Prop} : zo (g :: r) l A = (g ∉ l ∧ zo r l A) := rfl
@[simp ↓] theorem zact {g q : Nat} {v : AV} {D : zi} {rd : List Nat} {A : Prop} : SOFT (.ptr g q) v D rd A = zdq g q v D A := rfl
@[simp ↓] theorem zacs {cs : List AV} {q : Nat} {v : AV} {D : zi} {rd : List Nat} {A : Prop} : SOFT (.rop cs q) v D rd A = zo (domD D) rd A := rfl
@[simp ↓] theorem zack {g q : Nat} {v : AV} {A : Prop} : zdq g q v [] A = A := rfl
@[simp ↓] theorem zaay {g q x : Nat} {o : Option AObj} {v : AV} {r : zi} {A : Prop} : zdq g q v ((x, o) :: r) A = ((x = g → zbk o q v) ∧ zdq g q v r A) := rfl
@[simp] theorem zaba {s q : Nat} {cs : List AV} {v : AV} : zbk (some (.row s cs)) q v = (cs[q]? = some v) := by
  apply propext
  exact ⟨fun ⟨_, _, h, h2⟩ => by cases h; exact h2, fun h => ⟨s, cs, rfl, h⟩⟩
@[simp] theorem zaeb : domD [] = [] := rfl
@[simp] theorem zacd {g : Nat} {o : Option AObj} {r : zi} : domD ((g, o) :: r) = g :: domD r := rfl
@[simp ↓] theorem zafc {A : Prop} : gd true A = A := rfl
@[simp] theorem zach (g o : Nat) : (AV.ptr g o).cells = [AV.ptr g o] := rfl
@[simp] theorem zaau : AV.nils.cells = [AV.nils] := rfl
@[simp] theorem zaax (g : Nat) : (AV.amap g).cells = [AV.amap g] := rfl
@[simp] theorem zacn (g o : Nat) : (AV.ptr g o).sure = true := rfl
@[simp] theorem zabc : AV.nils.sure = true := rfl
@[simp] theorem zabe (g : Nat) : (AV.amap g).sure = true := rfl
@[simp] theorem zaew (g o : Nat) : (AV.ptr g o).one = true := rfl
@[simp] theorem zadq : AV.nils.one = true := rfl
@[simp] theorem zads (g : Nat) : (AV.amap g).one = true := rfl
@[simp] theorem zacp (f : FuncId) (c : List AV) : (AV.clo f c).sure = true := rfl
@[simp] theorem zaey (f : FuncId) (c : List AV) : (AV.clo f c).one = true := rfl
@[simp] theorem zabf (cs : List AV) (o : Nat) (vs : List AV) : zy cs o vs = cs.take o ++ vs ++ cs.drop (o + vs.length) := rfl
@[simp] theorem zagn (x0 x1 x2 x3 x4 x5 x6 x7 x8 x9 x10 : AV) (xs : List AV) : nth (x0 :: x1 :: x2 :: x3 :: x4 :: x5 :: x6 :: x7 :: x8 :: x9 :: x10 :: xs) 10 = x10 := rfl
@[simp] theorem zagm (x0 x1 x2 x3 x4 x5 x6 x7 x8 x9 x10 x11 : AV) (xs : List AV) : nth (x0 :: x1 :: x2 :: x3 :: x4 :: x5 :: x6 :: x7 :: x8 :: x9 :: x10 :: x11 :: xs) 11 = x11 := rfl
@[simp] theorem zagl (x0 x1 x2 x3 x4 x5 x6 x7 x8 x9 x10 x11 x12 : AV) (xs : List AV) : nth (x0 :: x1 :: x2 :: x3 :: x4 :: x5 :: x6 :: x7 :: x8 :: x9 :: x10 :: x11 :: x12 :: xs) 12 = x12 := rfl
@[simp] theorem zagk (x0 x1 x2 x3 x4 x5 x6 x7 x8 x9 x10 x11 x12 x13 : AV) (xs : List AV) : nth (x0 :: x1 :: x2 :: x3 :: x4 :: x5 :: x6 :: x7 :: x8 :: x9 :: x10 :: x11 :: x12 :: x13 :: xs) 13 = x13 := rfl
@[simp] theorem zagj (x0 x1 x2 x3 x4 x5 x6 x7 x8 x9 x10 x11 x12 x13 x14 : AV) (xs : List AV) : nth (x0 :: x1 :: x2 :: x3 :: x4 :: x5 :: x6 :: x7 :: x8 :: x9 :: x10 :: x11 :: x12 :: x13 :: x14 :: xs) 14 = x14 := rfl
@[simp] theorem zagi (x0 x1 x2 x3 x4 x5 x6 x7 x8 x9 x10 x11 x12 x13 x14 x15 : AV) (xs : List AV) : nth (x0 :: x1 :: x2 :: x3 :: x4 :: x5 :: x6 :: x7 :: x8 :: x9 :: x10 :: x11 :: x12 :: x13 :: x14 :: x15 :: xs) 15 = x15 := rfl
@[simp] theorem zagh (x0 x1 x2 x3 x4 x5 x6 x7 x8 x9 x10 x11 x12 x13 x14 x15 x16 : AV) (xs : List AV) : nth (x0 :: x1 :: x2 :: x3 :: x4 :: x5 :: x6 :: x7 :: x8 :: x9 :: x10 :: x11 :: x12 :: x13 :: x14 :: x15 :: x16 :: xs) 16 = x16 := rfl
@[simp] theorem zagg (x0 x1 x2 x3 x4 x5 x6 x7 x8 x9 x10 x11 x12 x13 x14 x15 x16 x17 : AV) (xs : List AV) : nth (x0 :: x1 :: x2 :: x3 :: x4 :: x5 :: x6 :: x7 :: x8 :: x9 :: x10 :: x11 :: x12 :: x13 :: x14 :: x15 :: x16 :: x17 :: xs) 17 = x17 := rfl
@[simp] theorem zagf (x0 x1 x2 x3 x4 x5 x6 x7 x8 x9 x10 x11 x12 x13 x14 x15 x16 x17 x18 : AV) (xs : List AV) : nth (x0 :: x1 :: x2 :: x3 :: x4 :: x5 :: x6 :: x7 :: x8 :: x9 :: x10 :: x11 :: x12 :: x13 :: x14 :: x15 :: x16 :: x17 :: x18 :: xs) 18 = x18 := rfl
@[simp] theorem zage (x0 x1 x2 x3 x4 x5 x6 x7 x8 x9 x10 x11 x12 x13 x14 x15 x16 x17 x18 x19 : AV) (xs : List AV) : nth (x0 :: x1 :: x2 :: x3 :: x4 :: x5 :: x6 :: x7 :: x8 :: x9 :: x10 :: x11 :: x12 :: x13 :: x14 :: x15 :: x16 :: x17 :: x18 :: x19 :: xs) 19 = x19 := rfl
@[simp] theorem zagd (x0 x1 x2 x3 x4 x5 x6 x7 x8 x9 x10 x11 x12 x13 x14 x15 x16 x17 x18 x19 x20 : AV) (xs : List AV) : nth (x0 :: x1 :: x2 :: x3 :: x4 :: x5 :: x6 :: x7 :: x8 :: x9 :: x10 :: x11 :: x12 :: x13 :: x14 :: x15 :: x16 :: x17 :: x18 :: x19 :: x20 :: xs) 20 = x20 := rfl
@[simp] theorem zagc (x0 x1 x2 x3 x4 x5 x6 x7 x8 x9 x10 x11 x12 x13 x14 x15 x16 x17 x18 x19 x20 x21 : AV) (xs : List AV) : nth (x0 :: x1 :: x2 :: x3 :: x4 :: x5 :: x6 :: x7 :: x8 :: x9 :: x10 :: x11 :: x12 :: x13 :: x14 :: x15 :: x16 :: x17 :: x18 :: x19 :: x20 :: x21 :: xs) 21 = x21 := rfl
@[simp] theorem zagb (x0 x1 x2 x3 x4 x5 x6 x7 x8 x9 x10 x11 x12 x13 x14 x15 x16 x17 x18 x19 x20 x21 x22 : AV) (xs : List AV) : nth (x0 :: x1 :: x2 :: x3 :: x4 :: x5 :: x6 :: x7 :: x8 :: x9 :: x10 :: x11 :: x12 :: x13 :: x14 :: x15 :: x16 :: x17 :: x18 :: x19 :: x20 :: x21 :: x22 :: xs) 22 = x22 := rfl
@[simp] theorem zaga (x0 x1 x2 x3 x4 x5 x6 x7 x8 x9 x10 x11 x12 x13 x14 x15 x16 x17 x18 x19 x20 x21 x22 x23 : AV) (xs : List AV) : nth (x0 :: x1 :: x2 :: x3 :: x4 :: x5 :: x6 :: x7 :: x8 :: x9 :: x10 :: x11 :: x12 :: x13 :: x14 :: x15 :: x16 :: x17 :: x18 :: x19 :: x20 :: x21 :: x22 :: x23 :: xs) 23 = x23 := rfl
attribute [simp] Heap.put_eq
@[simp] theorem Heap.put_put (H : Heap) (g : Nat) (a b : Option AObj) : (H.put g a).put g b = H.put g b := by
  funext x; simp only [Heap.put_eq]; split <;> rfl
@[simp ↓] theorem zyz {esz bytes g off len nx : Nat} {x : AV} {H : Heap} {kk : AV → Heap → Nat → Prop} : APP esz bytes (.slc g off len) x H nx kk = OPTK (ze esz H x) fun p => ROWK (H g) fun s cells => s = esz ∧ p.2.1.all AV.one = true ∧
    off + len * esz ≤ cells.length ∧ (len + p.1) * bytes ≤ 140737488355328 + (if bytes = 1 then 268435456 else 0) ∧ kk (.slc nx 0 (len + p.1)) ((H.put g none).put nx (some (.row esz ((cells.drop off).take (len * esz) ++ p.2.1)))) (nx + 1) := by
  simp only [APP, zad, OPTK, ROWK]
  cases hs : ze esz H x with
  | none => simp
  | some p =>
    obtain ⟨m, news, rd⟩ := p
    cases hg : H g with
    | none => simp
    | some o =>
      cases o with
      | mp es => simp
      | it a b c => simp
      | row sz cells =>
        simp [Heap.apply]
        constructor
        · rintro ⟨h1, rfl, h2, h3, h4⟩; exact ⟨_, _, ⟨rfl, rfl⟩, rfl, h1, h2, h3, h4⟩
        · rintro ⟨_, _, ⟨rfl, rfl⟩, rfl, h1, h2, h3, h4⟩; exact ⟨h1, rfl, h2, h3, h4⟩
@[simp ↓] theorem zxo {esz bytes nx : Nat} {x : AV} {H : Heap} {kk : AV → Heap → Nat → Prop} : APP esz bytes .nils x H nx kk = OPTK (ze esz H x) fun p => p.2.1.all AV.one = true ∧
    (p.1 = 0 → kk .nils H nx) ∧ (p.1 ≠ 0 → p.1 * bytes ≤ 140737488355328 ∧ kk (.slc nx 0 p.1) (H.put nx (some (.row esz p.2.1))) (nx + 1)) := by
  simp only [APP, zad, OPTK]
  cases hs : ze esz H x with
  | none => simp
  | some p => obtain ⟨m, news, rd⟩ := p; simp [Heap.apply]
@[simp ↓] theorem zij {esz bytes g off len nx : Nat} {x : AV} {H : Heap} {kt : Kt} : zad esz bytes (.slc g off len) x H nx kt = OPTK (ze esz H x) fun p => ROWK (H g) fun s cells => s = esz ∧ p.2.1.all AV.one = true ∧
    off + len * esz ≤ cells.length ∧ (len + p.1) * bytes ≤ 140737488355328 + (if bytes = 1 then 268435456 else 0) ∧ kt (.slc nx 0 (len + p.1)) (g :: p.2.2) [nx] [(g, none), (nx, some (.row esz ((cells.drop off).take (len * esz) ++ p.2.1)))] := by
  simp only [zad, OPTK, ROWK]
  cases hs : ze esz H x with
  | none => simp
  | some p =>
    obtain ⟨m, news, rd⟩ := p
    cases hg : H g with
    | none => simp
    | some o =>
      cases o with
      | mp es => simp
      | it a b c => simp
      | row sz cells =>
        simp
        constructor
        · rintro ⟨h1, rfl, h2, h3, h4⟩; exact ⟨_, _, ⟨rfl, rfl⟩, rfl, h1, h2, h3, h4⟩
        · rintro ⟨_, _, ⟨rfl, rfl⟩, rfl, h1, h2, h3, h4⟩; exact ⟨h1, rfl, h2, h3, h4⟩
@[simp ↓] theorem zkr {esz bytes nx : Nat} {x : AV} {H : Heap} {kt : Kt} : zad esz bytes .nils x H nx kt = OPTK (ze esz H x) fun p => p.2.1.all AV.one = true ∧
    (p.1 = 0 → kt .nils p.2.2 [] []) ∧ (p.1 ≠ 0 → p.1 * bytes ≤ 140737488355328 ∧ kt (.slc nx 0 p.1) p.2.2 [nx] [(nx, some (.row esz p.2.1))]) := by
  simp only [zad, OPTK]
  cases hs : ze esz H x with
  | none => simp
  | some p => obtain ⟨m, news, rd⟩ := p; simp
@[simp ↓] theorem zaem {esz g off len : Nat} {H : Heap} {kp : Nat × List AV × List Nat → Prop} : OPTK (ze esz H (.slc g off len)) kp = ROWK (H g) fun _ cells => off + len * esz ≤ cells.length ∧ kp (len, (cells.drop off).take (len * esz), [g]) := by
  simp only [ze, OPTK, ROWK]
  cases hg : H g with
  | none => simp
  | some o =>
    cases o with
    | mp es => simp
    | it a b c => simp
    | row sz cells =>
      by_cases h : off + len * esz ≤ cells.length
      · simp [h]
        constructor
        · intro hk; exact ⟨_, _, ⟨rfl, rfl⟩, h, hk⟩
        · rintro ⟨_, _, ⟨rfl, rfl⟩, _, hk⟩; exact hk
      · simp [h]
@[simp] theorem zafq {esz : Nat} {xs : List (List AV)} {H : Heap} (h : ∀ x ∈ xs, x.length = esz) : ze esz H (.ro xs) = some (xs.length, xs.flatten, []) := by
  simp only [ze]
  rw [if_pos (by simpa using h)]
@[simp] theorem zael {s : List UInt8} {H : Heap} : ze 1 H (.str s) = some (s.length, s.map (fun b => .int .u8 (b.toNat : Int)), []) := rfl
@[simp] theorem zacr {esz : Nat} {H : Heap} : ze esz H .nils = some (0, [], []) := rfl
def Keep (nx : Nat) (H' H : Heap) : Prop := ∀ g, g < nx → H' g = H g
@[simp] theorem Keep.rfl {nx : Nat} {H : Heap} : Keep nx H H = True := by simp [Keep]
theorem Keep.put {nx g : Nat} {o : Option AObj} {H H0 : Heap} (h : nx ≤ g) : Keep nx (H.put g o) H0 = Keep nx H H0 := by
  unfold Keep
  apply propext
  constructor
  · intro hk x hx; have := hk x hx; rwa [Heap.put_ne _ _ (by omega)] at this
  · intro hk x hx; rw [Heap.put_ne _ _ (by omega)]; exact hk x hx
@[simp] theorem Keep.put0 {nx : Nat} {o : Option AObj} {H H0 : Heap} : Keep nx (H.put nx o) H0 = Keep nx H H0 := Keep.put (Nat.le_refl _)
@[simp] theorem Keep.putS {nx i : Nat} {o : Option AObj} {H H0 : Heap} : Keep nx (H.put (nx + i) o) H0 = Keep nx H H0 := Keep.put (by omega)
theorem Keep.trans {n m : Nat} {H1 H2 H3 : Heap} (h : Keep m H1 H2) (hn : n ≤ m) (k : Keep n H2 H3) : Keep n H1 H3 := fun g hg => (h g (by omega)).trans (k g hg)
theorem QC.of' {P : Program} {f : FuncId} {args : List AV} {r : AV} (h : ∀ H nx, zb P f args H nx fun v H' _ => Frz H' nx v r ∧ Keep nx H' H) : QC P f args r := QC.of h
@[simp] theorem zajo {H : Heap} {nx : Nat} {a : Int} {r : AV} : Frz H nx (.int ki a) r = (r = .int ki a) := by
  apply propext; constructor
  · intro h; cases h; rfl
  · rintro rfl; exact .same _ (.int _ _)
@[simp] theorem zajp {H : Heap} {nx : Nat} {a : Bool} {r : AV} : Frz H nx (.bool a) r = (r = .bool a) := by
  apply propext; constructor
  · intro h; cases h; rfl
  · rintro rfl; exact .same _ (.bool _)
@[simp] theorem zajn {H : Heap} {nx : Nat} {a : List UInt8} {r : AV} : Frz H nx (.str a) r = (r = .str a) := by
  apply propext; constructor
  · intro h; cases h; rfl
  · rintro rfl; exact .same _ (.str _)
theorem QC.call {P : Program} {f : FuncId} {args : List AV} {r : AV} (h : QC P f args r) {H : Heap} {nx : Nat} {kk : AV → Heap → Nat → Prop} (hk : kk r H nx) : zb P f args H nx kk :=
  (h H nx).mono fun v H' nx' ⟨h1, h2, h3⟩ => by subst h1; subst h2; subst h3; exact hk
end
end Go.Proofs.YtiinnjjmoifoeaaGreatDoor
set_option maxRecDepth 8000
namespace Go.Proofs.YtiinnjjmoifoeaaGreatDoor
open Go Go.RowKit
section
variable {k : AV → Prop} {ki : IntKind}
@[simp ↓] theorem mu_p {g : Nat} {key v : AV} {H : Heap} {kh : Heap → Prop} : MU (.amap g) key v H kh = MAPK (H g) fun es => OPTK (zx key es) fun r => kh (H.put g (some (.mp (match r with | some (i, _) => es.set i (key, v) | none => es ++ [(key, v)])))) := by
  simp only [MU, MUPD, OPTK, MAPK]
  cases hg : H g with
  | none => simp
  | some o =>
    cases o with
    | row s cs => simp
    | it a b c => simp
    | mp es =>
      simp only [Option.some.injEq, AObj.mp.injEq, exists_eq_left']
      cases zx key es with
      | none => simp
      | some r => cases r <;> simp [Heap.apply]
@[simp ↓] theorem lk_p {z : List AV} {agg ok : Bool} {g : Nat} {key : AV} {H : Heap} : LK z agg (.amap g) key ok H k = MAPK (H g) fun es => OPTK (zx key es) fun r => k (match r with | some (_, v) => (bif ok then .tup [v, .bool true] else v) | none => (bif ok then .tup [(bif agg then .agg z else z.getD 0 .junk), .bool false] else (bif agg then .agg z else z.getD 0 .junk))) := by
  simp only [LK, LOOK, qk, OPTK, MAPK]
  cases hg : H g with
  | none => simp
  | some o =>
    cases o with
    | row s cs => simp
    | it a b c => simp
    | mp es =>
      simp only [Option.some.injEq, AObj.mp.injEq, exists_eq_left']
      cases zx key es with
      | none => simp
      | some r => cases r <;> simp [Heap.apply]
@[simp ↓] theorem zagx {z : List AV} {agg ok : Bool} {g : Nat} {key : AV} {H : Heap} {kt : Kt} : LOOK z agg (.amap g) key ok H kt = MAPK (H g) fun es => OPTK (zx key es) fun r => kt (match r with | some (_, v) => (bif ok then .tup [v, .bool true] else v) | none => (bif ok then .tup [(bif agg then .agg z else z.getD 0 .junk), .bool false] else (bif agg then .agg z else z.getD 0 .junk))) [g] [] [] := by
  simp only [LOOK, OPTK, MAPK]
  cases hg : H g with
  | none => simp
  | some o =>
    cases o with
    | row s cs => simp
    | it a b c => simp
    | mp es =>
      simp only [Option.some.injEq, AObj.mp.injEq, exists_eq_left']
      cases zx key es with
      | none => simp
      | some r => cases r <;> simp [Heap.apply]
@[simp ↓] theorem zagr {g : Nat} {key v : AV} {H : Heap} {kt : Kt} : MUPD (.amap g) key v H kt = MAPK (H g) fun es => OPTK (zx key es) fun r => kt .und [g] [] [(g, some (.mp (match r with | some (i, _) => es.set i (key, v) | none => es ++ [(key, v)])))] := by
  simp only [MUPD, OPTK, MAPK]
  cases hg : H g with
  | none => simp
  | some o =>
    cases o with
    | row s cs => simp
    | it a b c => simp
    | mp es =>
      simp only [Option.some.injEq, AObj.mp.injEq, exists_eq_left']
      cases zx key es with
      | none => simp
      | some r => cases r <;> simp [Heap.apply]
@[simp ↓ high] theorem zahd {α : Type} {esz : Nat} {l : List α} {f : α → List AV} {n : Int} : IA esz (.ro (l.map f)) (.int ki n) k = (0 ≤ n ∧ n < l.length ∧ OPTK l[n.toNat]? fun x => (f x).length = esz ∧ k (.rop (f x) 0)) := by
  rw [zxw]
  apply propext
  constructor
  · rintro ⟨h0, h1, h2, h3⟩
    have hlt : n.toNat < l.length := by simp at h1; omega
    refine ⟨h0, by simpa using h1, l[n.toNat], by simp [hlt], ?_⟩
    simp [List.getD_eq_getElem?_getD, hlt] at h2 h3
    exact ⟨h2, h3⟩
  · rintro ⟨h0, h1, x, h2, h3, h4⟩
    refine ⟨h0, by simpa using h1, ?_⟩
    simp [List.getD_eq_getElem?_getD, h2]
    exact ⟨h3, h4⟩
@[simp] theorem zabz {key : AV} : zx key [] = some none := rfl
theorem zlw {key v : AV} {q : AV} {r : List (AV × AV)} : zx key ((q, v) :: r) = match zbx key q with
    | some true => some (some (0, v))
    | some false => (zx key r).map (fun o => o.map fun p => (p.1 + 1, p.2))
    | none => none := rfl
@[simp] theorem zaca {k1 : IntKind} {x y : Int} {v : AV} {r : List (AV × AV)} : zx (.int k1 x) ((.int k1 y, v) :: r) = if x = y then some (some (0, v)) else (zx (.int k1 x) r).map (fun o => o.map fun p => (p.1 + 1, p.2)) := by
  rw [zlw]
  by_cases h : x = y
  · simp [zbx, h]
  · have e : (x == y) = false := by simpa using h
    simp [zbx, h, e]
@[simp] theorem zaby {x y : List UInt8} {v : AV} {r : List (AV × AV)} : zx (.str x) ((.str y, v) :: r) = if x = y then some (some (0, v)) else (zx (.str x) r).map (fun o => o.map fun p => (p.1 + 1, p.2)) := by
  rw [zlw]
  by_cases h : x = y
  · simp [zbx, h]
  · have e : (x == y) = false := by simpa using h
    simp [zbx, h, e]
@[simp] theorem zabw {k1 : IntKind} {a b : Int} : zbx (.int k1 a) (.int k1 b) = some (a == b) := by simp [zbx]
@[simp] theorem zabv {a b : List UInt8} : zbx (.str a) (.str b) = some (a == b) := rfl
@[simp] theorem zaao {k1 k2 : IntKind} {a : Int} : zbg (.int k1) (.int k2 a) = true := rfl
@[simp] theorem zaan {a : List UInt8} : zbg .str (.str a) = true := rfl
theorem Frz.tup2 {H : Heap} {nx : Nat} {a b x y : AV} (h1 : Frz H nx a x) (h2 : Frz H nx b y) : Frz H nx (.tup [a, b]) (.tup [x, y]) := by
  refine .tup _ _ rfl fun j v u hv hu => ?_
  match j, hv, hu with
  | 0, hv, hu => cases hv; cases hu; exact h1
  | 1, hv, hu => cases hv; cases hu; exact h2
@[simp] theorem zadw {H : Heap} {nx : Nat} {a b x y : AV} : Frz H nx (.tup [a, b]) (.tup [x, y]) = (Frz H nx a x ∧ Frz H nx b y) := by
  apply propext; constructor
  · intro h
    cases h with
    | same _ h => cases h with | tup _ h => exact ⟨.same _ (h 0 _ rfl), .same _ (h 1 _ rfl)⟩
    | tup _ _ _ h => exact ⟨h 0 _ _ rfl rfl, h 1 _ _ rfl rfl⟩
  · rintro ⟨h1, h2⟩; exact h1.tup2 h2
theorem Frz.row {H : Heap} {nx g : Nat} {sz len : Nat} {cells : List AV} {xs : List (List AV)} (hg : nx ≤ g) (hH : H g = some (.row sz cells)) (hl : xs.length = len) (hs : ∀ x ∈ xs, x.length = sz) (hc : xs.flatten = cells) (hb : ∀ c ∈ cells, Bel (· < nx) c) :
    Frz H nx (.slc g 0 len) (.ro xs) := by
  have hflat : ∀ (xs : List (List AV)), (∀ x ∈ xs, x.length = sz) → ∀ (i : Nat) (x : List AV) (j : Nat) (v : AV), xs[i]? = some x → x[j]? = some v → xs.flatten[i * sz + j]? = some v := by
    intro xs
    induction xs with
    | nil => intro _ i x j v hx; simp at hx
    | cons y r ih =>
      intro hs i x j v hx hv
      have hy : y.length = sz := hs y (by simp)
      cases i with
      | zero =>
        simp at hx; subst hx
        have hj := (List.getElem?_eq_some_iff.1 hv).1
        rw [List.flatten_cons, List.getElem?_append_left (by omega)]; simpa using hv
      | succ i =>
        have hm : (i + 1) * sz = sz + i * sz := by rw [Nat.succ_mul, Nat.add_comm]
        rw [List.flatten_cons, List.getElem?_append_right (by omega)]
        rw [show (i + 1) * sz + j - y.length = i * sz + j by omega]
        exact ih (fun z hz => hs z (by simp [hz])) i x j v (by simpa using hx) hv
  have hlen : cells.length = len * sz := by
    have : ∀ xs : List (List AV), (∀ x ∈ xs, x.length = sz) → xs.flatten.length = xs.length * sz := by
      intro xs
      induction xs with
      | nil => intro _; simp
      | cons y r ih => intro hs; rw [List.flatten_cons, List.length_append, ih fun z hz => hs z (by simp [hz]), hs y (by simp), List.length_cons, Nat.succ_mul, Nat.add_comm]
    rw [← hc, ← hl]; exact this xs hs
  refine .slc g 0 len sz cells xs hg hH (by omega) hl hs (fun i j => (xs.getD i []).getD j .junk) (fun i x j v hx hv => ?_) (fun i x j v hx hv => ?_)
  · have := hflat xs hs i x j v hx hv
    rw [hc] at this
    simp only [Nat.zero_add, this, List.getD_eq_getElem?_getD, hx, Option.getD_some, hv]
  · have := hflat xs hs i x j v hx hv
    rw [hc] at this
    simp only [List.getD_eq_getElem?_getD, hx, Option.getD_some, hv]
    exact .same _ (hb v (List.mem_of_getElem? this))
@[simp] theorem zadx {H : Heap} {nx : Nat} : Frz H nx .nils (.ro []) = True := by simp [Frz.nils]
end
end Go.Proofs.YtiinnjjmoifoeaaGreatDoor
set_option maxRecDepth 8000
namespace Go.Proofs.YtiinnjjmoifoeaaGreatDoor
open Go Go.RowKit
theorem zb.pure {P : Program} {f : FuncId} {args : List AV} {r : AV} {H : Heap} {nx : Nat} (h : zb P f args H nx fun v H' _ => Frz H' nx v r ∧ Keep nx H' H) : zb P f args H nx fun v H' nx' => v = r ∧ H' = H ∧ nx' = nx := by
  refine zb.tidy fun hlive => ?_
  refine (zb.gc (R := fun v H' => v = r ∧ H' = H) h fun v H' nx' ⟨h1, h2⟩ => ⟨r, H, ⟨rfl, rfl⟩, h1, fun g o ho => ⟨hlive g o ho, by rw [h2 g (hlive g o ho)]; exact ho, .inl ho⟩⟩).mono fun v H' nx' ⟨⟨a, b⟩, c⟩ => ⟨a, b, c⟩
def flat : AV → Bool
  | .int _ _ | .str _ | .bool _ => true
  | .agg xs | .tup xs => xs.attach.all fun ⟨x, _⟩ => flat x
  | _ => false
theorem zwn {xs : List AV} : flat (.agg xs) = xs.all flat := by rw [flat]; simp
theorem zwm {xs : List AV} : flat (.tup xs) = xs.all flat := by rw [flat]; simp
@[simp] theorem zadz {k : IntKind} {n : Int} : flat (.int k n) = true := by rw [flat]
@[simp] theorem zady {s : List UInt8} : flat (.str s) = true := by rw [flat]
@[simp] theorem zabx {b : Bool} : flat (.bool b) = true := by rw [flat]
theorem VRel.flat {K K' : zf} {ρ ρ' : Nat → Loc} {A A' : Nat → Prop} {v : AV} {c : Value} (h : VRel K ρ A v c) : flat v = true → VRel K' ρ' A' v c := by
  induction h with
  | int k n => exact fun _ => .int k n
  | bool b => exact fun _ => .bool b
  | str s => exact fun _ => .str s
  | agg xs cs h1 _ ih =>
    intro hf
    rw [zwn] at hf
    exact .agg xs cs h1 fun j v c hv hc => ih j v c hv hc (List.all_eq_true.1 hf v (List.mem_of_getElem? hv))
  | tup xs cs h1 _ ih =>
    intro hf
    rw [zwm] at hf
    exact .tup xs cs h1 fun j v c hv hc => ih j v c hv hc (List.all_eq_true.1 hf v (List.mem_of_getElem? hv))
  | _ => intro hf; simp [Go.Proofs.YtiinnjjmoifoeaaGreatDoor.flat] at hf
def LFrz (H : Heap) (xs ys : List AV) : Prop := ys.length = xs.length ∧ ∀ (j : Nat) (v u : AV), xs[j]? = some v → ys[j]? = some u → Frz H 0 v u
theorem LFrz.nil {H : Heap} : LFrz H [] [] := ⟨rfl, fun j v u h => by simp at h⟩
theorem LFrz.cons {H : Heap} {v u : AV} {xs ys : List AV} (h : Frz H 0 v u) (k : LFrz H xs ys) : LFrz H (v :: xs) (u :: ys) := by
  refine ⟨by simp [k.1], fun j a b ha hb => ?_⟩
  cases j with
  | zero => simp at ha hb; subst ha; subst hb; exact h
  | succ j => exact k.2 j a b (by simpa using ha) (by simpa using hb)
theorem LFrz.rel {A : Nat → Prop} {ρ : Nat → Loc} {H : Heap} {w : World} {xs ys : List AV} {cs : List Value} (s : Sim A ρ H w) (h : LFrz H xs ys) (k : LRel (Kof ρ H w) ρ A xs cs) (A' : Nat → Prop) : LRel (Kof ρ (fun _ => none) w) ρ A' ys cs := by
  refine ⟨k.1.trans h.1.symm, fun j u c hu hc => ?_⟩
  have hj : j < xs.length := by have := (List.getElem?_eq_some_iff.1 hu).1; rw [h.1] at this; exact this
  have hv : xs[j]? = some xs[j] := List.getElem?_eq_getElem hj
  exact ((h.2 j _ u hv hu).rel s (fun g o ho => by cases ho) c (k.2 j _ c hv hc)).mono (fun _ _ h => h) (fun g hg => absurd hg (Nat.not_lt_zero _))
theorem QC.reads {P : Program} {f : FuncId} {args args' : List AV} {r : AV} (h : QC P f args r) (hr : flat r = true) {H : Heap} {nx : Nat} (hf : LFrz H args' args) : zb P f args' H nx fun v H' nx' => v = r ∧ H' = H ∧ nx' = nx := by
  intro ρ w cargs s ha
  have s0 := (s.drop (H' := fun _ => none) (fun g o ho => by cases ho)).1
  refine zm (h (fun _ => none) nx ρ w cargs s0 (hf.rel s ha _)) fun cv w' ⟨r', H', nx', ρ', ⟨q0, q1, q2⟩, q3, q4, q5⟩ => ?_
  subst q0; subst q1; subst q2
  have keep : ∀ b o, w.heap[b]? = some o → w'.heap[b]? = some o := fun b o hb =>
    (zj.1 (q5.k b o (zj.2 ⟨fun g hg => by simp at hg, hb⟩))).2
  have hρ : ∀ g, g < nx' → ρ' g = ρ g := fun g hg => (q5.agree g hg).1
  have hK : ∀ b o, Kof ρ H w b = some o → Kof ρ' H w' b = some o := fun b o hb => by
    obtain ⟨h1, h2⟩ := zj.1 hb
    refine zj.2 ⟨fun g hg => ?_, keep b o h2⟩
    obtain ⟨o', ho'⟩ := Option.isSome_iff_exists.1 hg
    rw [hρ g (s.live g o' ho')]
    exact h1 g hg
  refine ⟨r', H, nx', ρ', ⟨rfl, rfl, rfl⟩, ⟨s.live, fun g o ho => ?_, fun x y hx hy hb => ?_, s.lay.mono hK⟩, q4.flat hr, ⟨fun g hg => ⟨hρ g hg, hg⟩, hK, q5.os, q5.tape, q5.output, q5.size⟩⟩
  · rw [hρ g (s.live g o ho)]
    have ho' := s.obj g o ho
    obtain ⟨ob, hob⟩ : ∃ ob, w.heap[(ρ g).block]? = some ob := ⟨_, Array.getElem?_eq_getElem ho'.block_lt⟩
    exact ho'.mono (by rw [keep _ _ hob, hob]) hK fun g hg => ⟨hρ g hg, hg⟩
  · obtain ⟨o1, ho1⟩ := Option.isSome_iff_exists.1 hx
    obtain ⟨o2, ho2⟩ := Option.isSome_iff_exists.1 hy
    rw [hρ x (s.live x o1 ho1), hρ y (s.live y o2 ho2)] at hb
    exact s.inj x y hx hy hb
theorem QC.readsC {P : Program} {f : FuncId} {args args' : List AV} {r : AV} (h : QC P f args r) (hr : flat r = true) {H : Heap} {nx : Nat} (hf : LFrz H args' args) {kk : AV → Heap → Nat → Prop} (hk : kk r H nx) : zb P f args' H nx kk :=
  (h.reads hr hf).mono fun v H' nx' ⟨h1, h2, h3⟩ => by subst h1; subst h2; subst h3; exact hk
theorem QC.gives {P : Program} {f : FuncId} {args args' : List AV} {r : AV} (h : QC P f args r) {H : Heap} {nx : Nat} (hf : LFrz H args' args) {kk : AV → Heap → Nat → Prop} (hk : kk r (fun _ => none) nx) : zb P f args' H nx kk := by
  intro ρ w cargs s ha
  obtain ⟨s0, f0⟩ := s.drop (H' := fun _ => none) (fun g o ho => by cases ho)
  refine zm (h (fun _ => none) nx ρ w cargs s0 (hf.rel s ha _)) fun cv w' ⟨r', H', nx', ρ', ⟨q0, q1, q2⟩, q3, q4, q5⟩ => ?_
  subst q0; subst q1; subst q2
  exact ⟨r', fun _ => none, nx', ρ', hk, q3, q4, f0.trans q5⟩
end Go.Proofs.YtiinnjjmoifoeaaGreatDoor
set_option maxRecDepth 8000
namespace Go.Proofs.YtiinnjjmoifoeaaGreatDoor
open Go Go.RowKit
abbrev Str := List UInt8
def I64 (n : Int) : Prop := -9223372036854775808 ≤ n ∧ n ≤ 9223372036854775807
structure Ty (α : Type) where
  sz : Nat
  R : (Nat → Prop) → World → List Value → α → Prop
  len : ∀ {S : Nat → Prop} {w : World} {cs : List Value} {x : α}, R S w cs x → cs.length = sz
  mono : ∀ {S S' : Nat → Prop} {w w' : World} {cs : List Value} {x : α}, (∀ k, S k → S' k ∧ w'.heap[k]? = w.heap[k]?) → R S w cs x → R S' w' cs x
def zan (w : World) (b off : Nat) (cs : List Value) : Prop := ∀ j v, cs[j]? = some v → w.cell? ⟨b, off + j, none⟩ = some v
theorem zan.same {w w' : World} {b off : Nat} {cs : List Value} (h : zan w b off cs) (hb : w'.heap[b]? = w.heap[b]?) : zan w' b off cs :=
  fun j v hv => (World.cell?_of_block (w := w) (a := ⟨b, off + j, none⟩) hb).trans (h j v hv)
theorem zan.c0 {w : World} {b off : Nat} {v : Value} {r : List Value} (h : zan w b off (v :: r)) : w.cell? ⟨b, off, none⟩ = some v := h 0 v rfl
theorem zan.c1 {w : World} {b off : Nat} {v0 v : Value} {r : List Value} (h : zan w b off (v0 :: v :: r)) : w.cell? ⟨b, off + 1, none⟩ = some v := h 1 v rfl
theorem zan.c2 {w : World} {b off : Nat} {v0 v1 v : Value} {r : List Value} (h : zan w b off (v0 :: v1 :: v :: r)) : w.cell? ⟨b, off + 2, none⟩ = some v := h 2 v rfl
theorem zan.c3 {w : World} {b off : Nat} {v0 v1 v2 v : Value} {r : List Value} (h : zan w b off (v0 :: v1 :: v2 :: v :: r)) : w.cell? ⟨b, off + 3, none⟩ = some v := h 3 v rfl
theorem zan.c4 {w : World} {b off : Nat} {v0 v1 v2 v3 v : Value} {r : List Value} (h : zan w b off (v0 :: v1 :: v2 :: v3 :: v :: r)) : w.cell? ⟨b, off + 4, none⟩ = some v := h 4 v rfl
theorem zan.c5 {w : World} {b off : Nat} {v0 v1 v2 v3 v4 v : Value} {r : List Value} (h : zan w b off (v0 :: v1 :: v2 :: v3 :: v4 :: v :: r)) : w.cell? ⟨b, off + 5, none⟩ = some v := h 5 v rfl
def zya (B : Nat) : Nat → Prop := fun k => k < B
theorem Ty.below {α : Type} (T : Ty α) {w w' : World} {cs : List Value} {x : α} (h : T.R (zya w.heap.size) w cs x) (hb : Below w.heap.size w w') : T.R (zya w'.heap.size) w' cs x :=
  T.mono (fun k hk => ⟨Nat.lt_of_lt_of_le hk hb.size, hb.block k hk⟩) h
end Go.Proofs.YtiinnjjmoifoeaaGreatDoor
set_option maxRecDepth 8000
namespace Go.Proofs.YtiinnjjmoifoeaaGreatDoor
open Go Go.RowKit
structure Val where
  kind : Int
  n : Int
  text : Str
  deriving DecidableEq
structure Cl where
  left : Val
  right : Val
  deriving DecidableEq
structure Ins where
  op : Int
  a : Int
  b : Int
  deriving DecidableEq
structure Cod where
  params : Int
  vars : Int
  ins : List Ins
  deriving DecidableEq
structure Prg where
  codes : List Cod
  words : List Str
  deriving DecidableEq
structure Frm where
  fn : Int
  at_ : Int
  vars : List Val
  stack : List Val
  deriving DecidableEq
structure Pmt where
  fuel : Int
  room : Int
  hops : Int
  deriving DecidableEq
structure Agt where
  id : Int
  trip : Int
  prog : Prg
  frames : List Frm
  heap : List Cl
  permit : Pmt
  deriving DecidableEq
def str (s : Str) : Value := .string ⟨s.toArray⟩
def Val.cells (v : Val) : List Value := [.int .i64 v.kind, .int .i64 v.n, .string ⟨v.text.toArray⟩]
def Val.ok (v : Val) : Prop := I64 v.kind ∧ I64 v.n ∧ v.text.length ≤ maxLen
def Ins.cells (i : Ins) : List Value := [.int .i64 i.op, .int .i64 i.a, .int .i64 i.b]
def Ins.ok (i : Ins) : Prop := I64 i.op ∧ I64 i.a ∧ I64 i.b
def Cl.cells (c : Cl) : List Value := c.left.cells ++ c.right.cells
def Cl.ok (c : Cl) : Prop := c.left.ok ∧ c.right.ok
def Pmt.cells (p : Pmt) : List Value := [.int .i64 p.fuel, .int .i64 p.room, .int .i64 p.hops]
def Pmt.ok (p : Pmt) : Prop := I64 p.fuel ∧ I64 p.room ∧ I64 p.hops
end Go.Proofs.YtiinnjjmoifoeaaGreatDoor
set_option maxRecDepth 8000
namespace Go.Proofs.YtiinnjjmoifoeaaGreatDoor
namespace VM
def wrong (v : Val) (cells : Int) : Int :=
  if v.kind < 0 ∨ 2 < v.kind then 1
  else if v.kind = 0 ∧ (v.n < -1073741824 ∨ 1073741824 < v.n) then 3
  else if v.kind = 1 ∧ 60 < v.text.length then 4
  else if v.kind = 2 ∧ (v.n < 0 ∨ cells ≤ v.n) then 6
  else if (v.kind = 1 ∧ v.n ≠ 0) ∨ (v.kind ≠ 1 ∧ v.text ≠ []) then 2
  else 0
def wordByte (c : UInt8) : Bool := decide (32 ≤ c.toNat) && decide (c.toNat ≤ 126) && !(c.toNat == 39)
def word (s : Str) : Bool := decide (s.length ≤ 12) && s.all wordByte
def effect (i : Ins) : Int × Int :=
  if i.op = 1 ∨ i.op = 2 ∨ i.op = 3 ∨ i.op = 12 then (0, 1)
  else if i.op = 4 ∨ i.op = 14 ∨ i.op = 16 ∨ i.op = 19 ∨ i.op = 18 then (1, 0)
  else if i.op = 5 ∨ i.op = 6 then (2, 1)
  else if i.op = 7 ∨ i.op = 8 ∨ i.op = 11 ∨ i.op = 13 then (1, 1)
  else if i.op = 9 ∨ i.op = 10 then (2, 0)
  else if i.op = 17 then (i.b, 1)
  else (0, 0)
def isIn (n most : Int) : Bool := decide (0 ≤ n) && decide (n < most)
def numOk (p : Prg) (c : Cod) (i : Ins) : Bool :=
  if i.op = 1 then decide (-1073741824 ≤ i.a) && decide (i.a ≤ 1073741824)
  else if i.op = 2 then isIn i.a p.words.length
  else if i.op = 3 ∨ i.op = 4 then isIn i.a c.vars
  else if i.op = 5 then decide (1 ≤ i.a) && decide (i.a ≤ 5)
  else if i.op = 15 ∨ i.op = 16 then isIn i.a c.ins.length
  else if i.op = 17 then isIn i.a p.codes.length && decide (some i.b = (p.codes[i.a.toNat]?).map (·.params))
  else decide (i.a = 0)
def numbers (p : Prg) (c : Cod) (i : Ins) : Int :=
  if i.op < 1 ∨ 19 < i.op then 1
  else if numOk p c i = false ∨ (i.op ≠ 17 ∧ i.b ≠ 0) then 3
  else 0
def heightsGo (ins : List Ins) : Nat → List (Int × Int) → List Int → List Int × Int
  | 0, _, _ => ([], 0)
  | _ + 1, [], out => (out, 0)
  | f + 1, (at_, h) :: q, out =>
    match (if 0 ≤ at_ then ins[at_.toNat]? else none) with
    | none => ([], 8)
    | some i =>
      if 0 ≤ out.getD at_.toNat 0 then (if out.getD at_.toNat 0 ≠ h then ([], 10) else heightsGo ins f q out)
      else
        if h < (effect i).1 ∨ (i.op = 18 ∧ h ≠ 1) then ([], 10)
        else if 16 < h + (effect i).2 - (effect i).1 then ([], 4)
        else
          let h' := h + (effect i).2 - (effect i).1
          heightsGo ins f (q ++ (if i.op ≠ 15 ∧ i.op ≠ 18 then [(at_ + 1, h')] else []) ++ (if i.op = 15 ∨ i.op = 16 then [(i.a, h')] else [])) (out.set at_.toNat h)
def heights (ins : List Ins) : List Int × Int := heightsGo ins (2 * ins.length + 2) [(0, 0)] (List.replicate ins.length (-1))
def codeRange (c : Cod) : Bool := decide (c.params < 0 ∨ 4 < c.params ∨ c.vars < c.params ∨ 8 < c.vars ∨ c.ins.length < 1 ∨ 200 < c.ins.length)
def firstErr {α : Type} (f : α → Int) : List α → Int
  | [] => 0
  | x :: r => if f x ≠ 0 then f x else firstErr f r
def codeErr (p : Prg) (c : Cod) : Int := if firstErr (numbers p c) c.ins ≠ 0 then firstErr (numbers p c) c.ins else (heights c.ins).2
def program (p : Prg) : Int :=
  if p.codes.length < 1 ∨ 5 < p.codes.length then 5
  else if 16 < p.words.length then 4
  else if p.words.all word = false then 7
  else if (p.codes.getD 0 ⟨0, 0, []⟩).params ≠ 0 then 10
  else if p.codes.any codeRange then 3
  else firstErr (codeErr p) p.codes
def frame (a : Agt) (k : Nat) (away : Bool) : Int :=
  match a.frames[k]? with
  | none => 0
  | some f =>
    match (if 0 ≤ f.fn then a.prog.codes[f.fn.toNat]? else none) with
    | none => 3
    | some c =>
      match (if 0 ≤ f.at_ then c.ins[f.at_.toNat]? else none) with
      | none => 3
      | some _ =>
        if (f.vars.length : Int) ≠ c.vars then 3
        else
          let hs := (heights c.ins).1
          let h := hs.getD f.at_.toNat 0
          let last := decide (k + 1 = a.frames.length)
          let waits := !last || away
          let prev := c.ins.getD (f.at_.toNat - 1) ⟨0, 0, 0⟩
          let bad := (!last && (decide (prev.op ≠ 17) || decide (prev.a ≠ ((a.frames[k + 1]?).map (·.fn)).getD 0))) || (last && decide (prev.op ≠ 13)) || decide (hs.getD (f.at_.toNat - 1) 0 < 0)
          if waits && (decide (f.at_ = 0) || bad) then 10
          else
            let h' := if waits then h - 1 else h
            if h' < 0 ∨ (f.stack.length : Int) ≠ h' then 10
            else firstErr (fun v => wrong v a.heap.length) (f.vars ++ f.stack)
def cellErr (n : Int) (c : Cl) : Int := if wrong c.left n ≠ 0 then wrong c.left n else wrong c.right n
def framesErr (a : Agt) (away : Bool) : Int := firstErr (fun k => frame a k away) (List.range a.frames.length)
def agent (a : Agt) (away : Bool) : Int :=
  if program a.prog ≠ 0 then program a.prog
  else if a.id < 0 ∨ 1073741824 < a.id ∨ a.trip < 0 ∨ 1073741824 < a.trip ∨ a.permit.fuel < 0 ∨ 2000 < a.permit.fuel ∨ a.permit.room < 0 ∨ 60 < a.permit.room ∨ a.permit.hops < 0 ∨ 12 < a.permit.hops then 3
  else if a.frames.length < 1 ∨ 12 < a.frames.length then 5
  else if 60 - a.permit.room < a.heap.length then 4
  else if framesErr a away ≠ 0 then framesErr a away
  else firstErr (cellErr a.heap.length) a.heap
end VM
end Go.Proofs.YtiinnjjmoifoeaaGreatDoor
set_option maxRecDepth 8000
namespace Go.Proofs.YtiinnjjmoifoeaaGreatDoor
namespace VM
def cInt (n : Int) : Val := ⟨0, n.tmod 1073741825, []⟩
def cText (s : Str) : Val := ⟨1, 0, s.take 60⟩
def bit (b : Bool) : Val := ⟨0, if b = true then 1 else 0, []⟩
def vzero : Val := ⟨0, 0, []⟩
def two (op : Int) (a b : Val) : Val × Int :=
  if op < 1 ∨ 5 < op then (vzero, 1)
  else if op = 5 then (bit (decide (a = b)), 0)
  else if (a.kind = 1 ∧ b.kind = 1) ∧ op = 1 then (cText (a.text ++ b.text), 0)
  else if (a.kind = 1 ∧ b.kind = 1) ∧ op = 4 then (bit (Op.bytesLess a.text b.text), 0)
  else if a.kind ≠ 0 ∨ b.kind ≠ 0 then (vzero, 11)
  else if op = 1 then (cInt (a.n + b.n), 0)
  else if op = 2 then (cInt (a.n - b.n), 0)
  else if op = 3 then (cInt (a.n * b.n), 0)
  else (bit (decide (a.n < b.n)), 0)
structure WrongOk (v : Val) (N : Int) : Prop where
  kind : v.kind = 0 ∨ v.kind = 1 ∨ v.kind = 2
  int : v.kind = 0 → -1073741824 ≤ v.n ∧ v.n ≤ 1073741824
  len : v.text.length ≤ 60
  cell : v.kind = 2 → 0 ≤ v.n ∧ v.n < N
  txt : v.kind = 1 → v.n = 0
  non : v.kind ≠ 1 → v.text = []
def vshow (h : List Cl) : Nat → Val → Str
  | d, v => if v.kind = 0 then Lib.itoa v.n else if v.kind = 1 then v.text else match d with
    | 0 => [46, 46]
    | d + 1 => match (if 0 ≤ v.n then h[v.n.toNat]? else none) with
      | none => [46, 46]
      | some c => [40] ++ vshow h d c.left ++ [32] ++ vshow h d c.right ++ [41]
def meet (o : List Nat) (v : Val) : List Nat := if v.kind = 2 ∧ v.n.toNat ∉ o then o ++ [v.n.toNat] else o
def drain (h : List Cl) : Nat → List Nat → Nat → List Nat
  | 0, o, _ => o
  | f + 1, o, d => match o[d]? with
    | none => o
    | some n => match h[n]? with
      | none => o
      | some c => drain h f (meet (meet o c.left) c.right) (d + 1)
def orderGo (h : List Cl) : List Val → List Nat → List Nat
  | [], o => o
  | v :: r, o => orderGo h r (drain h (h.length - o.length) (meet o v) o.length)
def order (h : List Cl) (l : List Val) : List Nat := orderGo h l []
def put (o : List Nat) (v : Val) : Val := if v.kind = 2 then { v with n := (o.idxOf v.n.toNat : Nat) } else v
def putC (o : List Nat) (c : Cl) : Cl := ⟨put o c.left, put o c.right⟩
def canonC (h : List Cl) (l : List Val) : List Cl := (order h l).filterMap fun n => (h[n]?).map (putC (order h l))
def right (h : List Cl) (l : List Val) : Bool := l.all (fun v => decide (wrong v h.length = 0)) && h.all (fun c => decide (wrong c.left h.length = 0) && decide (wrong c.right h.length = 0))
end VM
end Go.Proofs.YtiinnjjmoifoeaaGreatDoor
set_option maxRecDepth 8000
namespace Go.Proofs.YtiinnjjmoifoeaaGreatDoor
open Go Go.RowKit
def Val.avs (v : Val) : List AV := [.int .i64 v.kind, .int .i64 v.n, .str v.text]
def Cl.avs (c : Cl) : List AV := c.left.avs ++ c.right.avs
def Ins.avs (i : Ins) : List AV := [.int .i64 i.op, .int .i64 i.a, .int .i64 i.b]
@[simp] theorem zafm (v : Val) : v.avs.length = 3 := rfl
@[simp] theorem zaat (c : Cl) : c.avs.length = 6 := rfl
def Cod.avs (c : Cod) : List AV := [.int .i64 c.params, .int .i64 c.vars, .ro (c.ins.map Ins.avs)]
def Prg.avs (p : Prg) : List AV := [.ro (p.codes.map Cod.avs), .ro (p.words.map fun w => [.str w])]
def Prg.ok (p : Prg) : Prop := ∀ w ∈ p.words, w.length ≤ maxLen
def Frm.avs (f : Frm) : List AV := [.int .i64 f.fn, .int .i64 f.at_, .ro (f.vars.map Val.avs), .ro (f.stack.map Val.avs)]
def Agt.avs (a : Agt) : List AV := [.int .i64 a.id, .int .i64 a.trip, .ro (a.prog.codes.map Cod.avs), .ro (a.prog.words.map fun w => [.str w]), .ro (a.frames.map Frm.avs), .ro (a.heap.map Cl.avs), .int .i64 a.permit.fuel, .int .i64 a.permit.room, .int .i64 a.permit.hops]
end Go.Proofs.YtiinnjjmoifoeaaGreatDoor
set_option maxRecDepth 8000
namespace Go.Proofs.YtiinnjjmoifoeaaGreatDoor
open Go Go.RowKit
def scal : AV → Bool
  | .int _ _ | .str _ | .bool _ => true
  | _ => false
theorem zwj {H : Heap} {nx : Nat} {v r : AV} (hv : scal v = true) (h : Frz H nx v r) : r = v := by
  cases h <;> first | rfl | cases hv
theorem zqt {H : Heap} {nx : Nat} {xs : List AV} {r : AV} (hs : xs.all scal = true) : Frz H nx (.agg xs) r = (r = .agg xs) := by
  apply propext
  constructor
  · intro h
    cases h with
    | same _ _ => rfl
    | agg _ ys hl hj =>
      congr 1
      refine List.ext_getElem hl fun j h1 h2 => ?_
      have := hj j xs[j] ys[j] (by simp [h2]) (by simp [h1])
      exact zwj (List.all_eq_true.1 hs _ (List.getElem_mem h2)) this
  · rintro rfl
    refine .same _ (.agg _ fun j v hv => ?_)
    have := List.all_eq_true.1 hs v (List.mem_of_getElem? hv)
    cases v <;> first | (cases this; done) | exact .int _ _ | exact .str _ | exact .bool _
@[simp] theorem zafd {H : Heap} {nx : Nat} {v : Val} {r : AV} : Frz H nx (.agg v.avs) r = (r = .agg v.avs) := zqt rfl
@[simp] theorem zadv {H : Heap} {nx : Nat} {a b : Int} {s : List UInt8} {r : AV} : Frz H nx (.agg [.int .i64 a, .int .i64 b, .str s]) r = (r = .agg [.int .i64 a, .int .i64 b, .str s]) := zqt rfl
end Go.Proofs.YtiinnjjmoifoeaaGreatDoor
set_option maxRecDepth 8000
namespace Go.Proofs.YtiinnjjmoifoeaaGreatDoor
open Go Go.RowKit
theorem LRel.one {K : zf} {ρ : Nat → Loc} {A : Nat → Prop} {v : AV} {c : Value} (h : VRel K ρ A v c) : LRel K ρ A [v] [c] := LRel.cons h LRel.nil
theorem zle {w : World} {b o : Nat} {s} {v : Value} (h : w.cell? ⟨b, o, s⟩ = some v) : zcx (fun b => w.heap[b]?) b o = some v ∧ s = none := by
  unfold World.cell? at h
  unfold zcx
  simp only at h ⊢
  split at h
  · rename_i c _ _ he
    rw [he]
    split at h
    · cases h
    · rename_i hs; exact ⟨h, by simpa using hs⟩
  · cases h
structure OpA (P : Program) (t : TypeId) {α : Type} (av : α → List AV) (ok : α → Prop) : Prop where
  len : ∀ x, ok x → (av x).length = P.cellsOf t
  get : ∀ {H : Type} (enc : TypeId × Value → H) (w : World) (base : Nat) (sp : Nat → Bool) (held : Bool) (fuel : Nat) (cs : List Value) (x : DataW H × List MemPlace),
    DataW.trod enc P w base sp held fuel t cs = some x → (∀ n ∈ x.1.weights P t, n ≤ reachBytes) → ∃ y, ok y ∧ ∀ ρ A, LRel (fun b => w.heap[b]?) ρ A (av y) cs
theorem zyl {P : Program} {t : TypeId} (ht : P.underlying t = some (.int .i64)) (hc : P.cellsOf t = 1) : OpA P t (fun n : Int => [.int .i64 n]) (fun n => -9223372036854775808 ≤ n ∧ n ≤ 9223372036854775807) :=
  ⟨fun _ _ => hc.symm, fun enc w base sp held fuel cs x h _ => by
    obtain ⟨n, rfl, _, hw⟩ := DataW.trod_int ht h
    exact ⟨n, by simpa [Lit.wf, IntKind.min, IntKind.max, IntKind.signed, IntKind.bits] using hw, fun ρ A => LRel.one (.int _ _)⟩⟩
theorem zwa {P : Program} {t : TypeId} (ht : P.underlying t = some (.int .u8)) (hc : P.cellsOf t = 1) : OpA P t (fun b : UInt8 => [.int .u8 (b.toNat : Int)]) (fun _ => True) :=
  ⟨fun _ _ => hc.symm, fun enc w base sp held fuel cs x h _ => by
    obtain ⟨n, rfl, _, hw⟩ := DataW.trod_int ht h
    have hb : 0 ≤ n ∧ n ≤ 255 := by simpa [Lit.wf, IntKind.min, IntKind.max, IntKind.signed, IntKind.bits] using hw
    have e : ((UInt8.ofNat n.toNat).toNat : Int) = n := by simp [UInt8.toNat_ofNat']; omega
    exact ⟨UInt8.ofNat n.toNat, trivial, fun ρ A => LRel.one (by simp only [e]; exact .int _ _)⟩⟩
theorem zgb {H : Type} {P : Program} {e : TypeId} : ∀ {l : List (DataW H)} {d : DataW H}, d ∈ l → ∀ n ∈ d.weights P e, n ∈ DataW.weightsAll P e l
  | d' :: r, d, hd, n, hn => by
    simp only [DataW.weightsAll, List.mem_append]
    rcases List.mem_cons.1 hd with rfl | h
    · exact Or.inl hn
    · exact Or.inr (zgb h n hn)
theorem zga {H : Type} {P : Program} : ∀ {ts : List TypeId} {l : List (DataW H)} {i : Nat} {t : TypeId} {d : DataW H}, ts[i]? = some t → l[i]? = some d → ∀ n ∈ d.weights P t, n ∈ DataW.weightsEach P ts l
  | t' :: ts, d' :: r, 0, t, d, ht, hd, n, hn => by
    simp only [List.getElem?_cons_zero, Option.some.injEq] at ht hd
    subst ht; subst hd
    simp only [DataW.weightsEach, List.mem_append]
    exact Or.inl hn
  | t' :: ts, d' :: r, i + 1, t, d, ht, hd, n, hn => by
    simp only [DataW.weightsEach, List.mem_append]
    exact Or.inr (zga (by simpa using ht) (by simpa using hd) n hn)
  | [], _, i, t, d, ht, hd, n, hn => by simp at ht
  | t' :: ts, [], i, t, d, ht, hd, n, hn => by simp at hd
theorem zua {P : Program} {α : Type} {av : α → List AV} {ok : α → Prop} {t e : TypeId} (ht : P.underlying t = some (.slice e)) (hc : P.cellsOf t = 1) (hE : OpA P e av ok) (hpos : 0 < P.cellsOf e) :
    OpA P t (fun l : List α => [.ro (l.map av)]) (fun l => (∀ x ∈ l, ok x) ∧ l.length * P.bytesOf e ≤ reachBytes) :=
  ⟨fun _ _ => hc.symm, fun enc w base sp held fuel cs x h hw => by
    rcases Go.Deep.open_slice ht h with ⟨rfl, _⟩ | ⟨a, len, cap, m, n, D, Pl, rfl, hb, hl, hm, hmm, hx, hel⟩
    · refine ⟨[], ⟨fun x hx => by simp at hx, by simp⟩, fun ρ A => LRel.one ?_⟩
      exact .ro [] none 0 0 0 0 0 (fun _ _ => undef) rfl (Nat.le_refl _) (fun h => absurd rfl h) (fun x hx => by cases hx) (fun i x j v hx => by simp at hx) (fun i x j v hx => by simp at hx)
    · have hlm : len ≤ m := by rw [hmm]; split <;> omega
      have hwl : len * P.bytesOf e ≤ reachBytes := by
        have := hw ((len + (m - len)) * P.bytesOf e) (by rw [hx]; simp [DataW.weights, ht])
        have h2 : len * P.bytesOf e ≤ (len + (m - len)) * P.bytesOf e := Nat.mul_le_mul_right _ (by omega)
        omega
      have hel' : ∀ i, i < len → ∃ y : α, ok y ∧ ∃ ec, w.cells? base (a.add (i * P.cellsOf e)) (P.cellsOf e) = some ec ∧ ∀ ρ A, LRel (fun b => w.heap[b]?) ρ A (av y) ec := by
        intro i hi
        obtain ⟨cs', h1, h2⟩ := hel i (by omega)
        obtain ⟨y, hy, hr⟩ := hE.get enc w base sp held n cs' _ h2 (fun k hk => hw k (by
          rw [hx]
          simp only [DataW.weights, ht, List.mem_cons, List.mem_append]
          exact .inr (.inl (zgb (List.mem_map.2 ⟨i, List.mem_range.2 hi, rfl⟩) k hk))))
        exact ⟨y, hy, cs', h1, hr⟩
      by_cases h0 : len = 0
      · subst h0
        refine ⟨[], ⟨fun x hx => by simp at hx, by simp⟩, fun ρ A => LRel.one ?_⟩
        exact .ro [] (some a) 0 cap 0 0 0 (fun _ _ => undef) rfl (Nat.zero_le _) (fun h => absurd rfl h) (fun x hx => by cases hx) (fun i x j v hx => by simp at hx) (fun i x j v hx => by simp at hx)
      · obtain ⟨y0, hy0, ec0, hc0, hR0⟩ := hel' 0 (by omega)
        haveI : Inhabited α := ⟨y0⟩
        obtain ⟨f, hf⟩ : ∃ f : Nat → α, ∀ i, i < len → ok (f i) ∧ ∃ ec, w.cells? base (a.add (i * P.cellsOf e)) (P.cellsOf e) = some ec ∧ ∀ ρ A, LRel (fun b => w.heap[b]?) ρ A (av (f i)) ec := Go.Deep.choose_lt hel'
        obtain ⟨F, hF⟩ : ∃ F : Nat → List Value, ∀ i, i < len → w.cells? base (a.add (i * P.cellsOf e)) (P.cellsOf e) = some (F i) ∧ ∀ ρ A, LRel (fun b => w.heap[b]?) ρ A (av (f i)) (F i) := Go.Deep.choose_lt fun i hi => (hf i hi).2
        have zbk : ∀ (i : Nat), i < len → ∀ (j : Nat) v, (F i)[j]? = some v → w.cell? ((a.add (i * P.cellsOf e)).add j) = some v := by
          intro i hi j v hv
          have := (hF i hi).1
          unfold World.cells? at this
          split at this
          · have hl := mapM_some_length this
            have hj : j < P.cellsOf e := by
              have := (List.getElem?_eq_some_iff.1 hv).1
              simp at hl; omega
            rw [mapM_some_get this j j (by simp [hj]), hv]
          · cases this
        have hlen : ∀ i, i < len → (av (f i)).length = P.cellsOf e := fun i hi => hE.len _ (hf i hi).1
        have hlen2 : ∀ i, i < len → (F i).length = P.cellsOf e := fun i hi => by
          have h1 := ((hF i hi).2 (fun _ => default) (fun _ => False)).1
          rw [h1, hlen i hi]
        have hsp : a.spot = none := by
          have h1 : 0 < (F 0).length := by rw [hlen2 0 (by omega)]; exact hpos
          have h2 := zbk 0 (by omega) 0 _ (List.getElem?_eq_getElem h1)
          obtain ⟨b, o, s⟩ := a
          simp [Addr.add] at h2
          exact (zle h2).2
        obtain ⟨b, off, sp⟩ := a
        simp only at hsp
        subst hsp
        have hcellk : ∀ (i : Nat), i < len → ∀ (j : Nat) v, (F i)[j]? = some v → zcx (fun b => w.heap[b]?) b (off + i * P.cellsOf e + j) = some v := by
          intro i hi j v hv
          have := zbk i hi j v hv
          rw [Go.Deep.add_add] at this
          unfold Addr.add at this
          split at this
          · rename_i h00
            have e1 : i * P.cellsOf e = 0 := by omega
            have e2 : j = 0 := by omega
            rw [e1, e2]; exact (zle this).1
          · rw [Nat.add_assoc]; exact (zle this).1
        refine ⟨(List.range len).map f, ⟨fun x hx => ?_, by simpa using hwl⟩, fun ρ A => LRel.one ?_⟩
        · obtain ⟨i, hi, rfl⟩ := List.mem_map.1 hx
          exact (hf i (List.mem_range.1 hi)).1
        · refine .ro _ (some ⟨b, off, none⟩) len cap (P.cellsOf e) b off (fun i j => ((F i)[j]?).getD undef) (by simp) hl (fun _ => rfl) (fun x hx => ?_) (fun i x j v hx hv => ?_) (fun i x j v hx hv => ?_)
          · obtain ⟨y, hy, rfl⟩ := List.mem_map.1 hx
            obtain ⟨i, hi, rfl⟩ := List.mem_map.1 hy
            exact hlen i (List.mem_range.1 hi)
          · have hi : i < len := by have := (List.getElem?_eq_some_iff.1 hx).1; simpa using this
            have hxi : x = av (f i) := by simpa [hi] using hx.symm
            subst hxi
            have hj : j < (F i).length := by
              have := (List.getElem?_eq_some_iff.1 hv).1
              rw [hlen2 i hi, ← hlen i hi]; exact this
            have := hcellk i hi j _ (List.getElem?_eq_getElem hj)
            rw [this, List.getElem?_eq_getElem hj]; rfl
          · have hi : i < len := by have := (List.getElem?_eq_some_iff.1 hx).1; simpa using this
            have hxi : x = av (f i) := by simpa [hi] using hx.symm
            subst hxi
            have hj : j < (F i).length := by
              have := (List.getElem?_eq_some_iff.1 hv).1
              rw [hlen2 i hi, ← hlen i hi]; exact this
            rw [List.getElem?_eq_getElem hj]
            exact ((hF i hi).2 ρ A).2 j v _ hv (List.getElem?_eq_getElem hj)⟩
theorem zoq {H : Type} {P : Program} {enc : TypeId × Value → H} {w : World} {base fuel : Nat} {sp : Nat → Bool} {held : Bool} {t : TypeId} {fs : Array Field} {cs : List Value} {x : DataW H × List MemPlace} (ht : P.underlying t = some (.struct fs))
    (h : DataW.trod enc P w base sp held fuel t cs = some x) (hw : ∀ n ∈ x.1.weights P t, n ≤ reachBytes) : cs.length = P.cellsOf t ∧
    ∀ (i t' off n' : Nat), (fs[i]?).map (fun f => (f.type, f.offset)) = some (t', off) → P.cellsOf t' = n' → ∀ {α : Type} {av : α → List AV} {ok : α → Prop}, OpA P t' av ok → ∃ y, ok y ∧ ∀ ρ A, LRel (fun b => w.heap[b]?) ρ A (av y) ((cs.drop off).take n') := by
  obtain ⟨xs, n, _, rfl, hl, hlen, hf⟩ := DataW.trod_struct ht h
  refine ⟨hl, fun i t' off n' hm hn' α av ok hO => ?_⟩
  obtain ⟨f, hfi, he⟩ := Option.map_eq_some_iff.1 hm
  obtain ⟨rfl, rfl⟩ := Prod.mk.inj he
  subst hn'
  have hi : i < xs.length := by rw [hlen]; exact (Array.getElem?_eq_some_iff.1 hfi).1
  have h1 := hf i f hfi
  rw [List.getElem?_eq_getElem hi] at h1
  refine hO.get enc w base sp held n _ _ h1 fun k hk => hw k ?_
  simp only [DataW.weights, ht]
  exact zga (i := i) (t := f.type) (d := (xs[i]).1) (by simp [hfi]) (by simp [hi]) k hk
theorem zb.law {P : Program} {f : FuncId} {args : List AV} {r : AV} {cargs : Array Value} {w : World} {fn : Func} {c : Code} (hf : P.funcs[f]? = some fn) (hb : fn.body = some c) (hname : (fn.name == "runtime.NumGoroutine") = false)
    (hlay : LayK (fun b => w.heap[b]?)) (h : ∀ H nx, zb P f args H nx fun v _ _ => v = r) (ha : ∀ ρ A, LRel (fun b => w.heap[b]?) ρ A args cargs.toList) :
    Calls P f cargs w fun e w' => ∃ v, e = .returned v ∧ (∃ K ρ A, VRel K ρ A r v) ∧ Below w.heap.size w w' := by
  have hk : Kof (fun _ => default) (fun _ => none) w = fun b => w.heap[b]? := by
    funext b
    unfold Kof
    rw [if_neg (by rintro ⟨g, hg, _⟩; simp at hg)]
  have s : Sim (fun x => x < 0) (fun _ => default) (fun _ => none) w := ⟨fun g o h => (by cases h), fun g o h => (by cases h), fun g g' h _ _ => (by cases h), by rw [hk]; exact hlay⟩
  have := h (fun _ => none) 0 (fun _ => default) w cargs s (by rw [hk]; exact ha _ _)
  have hcall : (callFunc f cargs).run P w = .ok (.enter f cargs) w := by
    have hname' : ¬ fn.name = "runtime.NumGoroutine" := by simpa using hname
    simp [callFunc, program, Sem.run_bind, Sem.run, hf, hname', hb, pure]
  rw [hcall] at this
  simp only [zh] at this
  refine this.mono fun e w' ⟨v, he, r', H', nx', ρ', q0, q1, q2, q3⟩ => ?_
  subst q0
  refine ⟨v, he, ⟨_, _, _, q2⟩, ⟨q3.os, q3.tape, q3.output, q3.size, fun k hk' => ?_⟩⟩
  have := q3.k k (w.heap[k]) (by rw [hk]; exact Array.getElem?_eq_getElem hk')
  rw [(zj.1 this).2, Array.getElem?_eq_getElem hk']
end Go.Proofs.YtiinnjjmoifoeaaGreatDoor
set_option maxRecDepth 8000
namespace Go.Proofs.YtiinnjjmoifoeaaGreatDoor
open Go Go.RowKit
theorem cInt : Tryz.prog.cellsOf 3 = 1 := by kernel_rfl
def zat (n : Int) : Prop := -9223372036854775808 ≤ n ∧ n ≤ 9223372036854775807
theorem oInt : OpA Tryz.prog 3 (fun n : Int => [.int .i64 n]) zat := zyl Tryz.underlying3 cInt
def Val.rd (v : Val) : Prop := zat v.kind ∧ zat v.n ∧ v.text.length ≤ reachBytes
def rdL {α : Type} (ok : α → Prop) (n : Nat) (l : List α) : Prop := (∀ x ∈ l, ok x) ∧ l.length * n ≤ reachBytes
def Cl.rd (c : Cl) : Prop := c.left.rd ∧ c.right.rd
end Go.Proofs.YtiinnjjmoifoeaaGreatDoor
set_option maxRecDepth 8000
namespace Go.Proofs.YtiinnjjmoifoeaaGreatDoor
open Go Go.RowKit
def Ins.rd (x : Ins) : Prop := zat x.op ∧ zat x.a ∧ zat x.b
def Cod.rd (x : Cod) : Prop := zat x.params ∧ zat x.vars ∧ rdL Ins.rd (Tryz.prog.bytesOf 157) x.ins
def Prg.rd (x : Prg) : Prop := rdL Cod.rd (Tryz.prog.bytesOf 160) x.codes ∧ rdL (fun s => s.length ≤ reachBytes) (Tryz.prog.bytesOf 9) x.words
def Frm.rd (x : Frm) : Prop := zat x.fn ∧ zat x.at_ ∧ rdL Val.rd (Tryz.prog.bytesOf 170) x.vars ∧ rdL Val.rd (Tryz.prog.bytesOf 170) x.stack
def Pmt.rd (x : Pmt) : Prop := zat x.fuel ∧ zat x.room ∧ zat x.hops
def Agt.rd (x : Agt) : Prop := zat x.id ∧ zat x.trip ∧ x.prog.rd ∧ rdL Frm.rd (Tryz.prog.bytesOf 136) x.frames ∧ rdL Cl.rd (Tryz.prog.bytesOf 172) x.heap ∧ x.permit.rd
theorem zur : Tryz.prog.cellsOf 5 = 1 := by kernel_rfl
theorem zqx : Tryz.prog.cellsOf 22 = 1 := by kernel_rfl
theorem zxu : OpA Tryz.prog 22 (fun l : List UInt8 => [.ro (l.map fun b => [.int .u8 (b.toNat : Int)])]) (rdL (fun _ => True) (Tryz.prog.bytesOf 5)) := zua Tryz.underlying22 zqx (zwa Tryz.underlying5 zur) (by rw [zur]; decide)
end Go.Proofs.YtiinnjjmoifoeaaGreatDoor
set_option maxRecDepth 8000
namespace Go.Proofs.YtiinnjjmoifoeaaGreatDoor
namespace WM
abbrev Bytes := List UInt8
def zig (n : Int) : Nat := if n < 0 then (-(2 * n) - 1).toNat else (2 * n).toNat
def zag (u : Nat) : Int := if u % 2 = 1 then -((u / 2 : Nat) : Int) - 1 else ((u / 2 : Nat) : Int)
def enc : Nat → Nat → Bytes
  | 0, u => [UInt8.ofNat u]
  | f + 1, u => if 128 ≤ u then UInt8.ofNat (u % 128 + 128) :: enc f (u / 128) else [UInt8.ofNat u]
def num (n : Int) : Bytes := enc 9 (zig n)
def getFrom : Nat → Nat → Bytes → Int × Int × Int
  | _, _, [] => (0, 0, 8)
  | i, u, c :: r =>
    if 9 < i ∨ (i = 9 ∧ 1 < c.toNat) then (0, 0, 3)
    else if 128 ≤ c.toNat then getFrom (i + 1) (u + c.toNat % 128 * 2 ^ (7 * i)) r
    else if c.toNat = 0 ∧ 0 < i then (0, 0, 2)
    else (zag (u + c.toNat % 128 * 2 ^ (7 * i)), (i : Int) + 1, 0)
def getNum (b : Bytes) : Int × Int × Int := getFrom 0 0 b
theorem zag_zig (n : Int) : zag (zig n) = n := by
  unfold zag zig
  split <;> split <;> omega
theorem zig_zag (u : Nat) : zig (zag u) = u := by
  unfold zag zig
  split <;> split <;> omega
theorem zig_lt (n : Int) (h : -9223372036854775808 ≤ n) (h' : n ≤ 9223372036854775807) : zig n < 2 ^ 64 := by
  unfold zig
  split <;> omega
theorem enc_ne (f u : Nat) : enc f u ≠ [] := by
  cases f <;> simp [enc]
  split <;> simp
theorem enc_length (f u : Nat) : (enc f u).length ≤ f + 1 := by
  induction f generalizing u with
  | zero => simp [enc]
  | succ f ih =>
    simp only [enc]
    split
    · simp; exact ih _
    · simp
theorem toNat_ofNat_lt {n : Nat} (h : n < 256) : (UInt8.ofNat n).toNat = n := by
  simp [UInt8.toNat_ofNat']; omega
theorem getFrom_enc (f : Nat) : ∀ (i acc u : Nat) (r : Bytes), i + f = 9 → u < 2 ^ (64 - 7 * i) → (i = 0 ∨ u ≠ 0) →
    getFrom i acc (enc f u ++ r) = (zag (acc + u * 2 ^ (7 * i)), ((i + (enc f u).length : Nat) : Int), 0) := by
  induction f with
  | zero =>
    intro i acc u r hi hu h0
    have hi9 : i = 9 := by omega
    subst hi9
    have hu2 : u < 2 := by simpa using hu
    have hb : (UInt8.ofNat u).toNat = u := toNat_ofNat_lt (by omega)
    simp only [enc, List.cons_append, List.nil_append, getFrom, hb]
    rw [if_neg (by omega), if_neg (by omega), if_neg (by omega)]
    have hm : u % 128 = u := Nat.mod_eq_of_lt (by omega)
    rw [hm]
    simp
  | succ f ih =>
    intro i acc u r hi hu h0
    simp only [enc]
    split
    · rename_i hge
      have hb : (UInt8.ofNat (u % 128 + 128)).toNat = u % 128 + 128 := toNat_ofNat_lt (by omega)
      simp only [List.cons_append, getFrom, hb]
      rw [if_neg (by omega), if_pos (by omega)]
      have hm : (u % 128 + 128) % 128 = u % 128 := by omega
      rw [hm]
      have hpow : (2 : Nat) ^ (64 - 7 * i) = 2 ^ (64 - 7 * (i + 1)) * 128 := by
        rw [show (128 : Nat) = 2 ^ 7 from rfl, ← Nat.pow_add]
        congr 1
        omega
      rw [ih (i + 1) _ (u / 128) r (by omega) (by rw [hpow] at hu; exact Nat.div_lt_of_lt_mul (by rw [Nat.mul_comm]; exact hu)) (.inr (by omega))]
      have hsum : acc + u % 128 * 2 ^ (7 * i) + u / 128 * 2 ^ (7 * (i + 1)) = acc + u * 2 ^ (7 * i) := by
        have e7 : (2 : Nat) ^ (7 * (i + 1)) = 128 * 2 ^ (7 * i) := by
          rw [show 7 * (i + 1) = 7 + 7 * i by omega, Nat.pow_add]
        rw [e7, Nat.add_assoc, ← Nat.mul_assoc, ← Nat.add_mul]
        congr 2
        omega
      rw [hsum]
      simp only [List.length_cons]
      congr 2
      congr 1
      omega
    · rename_i hlt
      have hb : (UInt8.ofNat u).toNat = u := toNat_ofNat_lt (by omega)
      simp only [List.cons_append, List.nil_append, getFrom, hb]
      rw [if_neg (by omega), if_neg (by omega), if_neg (by omega)]
      have hm : u % 128 = u := Nat.mod_eq_of_lt (by omega)
      rw [hm]
      simp
theorem getNum_num (n : Int) (h : -9223372036854775808 ≤ n) (h' : n ≤ 9223372036854775807) (r : Bytes) :
    getNum (num n ++ r) = (n, ((num n).length : Int), 0) := by
  unfold getNum num
  rw [getFrom_enc 9 0 0 (zig n) r rfl (by simpa using zig_lt n h h') (.inl rfl)]
  simp [zag_zig]
theorem getFrom_err : ∀ (b : Bytes) (i u : Nat), (getFrom i u b).2.2 ≠ 0 → (getFrom i u b).1 = 0 ∧ (getFrom i u b).2.1 = 0 := by
  intro b
  induction b with
  | nil => intro i u _; simp [getFrom]
  | cons c r ih =>
    intro i u h
    simp only [getFrom] at h ⊢
    split at h
    · simp_all
    · rename_i h1
      rw [if_neg h1]
      split at h
      · rename_i h2
        rw [if_pos h2]
        exact ih _ _ h
      · rename_i h2
        rw [if_neg h2]
        split at h
        · rename_i h3
          rw [if_pos h3]; simp
        · simp at h
theorem getFrom_ok : ∀ (b : Bytes) (i acc : Nat), i ≤ 9 → acc < 2 ^ (7 * i) → (getFrom i acc b).2.2 = 0 →
    ∃ (k v : Nat), k ≤ b.length ∧ 1 ≤ k ∧ (getFrom i acc b).2.1 = ((i + k : Nat) : Int) ∧ v < 2 ^ (64 - 7 * i) ∧ (0 < i → v ≠ 0) ∧
      (getFrom i acc b).1 = zag (acc + v * 2 ^ (7 * i)) ∧ enc (9 - i) v = b.take k := by
  intro b
  induction b with
  | nil => intro i acc _ _ h; simp [getFrom] at h
  | cons c r ih =>
    intro i acc hi ha h
    have hc : c.toNat < 256 := c.toNat_lt
    simp only [getFrom] at h ⊢
    split at h
    · simp at h
    · rename_i h1
      rw [if_neg h1]
      split at h
      · rename_i h2
        rw [if_pos h2]
        have hi8 : i ≤ 8 := by omega
        have e7 : (2 : Nat) ^ (7 * (i + 1)) = 128 * 2 ^ (7 * i) := by
          rw [show 7 * (i + 1) = 7 + 7 * i by omega, Nat.pow_add]
        have hpos : 0 < (2 : Nat) ^ (7 * i) := Nat.pow_pos (by omega)
        obtain ⟨k, v, hk, hk1, hn, hv, hv0, hz, he⟩ := ih (i + 1) (acc + c.toNat % 128 * 2 ^ (7 * i)) (by omega) (by
          rw [e7]
          have : c.toNat % 128 * 2 ^ (7 * i) ≤ 127 * 2 ^ (7 * i) := Nat.mul_le_mul_right _ (by omega)
          omega) h
        have hv1 := hv0 (by omega)
        refine ⟨k + 1, v * 128 + c.toNat % 128, by simp; omega, by omega, by rw [hn]; congr 1; omega, ?_, by omega, ?_, ?_⟩
        · have hpow : (2 : Nat) ^ (64 - 7 * i) = 2 ^ (64 - 7 * (i + 1)) * 128 := by
            rw [show (128 : Nat) = 2 ^ 7 from rfl, ← Nat.pow_add]
            congr 1
            omega
          rw [hpow]
          omega
        · rw [hz]
          congr 1
          rw [e7, Nat.add_mul, ← Nat.mul_assoc]
          omega
        · rw [show 9 - i = (9 - (i + 1)) + 1 by omega]
          simp only [enc]
          rw [if_pos (by omega), show (v * 128 + c.toNat % 128) / 128 = v by omega, he, show (v * 128 + c.toNat % 128) % 128 + 128 = c.toNat by omega]
          simp
      · rename_i h2
        rw [if_neg h2]
        split at h
        · simp at h
        · rename_i h3
          rw [if_neg h3]
          have hm : c.toNat % 128 = c.toNat := Nat.mod_eq_of_lt (by omega)
          refine ⟨1, c.toNat, by simp, by omega, by simp, ?_, by omega, by rw [hm], ?_⟩
          · by_cases h9 : i = 9
            · subst h9; simp; omega
            · have h128 : (2 : Nat) ^ 7 ≤ 2 ^ (64 - 7 * i) := Nat.pow_le_pow_right (by omega) (by omega)
              omega
          · have hofn : UInt8.ofNat c.toNat = c := by simp
            cases hh : 9 - i with
            | zero => simp [enc]
            | succ f => simp only [enc]; rw [if_neg (by omega)]; simp
theorem getNum_i64 (b : Bytes) (h : (getNum b).2.2 = 0) : -9223372036854775808 ≤ (getNum b).1 ∧ (getNum b).1 ≤ 9223372036854775807 := by
  obtain ⟨k, v, hk, hk1, hn, hv, _, hz, he⟩ := getFrom_ok b 0 0 (by omega) (by simp) h
  unfold getNum
  rw [hz]
  unfold zag
  simp at hv ⊢
  split <;> omega
theorem getNum_ok (b : Bytes) (h : (getNum b).2.2 = 0) : ∃ k : Nat, k ≤ b.length ∧ 1 ≤ k ∧ (getNum b).2.1 = (k : Int) ∧ num (getNum b).1 = b.take k := by
  obtain ⟨k, v, hk, hk1, hn, hv, _, hz, he⟩ := getFrom_ok b 0 0 (by omega) (by simp) h
  refine ⟨k, hk, hk1, by simpa [getNum] using hn, ?_⟩
  unfold num getNum
  rw [hz, zig_zag]
  simpa using he
def getText (b : Bytes) (most : Int) : Bytes × Int × Int :=
  if (getNum b).2.2 ≠ 0 then ([], 0, (getNum b).2.2)
  else if (getNum b).1 < 0 ∨ most < (getNum b).1 then ([], 0, 4)
  else if (b.length : Int) - (getNum b).2.1 < (getNum b).1 then ([], 0, 8)
  else ((b.drop (getNum b).2.1.toNat).take (getNum b).1.toNat, (getNum b).2.1 + (getNum b).1, 0)
def rot5 (u : Nat) : Nat := (u * 32 % 4294967296) ||| (u / 134217728)
def sumStep (s : Nat) (c : UInt8) : Nat := rot5 (s ^^^ c.toNat) * 16777619 % 4294967296
def sum (b : Bytes) : Nat := b.foldl sumStep 2166136261
theorem getNum_bounds (b : Bytes) : 0 ≤ (getNum b).2.1 ∧ (getNum b).2.1 ≤ b.length := by
  by_cases h : (getNum b).2.2 = 0
  · obtain ⟨k, hk, hk1, hn, _⟩ := getNum_ok b h
    omega
  · have := getFrom_err b 0 0 h
    unfold getNum
    omega
end WM
end Go.Proofs.YtiinnjjmoifoeaaGreatDoor
set_option maxRecDepth 8000
namespace Go.Proofs.YtiinnjjmoifoeaaGreatDoor
structure Fct where
  key : Str
  val : Val
structure Spt where
  name : Str
  facts : List Fct
  fuel : Int
  cells : Int
structure Evt where
  kind : Int
  text : Str
  err : Int
namespace VM
def ev0 : Evt := ⟨0, [], 0⟩
def dead (e : Int) : Evt := ⟨5, [], e⟩
def ask (l : List Fct) (k : Str) : Val := match l.find? (fun f => decide (f.key = k)) with
  | some f => f.val
  | none => vzero
def cl0 : Cl := ⟨vzero, vzero⟩
def toF (a : Agt) (fs : List Frm) (f : Frm) : Agt := { a with frames := fs ++ [f] }
def top1 (st : List Val) : Val := st.getD (st.length - 1) vzero
def top2 (st : List Val) : Val := st.getD (st.length - 2) vzero
def low (k : Nat) (st : List Val) : List Val := st.take (st.length - k)
def push (a : Agt) (fs : List Frm) (f : Frm) (st : List Val) (v : Val) : Agt × Evt := (toF a fs { f with stack := st ++ [v] }, ev0)
def codeAt (p : Prg) (n : Int) : Cod := p.codes.getD n.toNat ⟨0, 0, []⟩
def opDo (a : Agt) (s : Spt) (fs : List Frm) (f : Frm) (i : Ins) : Agt × Evt :=
  if i.op = 1 then push a fs f f.stack ⟨0, i.a, []⟩
  else if i.op = 2 then push a fs f f.stack (cText (a.prog.words.getD i.a.toNat []))
  else if i.op = 3 then push a fs f f.stack (f.vars.getD i.a.toNat vzero)
  else if i.op = 4 then (toF a fs { f with stack := low 1 f.stack, vars := f.vars.set i.a.toNat (top1 f.stack) }, ev0)
  else if i.op = 5 then (if (two i.a (top2 f.stack) (top1 f.stack)).2 = 0 then push a fs f (low 2 f.stack) (two i.a (top2 f.stack) (top1 f.stack)).1 else (toF a fs { f with stack := low 2 f.stack }, dead (two i.a (top2 f.stack) (top1 f.stack)).2))
  else if i.op = 6 then (if a.permit.room = 0 then (toF a fs { f with stack := low 2 f.stack }, dead 13)
    else push { a with heap := a.heap ++ [⟨top2 f.stack, top1 f.stack⟩], permit := { a.permit with room := a.permit.room - 1 } } fs f (low 2 f.stack) ⟨2, a.heap.length, []⟩)
  else if i.op = 7 then (if (top1 f.stack).kind ≠ 2 then (toF a fs { f with stack := low 1 f.stack }, dead 11) else push a fs f (low 1 f.stack) (a.heap.getD (top1 f.stack).n.toNat cl0).left)
  else if i.op = 8 then (if (top1 f.stack).kind ≠ 2 then (toF a fs { f with stack := low 1 f.stack }, dead 11) else push a fs f (low 1 f.stack) (a.heap.getD (top1 f.stack).n.toNat cl0).right)
  else if i.op = 9 then (if (top2 f.stack).kind ≠ 2 then (toF a fs { f with stack := low 2 f.stack }, dead 11) else (toF { a with heap := a.heap.set (top2 f.stack).n.toNat { a.heap.getD (top2 f.stack).n.toNat cl0 with left := top1 f.stack } } fs { f with stack := low 2 f.stack }, ev0))
  else if i.op = 10 then (if (top2 f.stack).kind ≠ 2 then (toF a fs { f with stack := low 2 f.stack }, dead 11) else (toF { a with heap := a.heap.set (top2 f.stack).n.toNat { a.heap.getD (top2 f.stack).n.toNat cl0 with right := top1 f.stack } } fs { f with stack := low 2 f.stack }, ev0))
  else if i.op = 11 then (if (top1 f.stack).kind ≠ 1 then (toF a fs { f with stack := low 1 f.stack }, dead 11) else push a fs f (low 1 f.stack) (ask s.facts (top1 f.stack).text))
  else if i.op = 12 then push a fs f f.stack (cText s.name)
  else if i.op = 13 then (if (top1 f.stack).kind ≠ 1 then (toF a fs { f with stack := low 1 f.stack }, dead 11) else if a.permit.hops = 0 then push a fs f (low 1 f.stack) vzero
    else (toF { a with permit := { a.permit with hops := a.permit.hops - 1 } } fs { f with stack := low 1 f.stack }, ⟨3, (top1 f.stack).text, 0⟩))
  else if i.op = 14 then (toF a fs { f with stack := low 1 f.stack }, ⟨2, vshow a.heap 4 (top1 f.stack), 0⟩)
  else if i.op = 15 then (toF a fs { f with at_ := i.a }, ev0)
  else if i.op = 16 then (toF a fs { f with stack := low 1 f.stack, at_ := if (top1 f.stack).kind = 0 ∧ (top1 f.stack).n = 0 then i.a else f.at_ }, ev0)
  else if i.op = 17 then (if 12 ≤ fs.length + 1 then (toF a fs f, dead 9)
    else (toF a (fs ++ [{ f with stack := low i.b.toNat f.stack }]) ⟨i.a, 0, f.stack.drop (f.stack.length - i.b.toNat) ++ List.replicate ((codeAt a.prog i.a).vars - i.b).toNat vzero, []⟩, ev0))
  else if i.op = 18 then (match fs.getLast? with
    | none => ({ a with frames := [] }, ⟨4, vshow a.heap 4 (top1 f.stack), 0⟩)
    | some g => push a fs.dropLast g g.stack (top1 f.stack))
  else (toF a fs { f with stack := low 1 f.stack }, ev0)
def insAt (p : Prg) (f : Frm) : Ins := (codeAt p f.fn).ins.getD f.at_.toNat ⟨0, 0, 0⟩
def step (a : Agt) (s : Spt) : Agt × Evt :=
  if a.permit.fuel = 0 then (a, dead 12)
  else match a.frames.getLast? with
    | none => (a, ev0)
    | some f => opDo { a with permit := { a.permit with fuel := a.permit.fuel - 1 } } s a.frames.dropLast { f with at_ := f.at_ + 1 } (insAt a.prog f)
def run (s : Spt) : Nat → Agt → Agt × Evt
  | 0, a => (a, ⟨1, [], 0⟩)
  | n + 1, a => if (step a s).2.kind ≠ 0 then step a s else run s n (step a s).1
def roots (a : Agt) : List Val := a.frames.flatMap fun f => f.vars ++ f.stack
def pack (a : Agt) : Agt := { a with frames := a.frames.map (fun f => { f with vars := f.vars.map (put (order a.heap (roots a))), stack := f.stack.map (put (order a.heap (roots a))) }), heap := canonC a.heap (roots a) }
end VM
end Go.Proofs.YtiinnjjmoifoeaaGreatDoor
set_option maxRecDepth 8000
namespace Go.Proofs.YtiinnjjmoifoeaaGreatDoor
namespace VM
def textB (s : Str) : Str := WM.num s.length ++ s
def valB (v : Val) : Str := WM.num v.kind ++ (if v.kind = 1 then textB v.text else WM.num v.n)
def insB (i : Ins) : Str := WM.num i.op ++ WM.num i.a ++ WM.num i.b
def codB (c : Cod) : Str := WM.num c.params ++ WM.num c.vars ++ WM.num c.ins.length ++ c.ins.flatMap insB
def prgB (p : Prg) : Str := WM.num p.words.length ++ p.words.flatMap textB ++ WM.num p.codes.length ++ p.codes.flatMap codB
def valsB (l : List Val) : Str := WM.num l.length ++ l.flatMap valB
def frmB (f : Frm) : Str := WM.num f.fn ++ WM.num f.at_ ++ valsB f.vars ++ valsB f.stack
def clB (c : Cl) : Str := valB c.left ++ valB c.right
def agtB (a : Agt) : Str := WM.num a.id ++ WM.num a.trip ++ WM.num a.permit.fuel ++ WM.num a.permit.room ++ WM.num a.permit.hops ++ prgB a.prog ++ WM.num a.frames.length ++ a.frames.flatMap frmB ++ WM.num a.heap.length ++ a.heap.flatMap clB
def withSum (b : Str) : Str := b ++ WM.num (WM.sum b)
def image (a : Agt) : Str := withSum (agtB (pack a))
inductive R (α : Type) where
  | ok (a : α) (r : Str)
  | no (e : Int)
def Rd (α : Type) : Type := Str → R α
def Rd.pure {α : Type} (a : α) : Rd α := fun b => .ok a b
def Rd.bind {α β : Type} (m : Rd α) (f : α → Rd β) : Rd β := fun b => match m b with
  | .ok a r => f a r
  | .no e => .no e
def rNum : Rd Int := fun b => if (WM.getNum b).2.2 ≠ 0 then .no (WM.getNum b).2.2 else .ok (WM.getNum b).1 (b.drop (WM.getNum b).2.1.toNat)
def rText (most : Int) : Rd Str := fun b => if (WM.getText b most).2.2 ≠ 0 then .no (WM.getText b most).2.2 else .ok (WM.getText b most).1 (b.drop (WM.getText b most).2.1.toNat)
def rMany {α : Type} (m : Rd α) : Nat → Rd (List α)
  | 0 => .pure []
  | n + 1 => m.bind fun a => (rMany m n).bind fun l => .pure (a :: l)
abbrev St := Str × Int
structure Goes {α : Type} (m : Rd α) (st : St) (a : α) (st' : St) : Prop where
  stuck : st.2 ≠ 0 → st'.2 = st.2
  good : st.2 = 0 → ∀ x r, m st.1 = .ok x r → a = x ∧ st' = (r, 0)
  bad : st.2 = 0 → ∀ e, m st.1 = .no e → e ≠ 0 ∧ st'.2 = e
theorem Goes.pure {α : Type} (a : α) (st : St) : Goes (Rd.pure a) st a st :=
  ⟨fun _ => rfl, fun h x r hr => by cases hr; exact ⟨rfl, Prod.ext rfl h⟩, fun _ e h => by cases h⟩
theorem Goes.bind {α β : Type} {m : Rd α} {k : α → Rd β} {st st1 st2 : St} {a : α} {b : β} (h : Goes m st a st1) (h2 : Goes (k a) st1 b st2) : Goes (m.bind k) st b st2 := by
  refine ⟨fun he => ?_, fun he x r hr => ?_, fun he e hr => ?_⟩
  · have h1 := h.stuck he
    rw [← h1]
    exact h2.stuck (by rw [h1]; exact he)
  · unfold Rd.bind at hr
    split at hr
    · rename_i a' r' hm
      obtain ⟨rfl, rfl⟩ := h.good he _ _ hm
      exact h2.good rfl x r hr
    · cases hr
  · unfold Rd.bind at hr
    split at hr
    · rename_i a' r' hm
      obtain ⟨rfl, rfl⟩ := h.good he _ _ hm
      exact h2.bad rfl e hr
    · rename_i e' hm
      cases hr
      obtain ⟨h1, h3⟩ := h.bad he _ hm
      refine ⟨h1, ?_⟩
      rw [← h3]
      exact h2.stuck (by rw [h3]; exact h1)
theorem Goes.more {α : Type} {m : Rd α} {st st1 st2 : St} {a : α} {l : List α} {n : Nat} (h : Goes m st a st1) (h2 : Goes (rMany m n) st1 l st2) : Goes (rMany m (n + 1)) st (a :: l) st2 :=
  h.bind (h2.bind (Goes.pure _ _))
end VM
end Go.Proofs.YtiinnjjmoifoeaaGreatDoor
set_option maxRecDepth 8000
namespace Go.Proofs.YtiinnjjmoifoeaaGreatDoor
open Go Go.RowKit
def zhs (out : List Int) : Nat := out.countP (· < 0)
theorem zmz {out : List Int} {k : Nat} {h : Int} (hk : k < out.length) (h0 : out.getD k 0 < 0) (h1 : 0 ≤ h) : zhs (out.set k h) + 1 = zhs out := by
  unfold zhs
  have hg : out[k] < 0 := by simpa [List.getD, hk] using h0
  have hpos : 0 < out.countP (· < 0) := List.countP_pos_iff.2 ⟨out[k], List.getElem_mem hk, by simpa using hg⟩
  rw [List.countP_set hk]
  have hnl : ¬ h < 0 := by omega
  simp [hg, hnl]
  omega
theorem zjr (i : Ins) (h : i.op = 17 → 0 ≤ i.b ∧ i.b ≤ 16) : 0 ≤ (VM.effect i).1 ∧ (VM.effect i).1 ≤ 16 ∧ 0 ≤ (VM.effect i).2 ∧ (VM.effect i).2 ≤ 1 := by
  unfold VM.effect
  (repeat' split) <;> simp_all
def Calm (ins : List Ins) : Prop := ∀ i ∈ ins, i.op = 17 → 0 ≤ i.b ∧ i.b ≤ 16
theorem zcy {α : Type} {f : α → Int} {l : List α} (h : VM.firstErr f l = 0) : ∀ x ∈ l, f x = 0 := by
  induction l with
  | nil => intro x hx; simp at hx
  | cons a r ih =>
    unfold VM.firstErr at h
    by_cases h0 : f a ≠ 0
    · rw [if_pos h0] at h; exact absurd h h0
    · rw [if_neg h0] at h
      intro x hx
      rcases List.mem_cons.1 hx with rfl | hx
      · omega
      · exact ih h x hx
theorem zyw {p : Prg} {c : Cod} (hr : ∀ x ∈ p.codes, VM.codeRange x = false) (hn : ∀ i ∈ c.ins, VM.numbers p c i = 0) : Calm c.ins := by
  intro i hi h17
  have h := hn i hi
  unfold VM.numbers at h
  rw [if_neg (by omega)] at h
  by_cases hok : VM.numOk p c i = false ∨ (i.op ≠ 17 ∧ i.b ≠ 0)
  · rw [if_pos hok] at h; omega
  · have h2 : VM.numOk p c i = true := by
      cases hq : VM.numOk p c i with
      | true => rfl
      | false => exact absurd (Or.inl hq) hok
    unfold VM.numOk at h2
    simp [h17] at h2
    obtain ⟨_, h3⟩ := h2
    cases hx : p.codes[i.a.toNat]? with
    | none => rw [hx] at h3; simp at h3
    | some x =>
      rw [hx] at h3
      have h4 := hr x (List.mem_of_getElem? hx)
      unfold VM.codeRange at h4
      rw [decide_eq_false_iff_not] at h4
      simp at h3
      omega
theorem zeu (ins : List Ins) (hc : Calm ins) : ∀ (fuel : Nat) (q : List (Int × Int)) (out : List Int), q.length + 2 * zhs out < fuel → (∀ x ∈ q, 0 ≤ x.2 ∧ x.2 ≤ 16) → out.length = ins.length →
    (∀ x ∈ out, -1 ≤ x ∧ x ≤ 16) → (VM.heightsGo ins fuel q out).2 = 0 → (VM.heightsGo ins fuel q out).1.length = ins.length ∧ ∀ x ∈ (VM.heightsGo ins fuel q out).1, -1 ≤ x ∧ x ≤ 16
  | 0, q, out, h, _, _, _, _ => by omega
  | f + 1, [], out, _, _, hl, ho, _ => ⟨hl, ho⟩
  | f + 1, (at_, h) :: q, out, hp, hq, hl, ho, he => by
    unfold VM.heightsGo at he ⊢
    have hh := hq (at_, h) (by simp)
    simp only at hh
    have hq' : ∀ x ∈ q, 0 ≤ x.2 ∧ x.2 ≤ 16 := fun x hx => hq x (by simp [hx])
    simp only [List.length_cons] at hp
    generalize hm : (if 0 ≤ at_ then ins[at_.toNat]? else none) = m at *
    cases m with
    | none => simp at he
    | some i =>
      have hi : ins[at_.toNat]? = some i := by
        by_cases h0 : 0 ≤ at_
        · rwa [if_pos h0] at hm
        · rw [if_neg h0] at hm; cases hm
      have hlt : at_.toNat < out.length := by rw [hl]; exact (List.getElem?_eq_some_iff.1 hi).1
      simp only at he ⊢
      by_cases hs : 0 ≤ out.getD at_.toNat 0
      · rw [if_pos hs] at he ⊢
        by_cases hne : out.getD at_.toNat 0 ≠ h
        · rw [if_pos hne] at he; simp at he
        · rw [if_neg hne] at he ⊢
          exact zeu ins hc f q out (by omega) hq' hl ho he
      · rw [if_neg hs] at he ⊢
        have hb := zjr i (hc i (List.mem_of_getElem? hi))
        by_cases h1 : h < (VM.effect i).1 ∨ (i.op = 18 ∧ h ≠ 1)
        · rw [if_pos h1] at he; simp at he
        · rw [if_neg h1] at he ⊢
          by_cases h2 : 16 < h + (VM.effect i).2 - (VM.effect i).1
          · rw [if_pos h2] at he; simp at he
          · rw [if_neg h2] at he ⊢
            have hu := zmz (out := out) (k := at_.toNat) (h := h) hlt (by omega) hh.1
            refine zeu ins hc f _ _ ?_ ?_ (by simpa using hl) ?_ he
            · simp only [List.length_append]
              have l1 : (if i.op ≠ 15 ∧ i.op ≠ 18 then [(at_ + 1, h + (VM.effect i).2 - (VM.effect i).1)] else []).length ≤ 1 := by split <;> simp
              have l2 : (if i.op = 15 ∨ i.op = 16 then [(i.a, h + (VM.effect i).2 - (VM.effect i).1)] else []).length ≤ 1 := by split <;> simp
              omega
            · intro x hx
              simp only [List.mem_append] at hx
              rcases hx with (hx | hx) | hx
              · exact hq' x hx
              · split at hx
                · simp at hx; subst hx; constructor <;> simp only <;> omega
                · simp at hx
              · split at hx
                · simp at hx; subst hx; constructor <;> simp only <;> omega
                · simp at hx
            · intro x hx
              rcases List.mem_or_eq_of_mem_set hx with h9 | h9
              · exact ho x h9
              · omega
theorem zko {ins : List Ins} (hc : Calm ins) (h : (VM.heights ins).2 = 0) : (VM.heights ins).1.length = ins.length ∧ ∀ x ∈ (VM.heights ins).1, -1 ≤ x ∧ x ≤ 16 := by
  refine zeu ins hc _ _ _ ?_ ?_ (by simp) ?_ h
  · unfold zhs; simp [List.countP_replicate]; omega
  · intro x hx; simp at hx; subst hx; simp
  · intro x hx; have := List.eq_of_mem_replicate hx; omega
theorem zet {p : Prg} (h : VM.program p = 0) : (∀ c ∈ p.codes, VM.codeRange c = false ∧ Calm c.ins ∧ (VM.heights c.ins).2 = 0) ∧ p.codes.length ≤ 5 ∧ p.words.length ≤ 16 := by
  unfold VM.program at h
  by_cases h1 : p.codes.length < 1 ∨ 5 < p.codes.length
  · rw [if_pos h1] at h; omega
  rw [if_neg h1] at h
  by_cases h2 : 16 < p.words.length
  · rw [if_pos h2] at h; omega
  rw [if_neg h2] at h
  split at h
  · omega
  split at h
  · omega
  by_cases h5 : p.codes.any VM.codeRange = true
  · rw [if_pos h5] at h; omega
  rw [if_neg h5] at h
  have hr : ∀ x ∈ p.codes, VM.codeRange x = false := by simpa using h5
  refine ⟨fun c hc => ?_, by omega, by omega⟩
  have he := zcy h c hc
  unfold VM.codeErr at he
  by_cases hn : VM.firstErr (VM.numbers p c) c.ins ≠ 0
  · rw [if_pos hn] at he; exact absurd he hn
  · rw [if_neg hn] at he
    exact ⟨hr c hc, zyw hr (zcy (by omega)), he⟩
end Go.Proofs.YtiinnjjmoifoeaaGreatDoor
set_option maxRecDepth 8000
namespace Go.Proofs.YtiinnjjmoifoeaaGreatDoor
namespace VM
def after (i : Ins) (h : Int) : Int := h + (effect i).2 - (effect i).1
def succs (at_ : Int) (i : Ins) (h : Int) : List (Int × Int) := (if i.op ≠ 15 ∧ i.op ≠ 18 then [(at_ + 1, after i h)] else []) ++ (if i.op = 15 ∨ i.op = 16 then [(i.a, after i h)] else [])
def there (hs : List Int) (x : Int × Int) : Prop := 0 ≤ x.1 ∧ hs[x.1.toNat]? = some x.2
structure HeiOk (ins : List Ins) (hs : List Int) : Prop where
  len : hs.length = ins.length
  start : there hs (0, 0)
  at_ : ∀ (m : Nat) (i : Ins) (h : Int), ins[m]? = some i → hs[m]? = some h → 0 ≤ h → (effect i).1 ≤ h ∧ (i.op = 18 → h = 1) ∧ after i h ≤ 16 ∧ ∀ x ∈ succs m i h, there hs x
structure HeiInv (ins : List Ins) (q : List (Int × Int)) (out : List Int) : Prop where
  len : out.length = ins.length
  start : (0, 0) ∈ q ∨ there out (0, 0)
  at_ : ∀ (m : Nat) (i : Ins) (h : Int), ins[m]? = some i → out[m]? = some h → 0 ≤ h → (effect i).1 ≤ h ∧ (i.op = 18 → h = 1) ∧ after i h ≤ 16 ∧ ∀ x ∈ succs m i h, x ∈ q ∨ there out x
theorem there_set {out : List Int} {k : Nat} {h : Int} {x : Int × Int} (hx : there out x) (hk : out.getD k 0 < 0) (h0 : 0 ≤ x.2) : there (out.set k h) x := by
  refine ⟨hx.1, ?_⟩
  by_cases e : x.1.toNat = k
  · subst e
    have := hx.2
    rw [List.getD_eq_getElem?_getD, this] at hk
    simp at hk; omega
  · rw [List.getElem?_set_ne (fun h => e h.symm)]; exact hx.2
theorem heightsGo_ok (ins : List Ins) (hc : Calm ins) : ∀ (fuel : Nat) (q : List (Int × Int)) (out : List Int), q.length + 2 * zhs out < fuel → (∀ x ∈ q, 0 ≤ x.2 ∧ x.2 ≤ 16) → HeiInv ins q out → (heightsGo ins fuel q out).2 = 0 → HeiOk ins (heightsGo ins fuel q out).1
  | 0, q, out, h, _, _, _ => by omega
  | f + 1, [], out, _, _, iv, _ => ⟨iv.len, by rcases iv.start with h | h; simp at h; exact h, fun m i h h1 h2 h3 => by
      obtain ⟨a, b, c, d⟩ := iv.at_ m i h h1 h2 h3
      exact ⟨a, b, c, fun x hx => (d x hx).resolve_left (by simp)⟩⟩
  | f + 1, (at_, h) :: q, out, hp, hq, iv, he => by
    unfold heightsGo at he ⊢
    have hh := hq (at_, h) (by simp)
    simp only at hh
    have hq' : ∀ x ∈ q, 0 ≤ x.2 ∧ x.2 ≤ 16 := fun x hx => hq x (by simp [hx])
    simp only [List.length_cons] at hp
    generalize hm : (if 0 ≤ at_ then ins[at_.toNat]? else none) = m at *
    cases m with
    | none => simp at he
    | some i =>
      obtain ⟨h0, hi⟩ : 0 ≤ at_ ∧ ins[at_.toNat]? = some i := by
        by_cases h0 : 0 ≤ at_
        · rw [if_pos h0] at hm; exact ⟨h0, hm⟩
        · rw [if_neg h0] at hm; cases hm
      have hl := iv.len
      have hlt : at_.toNat < out.length := by rw [hl]; exact (List.getElem?_eq_some_iff.1 hi).1
      have hget : out[at_.toNat]? = some out[at_.toNat] := List.getElem?_eq_getElem hlt
      have hgd : out.getD at_.toNat 0 = out[at_.toNat] := by rw [List.getD_eq_getElem?_getD, hget]; rfl
      simp only at he ⊢
      by_cases hs : 0 ≤ out.getD at_.toNat 0
      · rw [if_pos hs] at he ⊢
        by_cases hne : out.getD at_.toNat 0 ≠ h
        · rw [if_pos hne] at he; simp at he
        · rw [if_neg hne] at he ⊢
          have hth : there out (at_, h) := ⟨h0, by rw [hget, ← hgd]; simp only; rw [Classical.not_not.1 hne]⟩
          refine heightsGo_ok ins hc f q out (by omega) hq' ⟨hl, ?_, fun m j k h1 h2 h3 => ?_⟩ he
          · rcases iv.start with h | h
            · rcases List.mem_cons.1 h with h | h
              · rw [h]; exact .inr hth
              · exact .inl h
            · exact .inr h
          · obtain ⟨a, b, c, d⟩ := iv.at_ m j k h1 h2 h3
            refine ⟨a, b, c, fun x hx => ?_⟩
            rcases d x hx with h | h
            · rcases List.mem_cons.1 h with h | h
              · rw [h]; exact .inr hth
              · exact .inl h
            · exact .inr h
      · rw [if_neg hs] at he ⊢
        have hb := zjr i (hc i (List.mem_of_getElem? hi))
        by_cases h1 : h < (effect i).1 ∨ (i.op = 18 ∧ h ≠ 1)
        · rw [if_pos h1] at he; simp at he
        · rw [if_neg h1] at he ⊢
          by_cases h2 : 16 < h + (effect i).2 - (effect i).1
          · rw [if_pos h2] at he; simp at he
          · rw [if_neg h2] at he ⊢
            have hu := zmz (out := out) (k := at_.toNat) (h := h) hlt (by omega) hh.1
            have hth : there (out.set at_.toNat h) (at_, h) := ⟨h0, List.getElem?_set_self hlt⟩
            refine heightsGo_ok ins hc f _ _ ?_ ?_ ⟨by simpa using hl, ?_, ?_⟩ he
            · simp only [List.length_append]
              have l1 : (if i.op ≠ 15 ∧ i.op ≠ 18 then [(at_ + 1, h + (effect i).2 - (effect i).1)] else []).length ≤ 1 := by split <;> simp
              have l2 : (if i.op = 15 ∨ i.op = 16 then [(i.a, h + (effect i).2 - (effect i).1)] else []).length ≤ 1 := by split <;> simp
              omega
            · intro x hx
              simp only [List.mem_append] at hx
              rcases hx with (hx | hx) | hx
              · exact hq' x hx
              · split at hx
                · simp at hx; subst hx; constructor <;> simp only <;> omega
                · simp at hx
              · split at hx
                · simp at hx; subst hx; constructor <;> simp only <;> omega
                · simp at hx
            · rcases iv.start with h9 | h9
              · rcases List.mem_cons.1 h9 with h9 | h9
                · rw [h9]; exact .inr hth
                · exact .inl (by simp [h9])
              · exact .inr (there_set h9 (by omega) (Int.le_refl _))
            · intro m j k m1 m2 m3
              by_cases e : m = at_.toNat
              · subst e
                rw [hi] at m1
                cases m1
                rw [List.getElem?_set_self hlt] at m2
                cases m2
                have ea : ((at_.toNat : Nat) : Int) = at_ := Int.toNat_of_nonneg h0
                refine ⟨by omega, fun h18 => by omega, by unfold after; omega, fun x hx => .inl ?_⟩
                unfold succs after at hx
                rw [ea] at hx
                rw [List.append_assoc]
                exact List.mem_append_right _ hx
              · rw [List.getElem?_set_ne (fun h => e h.symm)] at m2
                obtain ⟨a, b, c, d⟩ := iv.at_ m j k m1 m2 m3
                have hbj := zjr j (hc j (List.mem_of_getElem? m1))
                refine ⟨a, b, c, fun x hx => ?_⟩
                have hx2 : 0 ≤ x.2 := by
                  have : x.2 = after j k := by
                    unfold succs at hx
                    rcases List.mem_append.1 hx with h | h
                    · split at h
                      · simp at h; rw [h]
                      · simp at h
                    · split at h
                      · simp at h; rw [h]
                      · simp at h
                  rw [this]; unfold after; omega
                rcases d x hx with h | h
                · rcases List.mem_cons.1 h with h | h
                  · rw [h]; exact .inr hth
                  · exact .inl (by simp [h])
                · exact .inr (there_set h (by omega) hx2)
theorem heights_ok {ins : List Ins} (hc : Calm ins) (h : (heights ins).2 = 0) : HeiOk ins (heights ins).1 := by
  refine heightsGo_ok ins hc _ _ _ ?_ ?_ ⟨by simp, .inl (by simp), fun m i k h1 h2 h3 => ?_⟩ h
  · unfold zhs; simp [List.countP_replicate]; omega
  · intro x hx; simp at hx; subst hx; simp
  · have := List.mem_of_getElem? h2
    have := List.eq_of_mem_replicate this
    omega
end VM
end Go.Proofs.YtiinnjjmoifoeaaGreatDoor
set_option maxRecDepth 8000
namespace Go.Proofs.YtiinnjjmoifoeaaGreatDoor
namespace VM
theorem WrongOk.mono {v : Val} {N M : Int} (h : WrongOk v N) (hn : N ≤ M) : WrongOk v M := ⟨h.kind, h.int, h.len, fun k => by have := h.cell k; omega, h.txt, h.non⟩
structure FrOk (p : Prg) (N : Nat) (f : Frm) : Prop where
  fn0 : 0 ≤ f.fn
  at0 : 0 ≤ f.at_
  code : f.fn.toNat < p.codes.length
  ins : f.at_.toNat < (codeAt p f.fn).ins.length
  vars : (f.vars.length : Int) = (codeAt p f.fn).vars
  vv : ∀ v ∈ f.vars, WrongOk v N
  sv : ∀ v ∈ f.stack, WrongOk v N
def hts (p : Prg) (f : Frm) : List Int := (heights (codeAt p f.fn).ins).1
def Still (p : Prg) (f : Frm) : Prop := (hts p f)[f.at_.toNat]? = some (f.stack.length : Int)
structure Waits (p : Prg) (f : Frm) (fn : Int) : Prop where
  pos : 0 < f.at_
  op : ((codeAt p f.fn).ins.getD (f.at_.toNat - 1) ⟨0, 0, 0⟩).op = 17
  to : ((codeAt p f.fn).ins.getD (f.at_.toNat - 1) ⟨0, 0, 0⟩).a = fn
  seen : 0 ≤ (hts p f).getD (f.at_.toNat - 1) 0
  hei : (hts p f)[f.at_.toNat]? = some ((f.stack.length : Int) + 1)
inductive WChain (p : Prg) : List Frm → Int → Prop
  | nil (fn : Int) : WChain p [] fn
  | snoc (gs : List Frm) (g : Frm) (fn : Int) : WChain p gs g.fn → Waits p g fn → WChain p (gs ++ [g]) fn
structure Live (a : Agt) (fs : List Frm) (f : Frm) : Prop where
  fr : a.frames = fs ++ [f]
  prog : program a.prog = 0
  id : 0 ≤ a.id ∧ a.id ≤ 1073741824
  trip : 0 ≤ a.trip ∧ a.trip ≤ 1073741824
  fuel : 0 ≤ a.permit.fuel ∧ a.permit.fuel ≤ 2000
  room : 0 ≤ a.permit.room
  hops : 0 ≤ a.permit.hops ∧ a.permit.hops ≤ 12
  flen : fs.length < 12
  hlen : (a.heap.length : Int) + a.permit.room ≤ 60
  ok : ∀ g ∈ fs ++ [f], FrOk a.prog a.heap.length g
  chain : WChain a.prog fs f.fn
  still : Still a.prog f
  cells : ∀ c ∈ a.heap, WrongOk c.left a.heap.length ∧ WrongOk c.right a.heap.length
structure Now (p : Prg) (f : Frm) (i : Ins) : Prop where
  at_ : (codeAt p f.fn).ins[f.at_.toNat]? = some i
  num : numbers p (codeAt p f.fn) i = 0
  pops : (effect i).1 ≤ f.stack.length
  ret : i.op = 18 → f.stack.length = 1
  most : after i f.stack.length ≤ 16
  next : ∀ x ∈ succs f.at_ i f.stack.length, there (hts p f) x
theorem code_mem {p : Prg} {n : Int} (h : n.toNat < p.codes.length) : codeAt p n ∈ p.codes := by
  unfold codeAt
  rw [List.getD_eq_getElem?_getD, List.getElem?_eq_getElem h]
  exact List.getElem_mem h
theorem program_nums {p : Prg} (h : program p = 0) : ∀ c ∈ p.codes, ∀ i ∈ c.ins, numbers p c i = 0 := by
  unfold program at h
  split at h
  · omega
  split at h
  · omega
  split at h
  · omega
  split at h
  · omega
  split at h
  · omega
  intro c hc i hi
  have he := zcy h c hc
  unfold codeErr at he
  by_cases hn : firstErr (numbers p c) c.ins ≠ 0
  · rw [if_pos hn] at he; exact absurd he hn
  · exact zcy (by omega) i hi
theorem Live.now {a : Agt} {fs : List Frm} {f : Frm} (l : Live a fs f) : Now a.prog f (insAt a.prog f) := by
  have ok := l.ok f (by simp)
  obtain ⟨pr, _⟩ := zet l.prog
  obtain ⟨_, calm, hz⟩ := pr _ (code_mem ok.code)
  have hk := heights_ok calm hz
  have hi : (codeAt a.prog f.fn).ins[f.at_.toNat]? = some (insAt a.prog f) := by
    unfold insAt
    rw [List.getD_eq_getElem?_getD, List.getElem?_eq_getElem ok.ins]; rfl
  have ea : ((f.at_.toNat : Nat) : Int) = f.at_ := Int.toNat_of_nonneg ok.at0
  obtain ⟨h1, h2, h3, h4⟩ := hk.at_ _ _ _ hi l.still (by omega)
  rw [ea] at h4
  exact ⟨hi, program_nums l.prog _ (code_mem ok.code) _ (List.mem_of_getElem? hi), h1, fun h => by have := h2 h; omega, h3, h4⟩
end VM
end Go.Proofs.YtiinnjjmoifoeaaGreatDoor
