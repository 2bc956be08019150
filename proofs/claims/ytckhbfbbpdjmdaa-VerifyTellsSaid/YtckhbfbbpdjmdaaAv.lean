/- Abstract values and an abstract heap, and how they stand for Go's values and memory. What is not owned is never written. -/
import Derived.WalkKit
namespace Go.Proofs.Ytckhbfbbpdjmdaa
open Go Go.RowKit

inductive AV where
  | junk | und
  | int (k : IntKind) (n : Int)
  | bool (b : Bool)
  | str (s : List UInt8)
  | nilp | nils | nilf | nilm | zs
  | ptr (g off : Nat)
  | slc (g off len : Nat)
  | amap (g : Nat)
  | ro (xs : List (List AV))
  | rop (cs : List AV) (off : Nat)
  | agg (xs : List AV)
  | tup (xs : List AV)
  | clo (f : FuncId) (cap : List AV)
  deriving Inhabited

/-- Where an object of the abstract heap lies: its block, the cell at which it begins, how many cells the block has, and how many an element has. -/
structure Loc where
  block : Nat
  base : Nat
  tot : Nat
  sz : Nat
  deriving Inhabited

abbrev KHeap := Nat → Option Obj
def kcell (K : KHeap) (b o : Nat) : Option Value := match K b with | some (.cells c _ _) => c[o]? | _ => none

inductive VRel (K : KHeap) (ρ : Nat → Loc) (A : Nat → Prop) : AV → Value → Prop
  | junk (v : Value) : VRel K ρ A .junk v
  | und : VRel K ρ A .und undef
  | int (k : IntKind) (n : Int) : VRel K ρ A (.int k n) (.int k n)
  | bool (b : Bool) : VRel K ρ A (.bool b) (.bool b)
  | str (s : List UInt8) : VRel K ρ A (.str s) (.string ⟨s.toArray⟩)
  | nilp : VRel K ρ A .nilp (.pointer none)
  | nils : VRel K ρ A .nils (.slice none 0 0)
  | nilf : VRel K ρ A .nilf .nilFunc
  | nilm : VRel K ρ A .nilm (.map none)
  | ptr (g off : Nat) (a : Addr) : A g → a = ⟨(ρ g).block, (ρ g).base + off, none⟩ → VRel K ρ A (.ptr g off) (.pointer (some a))
  | zs (a : Option Addr) : VRel K ρ A .zs (.slice a 0 0)
  | slc (g off len cap : Nat) (a : Option Addr) : A g → len ≤ cap → (0 < cap → (ρ g).base + off + cap * (ρ g).sz ≤ (ρ g).tot ∧ a = some ⟨(ρ g).block, (ρ g).base + off, none⟩) →
      VRel K ρ A (.slc g off len) (.slice a len cap)
  | amap (g r : Nat) : A g → r = (ρ g).block → VRel K ρ A (.amap g) (.map (some r))
  | ro (xs : List (List AV)) (a : Option Addr) (len cap sz b off : Nat) (C : Nat → Nat → Value) : len = xs.length → len ≤ cap → (xs ≠ [] → a = some ⟨b, off, none⟩) → (∀ x ∈ xs, x.length = sz) →
      (∀ (i : Nat) (x : List AV) (j : Nat) (v : AV), xs[i]? = some x → x[j]? = some v → kcell K b (off + i * sz + j) = some (C i j)) →
      (∀ (i : Nat) (x : List AV) (j : Nat) (v : AV), xs[i]? = some x → x[j]? = some v → VRel K ρ A v (C i j)) → VRel K ρ A (.ro xs) (.slice a len cap)
  | rop (cs : List AV) (o b p : Nat) (a : Addr) (C : Nat → Value) : a = ⟨b, p + o, none⟩ → (∀ (j : Nat) (v : AV), cs[j]? = some v → kcell K b (p + j) = some (C j)) →
      (∀ (j : Nat) (v : AV), cs[j]? = some v → VRel K ρ A v (C j)) → VRel K ρ A (.rop cs o) (.pointer (some a))
  | agg (xs : List AV) (cs : Array Value) : cs.size = xs.length → (∀ (j : Nat) (v : AV) (c : Value), xs[j]? = some v → cs[j]? = some c → VRel K ρ A v c) → VRel K ρ A (.agg xs) (.agg cs)
  | tup (xs : List AV) (cs : Array Value) : cs.size = xs.length → (∀ (j : Nat) (v : AV) (c : Value), xs[j]? = some v → cs[j]? = some c → VRel K ρ A v c) → VRel K ρ A (.tup xs) (.tuple cs)
  | clo (f : FuncId) (xs : List AV) (cs : Array Value) : cs.size = xs.length → (∀ (j : Nat) (v : AV) (c : Value), xs[j]? = some v → cs[j]? = some c → VRel K ρ A v c) →
      VRel K ρ A (.clo f xs) (.func (.func f) #[] cs)

theorem kcell_mono {K K' : KHeap} (h : ∀ b o, K b = some o → K' b = some o) {b o : Nat} {v : Value} (hc : kcell K b o = some v) : kcell K' b o = some v := by
  unfold kcell at *
  cases hK : K b with
  | none => rw [hK] at hc; cases hc
  | some x => rw [h b x hK]; rw [hK] at hc; exact hc

theorem VRel.mono {K K' : KHeap} {ρ ρ' : Nat → Loc} {A A' : Nat → Prop} {v : AV} {c : Value} (h : VRel K ρ A v c) (hK : ∀ b o, K b = some o → K' b = some o)
    (hA : ∀ g, A g → ρ' g = ρ g ∧ A' g) : VRel K' ρ' A' v c := by
  induction h with
  | junk v => exact .junk v
  | und => exact .und
  | int k n => exact .int k n
  | bool b => exact .bool b
  | str s => exact .str s
  | nilp => exact .nilp
  | nils => exact .nils
  | nilf => exact .nilf
  | nilm => exact .nilm
  | ptr g off a hg ha => exact .ptr g off a (hA g hg).2 (by rw [(hA g hg).1]; exact ha)
  | zs a => exact .zs a
  | slc g off len cap a hg h1 h2 => exact .slc g off len cap a (hA g hg).2 h1 (by rw [(hA g hg).1]; exact h2)
  | amap g r hg hr => exact .amap g r (hA g hg).2 (by rw [(hA g hg).1]; exact hr)
  | ro xs a len cap sz b off C h1 h2 h3 h4 h5 _ ih => exact .ro xs a len cap sz b off C h1 h2 h3 h4 (fun i x j v hx hv => kcell_mono hK (h5 i x j v hx hv)) ih
  | rop cs o b p a C h1 h2 _ ih => exact .rop cs o b p a C h1 (fun j v hv => kcell_mono hK (h2 j v hv)) ih
  | agg xs cs h1 _ ih => exact .agg xs cs h1 ih
  | tup xs cs h1 _ ih => exact .tup xs cs h1 ih
  | clo f xs cs h1 _ ih => exact .clo f xs cs h1 ih

inductive AObj where
  | row (sz : Nat) (cells : List AV)
  | mp (es : List (AV × AV))
  deriving Inhabited

abbrev Heap := Nat → Option AObj
def Heap.put (H : Heap) (g : Nat) (o : Option AObj) : Heap := fun x => bif Nat.beq x g then o else H x
theorem Heap.put_at (H : Heap) (g : Nat) (o : Option AObj) : H.put g o g = o := by simp [Heap.put]
theorem Heap.put_ne (H : Heap) {g x : Nat} (o : Option AObj) (h : x ≠ g) : H.put g o x = H x := by
  have : Nat.beq x g = false := by rw [← Bool.not_eq_true, Nat.beq_eq]; exact h
  simp [Heap.put, this]
theorem Heap.put_eq (H : Heap) (g x : Nat) (o : Option AObj) : H.put g o x = if x = g then o else H x := by
  by_cases h : x = g
  · subst h; rw [if_pos rfl, Heap.put_at]
  · rw [if_neg h, Heap.put_ne _ _ h]

open Classical in
/-- Memory that nobody owns. -/
noncomputable def Kof (ρ : Nat → Loc) (H : Heap) (w : World) : KHeap := fun b => if ∃ g, (H g).isSome = true ∧ (ρ g).block = b then none else w.heap[b]?

theorem Kof_some {ρ : Nat → Loc} {H : Heap} {w : World} {b : Nat} {o : Obj} : Kof ρ H w b = some o ↔ (∀ g, (H g).isSome = true → (ρ g).block ≠ b) ∧ w.heap[b]? = some o := by
  unfold Kof
  split
  · rename_i h
    obtain ⟨g, h1, h2⟩ := h
    constructor
    · intro h; cases h
    · rintro ⟨h, _⟩; exact absurd h2 (h g h1)
  · rename_i h
    constructor
    · intro h'; exact ⟨fun g h1 h2 => h ⟨g, h1, h2⟩, h'⟩
    · rintro ⟨_, h⟩; exact h

def ObjRel (K : KHeap) (ρ : Nat → Loc) (A : Nat → Prop) (w : World) (l : Loc) : AObj → Prop
  | .row sz cells => ∃ c elem lo hi, w.heap[l.block]? = some (.cells c elem (lo, hi)) ∧ (∀ j, j < l.tot → ¬ (lo ≤ j ∧ j < hi)) ∧ c.size = l.tot ∧ sz = l.sz ∧ l.base + cells.length ≤ l.tot ∧
      ∀ (j : Nat) v, cells[j]? = some v → ∃ cv, c[l.base + j]? = some cv ∧ VRel K ρ A v cv
  | .mp es => ∃ entries clock, w.heap[l.block]? = some (.map entries clock) ∧ entries.size = es.length ∧
      ∀ (j : Nat) kv e, es[j]? = some kv → entries[j]? = some e → VRel K ρ A kv.1 e.key ∧ VRel K ρ A kv.2 e.val

theorem ObjRel.mono {K K' : KHeap} {ρ ρ' : Nat → Loc} {A A' : Nat → Prop} {w w' : World} {l : Loc} {o : AObj} (h : ObjRel K ρ A w l o) (hw : w'.heap[l.block]? = w.heap[l.block]?)
    (hK : ∀ b o, K b = some o → K' b = some o) (hA : ∀ g, A g → ρ' g = ρ g ∧ A' g) : ObjRel K' ρ' A' w' l o := by
  cases o with
  | row sz cells =>
    obtain ⟨c, e, lo, hi, h1, h0, h2, h3, h4, h5⟩ := h
    exact ⟨c, e, lo, hi, hw.trans h1, h0, h2, h3, h4, fun j v hv => let ⟨cv, a, b⟩ := h5 j v hv; ⟨cv, a, b.mono hK hA⟩⟩
  | mp es =>
    obtain ⟨c, e, h1, h2, h3⟩ := h
    exact ⟨c, e, hw.trans h1, h2, fun j kv x hkv hx => let ⟨a, b⟩ := h3 j kv x hkv hx; ⟨a.mono hK hA, b.mono hK hA⟩⟩

/-- The abstract heap stands for memory: A: which numbers are taken. -/
structure Sim (A : Nat → Prop) (ρ : Nat → Loc) (H : Heap) (w : World) : Prop where
  live : ∀ g o, H g = some o → A g
  obj : ∀ g o, H g = some o → ObjRel (Kof ρ H w) ρ A w (ρ g) o
  inj : ∀ g g', (H g).isSome = true → (H g').isSome = true → (ρ g).block = (ρ g').block → g = g'

theorem ObjRel.block_lt {K : KHeap} {ρ : Nat → Loc} {A : Nat → Prop} {w : World} {l : Loc} {o : AObj} (h : ObjRel K ρ A w l o) : l.block < w.heap.size := by
  cases o with
  | row sz cells => obtain ⟨c, e, _, _, h1, _⟩ := h; exact (Array.getElem?_eq_some_iff.1 h1).1
  | mp es => obtain ⟨c, e, h1, _⟩ := h; exact (Array.getElem?_eq_some_iff.1 h1).1

theorem Sim.block_lt {A : Nat → Prop} {ρ : Nat → Loc} {H : Heap} {w : World} (h : Sim A ρ H w) {g : Nat} (hg : (H g).isSome = true) : (ρ g).block < w.heap.size := by
  obtain ⟨o, ho⟩ := Option.isSome_iff_exists.1 hg
  exact (h.obj g o ho).block_lt

/-- What was not owned has not turned. -/
structure Fr (A : Nat → Prop) (ρ : Nat → Loc) (H : Heap) (w : World) (A' : Nat → Prop) (ρ' : Nat → Loc) (H' : Heap) (w' : World) : Prop where
  agree : ∀ g, A g → ρ' g = ρ g ∧ A' g
  k : ∀ b o, Kof ρ H w b = some o → Kof ρ' H' w' b = some o
  os : w'.os = w.os
  tape : w'.tape = w.tape
  output : w'.output = w.output
  size : w.heap.size ≤ w'.heap.size

theorem Fr.refl (A : Nat → Prop) (ρ : Nat → Loc) (H : Heap) (w : World) : Fr A ρ H w A ρ H w := ⟨fun _ h => ⟨rfl, h⟩, fun _ _ h => h, rfl, rfl, rfl, Nat.le_refl _⟩
theorem Fr.trans {A A' A'' : Nat → Prop} {ρ ρ' ρ'' : Nat → Loc} {H H' H'' : Heap} {w w' w'' : World} (h : Fr A ρ H w A' ρ' H' w') (k : Fr A' ρ' H' w' A'' ρ'' H'' w'') : Fr A ρ H w A'' ρ'' H'' w'' :=
  ⟨fun g hg => let ⟨a, b⟩ := h.agree g hg; let ⟨c, d⟩ := k.agree g b; ⟨c.trans a, d⟩, fun b o hb => k.k b o (h.k b o hb), k.os.trans h.os, k.tape.trans h.tape, k.output.trans h.output, Nat.le_trans h.size k.size⟩

theorem VRel.fr {A A' : Nat → Prop} {ρ ρ' : Nat → Loc} {H H' : Heap} {w w' : World} {v : AV} {c : Value} (h : VRel (Kof ρ H w) ρ A v c) (k : Fr A ρ H w A' ρ' H' w') : VRel (Kof ρ' H' w') ρ' A' v c :=
  h.mono k.k k.agree

/-- The world's heap is all that counts. -/
theorem Kof_heap {ρ : Nat → Loc} {H : Heap} {w w' : World} (h : w'.heap = w.heap) : Kof ρ H w' = Kof ρ H w := by
  funext b; unfold Kof; rw [h]
theorem Sim.heap {A : Nat → Prop} {ρ : Nat → Loc} {H : Heap} {w w' : World} (s : Sim A ρ H w) (h : w'.heap = w.heap) : Sim A ρ H w' := by
  refine ⟨s.live, fun g o ho => ?_, s.inj⟩
  rw [Kof_heap h]
  exact (s.obj g o ho).mono (by rw [h]) (fun _ _ h => h) (fun _ h => ⟨rfl, h⟩)

/-- A new object in a new block. -/
theorem Sim.alloc {A : Nat → Prop} {ρ : Nat → Loc} {H : Heap} {w : World} (s : Sim A ρ H w) {g : Nat} (hg : ¬ A g) (o : AObj) (co : Obj) (l : Loc) (hl : l.block = w.heap.size)
    (ho : ∀ w', w'.heap[w.heap.size]? = some co → ObjRel (Kof ρ H w) ρ A w' l o) :
    let A' := fun x => A x ∨ x = g
    let ρ' := fun x => if x = g then l else ρ x
    let H' := H.put g (some o)
    Sim A' ρ' H' (w.alloc co) ∧ Fr A ρ H w A' ρ' H' (w.alloc co) := by
  intro A' ρ' H'
  have hga : ∀ x, A x → x ≠ g := fun x hx e => hg (e ▸ hx)
  have hH : ∀ x, A x → H' x = H x := fun x hx => H.put_ne _ (hga x hx)
  have hρ : ∀ x, A x → ρ' x = ρ x := fun x hx => if_neg (hga x hx)
  have hρg : ρ' g = l := if_pos rfl
  have hHg : H' g = some o := H.put_at _ _
  have hother : ∀ x, x ≠ g → H' x = H x := fun x hx => H.put_ne _ hx
  have hheap : (w.alloc co).heap = w.heap.push co := rfl
  have hold : ∀ b, b < w.heap.size → (w.alloc co).heap[b]? = w.heap[b]? := fun b hb => Below.heap_alloc _ _ _ hb
  have hnew : (w.alloc co).heap[w.heap.size]? = some co := by rw [hheap]; simp
  have hK : ∀ b ob, Kof ρ H w b = some ob → Kof ρ' H' (w.alloc co) b = some ob := by
    intro b ob hb
    obtain ⟨h1, h2⟩ := Kof_some.1 hb
    have hbl := (Array.getElem?_eq_some_iff.1 h2).1
    refine Kof_some.2 ⟨fun x hx => ?_, by rw [hold b hbl]; exact h2⟩
    by_cases hxg : x = g
    · subst hxg; rw [hρg, hl]; omega
    · rw [hother x hxg] at hx
      obtain ⟨o', ho'⟩ := Option.isSome_iff_exists.1 hx
      rw [hρ x (s.live x o' ho')]
      exact h1 x hx
  have hAg : ∀ x, A x → ρ' x = ρ x ∧ A' x := fun x hx => ⟨hρ x hx, .inl hx⟩
  refine ⟨⟨fun x ox hx => ?_, fun x ox hx => ?_, fun x y hx hy hb => ?_⟩, ⟨hAg, hK, rfl, rfl, rfl, by rw [hheap]; simp⟩⟩
  · by_cases hxg : x = g
    · exact .inr hxg
    · rw [hother x hxg] at hx; exact .inl (s.live x ox hx)
  · by_cases hxg : x = g
    · subst hxg
      rw [hHg] at hx
      obtain rfl := Option.some.inj hx
      rw [hρg]
      exact (ho _ hnew).mono rfl hK hAg
    · rw [hother x hxg] at hx
      have hlt := (s.obj x ox hx).block_lt
      rw [hρ x (s.live x ox hx)]
      exact (s.obj x ox hx).mono (hold _ hlt) hK hAg
  · have blk : ∀ z, (H' z).isSome = true → z ≠ g → (ρ' z).block = (ρ z).block ∧ (ρ z).block < w.heap.size ∧ (H z).isSome = true := by
      intro z hz hzg
      rw [hother z hzg] at hz
      obtain ⟨o', ho'⟩ := Option.isSome_iff_exists.1 hz
      exact ⟨by rw [hρ z (s.live z o' ho')], s.block_lt hz, hz⟩
    by_cases hxg : x = g
    · by_cases hyg : y = g
      · rw [hxg, hyg]
      · subst hxg
        obtain ⟨a1, a2, _⟩ := blk y hy hyg
        rw [hρg, hl, a1] at hb; omega
    · by_cases hyg : y = g
      · subst hyg
        obtain ⟨a1, a2, _⟩ := blk x hx hxg
        rw [hρg, hl, a1] at hb; omega
      · obtain ⟨a1, _, a3⟩ := blk x hx hxg
        obtain ⟨b1, _, b3⟩ := blk y hy hyg
        rw [a1, b1] at hb
        exact s.inj x y a3 b3 hb

/-- One owned block is written (its object may change, or go on under a new number, or go). -/
theorem Sim.write {A : Nat → Prop} {ρ : Nat → Loc} {H : Heap} {w w' : World} (s : Sim A ρ H w) {g : Nat} (hg : (H g).isSome = true) (o : AObj)
    (hother : ∀ b, b ≠ (ρ g).block → w'.heap[b]? = w.heap[b]?) (hsz : w.heap.size ≤ w'.heap.size)
    (ho : ObjRel (Kof ρ H w) ρ A w' (ρ g) o) (h1 : w'.os = w.os) (h2 : w'.tape = w.tape) (h3 : w'.output = w.output) :
    Sim A ρ (H.put g (some o)) w' ∧ Fr A ρ H w A ρ (H.put g (some o)) w' := by
  have hsome : ∀ x, (H.put g (some o) x).isSome = (H x).isSome := fun x => by
    rw [Heap.put_eq]; split
    · rename_i h; subst h; rw [hg]; rfl
    · rfl
  have hK : Kof ρ (H.put g (some o)) w' = Kof ρ H w := by
    funext b
    unfold Kof
    by_cases h : ∃ x, (H x).isSome = true ∧ (ρ x).block = b
    · rw [if_pos h, if_pos (by obtain ⟨x, hx, hb⟩ := h; exact ⟨x, by rw [hsome]; exact hx, hb⟩)]
    · rw [if_neg h, if_neg (by rintro ⟨x, hx, hb⟩; exact h ⟨x, by rw [hsome] at hx; exact hx, hb⟩)]
      exact hother b fun e => h ⟨g, hg, e.symm⟩
  refine ⟨⟨fun x ox hx => ?_, fun x ox hx => ?_, fun x y hx hy hb => s.inj x y (by rwa [hsome] at hx) (by rwa [hsome] at hy) hb⟩, ⟨fun _ h => ⟨rfl, h⟩, fun b ob hb => by rw [hK]; exact hb, h1, h2, h3, hsz⟩⟩
  · rw [Heap.put_eq] at hx
    split at hx
    · rename_i h; subst h
      obtain ⟨o', ho'⟩ := Option.isSome_iff_exists.1 hg
      exact s.live _ o' ho'
    · exact s.live x ox hx
  · rw [hK]
    rw [Heap.put_eq] at hx
    split at hx
    · rename_i h; subst h
      obtain rfl := Option.some.inj hx
      exact ho
    · rename_i hne
      refine (s.obj x ox hx).mono (hother _ fun e => hne (s.inj x g (by rw [hx]; rfl) hg e)) (fun _ _ h => h) (fun _ h => ⟨rfl, h⟩)

/-- An object goes on under a new number, in its own block. -/
theorem Sim.move {A : Nat → Prop} {ρ : Nat → Loc} {H : Heap} {w w' : World} (s : Sim A ρ H w) {g g' : Nat} (hg : (H g).isSome = true) (hg' : ¬ A g') (o : AObj) (l : Loc) (hl : l.block = (ρ g).block)
    (hother : ∀ b, b ≠ (ρ g).block → w'.heap[b]? = w.heap[b]?) (hsz : w.heap.size ≤ w'.heap.size)
    (ho : ObjRel (Kof ρ H w) ρ A w' l o) (h1 : w'.os = w.os) (h2 : w'.tape = w.tape) (h3 : w'.output = w.output) :
    let A' := fun x => A x ∨ x = g'
    let ρ' := fun x => if x = g' then l else ρ x
    let H' := (H.put g none).put g' (some o)
    Sim A' ρ' H' w' ∧ Fr A ρ H w A' ρ' H' w' := by
  intro A' ρ' H'
  have hga : ∀ x, A x → x ≠ g' := fun x hx e => hg' (e ▸ hx)
  have hAg : A g := by obtain ⟨o', ho'⟩ := Option.isSome_iff_exists.1 hg; exact s.live _ o' ho'
  have hρ : ∀ x, A x → ρ' x = ρ x := fun x hx => if_neg (hga x hx)
  have hρg : ρ' g' = l := if_pos rfl
  have hHg : H' g' = some o := Heap.put_at _ _ _
  have hH : ∀ x, x ≠ g' → H' x = if x = g then none else H x := fun x hx => by
    show ((H.put g none).put g' (some o)) x = _
    rw [Heap.put_ne _ _ hx, Heap.put_eq]
  have hK : ∀ b ob, Kof ρ H w b = some ob → Kof ρ' H' w' b = some ob := by
    intro b ob hb
    obtain ⟨k1, k2⟩ := Kof_some.1 hb
    refine Kof_some.2 ⟨fun x hx => ?_, by rw [hother b fun e => k1 g hg e.symm]; exact k2⟩
    by_cases hxg : x = g'
    · subst hxg; rw [hρg, hl]; exact k1 g hg
    · rw [hH x hxg] at hx
      split at hx
      · cases hx
      · obtain ⟨o', ho'⟩ := Option.isSome_iff_exists.1 hx
        rw [hρ x (s.live x o' ho')]; exact k1 x hx
  have hA' : ∀ x, A x → ρ' x = ρ x ∧ A' x := fun x hx => ⟨hρ x hx, .inl hx⟩
  have old : ∀ x, x ≠ g' → (H' x).isSome = true → x ≠ g ∧ H' x = H x ∧ (H x).isSome = true ∧ (ρ' x) = ρ x := by
    intro x hxg hx
    have e := hH x hxg
    rw [e] at hx
    split at hx
    · cases hx
    · rename_i hne
      rw [if_neg hne] at e
      obtain ⟨o', ho'⟩ := Option.isSome_iff_exists.1 hx
      exact ⟨hne, e, hx, hρ x (s.live x o' ho')⟩
  refine ⟨⟨fun x ox hx => ?_, fun x ox hx => ?_, fun x y hx hy hb => ?_⟩, ⟨hA', hK, h1, h2, h3, hsz⟩⟩
  · by_cases hxg : x = g'
    · exact .inr hxg
    · obtain ⟨_, e, _, _⟩ := old x hxg (by rw [hx]; rfl)
      rw [e] at hx; exact .inl (s.live x ox hx)
  · by_cases hxg : x = g'
    · subst hxg
      rw [hHg] at hx
      obtain rfl := Option.some.inj hx
      rw [hρg]
      exact ho.mono rfl hK hA'
    · obtain ⟨hne, e, e2, e3⟩ := old x hxg (by rw [hx]; rfl)
      rw [e] at hx
      rw [e3]
      exact (s.obj x ox hx).mono (hother _ fun e => hne (s.inj x g e2 hg e)) hK hA'
  · by_cases hxg : x = g'
    · by_cases hyg : y = g'
      · rw [hxg, hyg]
      · obtain ⟨hne, _, e2, e3⟩ := old y hyg hy
        rw [hxg, hρg, e3, hl] at hb
        exact absurd (s.inj y g e2 hg hb.symm) hne
    · obtain ⟨hne, _, e2, e3⟩ := old x hxg hx
      by_cases hyg : y = g'
      · rw [hyg, hρg, e3, hl] at hb
        exact absurd (s.inj x g e2 hg hb) hne
      · obtain ⟨_, _, f2, f3⟩ := old y hyg hy
        rw [e3, f3] at hb
        exact s.inj x y e2 f2 hb

/-- Objects may be forgotten. -/
theorem Sim.drop {A : Nat → Prop} {ρ : Nat → Loc} {H H' : Heap} {w : World} (s : Sim A ρ H w) (h : ∀ g o, H' g = some o → H g = some o) : Sim A ρ H' w ∧ Fr A ρ H w A ρ H' w := by
  have hK : ∀ b o, Kof ρ H w b = some o → Kof ρ H' w b = some o := fun b o hb => by
    obtain ⟨h1, h2⟩ := Kof_some.1 hb
    refine Kof_some.2 ⟨fun g hg => ?_, h2⟩
    obtain ⟨o', ho'⟩ := Option.isSome_iff_exists.1 hg
    exact h1 g (by rw [h g o' ho']; rfl)
  refine ⟨⟨fun g o ho => s.live g o (h g o ho), fun g o ho => (s.obj g o (h g o ho)).mono rfl hK (fun _ h => ⟨rfl, h⟩), fun x y hx hy hb => ?_⟩, ⟨fun _ h => ⟨rfl, h⟩, hK, rfl, rfl, rfl, Nat.le_refl _⟩⟩
  obtain ⟨o1, ho1⟩ := Option.isSome_iff_exists.1 hx
  obtain ⟨o2, ho2⟩ := Option.isSome_iff_exists.1 hy
  exact s.inj x y (by rw [h x o1 ho1]; rfl) (by rw [h y o2 ho2]; rfl) hb
end Go.Proofs.Ytckhbfbbpdjmdaa
