/- Variables that are laid before the call, as the program's text has them: nobody writes them. Abstract values and an abstract heap, and how they stand for Go's values and memory. What is not owned is never written. What each operation does to abstract values and the abstract heap. A region that draws its order, by what is known of each operation's value, whatever order is drawn: memory may grow on the way. The operations' effects, as the model has them: each abstract operation stands for the model's own. -/
import Derived.Test.YtejohcohkgcmhaaDoorChecked
import Derived.WalkKit
import Derived.Lib.LaidTab
import Derived.Lib.ItoaNum
import Derived.Orders
import Derived.Deep.Slices
import Derived.Laws.IdiomCopy
namespace Go.Proofs.YtejohcohkgcmhaaDoor
open Go Go.RowKit
abbrev KHeap := Nat → Option Obj
/-- The table of the powers of ten lies where the program has it. -/
def LayK (K : KHeap) : Prop := ∀ g, Tryd.prog.globalNamed "internal/strconv.uint64pow10" = some g → ∃ e m, K g = some (.cells (Lib.pow10Tab.map fun z => Value.int .u64 z).toArray e m)
theorem LayK.mono {K K' : KHeap} (h : LayK K) (hK : ∀ b o, K b = some o → K' b = some o) : LayK K' := fun g hg => let ⟨e, m, hk⟩ := h g hg; ⟨e, m, hK _ _ hk⟩
theorem LayK.of_none (h : Tryd.prog.globalNamed "internal/strconv.uint64pow10" = none) (K : KHeap) : LayK K := fun g hg => by rw [h] at hg; cases hg
theorem LayK.of_tab {w : World} (h : Lib.TabIs Tryd.prog w "internal/strconv.uint64pow10" .u64 Lib.pow10Tab) : LayK (fun b => w.heap[b]?) := fun g hg => by
  unfold Lib.TabIs World.var? at h
  rw [hg, Option.bind_some] at h
  split at h
  · rename_i cs e m hc
    cases h
    exact ⟨e, m, hc⟩
  · cases h
end Go.Proofs.YtejohcohkgcmhaaDoor
namespace Go.Proofs.YtejohcohkgcmhaaDoor
open Go Go.RowKit

inductive AV where
  | junk | und
  | int (k : IntKind) (n : Int)
  | bool (b : Bool)
  | bany
  | str (s : List UInt8)
  | nilp | nils | nilf | nilm | zs
  | ptr (g off : Nat)
  | slc (g off len : Nat)
  | amap (g : Nat)
  | ro (xs : List (List AV))
  | rop (cs : List AV) (off : Nat)
  | agg (xs : List AV)
  | tup (xs : List AV)
  | clo (f : FuncId) (cap : List AV)
  deriving Inhabited

/-- Where an object of the abstract heap lies: its block, the cell at which it begins, how many cells the block has, and how many an element has. -/
structure Loc where
  block : Nat
  base : Nat
  tot : Nat
  sz : Nat
  deriving Inhabited

def kcell (K : KHeap) (b o : Nat) : Option Value := match K b with | some (.cells c _ _) => c[o]? | _ => none

inductive VRel (K : KHeap) (ρ : Nat → Loc) (A : Nat → Prop) : AV → Value → Prop
  | junk (v : Value) : VRel K ρ A .junk v
  | und : VRel K ρ A .und undef
  | int (k : IntKind) (n : Int) : VRel K ρ A (.int k n) (.int k n)
  | bool (b : Bool) : VRel K ρ A (.bool b) (.bool b)
  | bany (b : Bool) : VRel K ρ A .bany (.bool b)
  | str (s : List UInt8) : VRel K ρ A (.str s) (.string ⟨s.toArray⟩)
  | nilp : VRel K ρ A .nilp (.pointer none)
  | nils : VRel K ρ A .nils (.slice none 0 0)
  | nilf : VRel K ρ A .nilf .nilFunc
  | nilm : VRel K ρ A .nilm (.map none)
  | ptr (g off : Nat) (a : Addr) : A g → a = ⟨(ρ g).block, (ρ g).base + off, none⟩ → VRel K ρ A (.ptr g off) (.pointer (some a))
  | zs (a : Option Addr) : VRel K ρ A .zs (.slice a 0 0)
  | slc (g off len cap : Nat) (a : Option Addr) : A g → len ≤ cap → (0 < cap → (ρ g).base + off + cap * (ρ g).sz ≤ (ρ g).tot ∧ a = some ⟨(ρ g).block, (ρ g).base + off, none⟩) →
      VRel K ρ A (.slc g off len) (.slice a len cap)
  | amap (g r : Nat) : A g → r = (ρ g).block → VRel K ρ A (.amap g) (.map (some r))
  | ro (xs : List (List AV)) (a : Option Addr) (len cap sz b off : Nat) (C : Nat → Nat → Value) : len = xs.length → len ≤ cap → (xs ≠ [] → a = some ⟨b, off, none⟩) → (∀ x ∈ xs, x.length = sz) →
      (∀ (i : Nat) (x : List AV) (j : Nat) (v : AV), xs[i]? = some x → x[j]? = some v → kcell K b (off + i * sz + j) = some (C i j)) →
      (∀ (i : Nat) (x : List AV) (j : Nat) (v : AV), xs[i]? = some x → x[j]? = some v → VRel K ρ A v (C i j)) → VRel K ρ A (.ro xs) (.slice a len cap)
  | rop (cs : List AV) (o b p : Nat) (a : Addr) (C : Nat → Value) : a = ⟨b, p + o, none⟩ → (∀ (j : Nat) (v : AV), cs[j]? = some v → kcell K b (p + j) = some (C j)) →
      (∀ (j : Nat) (v : AV), cs[j]? = some v → VRel K ρ A v (C j)) → VRel K ρ A (.rop cs o) (.pointer (some a))
  | agg (xs : List AV) (cs : Array Value) : cs.size = xs.length → (∀ (j : Nat) (v : AV) (c : Value), xs[j]? = some v → cs[j]? = some c → VRel K ρ A v c) → VRel K ρ A (.agg xs) (.agg cs)
  | tup (xs : List AV) (cs : Array Value) : cs.size = xs.length → (∀ (j : Nat) (v : AV) (c : Value), xs[j]? = some v → cs[j]? = some c → VRel K ρ A v c) → VRel K ρ A (.tup xs) (.tuple cs)
  | clo (f : FuncId) (xs : List AV) (cs : Array Value) : cs.size = xs.length → (∀ (j : Nat) (v : AV) (c : Value), xs[j]? = some v → cs[j]? = some c → VRel K ρ A v c) →
      VRel K ρ A (.clo f xs) (.func (.func f) #[] cs)

theorem kcell_mono {K K' : KHeap} (h : ∀ b o, K b = some o → K' b = some o) {b o : Nat} {v : Value} (hc : kcell K b o = some v) : kcell K' b o = some v := by
  unfold kcell at *
  cases hK : K b with
  | none => rw [hK] at hc; cases hc
  | some x => rw [h b x hK]; rw [hK] at hc; exact hc

theorem VRel.mono {K K' : KHeap} {ρ ρ' : Nat → Loc} {A A' : Nat → Prop} {v : AV} {c : Value} (h : VRel K ρ A v c) (hK : ∀ b o, K b = some o → K' b = some o)
    (hA : ∀ g, A g → ρ' g = ρ g ∧ A' g) : VRel K' ρ' A' v c := by
  induction h with
  | junk v => exact .junk v
  | und => exact .und
  | int k n => exact .int k n
  | bool b => exact .bool b
  | bany b => exact .bany b
  | str s => exact .str s
  | nilp => exact .nilp
  | nils => exact .nils
  | nilf => exact .nilf
  | nilm => exact .nilm
  | ptr g off a hg ha => exact .ptr g off a (hA g hg).2 (by rw [(hA g hg).1]; exact ha)
  | zs a => exact .zs a
  | slc g off len cap a hg h1 h2 => exact .slc g off len cap a (hA g hg).2 h1 (by rw [(hA g hg).1]; exact h2)
  | amap g r hg hr => exact .amap g r (hA g hg).2 (by rw [(hA g hg).1]; exact hr)
  | ro xs a len cap sz b off C h1 h2 h3 h4 h5 _ ih => exact .ro xs a len cap sz b off C h1 h2 h3 h4 (fun i x j v hx hv => kcell_mono hK (h5 i x j v hx hv)) ih
  | rop cs o b p a C h1 h2 _ ih => exact .rop cs o b p a C h1 (fun j v hv => kcell_mono hK (h2 j v hv)) ih
  | agg xs cs h1 _ ih => exact .agg xs cs h1 ih
  | tup xs cs h1 _ ih => exact .tup xs cs h1 ih
  | clo f xs cs h1 _ ih => exact .clo f xs cs h1 ih

inductive AObj where
  | row (sz : Nat) (cells : List AV)
  | mp (es : List (AV × AV))
  deriving Inhabited

abbrev Heap := Nat → Option AObj
def Heap.put (H : Heap) (g : Nat) (o : Option AObj) : Heap := fun x => bif Nat.beq x g then o else H x
theorem Heap.put_at (H : Heap) (g : Nat) (o : Option AObj) : H.put g o g = o := by simp [Heap.put]
theorem Heap.put_ne (H : Heap) {g x : Nat} (o : Option AObj) (h : x ≠ g) : H.put g o x = H x := by
  have : Nat.beq x g = false := by rw [← Bool.not_eq_true, Nat.beq_eq]; exact h
  simp [Heap.put, this]
theorem Heap.put_eq (H : Heap) (g x : Nat) (o : Option AObj) : H.put g o x = if x = g then o else H x := by
  by_cases h : x = g
  · subst h; rw [if_pos rfl, Heap.put_at]
  · rw [if_neg h, Heap.put_ne _ _ h]

open Classical in
/-- Memory that nobody owns. -/
noncomputable def Kof (ρ : Nat → Loc) (H : Heap) (w : World) : KHeap := fun b => if ∃ g, (H g).isSome = true ∧ (ρ g).block = b then none else w.heap[b]?

theorem Kof_some {ρ : Nat → Loc} {H : Heap} {w : World} {b : Nat} {o : Obj} : Kof ρ H w b = some o ↔ (∀ g, (H g).isSome = true → (ρ g).block ≠ b) ∧ w.heap[b]? = some o := by
  unfold Kof
  split
  · rename_i h
    obtain ⟨g, h1, h2⟩ := h
    constructor
    · intro h; cases h
    · rintro ⟨h, _⟩; exact absurd h2 (h g h1)
  · rename_i h
    constructor
    · intro h'; exact ⟨fun g h1 h2 => h ⟨g, h1, h2⟩, h'⟩
    · rintro ⟨_, h⟩; exact h

def ObjRel (K : KHeap) (ρ : Nat → Loc) (A : Nat → Prop) (w : World) (l : Loc) : AObj → Prop
  | .row sz cells => ∃ c elem lo hi, w.heap[l.block]? = some (.cells c elem (lo, hi)) ∧ (∀ j, j < l.tot → ¬ (lo ≤ j ∧ j < hi)) ∧ c.size = l.tot ∧ sz = l.sz ∧ l.base + cells.length ≤ l.tot ∧
      ∀ (j : Nat) v, cells[j]? = some v → ∃ cv, c[l.base + j]? = some cv ∧ VRel K ρ A v cv
  | .mp es => ∃ entries clock, w.heap[l.block]? = some (.map entries clock) ∧ entries.size = es.length ∧
      ∀ (j : Nat) kv e, es[j]? = some kv → entries[j]? = some e → VRel K ρ A kv.1 e.key ∧ VRel K ρ A kv.2 e.val

theorem ObjRel.mono {K K' : KHeap} {ρ ρ' : Nat → Loc} {A A' : Nat → Prop} {w w' : World} {l : Loc} {o : AObj} (h : ObjRel K ρ A w l o) (hw : w'.heap[l.block]? = w.heap[l.block]?)
    (hK : ∀ b o, K b = some o → K' b = some o) (hA : ∀ g, A g → ρ' g = ρ g ∧ A' g) : ObjRel K' ρ' A' w' l o := by
  cases o with
  | row sz cells =>
    obtain ⟨c, e, lo, hi, h1, h0, h2, h3, h4, h5⟩ := h
    exact ⟨c, e, lo, hi, hw.trans h1, h0, h2, h3, h4, fun j v hv => let ⟨cv, a, b⟩ := h5 j v hv; ⟨cv, a, b.mono hK hA⟩⟩
  | mp es =>
    obtain ⟨c, e, h1, h2, h3⟩ := h
    exact ⟨c, e, hw.trans h1, h2, fun j kv x hkv hx => let ⟨a, b⟩ := h3 j kv x hkv hx; ⟨a.mono hK hA, b.mono hK hA⟩⟩

/-- The abstract heap stands for memory: A: which numbers are taken. -/
structure Sim (A : Nat → Prop) (ρ : Nat → Loc) (H : Heap) (w : World) : Prop where
  live : ∀ g o, H g = some o → A g
  obj : ∀ g o, H g = some o → ObjRel (Kof ρ H w) ρ A w (ρ g) o
  inj : ∀ g g', (H g).isSome = true → (H g').isSome = true → (ρ g).block = (ρ g').block → g = g'
  lay : LayK (Kof ρ H w)

theorem ObjRel.block_lt {K : KHeap} {ρ : Nat → Loc} {A : Nat → Prop} {w : World} {l : Loc} {o : AObj} (h : ObjRel K ρ A w l o) : l.block < w.heap.size := by
  cases o with
  | row sz cells => obtain ⟨c, e, _, _, h1, _⟩ := h; exact (Array.getElem?_eq_some_iff.1 h1).1
  | mp es => obtain ⟨c, e, h1, _⟩ := h; exact (Array.getElem?_eq_some_iff.1 h1).1

theorem Sim.block_lt {A : Nat → Prop} {ρ : Nat → Loc} {H : Heap} {w : World} (h : Sim A ρ H w) {g : Nat} (hg : (H g).isSome = true) : (ρ g).block < w.heap.size := by
  obtain ⟨o, ho⟩ := Option.isSome_iff_exists.1 hg
  exact (h.obj g o ho).block_lt

/-- What was not owned has not turned. -/
structure Fr (A : Nat → Prop) (ρ : Nat → Loc) (H : Heap) (w : World) (A' : Nat → Prop) (ρ' : Nat → Loc) (H' : Heap) (w' : World) : Prop where
  agree : ∀ g, A g → ρ' g = ρ g ∧ A' g
  k : ∀ b o, Kof ρ H w b = some o → Kof ρ' H' w' b = some o
  os : w'.os = w.os
  tape : w'.tape = w.tape
  output : w'.output = w.output
  size : w.heap.size ≤ w'.heap.size

theorem Fr.refl (A : Nat → Prop) (ρ : Nat → Loc) (H : Heap) (w : World) : Fr A ρ H w A ρ H w := ⟨fun _ h => ⟨rfl, h⟩, fun _ _ h => h, rfl, rfl, rfl, Nat.le_refl _⟩
theorem Fr.trans {A A' A'' : Nat → Prop} {ρ ρ' ρ'' : Nat → Loc} {H H' H'' : Heap} {w w' w'' : World} (h : Fr A ρ H w A' ρ' H' w') (k : Fr A' ρ' H' w' A'' ρ'' H'' w'') : Fr A ρ H w A'' ρ'' H'' w'' :=
  ⟨fun g hg => let ⟨a, b⟩ := h.agree g hg; let ⟨c, d⟩ := k.agree g b; ⟨c.trans a, d⟩, fun b o hb => k.k b o (h.k b o hb), k.os.trans h.os, k.tape.trans h.tape, k.output.trans h.output, Nat.le_trans h.size k.size⟩

theorem VRel.fr {A A' : Nat → Prop} {ρ ρ' : Nat → Loc} {H H' : Heap} {w w' : World} {v : AV} {c : Value} (h : VRel (Kof ρ H w) ρ A v c) (k : Fr A ρ H w A' ρ' H' w') : VRel (Kof ρ' H' w') ρ' A' v c :=
  h.mono k.k k.agree

/-- The world's heap is all that counts. -/
theorem Kof_heap {ρ : Nat → Loc} {H : Heap} {w w' : World} (h : w'.heap = w.heap) : Kof ρ H w' = Kof ρ H w := by
  funext b; unfold Kof; rw [h]
theorem Sim.heap {A : Nat → Prop} {ρ : Nat → Loc} {H : Heap} {w w' : World} (s : Sim A ρ H w) (h : w'.heap = w.heap) : Sim A ρ H w' := by
  refine ⟨s.live, fun g o ho => ?_, s.inj, by rw [Kof_heap h]; exact s.lay⟩
  rw [Kof_heap h]
  exact (s.obj g o ho).mono (by rw [h]) (fun _ _ h => h) (fun _ h => ⟨rfl, h⟩)

/-- A new object in a new block. -/
theorem Sim.alloc {A : Nat → Prop} {ρ : Nat → Loc} {H : Heap} {w : World} (s : Sim A ρ H w) {g : Nat} (hg : ¬ A g) (o : AObj) (co : Obj) (l : Loc) (hl : l.block = w.heap.size)
    (ho : ∀ w', w'.heap[w.heap.size]? = some co → ObjRel (Kof ρ H w) ρ A w' l o) :
    let A' := fun x => A x ∨ x = g
    let ρ' := fun x => if x = g then l else ρ x
    let H' := H.put g (some o)
    Sim A' ρ' H' (w.alloc co) ∧ Fr A ρ H w A' ρ' H' (w.alloc co) := by
  intro A' ρ' H'
  have hga : ∀ x, A x → x ≠ g := fun x hx e => hg (e ▸ hx)
  have hH : ∀ x, A x → H' x = H x := fun x hx => H.put_ne _ (hga x hx)
  have hρ : ∀ x, A x → ρ' x = ρ x := fun x hx => if_neg (hga x hx)
  have hρg : ρ' g = l := if_pos rfl
  have hHg : H' g = some o := H.put_at _ _
  have hother : ∀ x, x ≠ g → H' x = H x := fun x hx => H.put_ne _ hx
  have hheap : (w.alloc co).heap = w.heap.push co := rfl
  have hold : ∀ b, b < w.heap.size → (w.alloc co).heap[b]? = w.heap[b]? := fun b hb => Below.heap_alloc _ _ _ hb
  have hnew : (w.alloc co).heap[w.heap.size]? = some co := by rw [hheap]; simp
  have hK : ∀ b ob, Kof ρ H w b = some ob → Kof ρ' H' (w.alloc co) b = some ob := by
    intro b ob hb
    obtain ⟨h1, h2⟩ := Kof_some.1 hb
    have hbl := (Array.getElem?_eq_some_iff.1 h2).1
    refine Kof_some.2 ⟨fun x hx => ?_, by rw [hold b hbl]; exact h2⟩
    by_cases hxg : x = g
    · subst hxg; rw [hρg, hl]; omega
    · rw [hother x hxg] at hx
      obtain ⟨o', ho'⟩ := Option.isSome_iff_exists.1 hx
      rw [hρ x (s.live x o' ho')]
      exact h1 x hx
  have hAg : ∀ x, A x → ρ' x = ρ x ∧ A' x := fun x hx => ⟨hρ x hx, .inl hx⟩
  refine ⟨⟨fun x ox hx => ?_, fun x ox hx => ?_, fun x y hx hy hb => ?_, s.lay.mono hK⟩, ⟨hAg, hK, rfl, rfl, rfl, by rw [hheap]; simp⟩⟩
  · by_cases hxg : x = g
    · exact .inr hxg
    · rw [hother x hxg] at hx; exact .inl (s.live x ox hx)
  · by_cases hxg : x = g
    · subst hxg
      rw [hHg] at hx
      obtain rfl := Option.some.inj hx
      rw [hρg]
      exact (ho _ hnew).mono rfl hK hAg
    · rw [hother x hxg] at hx
      have hlt := (s.obj x ox hx).block_lt
      rw [hρ x (s.live x ox hx)]
      exact (s.obj x ox hx).mono (hold _ hlt) hK hAg
  · have blk : ∀ z, (H' z).isSome = true → z ≠ g → (ρ' z).block = (ρ z).block ∧ (ρ z).block < w.heap.size ∧ (H z).isSome = true := by
      intro z hz hzg
      rw [hother z hzg] at hz
      obtain ⟨o', ho'⟩ := Option.isSome_iff_exists.1 hz
      exact ⟨by rw [hρ z (s.live z o' ho')], s.block_lt hz, hz⟩
    by_cases hxg : x = g
    · by_cases hyg : y = g
      · rw [hxg, hyg]
      · subst hxg
        obtain ⟨a1, a2, _⟩ := blk y hy hyg
        rw [hρg, hl, a1] at hb; omega
    · by_cases hyg : y = g
      · subst hyg
        obtain ⟨a1, a2, _⟩ := blk x hx hxg
        rw [hρg, hl, a1] at hb; omega
      · obtain ⟨a1, _, a3⟩ := blk x hx hxg
        obtain ⟨b1, _, b3⟩ := blk y hy hyg
        rw [a1, b1] at hb
        exact s.inj x y a3 b3 hb

/-- One owned block is written (its object may change, or go on under a new number, or go). -/
theorem Sim.write {A : Nat → Prop} {ρ : Nat → Loc} {H : Heap} {w w' : World} (s : Sim A ρ H w) {g : Nat} (hg : (H g).isSome = true) (o : AObj)
    (hother : ∀ b, b ≠ (ρ g).block → w'.heap[b]? = w.heap[b]?) (hsz : w.heap.size ≤ w'.heap.size)
    (ho : ObjRel (Kof ρ H w) ρ A w' (ρ g) o) (h1 : w'.os = w.os) (h2 : w'.tape = w.tape) (h3 : w'.output = w.output) :
    Sim A ρ (H.put g (some o)) w' ∧ Fr A ρ H w A ρ (H.put g (some o)) w' := by
  have hsome : ∀ x, (H.put g (some o) x).isSome = (H x).isSome := fun x => by
    rw [Heap.put_eq]; split
    · rename_i h; subst h; rw [hg]; rfl
    · rfl
  have hK : Kof ρ (H.put g (some o)) w' = Kof ρ H w := by
    funext b
    unfold Kof
    by_cases h : ∃ x, (H x).isSome = true ∧ (ρ x).block = b
    · rw [if_pos h, if_pos (by obtain ⟨x, hx, hb⟩ := h; exact ⟨x, by rw [hsome]; exact hx, hb⟩)]
    · rw [if_neg h, if_neg (by rintro ⟨x, hx, hb⟩; exact h ⟨x, by rw [hsome] at hx; exact hx, hb⟩)]
      exact hother b fun e => h ⟨g, hg, e.symm⟩
  refine ⟨⟨fun x ox hx => ?_, fun x ox hx => ?_, fun x y hx hy hb => s.inj x y (by rwa [hsome] at hx) (by rwa [hsome] at hy) hb, by rw [hK]; exact s.lay⟩, ⟨fun _ h => ⟨rfl, h⟩, fun b ob hb => by rw [hK]; exact hb, h1, h2, h3, hsz⟩⟩
  · rw [Heap.put_eq] at hx
    split at hx
    · rename_i h; subst h
      obtain ⟨o', ho'⟩ := Option.isSome_iff_exists.1 hg
      exact s.live _ o' ho'
    · exact s.live x ox hx
  · rw [hK]
    rw [Heap.put_eq] at hx
    split at hx
    · rename_i h; subst h
      obtain rfl := Option.some.inj hx
      exact ho
    · rename_i hne
      refine (s.obj x ox hx).mono (hother _ fun e => hne (s.inj x g (by rw [hx]; rfl) hg e)) (fun _ _ h => h) (fun _ h => ⟨rfl, h⟩)

/-- An object goes on under a new number, in its own block. -/
theorem Sim.move {A : Nat → Prop} {ρ : Nat → Loc} {H : Heap} {w w' : World} (s : Sim A ρ H w) {g g' : Nat} (hg : (H g).isSome = true) (hg' : ¬ A g') (o : AObj) (l : Loc) (hl : l.block = (ρ g).block)
    (hother : ∀ b, b ≠ (ρ g).block → w'.heap[b]? = w.heap[b]?) (hsz : w.heap.size ≤ w'.heap.size)
    (ho : ObjRel (Kof ρ H w) ρ A w' l o) (h1 : w'.os = w.os) (h2 : w'.tape = w.tape) (h3 : w'.output = w.output) :
    let A' := fun x => A x ∨ x = g'
    let ρ' := fun x => if x = g' then l else ρ x
    let H' := (H.put g none).put g' (some o)
    Sim A' ρ' H' w' ∧ Fr A ρ H w A' ρ' H' w' := by
  intro A' ρ' H'
  have hga : ∀ x, A x → x ≠ g' := fun x hx e => hg' (e ▸ hx)
  have hAg : A g := by obtain ⟨o', ho'⟩ := Option.isSome_iff_exists.1 hg; exact s.live _ o' ho'
  have hρ : ∀ x, A x → ρ' x = ρ x := fun x hx => if_neg (hga x hx)
  have hρg : ρ' g' = l := if_pos rfl
  have hHg : H' g' = some o := Heap.put_at _ _ _
  have hH : ∀ x, x ≠ g' → H' x = if x = g then none else H x := fun x hx => by
    show ((H.put g none).put g' (some o)) x = _
    rw [Heap.put_ne _ _ hx, Heap.put_eq]
  have hK : ∀ b ob, Kof ρ H w b = some ob → Kof ρ' H' w' b = some ob := by
    intro b ob hb
    obtain ⟨k1, k2⟩ := Kof_some.1 hb
    refine Kof_some.2 ⟨fun x hx => ?_, by rw [hother b fun e => k1 g hg e.symm]; exact k2⟩
    by_cases hxg : x = g'
    · subst hxg; rw [hρg, hl]; exact k1 g hg
    · rw [hH x hxg] at hx
      split at hx
      · cases hx
      · obtain ⟨o', ho'⟩ := Option.isSome_iff_exists.1 hx
        rw [hρ x (s.live x o' ho')]; exact k1 x hx
  have hA' : ∀ x, A x → ρ' x = ρ x ∧ A' x := fun x hx => ⟨hρ x hx, .inl hx⟩
  have old : ∀ x, x ≠ g' → (H' x).isSome = true → x ≠ g ∧ H' x = H x ∧ (H x).isSome = true ∧ (ρ' x) = ρ x := by
    intro x hxg hx
    have e := hH x hxg
    rw [e] at hx
    split at hx
    · cases hx
    · rename_i hne
      rw [if_neg hne] at e
      obtain ⟨o', ho'⟩ := Option.isSome_iff_exists.1 hx
      exact ⟨hne, e, hx, hρ x (s.live x o' ho')⟩
  refine ⟨⟨fun x ox hx => ?_, fun x ox hx => ?_, fun x y hx hy hb => ?_, s.lay.mono hK⟩, ⟨hA', hK, h1, h2, h3, hsz⟩⟩
  · by_cases hxg : x = g'
    · exact .inr hxg
    · obtain ⟨_, e, _, _⟩ := old x hxg (by rw [hx]; rfl)
      rw [e] at hx; exact .inl (s.live x ox hx)
  · by_cases hxg : x = g'
    · subst hxg
      rw [hHg] at hx
      obtain rfl := Option.some.inj hx
      rw [hρg]
      exact ho.mono rfl hK hA'
    · obtain ⟨hne, e, e2, e3⟩ := old x hxg (by rw [hx]; rfl)
      rw [e] at hx
      rw [e3]
      exact (s.obj x ox hx).mono (hother _ fun e => hne (s.inj x g e2 hg e)) hK hA'
  · by_cases hxg : x = g'
    · by_cases hyg : y = g'
      · rw [hxg, hyg]
      · obtain ⟨hne, _, e2, e3⟩ := old y hyg hy
        rw [hxg, hρg, e3, hl] at hb
        exact absurd (s.inj y g e2 hg hb.symm) hne
    · obtain ⟨hne, _, e2, e3⟩ := old x hxg hx
      by_cases hyg : y = g'
      · rw [hyg, hρg, e3, hl] at hb
        exact absurd (s.inj x g e2 hg hb) hne
      · obtain ⟨_, _, f2, f3⟩ := old y hyg hy
        rw [e3, f3] at hb
        exact s.inj x y e2 f2 hb

/-- Objects may be forgotten. -/
theorem Sim.drop {A : Nat → Prop} {ρ : Nat → Loc} {H H' : Heap} {w : World} (s : Sim A ρ H w) (h : ∀ g o, H' g = some o → H g = some o) : Sim A ρ H' w ∧ Fr A ρ H w A ρ H' w := by
  have hK : ∀ b o, Kof ρ H w b = some o → Kof ρ H' w b = some o := fun b o hb => by
    obtain ⟨h1, h2⟩ := Kof_some.1 hb
    refine Kof_some.2 ⟨fun g hg => ?_, h2⟩
    obtain ⟨o', ho'⟩ := Option.isSome_iff_exists.1 hg
    exact h1 g (by rw [h g o' ho']; rfl)
  refine ⟨⟨fun g o ho => s.live g o (h g o ho), fun g o ho => (s.obj g o (h g o ho)).mono rfl hK (fun _ h => ⟨rfl, h⟩), fun x y hx hy hb => ?_, s.lay.mono hK⟩, ⟨fun _ h => ⟨rfl, h⟩, hK, rfl, rfl, rfl, Nat.le_refl _⟩⟩
  obtain ⟨o1, ho1⟩ := Option.isSome_iff_exists.1 hx
  obtain ⟨o2, ho2⟩ := Option.isSome_iff_exists.1 hy
  exact s.inj x y (by rw [h x o1 ho1]; rfl) (by rw [h y o2 ho2]; rfl) hb
end Go.Proofs.YtejohcohkgcmhaaDoor
namespace Go.Proofs.YtejohcohkgcmhaaDoor
open Go Go.RowKit

inductive AK where
  | bool | int (k : IntKind) | str | ptr (e : Nat) | slice (e : Nat) | array (n e : Nat) | struct (fs : List (Nat × Nat)) | map (k e : Nat) | func | other

/-- What is known of a type. -/
structure AT where
  kind : AK
  size : Nat
  bytes : Nat
  zero : List AV

def AK.isAgg : AK → Bool
  | .array _ _ | .struct _ => true
  | _ => false

def AV.ofScalar : Value → AV
  | .int k n => .int k n
  | .bool b => .bool b
  | .string s => .str s.data.toList
  | .pointer none => .nilp
  | .slice none 0 0 => .nils
  | .map none => .nilm
  | .nilFunc => .nilf
  | _ => .junk
def AV.ofConst : Value → AV
  | .agg cs => .agg (cs.toList.map AV.ofScalar)
  | .tuple cs => .tup (cs.toList.map AV.ofScalar)
  | v => AV.ofScalar v

abbrev Env := Nat → AV
def Env.put (e : Env) (d : Nat) (v : AV) : Env := fun x => bif Nat.beq x d then v else e x
def Env.putO (e : Env) (d : Option Nat) (v : AV) : Env := match d with | some d => e.put d v | none => e
def Env.ev (e : Env) : Operand → AV
  | .tmp t => e t
  | .const v => AV.ofConst v
  | .global _ => .junk
  | .func f => .clo f []

def AV.cells : AV → List AV
  | .agg xs => xs
  | v => [v]
/-- May it lie in one cell? -/
def AV.one : AV → Bool
  | .agg _ | .tup _ | .junk | .und => false
  | _ => true
def AV.sure : AV → Bool
  | .junk => false
  | _ => true

/-- The heap's change: objects laid, changed, or gone. -/
abbrev Delta := List (Nat × Option AObj)
def Heap.apply (H : Heap) : Delta → Heap
  | [] => H
  | (g, o) :: r => (H.put g o).apply r

/-- A continuation: the value, what was read, which numbers are new, what has changed. -/
abbrev Kt := AV → List Nat → List Nat → Delta → Prop
def PURE (v : AV) (k : Kt) : Prop := k v [] [] []
def NEW (nx : Nat) (o : AObj) (v : AV) (k : Kt) : Prop := k v [] [nx] [(nx, some o)]

def PICK (c a b : AV) (k : Kt) : Prop := match c with | .bool t => PURE (bif t then a else b) k | _ => False

/-- The cells to which a pointer leads, and where among them. -/
def rdp (H : Heap) : AV → Option (List AV × Nat × List Nat)
  | .ptr g off => match H g with | some (.row _ cells) => some (cells, off, [g]) | _ => none
  | .rop cs off => some (cs, off, [])
  | _ => none
def ldv (agg : Bool) (sz : Nat) (cells : List AV) (off : Nat) : Option AV :=
  bif agg then (if off + sz ≤ cells.length then some (.agg ((cells.drop off).take sz)) else none) else cells[off]?
def LOAD (agg : Bool) (sz : Nat) (p : AV) (H : Heap) (k : Kt) : Prop :=
  match rdp H p with
  | some (cells, off, rd) => match ldv agg sz cells off with | some v => k v rd [] [] | none => False
  | none => False
def splice (cells : List AV) (off : Nat) (vs : List AV) : List AV := cells.take off ++ vs ++ cells.drop (off + vs.length)
def STORE (sz : Nat) (p v : AV) (H : Heap) (k : Kt) : Prop :=
  match p with
  | .ptr g off => match H g with
    | some (.row es cells) => v.cells.length = sz ∧ off + sz ≤ cells.length ∧ v.cells.all AV.one = true ∧ v.sure = true ∧ k .und [g] [] [(g, some (.row es (splice cells off v.cells)))]
    | _ => False
  | _ => False
def NILC (x : AV) (k : Kt) : Prop := match x with
  | .ptr _ _ | .rop _ _ | .clo _ _ => PURE x k
  | _ => False
def FADDR (off : Nat) (p : AV) (k : Kt) : Prop := match p with
  | .ptr g o => PURE (.ptr g (o + off)) k
  | .rop cs o => PURE (.rop cs (o + off)) k
  | _ => False
def partOf (agg : Bool) (sz off : Nat) (cs : List AV) : Option AV := ldv agg sz cs off
def FIELD (agg : Bool) (sz off : Nat) (x : AV) (k : Kt) : Prop := match x with
  | .agg cs => match partOf agg sz off cs with | some v => PURE v k | none => False
  | _ => False
/-- An element's address in a slice. -/
def IADDR (esz : Nat) (x i : AV) (k : Kt) : Prop := match i with
  | .int _ n => match x with
    | .slc g off len => 0 ≤ n ∧ n < len ∧ PURE (.ptr g (off + n.toNat * esz)) k
    | .ro xs => 0 ≤ n ∧ n < xs.length ∧ (xs.getD n.toNat []).length = esz ∧ PURE (.rop (xs.getD n.toNat []) 0) k
    | _ => False
  | _ => False
/-- An element's address in an array. -/
def AADDR (esz len : Nat) (p i : AV) (k : Kt) : Prop := match i with
  | .int _ n => 0 ≤ n ∧ n < len ∧ match p with
    | .ptr g o => PURE (.ptr g (o + n.toNat * esz)) k
    | .rop cs o => PURE (.rop cs (o + n.toNat * esz)) k
    | _ => False
  | _ => False
def INDEX (x i : AV) (k : Kt) : Prop := match i with
  | .int _ n => match x with
    | .str s => 0 ≤ n ∧ n < s.length ∧ PURE (.int .u8 ((s.getD n.toNat 0).toNat : Int)) k
    | _ => False
  | _ => False
/-- An array's element, by value. -/
def AINDEX (agg : Bool) (esz len : Nat) (x i : AV) (k : Kt) : Prop := match i with
  | .int _ n => 0 ≤ n ∧ n < len ∧ FIELD agg esz (n.toNat * esz) x k
  | _ => False
def LENS (x : AV) (k : Kt) : Prop := match x with
  | .str s => PURE (.int .i64 (s.length : Int)) k
  | _ => False
def LENL (x : AV) (k : Kt) : Prop := match x with
  | .nils | .zs => PURE (.int .i64 0) k
  | .slc _ _ n => PURE (.int .i64 (n : Int)) k
  | .ro xs => PURE (.int .i64 (xs.length : Int)) k
  | _ => False
def LENM (x : AV) (H : Heap) (k : Kt) : Prop := match x with
  | .nilm => PURE (.int .i64 0) k
  | .amap g => match H g with | some (.mp es) => k (.int .i64 (es.length : Int)) [g] [] [] | _ => False
  | _ => False
def EXTR (x : AV) (i : Nat) (k : Kt) : Prop := match x with
  | .tup vs => match vs[i]? with | some v => PURE v k | none => False
  | _ => False

/-- Parts laid into cells. -/
def fillA (place : Nat → Option (Nat × Nat)) (cells : List AV) : List (Nat × AV) → Option (List AV)
  | [] => some cells
  | (i, v) :: rest => match place i with
    | none => none
    | some (off, size) => if v.cells.length = size ∧ off + size ≤ cells.length ∧ v.sure = true then fillA place (splice cells off v.cells) rest else none
def BUILD (place : Nat → Option (Nat × Nat)) (zero : List AV) (parts : List (Nat × AV)) (k : Kt) : Prop :=
  match fillA place zero parts with | some cells => PURE (.agg cells) k | none => False
def BSLICE (len esz : Nat) (zero : List AV) (parts : List (Nat × AV)) (nx : Nat) (k : Kt) : Prop :=
  match fillA (fun i => some (i * esz, esz)) ((List.replicate len zero).flatten) parts with
  | some cells => NEW nx (.row esz cells) (.slc nx 0 len) k
  | none => False

def icmp (op : BinOp) (a b : Int) : Option Bool := match op with
  | .eql => some (a == b) | .neq => some (a != b) | .lss => some (decide (a < b)) | .leq => some (decide (a ≤ b)) | .gtr => some (decide (a > b)) | .geq => some (decide (a ≥ b))
  | _ => none
def ibits (op : BinOp) (k : IntKind) (x y : Int) : Option Int :=
  let a := BitVec.ofInt k.bits x
  let b := BitVec.ofInt k.bits y
  match op with
  | .and => some (k.wrap (a &&& b).toNat) | .or => some (k.wrap (a ||| b).toNat) | .xor => some (k.wrap (a ^^^ b).toNat) | .andNot => some (k.wrap (a &&& ~~~b).toNat)
  | _ => none
/-- An operation of two integers of one kind. -/
def IBIN (op : BinOp) (k : IntKind) (a b : Int) (K : Kt) : Prop := match op with
  | .add => PURE (.int k (k.wrap (a + b))) K
  | .sub => PURE (.int k (k.wrap (a - b))) K
  | .mul => PURE (.int k (k.wrap (a * b))) K
  | .quo => b ≠ 0 ∧ PURE (.int k (k.wrap (a.tdiv b))) K
  | .rem => b ≠ 0 ∧ PURE (.int k (a.tmod b)) K
  | .shl => 0 ≤ b ∧ PURE (.int k (k.wrap (a * 2 ^ (min b.toNat k.bits)))) K
  | .shr => 0 ≤ b ∧ PURE (.int k (a.fdiv (2 ^ (min b.toNat k.bits)))) K
  | .and | .or | .xor | .andNot => match ibits op k a b with | some r => PURE (.int k r) K | none => False
  | .eql | .neq | .lss | .leq | .gtr | .geq => match icmp op a b with | some r => PURE (.bool r) K | none => False
def SBIN (op : BinOp) (a b : List UInt8) (K : Kt) : Prop := match op with
  | .add => a.length + b.length ≤ 9223372036854775807 ∧ PURE (.str (a ++ b)) K
  | .eql => PURE (.bool (a == b)) K
  | .neq => PURE (.bool (!(a == b))) K
  | .lss => PURE (.bool (Op.bytesLess a b)) K
  | .leq => PURE (.bool (Op.bytesLess a b || a == b)) K
  | .gtr => PURE (.bool (!(Op.bytesLess a b || a == b))) K
  | .geq => PURE (.bool (!Op.bytesLess a b)) K
  | _ => False
/-- Are cells of such kinds the same? -/
def eqCells : List AV → List AV → Option Bool
  | [], [] => some true
  | .int k a :: r, .int k' b :: s => if k = k' then (eqCells r s).map (fun t => a == b && t) else none
  | .str a :: r, .str b :: s => (eqCells r s).map (fun t => a == b && t)
  | .bool a :: r, .bool b :: s => (eqCells r s).map (fun t => a == b && t)
  | _, _ => none
def shiftOp : BinOp → Bool
  | .shl | .shr => true
  | _ => false
def BINI (op : BinOp) (x y : AV) (K : Kt) : Prop := match x, y with
  | .int k a, .int k' b => (shiftOp op = false → k' = k) ∧ IBIN op k a b K
  | _, _ => False
def BINS (op : BinOp) (x y : AV) (K : Kt) : Prop := match x, y with
  | .str a, .str b => SBIN op a b K
  | _, _ => False
def eqlOp : BinOp → Option Bool
  | .eql => some false
  | .neq => some true
  | _ => none
def BINB (op : BinOp) (x y : AV) (K : Kt) : Prop := match eqlOp op with
  | some neg => match x, y with
    | .bool a, .bool b => PURE (.bool (neg ^^ (a == b))) K
    | _, _ => False
  | none => False
def BINA (zs : List AV) (op : BinOp) (x y : AV) (K : Kt) : Prop := match eqlOp op with
  | some neg => match x, y with
    | .agg a, .agg b => (eqCells zs a).isSome = true ∧ match eqCells a b with | some t => PURE (.bool (neg ^^ t)) K | none => False
    | _, _ => False
  | none => False
def nilP : AV → Option Bool
  | .nilp => some true
  | .ptr _ _ | .rop _ _ => some false
  | _ => none
/-- A pointer against nil. -/
def BINP (op : BinOp) (x y : AV) (K : Kt) : Prop := match eqlOp op with
  | some neg => match x, y with
    | .nilp, v => match nilP v with | some t => PURE (.bool (neg ^^ t)) K | none => False
    | v, .nilp => match nilP v with | some t => PURE (.bool (neg ^^ t)) K | none => False
    | _, _ => False
  | none => False
/-- A slice against nil. -/
def BINL (op : BinOp) (x y : AV) (K : Kt) : Prop := match eqlOp op, y with
  | some neg, .nils => match x with
    | .nils => PURE (.bool (neg ^^ true)) K
    | .zs => PURE .bany K
    | .ro xs => (xs = [] → PURE .bany K) ∧ (xs ≠ [] → PURE (.bool (neg ^^ false)) K)
    | .slc _ _ n => (n = 0 → PURE .bany K) ∧ (n ≠ 0 → PURE (.bool (neg ^^ false)) K)
    | _ => False
  | _, _ => False
def UN (op : UnOp) (x : AV) (K : Kt) : Prop := match op, x with
  | .not, .bool b => PURE (.bool (!b)) K
  | .neg, .int k n => IBIN .sub k 0 n K
  | .xor, .int k n => IBIN .xor k (if k.signed then -1 else k.max) n K
  | _, _ => False
/-- A part of a slice, or a text. -/
def lohi (lo hi : Option AV) (n : Nat) : Option (Int × Int) :=
  match lo, hi with
  | none, none => some (0, n)
  | some (.int _ a), none => some (a, n)
  | none, some (.int _ b) => some (0, b)
  | some (.int _ a), some (.int _ b) => some (a, b)
  | _, _ => none
def SLICES (x : AV) (lo hi : Option AV) (k : Kt) : Prop := match x with
  | .str s => match lohi lo hi s.length with
    | some (a, b) => 0 ≤ a ∧ a ≤ b ∧ b ≤ s.length ∧ PURE (.str ((s.take b.toNat).drop a.toNat)) k
    | none => False
  | _ => False
def SLICE (esz : Nat) (x : AV) (lo hi : Option AV) (H : Heap) (k : Kt) : Prop := match x with
  | .ro xs => match lohi lo hi xs.length with
    | some (a, b) => 0 ≤ a ∧ a ≤ b ∧ b ≤ xs.length ∧ (∀ x ∈ xs, x.length = esz) ∧ PURE (.ro ((xs.take b.toNat).drop a.toNat)) k
    | none => False
  | .slc g off len => match lohi lo hi len with
    | some (a, b) => match H g with
      | some (.row sz _) => sz = esz ∧ 0 ≤ a ∧ a ≤ b ∧ b ≤ len ∧ k (.slc g (off + a.toNat * esz) (b - a).toNat) [g] [] []
      | _ => False
    | none => False
  | .nils => match lohi lo hi 0 with
    | some (a, b) => a = 0 ∧ b = 0 ∧ PURE .nils k
    | none => False
  | .zs => match lohi lo hi 0 with
    | some (a, b) => a = 0 ∧ b = 0 ∧ PURE .zs k
    | none => False
  | _ => False
/-- A part of no elements, and no room. -/
def SLICE0 (x : AV) (lo hi mx : AV) (k : Kt) : Prop := match lo, hi, mx with
  | .int _ a, .int _ b, .int _ c => a = 0 ∧ b = 0 ∧ c = 0 ∧ (match x with
    | .nils => PURE .nils k
    | .zs | .ro _ | .slc _ _ _ => PURE .zs k
    | _ => False)
  | _, _, _ => False
def CONVI (k : IntKind) (x : AV) (K : Kt) : Prop := match x with | .int _ n => PURE (.int k (k.wrap n)) K | _ => False
/-- A part of an array. -/
def SLICEP (esz n : Nat) (x : AV) (lo hi : Option AV) (H : Heap) (k : Kt) : Prop := match x with
  | .ptr g off => match lohi lo hi n with
    | some (a, b) => match H g with
      | some (.row sz cells) => sz = esz ∧ off + n * esz ≤ cells.length ∧ 0 ≤ a ∧ a ≤ b ∧ b ≤ n ∧ k (.slc g (off + a.toNat * esz) (b - a).toNat) [g] [] []
      | _ => False
    | none => False
  | _ => False
/-- Bytes. -/
def bytesOf? : List AV → Option (List UInt8)
  | [] => some []
  | .int .u8 n :: r => (bytesOf? r).map (UInt8.ofNat n.toNat :: ·)
  | _ => none
def MINMAX (mn : Bool) (x y : AV) (k : Kt) : Prop := match x, y with
  | .int ki a, .int kj b => ki = kj ∧ PURE (.int ki (bif mn then (if b < a then b else a) else (if b > a then b else a))) k
  | _, _ => False
/-- What an append, or a copy, takes: its cells, and what was read. -/
def srcCells (esz : Nat) (H : Heap) (x : AV) : Option (Nat × List AV × List Nat) := match x with
  | .nils | .zs => some (0, [], [])
  | .str s => if esz = 1 then some (s.length, s.map (fun b => .int .u8 (b.toNat : Int)), []) else none
  | .ro xs => if xs.all (fun x => x.length == esz) = true then some (xs.length, xs.flatten, []) else none
  | .slc g off len => match H g with
    | some (.row _ cells) => if off + len * esz ≤ cells.length then some (len, (cells.drop off).take (len * esz), [g]) else none
    | _ => none
  | _ => none
/-- Bytes to a text. -/
def CONVBS (x : AV) (H : Heap) (k : Kt) : Prop := match x with
  | .str _ => False
  | x => match srcCells 1 H x with
    | some (_, news, rd) => match bytesOf? news with
      | some s => k (.str s) rd [] []
      | none => False
    | none => False
/-- A text to bytes. -/
def CONVSB (x : AV) (nx : Nat) (k : Kt) : Prop := match x with
  | .str s => NEW nx (.row 1 (s.map fun b => .int .u8 (b.toNat : Int))) (.slc nx 0 s.length) k
  | _ => False
def APPEND (esz bytes : Nat) (s x : AV) (H : Heap) (nx : Nat) (k : Kt) : Prop :=
  match srcCells esz H x with
  | some (m, news, rd) => news.all AV.one = true ∧ match s with
    | .nils => (m = 0 → k .nils rd [] []) ∧ (m ≠ 0 → m * bytes ≤ 140737488355328 ∧ k (.slc nx 0 m) rd [nx] [(nx, some (.row esz news))])
    | .zs => (m = 0 → k .zs rd [] []) ∧ (m ≠ 0 → m * bytes ≤ 140737488355328 ∧ k (.slc nx 0 m) rd [nx] [(nx, some (.row esz news))])
    | .slc g off len => match H g with
      | some (.row sz cells) => sz = esz ∧ off + len * esz ≤ cells.length ∧ (len + m) * bytes ≤ 140737488355328 ∧
          k (.slc nx 0 (len + m)) (g :: rd) [nx] [(g, none), (nx, some (.row esz ((cells.drop off).take (len * esz) ++ news)))]
      | _ => False
    | _ => False
  | none => False
def MAKE (esz bytes : Nat) (zero : List AV) (l c : AV) (nx : Nat) (k : Kt) : Prop := match l, c with
  | .int _ n, .int _ m => m = n ∧ 0 ≤ n ∧ n ≤ 140737488355328 ∧ n.toNat * bytes ≤ 140737488355328 ∧ NEW nx (.row esz ((List.replicate n.toNat zero).flatten)) (.slc nx 0 n.toNat) k
  | _, _ => False
def COPY (esz : Nat) (d x : AV) (H : Heap) (k : Kt) : Prop :=
  match srcCells esz H x with
  | some (m, news, rd) => match d with
    | .nils | .zs => k (.int .i64 0) rd [] []
    | .slc g off len => match H g with
      | some (.row sz cells) => sz = esz ∧ off + len * esz ≤ cells.length ∧ news.all AV.one = true ∧
          k (.int .i64 (min m len : Nat)) (g :: rd) [] [(g, some (.row sz (splice cells off (news.take (min m len * esz)))))]
      | _ => False
    | _ => False
  | none => False
/-- The place of a key in a map. -/
def keyEq : AV → AV → Option Bool
  | .int k a, .int k' b => if k = k' then some (a == b) else none
  | .str a, .str b => some (a == b)
  | .bool a, .bool b => some (a == b)
  | _, _ => none
def findK (key : AV) : List (AV × AV) → Option (Option (Nat × AV))
  | [] => some none
  | e :: r => match keyEq key e.1 with
    | some true => some (some (0, e.2))
    | some false => (findK key r).map (fun o => o.map fun p => (p.1 + 1, p.2))
    | none => none
def LOOK (zero : List AV) (agg : Bool) (m key : AV) (ok : Bool) (H : Heap) (k : Kt) : Prop :=
  let z : AV := bif agg then .agg zero else zero.getD 0 .junk
  match m with
  | .nilm => PURE (bif ok then .tup [z, .bool false] else z) k
  | .amap g => match H g with
    | some (.mp es) => match findK key es with
      | some (some (_, v)) => k (bif ok then .tup [v, .bool true] else v) [g] [] []
      | some none => k (bif ok then .tup [z, .bool false] else z) [g] [] []
      | none => False
    | _ => False
  | _ => False
def MUPD (m key v : AV) (H : Heap) (k : Kt) : Prop := match m with
  | .amap g => match H g with
    | some (.mp es) => match findK key es with
      | some (some (i, _)) => k .und [g] [] [(g, some (.mp (es.set i (key, v))))]
      | some none => k .und [g] [] [(g, some (.mp (es ++ [(key, v)])))]
      | none => False
    | _ => False
  | _ => False

/-- Is a key of such a kind? -/
def keyFit : AK → AV → Bool
  | .int _, .int _ _ | .str, .str _ | .bool, .bool _ => true
  | _, _ => false

section
variable (T : Nat → Option AT)
def sizeT (t : Nat) : Nat := match T t with | some a => a.size | none => 0
def placeOf (fs : List (Nat × Nat)) : Nat → Option (Nat × Nat) := fun i => match fs[i]? with | some (t, off) => some (off, sizeT T t) | none => none
/-- An element's cells: an array's elements count each. -/
def rowSz (a : AT) : Nat := match a.kind with
  | .array _ el => sizeT T el
  | _ => a.size
def listOk (t : Nat) : Bool := match T t with
  | some ⟨.slice _, _, _, _⟩ | some ⟨.str, _, _, _⟩ => true
  | _ => false
def aop (eqs : Nat → Bool) (e : Operand → AV) (H : Heap) (nx : Nat) (o : Oper) (k : Kt) : Prop :=
  match o.op with
  | .move x | .assign x => PURE (e x) k
  | .pick c a b => PICK (e c) (e a) (e b) k
  | .alloc t => match T t with | some a => NEW nx (.row (rowSz T a) a.zero) (.ptr nx 0) k | none => False
  | .box _ v => (e v).sure = true ∧ NEW nx (.row (e v).cells.length (e v).cells) (.ptr nx 0) k
  | .build t ps => match T t with
    | some ⟨.struct fs, _, _, zero⟩ => (fs.all fun p => sizeT T p.1 != 0) = true ∧ BUILD (placeOf T fs) zero (ps.toList.map fun p => (p.1, e p.2)) k
    | some ⟨.array _ el, _, _, zero⟩ => sizeT T el ≠ 0 ∧ BUILD (fun i => some (i * sizeT T el, sizeT T el)) zero (ps.toList.map fun p => (p.1, e p.2)) k
    | _ => False
  | .buildSlice t len ps => match T t with
    | some ⟨.slice el, _, _, _⟩ => match T el with
      | some a => len * a.size ≤ 16777216 ∧ 0 < a.size ∧ BSLICE len a.size a.zero (ps.toList.map fun p => (p.1, e p.2)) nx k
      | none => False
    | _ => False
  | .load t p => match T t with | some a => LOAD a.kind.isAgg a.size (e p) H k | none => False
  | .store t p v => match T t with | some a => STORE a.size (e p) (e v) H k | none => False
  | .nilCheck x => NILC (e x) k
  | .binOp op t x y _ => match T t with
    | some ⟨.int _, _, _, _⟩ => BINI op (e x) (e y) k
    | some ⟨.str, _, _, _⟩ => BINS op (e x) (e y) k
    | some ⟨.bool, _, _, _⟩ => BINB op (e x) (e y) k
    | some ⟨.struct _, _, _, zs⟩ => eqs t = true ∧ BINA zs op (e x) (e y) k
    | some ⟨.array _ _, _, _, zs⟩ => eqs t = true ∧ BINA zs op (e x) (e y) k
    | some ⟨.ptr _, _, _, _⟩ => BINP op (e x) (e y) k
    | some ⟨.slice _, _, _, _⟩ => BINL op (e x) (e y) k
    | _ => False
  | .unOp op _ x => UN op (e x) k
  | .convert s d x => match T s, T d with
    | some ⟨.int _, _, _, _⟩, some ⟨.int kd, _, _, _⟩ => CONVI kd (e x) k
    | some ⟨.slice el, _, _, _⟩, some ⟨.str, _, _, _⟩ => match T el with
      | some ⟨.int .u8, _, _, _⟩ => CONVBS (e x) H k
      | _ => False
    | some ⟨.str, _, _, _⟩, some ⟨.slice el, _, _, _⟩ => match T el with
      | some ⟨.int .u8, _, _, _⟩ => CONVSB (e x) nx k
      | _ => False
    | _, _ => False
  | .makeFunc fn first cap => match fn, first.toList with
    | .func f, [] => PURE (.clo f (cap.toList.map e)) k
    | _, _ => False
  | .makeMap _ r => match r with
    | none => NEW nx (.mp []) (.amap nx) k
    | some _ => False
  | .makeSlice t l c => match T t with
    | some ⟨.slice el, _, _, _⟩ => match T el with | some a => 0 < a.size ∧ MAKE a.size a.bytes a.zero (e l) (e c) nx k | none => False
    | _ => False
  | .slice t x lo hi mx => match mx with
    | none => match T t with
      | some ⟨.slice el, _, _, _⟩ => sizeT T el ≠ 0 ∧ SLICE (sizeT T el) (e x) (lo.map e) (hi.map e) H k
      | some ⟨.str, _, _, _⟩ => SLICES (e x) (lo.map e) (hi.map e) k
      | some ⟨.ptr ar, _, _, _⟩ => match T ar with
        | some ⟨.array n el, _, _, _⟩ => sizeT T el ≠ 0 ∧ SLICEP (sizeT T el) n (e x) (lo.map e) (hi.map e) H k
        | _ => False
      | _ => False
    | some mx => match lo, hi with
      | some lo, some hi => match T t with
        | some ⟨.slice el, _, _, _⟩ => sizeT T el ≠ 0 ∧ SLICE0 (e x) (e lo) (e hi) (e mx) k
        | _ => False
      | _, _ => False
  | .fieldAddr t x f => match T t with
    | some ⟨.struct fs, _, _, _⟩ => match placeOf T fs f with | some (off, sz) => sz ≠ 0 ∧ FADDR off (e x) k | none => False
    | _ => False
  | .field t x f => match T t with
    | some ⟨.struct fs, _, _, _⟩ => match fs[f]? with
      | some (ft, off) => match T ft with | some a => FIELD a.kind.isAgg a.size off (e x) k | none => False
      | none => False
    | _ => False
  | .indexAddr t x i => match T t with
    | some ⟨.slice el, _, _, _⟩ => sizeT T el ≠ 0 ∧ IADDR (sizeT T el) (e x) (e i) k
    | some ⟨.array n el, _, _, _⟩ => sizeT T el ≠ 0 ∧ AADDR (sizeT T el) n (e x) (e i) k
    | _ => False
  | .index t x i => match T t with
    | some ⟨.str, _, _, _⟩ => INDEX (e x) (e i) k
    | some ⟨.array n el, _, _, _⟩ => match T el with | some a => AINDEX a.kind.isAgg a.size n (e x) (e i) k | none => False
    | _ => False
  | .lookup t m key ok => match T t with
    | some ⟨.map kt el, _, _, _⟩ => match T el, T kt with | some a, some ka => keyFit ka.kind (e key) = true ∧ LOOK a.zero a.kind.isAgg (e m) (e key) ok H k | _, _ => False
    | _ => False
  | .mapUpdate t m key v | .insert t m key v => match T t with
    | some ⟨.map kt _, _, _, _⟩ => match T kt with | some ka => keyFit ka.kind (e key) = true ∧ MUPD (e m) (e key) (e v) H k | none => False
    | _ => False
  | .extract x i => EXTR (e x) i k
  | .call c => match c.callee, c.args.toList, c.argTypes.toList with
    | .builtin .len, [x], [t] => match T t with
      | some ⟨.str, _, _, _⟩ => LENS (e x) k
      | some ⟨.slice _, _, _, _⟩ => LENL (e x) k
      | some ⟨.map _ _, _, _, _⟩ => LENM (e x) H k
      | _ => False
    | .builtin .min, [x, y], [_, _] => MINMAX true (e x) (e y) k
    | .builtin .max, [x, y], [_, _] => MINMAX false (e x) (e y) k
    | .builtin .append, [s, x], [t, t2] => match T t with
      | some ⟨.slice el, _, _, _⟩ => match T el with | some a => 0 < a.size ∧ 0 < a.bytes ∧ listOk T t2 = true ∧ APPEND a.size a.bytes (e s) (e x) H nx k | none => False
      | _ => False
    | .builtin .copy, [d, x], [t, _] => match T t with
      | some ⟨.slice el, _, _, _⟩ => match T el with | some a => 0 < a.size ∧ COPY a.size (e d) (e x) H k | none => False
      | _ => False
    | _, _, _ => False
  | _ => False
end
end Go.Proofs.YtejohcohkgcmhaaDoor
namespace Go.Proofs.YtejohcohkgcmhaaDoor
open Go Go.RowKit

def boolOf : Value → Option Bool
  | .bool b => some b
  | _ => none

def flowUpon (P : Program) (R : Value → World → Prop) : Result Next → Prop
  | .ok (.value v) w' => R v w'
  | .ok .skip w' => R undef w'
  | .ok (.enter f args) w' => Calls P f args w' fun e w'' => ∃ v, e = .returned v ∧ R v w''
  | _ => False

theorem wp_of_flow {P : Program} {o : Oper} {a : Act} {w : World} {K : Act → World → Prop} {Q : Exit → Act → World → Prop} {R : Value → World → Prop}
    (h : flowUpon P R ((execOp a.eval o).run P w)) (hK : ∀ v w', R v w' → K (a.put o.dst v) w') : o.wp P a w K Q := by
  unfold Oper.wp
  generalize (execOp a.eval o).run P w = r at *
  cases r with
  | ok n w' =>
    cases n <;> simp only [flowUpon] at h <;> simp only [Oper.upon]
    case value u => exact hK _ _ h
    case skip => exact hK _ _ h
    case enter f args => exact h.mono fun e w'' ⟨v, he, hr⟩ => by subst he; exact hK _ _ hr
  | halt x w' => simp only [flowUpon] at h

def predsOf (ops : Array Oper) (i : Nat) : List Nat :=
  match ops[i]? with
  | some o => o.after.toList.filterMap fun e => if Region.binds .any e then some e.on else none
  | none => []
def writerOf (ops : Array Oper) (t : Tmp) : Option Nat := (List.range ops.size).find? fun i => ((ops[i]?).bind (·.dst)) == some t
def flowOk (ops : Array Oper) (n : Nat) : Bool :=
  (List.range ops.size).all fun i => match ops[i]? with
    | none => false
    | some o => (predsOf ops i).all (fun j => decide (j < i)) && (match o.dst with | some t => writerOf ops t == some i && decide (t < n) | none => true) &&
      (match o.op with | .select .. => false | _ => true) &&
      (o.looksAt ops).all fun t => match writerOf ops t with
        | none => true
        | some j => (predsOf ops i).contains j || (predsOf ops j).contains i
/-- What an operation wants of its guard. -/
def guardOk (ops : Array Oper) (o : Oper) (ev : Operand → Value) : Bool :=
  match o.guard with
  | none => true
  | some (j, want) => match (ops[j]?).bind (·.dst) with
    | some t => boolOf (ev (.tmp t)) == some want
    | none => false
structure Ev (ev : Operand → Value) : Prop where
  const : ∀ v, ev (.const v) = v
  global : ∀ g, ev (.global g) = .pointer (some ⟨g, 0, none⟩)
  func : ∀ f, ev (.func f) = .func (.func f) #[] #[]

abbrev Know := Value → World → Prop

section
variable (P : Program) (ops : Array Oper) (le : World → World → Prop) (A : List Know) (a0 : Act) (w1 : World)

def knowAt (i : Nat) : Know := A.getD i fun _ _ => True
/-- What is known of a slot when operation i comes up. -/
def knownT (ev : Operand → Value) (W : World) (i : Nat) (t : Tmp) : Prop :=
  match writerOf ops t with
  | none => ev (.tmp t) = a0.tmps.getD t undef
  | some j => if (predsOf ops i).contains j then knowAt A j (ev (.tmp t)) W else ev (.tmp t) = a0.tmps.getD t undef
def knownAll (ev : Operand → Value) (W : World) (i : Nat) : List Tmp → Prop
  | [] => True
  | t :: r => knownT ops A a0 ev W i t ∧ knownAll ev W i r
def flowStep (i : Nat) (o : Oper) : Prop :=
  ∀ (ev : Operand → Value) (W : World), Ev ev → le w1 W → knownAll ops A a0 ev W i (o.looksAt ops) →
    if guardOk ops o ev = true then flowUpon P (fun v W' => le W W' ∧ knowAt A i v W') ((execOp ev o).run P W) else knowAt A i undef W
def flowSteps : List Oper → Nat → Prop
  | [], _ => True
  | o :: r, i => flowStep P ops le A a0 w1 i o ∧ flowSteps r (i + 1)
def flowEnd (Q' : Act → World → Prop) : List Know → List Oper → Act → World → Prop
  | p :: ps, o :: r, a, W => ∀ v, p v W → flowEnd Q' ps r (a.put o.dst v) W
  | _, _, a, W => Q' a W
def stableAll : List Know → Prop
  | [] => True
  | p :: r => (∀ v W W', p v W → le W W' → p v W') ∧ stableAll r
end

theorem knownAll_of {ops : Array Oper} {A : List Know} {a0 : Act} {ev : Operand → Value} {W : World} {i : Nat} : ∀ (l : List Tmp), (∀ t ∈ l, knownT ops A a0 ev W i t) → knownAll ops A a0 ev W i l
  | [], _ => trivial
  | t :: r, h => ⟨h t (by simp), knownAll_of r fun u hu => h u (by simp [hu])⟩
theorem flowSteps_get {P : Program} {ops : Array Oper} {le : World → World → Prop} {A : List Know} {a0 : Act} {w1 : World} : ∀ (l : List Oper) (k : Nat), flowSteps P ops le A a0 w1 l k →
    ∀ i o, l[i]? = some o → flowStep P ops le A a0 w1 (k + i) o
  | [], _, _, i, o, h => by simp at h
  | o' :: r, k, hs, 0, o, h => by simp at h; subst h; exact hs.1
  | o' :: r, k, hs, i + 1, o, h => by
    have := flowSteps_get r (k + 1) hs.2 i o (by simpa using h)
    rwa [show k + 1 + i = k + (i + 1) by omega] at this
theorem stable_at {le : World → World → Prop} : ∀ (A : List Know), stableAll le A → ∀ i v W W', knowAt A i v W → le W W' → knowAt A i v W'
  | [], _, i, v, W, W', _, _ => by simp [knowAt]
  | p :: r, hs, 0, v, W, W', h, hl => hs.1 v W W' h hl
  | p :: r, hs, i + 1, v, W, W', h, hl => by
    have := stable_at r hs.2 i v W W' (by simpa [knowAt] using h) hl
    simpa [knowAt] using this

theorem getD_put (a : Act) (t u : Nat) (v : Value) (ht : t < a.tmps.size) : (a.put (some t) v).tmps.getD u undef = if u = t then v else a.tmps.getD u undef := by
  simp only [Act.put]
  by_cases h : u = t
  · subst h; simp [Array.getD, ht]
  · rw [if_neg h]
    simp only [Array.getD_eq_getD_getElem?]
    rw [Array.getElem?_setIfInBounds_ne (Ne.symm h)]

/-- All values, put in turn. -/
def putsFrom (vs : Nat → Value) : List Oper → Nat → Act → Act
  | [], _, a => a
  | o :: r, i, a => putsFrom vs r (i + 1) (a.put o.dst (vs i))
theorem puts_size (vs : Nat → Value) : ∀ (l : List Oper) (i : Nat) (a : Act), (putsFrom vs l i a).tmps.size = a.tmps.size ∧ (putsFrom vs l i a).defers = a.defers
  | [], _, _ => ⟨rfl, rfl⟩
  | o :: r, i, a => by
    have := puts_size vs r (i + 1) (a.put o.dst (vs i))
    refine ⟨this.1.trans ?_, this.2.trans ?_⟩ <;> cases o.dst <;> simp [Act.put]
theorem puts_none (vs : Nat → Value) (u : Nat) : ∀ (l : List Oper) (i : Nat) (a : Act), (∀ o ∈ l, o.dst ≠ some u) → (putsFrom vs l i a).tmps.getD u undef = a.tmps.getD u undef
  | [], _, _, _ => rfl
  | o :: r, i, a, h => by
    rw [putsFrom, puts_none vs u r (i + 1) _ fun o ho => h o (by simp [ho])]
    have h0 := h o (by simp)
    cases hd : o.dst with
    | none => rfl
    | some d =>
      have hne : d ≠ u := fun e => h0 (by rw [hd, e])
      simp only [Act.put, Array.getD_eq_getD_getElem?]
      rw [Array.getElem?_setIfInBounds_ne hne]
theorem puts_some (vs : Nat → Value) (u : Nat) : ∀ (l : List Oper) (i : Nat) (a : Act), u < a.tmps.size → ∀ k o, l[k]? = some o → o.dst = some u → (∀ k' o', l[k']? = some o' → o'.dst = some u → k' = k) →
    (putsFrom vs l i a).tmps.getD u undef = vs (i + k)
  | [], _, _, _, k, o, h, _, _ => by simp at h
  | o' :: r, i, a, hu, 0, o, h, hd, huniq => by
    simp at h; subst h
    rw [putsFrom, puts_none vs u r (i + 1) _ fun o ho he => by
      obtain ⟨k, hk⟩ := List.getElem?_of_mem ho
      have := huniq (k + 1) o (by simpa using hk) he
      omega]
    rw [hd, getD_put _ _ _ _ hu, if_pos rfl]
    rfl
  | o' :: r, i, a, hu, k + 1, o, h, hd, huniq => by
    rw [putsFrom, puts_some vs u r (i + 1) _ (by cases o'.dst <;> simpa [Act.put] using hu) k o (by simpa using h) hd fun k' o'' h1 h2 => by
      have := huniq (k' + 1) o'' (by simpa using h1) h2
      omega]
    congr 1
    omega
theorem flowEnd_puts {Q' : Act → World → Prop} (vs : Nat → Value) {W : World} (A : List Know) : ∀ (l : List Oper) (i : Nat) (a : Act), A.length = l.length → flowEnd Q' A l a W →
    (∀ (k : Nat) (p : Know), A[k]? = some p → p (vs (i + k)) W) → Q' (putsFrom vs l i a) W := by
  induction A with
  | nil =>
    intro l i a hl h _
    cases l with
    | nil => exact h
    | cons _ _ => cases hl
  | cons p ps ih =>
    intro l i a hl h hA
    cases l with
    | nil => cases hl
    | cons o r =>
      refine ih r (i + 1) _ (by simpa using hl) (h (vs i) (hA 0 p rfl)) fun k q hk => ?_
      have := hA (k + 1) q (by simpa using hk)
      rwa [show i + 1 + k = i + (k + 1) by omega]

structure FlowInv (ops : Array Oper) (le : World → World → Prop) (A : List Know) (a0 : Act) (w1 : World) (listed : Array Bool) (a : Act) (W : World) : Prop where
  w : le w1 W
  sz : listed.size = ops.size
  closed : ∀ i, listed.getD i false = true → ∀ j ∈ predsOf ops i, listed.getD j false = true
  tsz : a.tmps.size = a0.tmps.size
  defers : a.defers = a0.defers
  tmp : ∀ t, match writerOf ops t with
    | none => a.tmps.getD t undef = a0.tmps.getD t undef
    | some j => if listed.getD j false = true then knowAt A j (a.tmps.getD t undef) W else a.tmps.getD t undef = a0.tmps.getD t undef
  mute : ∀ i o, ops[i]? = some o → o.dst = none → listed.getD i false = true → ∃ v, knowAt A i v W

theorem ready_iff {ops : Array Oper} {listed : Array Bool} (hs : listed.size = ops.size) {i : Nat} :
    i ∈ Region.ready .any ops listed ↔ ∃ o, ops[i]? = some o ∧ listed.getD i false = false ∧ ∀ j ∈ predsOf ops i, listed.getD j false = true := by
  unfold Region.ready
  rw [List.mem_filter, List.mem_range]
  constructor
  · rintro ⟨hi, hb⟩
    simp only [Bool.and_eq_true, Bool.not_eq_true'] at hb
    obtain ⟨h1, h2⟩ := hb
    have ho : ops[i]? = some ops[i] := Array.getElem?_eq_getElem hi
    refine ⟨ops[i], ho, ?_, fun j hj => ?_⟩
    · simpa [Array.getD, hs, hi] using h1
    · rw [ho] at h2
      simp only [Option.map_some, Option.getD_some, Array.all_eq_true_iff_forall_mem] at h2
      unfold predsOf at hj
      rw [ho] at hj
      simp only [List.mem_filterMap] at hj
      obtain ⟨e, he, hj⟩ := hj
      split at hj
      · rename_i hbd
        obtain rfl := Option.some.inj hj
        have := h2 e (by simpa using he)
        simpa [hbd] using this
      · cases hj
  · rintro ⟨o, ho, h1, h2⟩
    have hi : i < ops.size := (Array.getElem?_eq_some_iff.1 ho).1
    refine ⟨hi, ?_⟩
    simp only [Bool.and_eq_true, Bool.not_eq_true']
    refine ⟨by simpa [Array.getD, hs, hi] using h1, ?_⟩
    rw [ho]
    simp only [Option.map_some, Option.getD_some, Array.all_eq_true_iff_forall_mem]
    intro e he
    by_cases hbd : Region.binds .any e = true
    · simp only [hbd, Bool.not_true, Bool.false_or]
      refine h2 e.on ?_
      unfold predsOf
      rw [ho]
      simp only [List.mem_filterMap]
      exact ⟨e, by simpa using he, by simp [hbd]⟩
    · simp [hbd]

theorem getD_set {l : Array Bool} {i j : Nat} (hi : i < l.size) : (l.setIfInBounds i true).getD j false = if j = i then true else l.getD j false := by
  by_cases h : j = i
  · subst h; simp [Array.getD, hi]
  · rw [if_neg h]
    simp only [Array.getD_eq_getD_getElem?]
    rw [Array.getElem?_setIfInBounds_ne (Ne.symm h)]

theorem flowOk_at {ops : Array Oper} {n : Nat} (h : flowOk ops n = true) {i : Nat} {o : Oper} (ho : ops[i]? = some o) :
    (∀ j ∈ predsOf ops i, j < i) ∧ (∀ t, o.dst = some t → writerOf ops t = some i ∧ t < n) ∧ (∀ cs b, o.op ≠ .select cs b) ∧
      ∀ t ∈ o.looksAt ops, ∀ j, writerOf ops t = some j → j ∈ predsOf ops i ∨ i ∈ predsOf ops j := by
  have hi : i < ops.size := (Array.getElem?_eq_some_iff.1 ho).1
  unfold flowOk at h
  have := List.all_eq_true.1 h i (List.mem_range.2 hi)
  rw [ho] at this
  simp only [Bool.and_eq_true, List.all_eq_true] at this
  obtain ⟨⟨⟨h1, h2⟩, h3⟩, h4⟩ := this
  refine ⟨fun j hj => by simpa using h1 j hj, fun t ht => ?_, fun cs b hb => ?_, fun t ht j hj => ?_⟩
  · rw [ht] at h2
    simpa using h2
  · rw [hb] at h3; cases h3
  · have := h4 t ht
    rw [hj] at this
    simpa using this

theorem flow_wanted {ops : Array Oper} {o : Oper} {a : Act} {n : Nat} (hn : a.tmps.size = n) (h : flowOk ops n = true) : Region.wanted o (yielded ops a.tmps) = guardOk ops o a.eval := by
  unfold Region.wanted guardOk
  cases hg : o.guard with
  | none => rfl
  | some jw =>
    obtain ⟨j, want⟩ := jw
    simp only [yielded]
    cases hd : (ops[j]?).bind (·.dst) with
    | none => simp
    | some t =>
      have ht : t < a.tmps.size := by
        obtain ⟨o', ho', hd'⟩ := Option.bind_eq_some_iff.1 hd
        rw [hn]
        exact ((flowOk_at h ho').2.1 t hd').2
      have e1 : a.tmps[t]? = some (a.tmps.getD t undef) := by simp [Array.getD, ht]
      simp only [Option.bind_some, e1]
      show _ = (boolOf (a.tmps.getD t undef) == some want)
      cases a.tmps.getD t undef <;> rfl

theorem mem_preds_size {ops : Array Oper} {i j : Nat} (h : j ∈ predsOf ops i) : i < ops.size := by
  unfold predsOf at h
  split at h
  · rename_i o ho; exact (Array.getElem?_eq_some_iff.1 ho).1
  · cases h

theorem writer_spec {ops : Array Oper} {t j : Nat} (h : writerOf ops t = some j) : ∃ o, ops[j]? = some o ∧ o.dst = some t := by
  unfold writerOf at h
  have := List.find?_some h
  simp only [beq_iff_eq] at this
  obtain ⟨o, ho, hd⟩ := Option.bind_eq_some_iff.1 this
  exact ⟨o, ho, hd⟩

theorem wpAny_flow {P : Program} {ops : Array Oper} {le : World → World → Prop} {A : List Know} {a0 : Act} {w1 : World} {Q : Exit → Act → World → Prop}
    (hrefl : ∀ W, le W W) (htrans : ∀ W W' W'', le W W' → le W' W'' → le W W'') (hst : stableAll le A) (hok : flowOk ops a0.tmps.size = true)
    (hsteps : flowSteps P ops le A a0 w1 ops.toList 0) (hlen : A.length = ops.size)
    (hend : ∀ W, le w1 W → flowEnd (Q .normal) A ops.toList a0 W) :
    ∀ (fuel : Nat) (listed : Array Bool) (a : Act) (W : World), FlowInv ops le A a0 w1 listed a W → ((List.range ops.size).filter fun i => !listed.getD i false).length ≤ fuel → wpAny P .any ops Q fuel listed a W := by
  have fin : ∀ (listed : Array Bool) (a : Act) (W : World), FlowInv ops le A a0 w1 listed a W → Region.ready .any ops listed = [] → Q .normal a W := by
    intro listed a W inv hr
    have all : ∀ n i, i < n → i < ops.size → listed.getD i false = true := by
      intro n
      induction n with
      | zero => intro i hi; omega
      | succ n ih =>
        intro i hi hs
        by_cases hl : listed.getD i false = true
        · exact hl
        · exfalso
          have ho : ops[i]? = some ops[i] := Array.getElem?_eq_getElem hs
          have : i ∈ Region.ready .any ops listed := (ready_iff inv.sz).2 ⟨ops[i], ho, by simpa using hl, fun j hj => ih j (by have := (flowOk_at hok ho).1 j hj; omega) (by have := (flowOk_at hok ho).1 j hj; omega)⟩
          rw [hr] at this
          cases this
    have all' : ∀ i, i < ops.size → listed.getD i false = true := fun i hi => all (i + 1) i (by omega) hi
    have mutes : ∃ f : Nat → Value, ∀ i, i < ops.size → ∀ o, ops[i]? = some o → o.dst = none → knowAt A i (f i) W := by
      haveI : Inhabited Value := ⟨undef⟩
      classical
      refine ⟨fun i => if h : ∃ v, knowAt A i v W then Classical.choose h else undef, fun i hi o ho hd => ?_⟩
      have h := inv.mute i o ho hd (all' i hi)
      simp only [dif_pos h]
      exact Classical.choose_spec h
    obtain ⟨f, hf⟩ := mutes
    let vs : Nat → Value := fun i => match (ops[i]?).bind (·.dst) with | some t => a.tmps.getD t undef | none => f i
    have hputs := flowEnd_puts vs A ops.toList 0 a0 (by simpa using hlen) (hend W inv.w) (fun k p hk => by
      have hks : k < ops.size := by rw [← hlen]; exact (List.getElem?_eq_some_iff.1 hk).1
      have hp : knowAt A k = p := by simp [knowAt, List.getD, hk]
      have ho : ops[k]? = some ops[k] := Array.getElem?_eq_getElem hks
      rw [← hp, Nat.zero_add]
      show knowAt A k (match (ops[k]?).bind (·.dst) with | some t => a.tmps.getD t undef | none => f k) W
      rw [ho]
      cases hd : (ops[k]).dst with
      | none => simpa [hd] using hf k hks _ ho hd
      | some t =>
        have hw := ((flowOk_at hok ho).2.1 t hd).1
        have := inv.tmp t
        rw [hw] at this
        simp only [all' k hks, if_true] at this
        simpa [hd] using this)
    have heq : putsFrom vs ops.toList 0 a0 = a := by
      have hsz := puts_size vs ops.toList 0 a0
      have ht : (putsFrom vs ops.toList 0 a0).tmps = a.tmps := by
        apply Array.ext
        · rw [hsz.1, inv.tsz]
        · intro u h1 h2
          have e1 : (putsFrom vs ops.toList 0 a0).tmps.getD u undef = a.tmps.getD u undef := by
            cases hw : writerOf ops u with
            | none =>
              rw [puts_none vs u _ _ _ fun o ho hd => by
                obtain ⟨k, hk⟩ := List.getElem?_of_mem ho
                have ho' : ops[k]? = some o := by simpa using hk
                have := ((flowOk_at hok ho').2.1 u hd).1
                rw [hw] at this; cases this]
              have := inv.tmp u
              rw [hw] at this
              exact this.symm
            | some j =>
              obtain ⟨o, ho, hd⟩ := writer_spec hw
              rw [puts_some vs u _ _ _ (by rw [hsz.1] at h1; exact h1) j o (by simpa using ho) hd fun k' o' hk' hd' => by
                have ho' : ops[k']? = some o' := by simpa using hk'
                have := ((flowOk_at hok ho').2.1 u hd').1
                rw [hw] at this
                exact (Option.some.inj this).symm]
              show (match (ops[0 + j]?).bind (·.dst) with | some t => a.tmps.getD t undef | none => f (0 + j)) = _
              rw [Nat.zero_add, ho]
              simp [hd]
          simpa [Array.getD, h1, h2] using e1
      have hd : (putsFrom vs ops.toList 0 a0).defers = a.defers := hsz.2.trans inv.defers.symm
      cases a
      cases hp : putsFrom vs ops.toList 0 a0
      rw [hp] at ht hd
      simp at ht hd
      rw [ht, hd]
    rw [heq] at hputs
    exact hputs
  intro fuel
  induction fuel with
  | zero =>
    intro listed a W inv hf
    have hr : Region.ready .any ops listed = [] := by
      cases hr : Region.ready .any ops listed with
      | nil => rfl
      | cons i r =>
        exfalso
        obtain ⟨o, ho, hl, _⟩ := (ready_iff inv.sz).1 (show i ∈ Region.ready .any ops listed by rw [hr]; simp)
        have hi : i < ops.size := (Array.getElem?_eq_some_iff.1 ho).1
        have : i ∈ (List.range ops.size).filter fun i => !listed.getD i false := by simp [hi]; simpa using hl
        have := List.length_pos_of_mem this
        omega
    exact ⟨hr, fin listed a W inv hr⟩
  | succ fuel ih =>
    intro listed a W inv hf
    refine ⟨fun hr => fin listed a W inv hr, fun i hi => ?_⟩
    obtain ⟨o, ho, hl, hp⟩ := (ready_iff inv.sz).1 hi
    have his : i < ops.size := (Array.getElem?_eq_some_iff.1 ho).1
    obtain ⟨hok1, hok2, hok3, hok4⟩ := flowOk_at hok ho
    have hstep := flowSteps_get ops.toList 0 hsteps i o (by simpa using ho)
    rw [Nat.zero_add] at hstep
    have hknow : knownAll ops A a0 a.eval W i (o.looksAt ops) := knownAll_of _ fun t ht => by
      unfold knownT
      have hinv := inv.tmp t
      cases hw : writerOf ops t with
      | none => rw [hw] at hinv; exact hinv
      | some j =>
        rw [hw] at hinv
        simp only at hinv ⊢
        by_cases hj : (predsOf ops i).contains j = true
        · rw [if_pos hj]
          have hjm : j ∈ predsOf ops i := by simpa using hj
          rw [if_pos (hp j hjm)] at hinv
          exact hinv
        · rw [if_neg hj]
          have hij : i ∈ predsOf ops j := by
            rcases hok4 t ht j hw with h | h
            · exact absurd (by simpa using h) hj
            · exact h
          have hlj : ¬ listed.getD j false = true := fun h => by
            have := inv.closed j h i hij
            rw [hl] at this; cases this
          rw [if_neg hlj] at hinv
          exact hinv
    have hs := hstep a.eval W ⟨fun _ => rfl, fun _ => rfl, fun _ => rfl⟩ inv.w hknow
    have next : ∀ v W', le W W' → knowAt A i v W' → wpAny P .any ops Q fuel (listed.setIfInBounds i true) (a.put o.dst v) W' := by
      intro v W' hle hv
      refine ih _ _ _ ⟨htrans _ _ _ inv.w hle, by simp [inv.sz], ?_, ?_, ?_, ?_, ?_⟩ ?_
      · intro k hk j hj
        rw [getD_set (by rw [inv.sz]; exact his)] at hk ⊢
        split
        · rfl
        · split at hk
          · rename_i hki; subst hki; exact hp j hj
          · exact inv.closed k hk j hj
      · rw [← inv.tsz]; cases o.dst <;> simp [Act.put]
      · rw [← inv.defers]; cases o.dst <;> rfl
      · intro t
        have hinv := inv.tmp t
        cases hd : o.dst with
        | none =>
          show match writerOf ops t with
            | none => a.tmps.getD t undef = a0.tmps.getD t undef
            | some j => if (listed.setIfInBounds i true).getD j false = true then knowAt A j (a.tmps.getD t undef) W' else a.tmps.getD t undef = a0.tmps.getD t undef
          cases hw : writerOf ops t with
          | none => rw [hw] at hinv; exact hinv
          | some j =>
            rw [hw] at hinv
            simp only at hinv ⊢
            have hji : j ≠ i := fun e => by
              obtain ⟨o', ho', hd'⟩ := writer_spec hw
              rw [e, ho] at ho'
              obtain rfl := Option.some.inj ho'
              rw [hd] at hd'; cases hd'
            rw [getD_set (by rw [inv.sz]; exact his), if_neg hji]
            split
            · rename_i h; rw [if_pos h] at hinv; exact stable_at A hst j _ W W' hinv hle
            · rename_i h; rw [if_neg h] at hinv; exact hinv
        | some d =>
          have hd2 := hok2 d hd
          have hdl : d < a.tmps.size := by rw [inv.tsz]; exact hd2.2
          rw [getD_put _ _ _ _ hdl]
          by_cases htd : t = d
          · subst htd
            rw [if_pos rfl, hd2.1]
            simp only
            rw [getD_set (by rw [inv.sz]; exact his), if_pos rfl, if_pos rfl]
            exact hv
          · rw [if_neg htd]
            cases hw : writerOf ops t with
            | none => rw [hw] at hinv; exact hinv
            | some j =>
              rw [hw] at hinv
              simp only at hinv ⊢
              have hji : j ≠ i := fun e => by
                obtain ⟨o', ho', hd'⟩ := writer_spec hw
                rw [e, ho] at ho'
                obtain rfl := Option.some.inj ho'
                rw [hd] at hd'
                exact htd (Option.some.inj hd').symm
              rw [getD_set (by rw [inv.sz]; exact his), if_neg hji]
              split
              · rename_i h; rw [if_pos h] at hinv; exact stable_at A hst j _ W W' hinv hle
              · rename_i h; rw [if_neg h] at hinv; exact hinv
      · intro k o' ho' hd' hk
        rw [getD_set (by rw [inv.sz]; exact his)] at hk
        split at hk
        · rename_i hki; subst hki
          exact ⟨v, hv⟩
        · obtain ⟨u, hu⟩ := inv.mute k o' ho' hd' hk
          exact ⟨u, stable_at A hst k u W W' hu hle⟩
      · have : ((List.range ops.size).filter fun k => !(listed.setIfInBounds i true).getD k false).length < ((List.range ops.size).filter fun k => !listed.getD k false).length := by
          have hsub : ((List.range ops.size).filter fun k => !(listed.setIfInBounds i true).getD k false) = ((List.range ops.size).filter fun k => !listed.getD k false).filter fun k => k != i := by
            rw [List.filter_filter]
            apply List.filter_congr
            intro k _
            rw [getD_set (by rw [inv.sz]; exact his)]
            by_cases hki : k = i <;> simp [hki]
          rw [hsub]
          have hmem : i ∈ (List.range ops.size).filter fun k => !listed.getD k false := by simp [his]; simpa using hl
          exact List.length_filter_lt_length_iff_exists.2 ⟨i, hmem, by simp⟩
        omega
    unfold wpOp
    rw [ho]
    simp only
    rw [flow_wanted inv.tsz hok]
    split
    · rename_i hg
      rw [if_pos hg] at hs
      exact .inl (wp_of_flow hs fun v W' h => next v W' h.1 h.2)
    · rename_i hg
      rw [if_neg hg] at hs
      exact next undef W (hrefl W) hs

/-- A REGION THAT DRAWS ITS ORDER: one look at each operation, whatever has come before it. -/
theorem wp_region_flow {P : Program} {ops : List Oper} {id : Nat} {a0 : Act} {w : World} {Q : Exit → Act → World → Prop} (le : World → World → Prop) (A : List Know)
    (hm : P.follows .mixedOrders = true) (hok : flowOk ops.toArray a0.tmps.size = true) (hlen : A.length = ops.length)
    (hrefl : ∀ W, le W W) (htrans : ∀ W W' W'', le W W' → le W' W'' → le W W'') (hst : stableAll le A)
    (hsteps : flowSteps P ops.toArray le A a0 w.drew ops 0)
    (hend : ∀ W, le w.drew W → flowEnd (Q .normal) A ops a0 W) : (Code.region id ops.toArray true).wp P Q a0 w := by
  refine wp_region_any hm (wpAny_flow (w1 := w.drew) hrefl htrans hst hok (by simpa using hsteps) (by simpa using hlen) (by simpa using hend) _ _ _ _ ⟨hrefl _, by simp, ?_, rfl, rfl, ?_, ?_⟩ ?_)
  · intro i hi
    exfalso
    simp [Array.getD] at hi
  · intro t
    cases writerOf ops.toArray t with
    | none => rfl
    | some j => simp [Array.getD]
  · intro i o _ _ hi
    exfalso
    simp [Array.getD] at hi
  · exact Nat.le_trans (List.length_filter_le _ _) (by simp)


/-! ### By rows: what each operation looks at, written out. -/
abbrev Row := List (Tmp × Option Nat) × Option (Tmp × Bool)
def lookRow (ops : Array Oper) (i : Nat) (o : Oper) : List (Tmp × Option Nat) :=
  (o.looksAt ops).map fun t => (t, match writerOf ops t with | some j => if (predsOf ops i).contains j then some j else none | none => none)
def guardRow (ops : Array Oper) (o : Oper) : Option (Tmp × Bool) :=
  match o.guard with
  | none => none
  | some (j, want) => some (((ops[j]?).bind (·.dst)).getD 0, want)
def guardSure (ops : Array Oper) (o : Oper) : Bool :=
  match o.guard with
  | none => true
  | some (j, _) => ((ops[j]?).bind (·.dst)).isSome
def rowsFrom (ops : Array Oper) : List Oper → Nat → List Row
  | [], _ => []
  | o :: r, i => (lookRow ops i o, guardRow ops o) :: rowsFrom ops r (i + 1)
def rowsOf (ops : List Oper) : List Row := rowsFrom ops.toArray ops 0

section
variable (P : Program) (le : World → World → Prop) (A : List Know) (a0 : Act) (w1 : World)
def knownRow (ev : Operand → Value) (W : World) : List (Tmp × Option Nat) → Prop
  | [] => True
  | (t, none) :: r => ev (.tmp t) = a0.tmps.getD t undef ∧ knownRow ev W r
  | (t, some j) :: r => knowAt A j (ev (.tmp t)) W ∧ knownRow ev W r
def guardYes (ev : Operand → Value) : Option (Tmp × Bool) → Bool
  | none => true
  | some (t, want) => boolOf (ev (.tmp t)) == some want
def rowStep (i : Nat) (o : Oper) (row : Row) : Prop :=
  ∀ (ev : Operand → Value) (W : World), (∀ v, ev (.const v) = v) → (∀ g, ev (.global g) = .pointer (some ⟨g, 0, none⟩)) → (∀ f, ev (.func f) = .func (.func f) #[] #[]) → le w1 W → knownRow A a0 ev W row.1 →
    if guardYes ev row.2 = true then flowUpon P (fun v W' => le W W' ∧ knowAt A i v W') ((execOp ev o).run P W) else knowAt A i undef W
def rowSteps : List Oper → List Row → Nat → Prop
  | o :: r, row :: rows, i => rowStep P le A a0 w1 i o row ∧ rowSteps r rows (i + 1)
  | [], _, _ => True
  | _ :: _, [], _ => False
end

theorem knownRow_of {ops : Array Oper} {A : List Know} {a0 : Act} {ev : Operand → Value} {W : World} {i : Nat} : ∀ (l : List Tmp), knownAll ops A a0 ev W i l →
    knownRow A a0 ev W (l.map fun t => (t, match writerOf ops t with | some j => if (predsOf ops i).contains j then some j else none | none => none))
  | [], _ => trivial
  | t :: r, h => by
    have ih := knownRow_of r h.2
    have h1 := h.1
    unfold knownT at h1
    simp only [List.map_cons]
    cases hw : writerOf ops t with
    | none => rw [hw] at h1; exact ⟨h1, ih⟩
    | some j =>
      rw [hw] at h1
      simp only at h1 ⊢
      split
      · rename_i hc; rw [if_pos hc] at h1; exact ⟨h1, ih⟩
      · rename_i hc; rw [if_neg hc] at h1; exact ⟨h1, ih⟩

theorem steps_of_rows {P : Program} {ops : Array Oper} {le : World → World → Prop} {A : List Know} {a0 : Act} {w1 : World} : ∀ (l : List Oper) (i : Nat), (l.all (guardSure ops)) = true →
    rowSteps P le A a0 w1 l (rowsFrom ops l i) i → flowSteps P ops le A a0 w1 l i
  | [], _, _, _ => trivial
  | o :: r, i, hs, h => by
    simp only [List.all_cons, Bool.and_eq_true] at hs
    refine ⟨fun ev W hev hle hk => ?_, steps_of_rows r (i + 1) hs.2 h.2⟩
    have := h.1 ev W hev.const hev.global hev.func hle (knownRow_of _ hk)
    have hg : guardYes ev (guardRow ops o) = guardOk ops o ev := by
      have h0 := hs.1
      unfold guardSure at h0
      unfold guardRow guardOk
      cases ho : o.guard with
      | none => rfl
      | some jw =>
        obtain ⟨j, want⟩ := jw
        rw [ho] at h0
        simp only at h0 ⊢
        cases hd : (ops[j]?).bind (·.dst) with
        | none => rw [hd] at h0; cases h0
        | some t => rfl
    rw [← hg]
    exact this

/-- What was there has not turned; memory may have grown. -/
def leB (W W' : World) : Prop := Below W.heap.size W W'
theorem leB_refl (W : World) : leB W W := Below.refl _ _
theorem leB_trans {W W' W'' : World} (h : leB W W') (k : leB W' W'') : leB W W'' := Below.trans h (Below.mono k (Below.size h))

theorem leB_true (W : World) : leB W W = True := eq_true (leB_refl W)
attribute [go_sem] guardYes boolOf flowUpon knowAt leB_true

theorem wp_region_rows {P : Program} {ops : List Oper} {id : Nat} {a0 : Act} {w : World} {Q : Exit → Act → World → Prop} (le : World → World → Prop) (rows : List Row) (A : List Know)
    (hm : P.follows .mixedOrders = true) (hok : flowOk ops.toArray a0.tmps.size = true) (hrows : rowsOf ops = rows) (hsure : ops.all (guardSure ops.toArray) = true) (hlen : A.length = ops.length)
    (hrefl : ∀ W, le W W) (htrans : ∀ W W' W'', le W W' → le W' W'' → le W W'') (hst : stableAll le A)
    (hsteps : rowSteps P le A a0 w.drew ops rows 0)
    (hend : ∀ W, le w.drew W → flowEnd (Q .normal) A ops a0 W) : (Code.region id ops.toArray true).wp P Q a0 w :=
  wp_region_flow le A hm hok hlen hrefl htrans hst (steps_of_rows ops 0 hsure (by rw [show rowsFrom ops.toArray ops 0 = rows from hrows]; exact hsteps)) hend

theorem wp_region_grow {P : Program} {ops : List Oper} {id : Nat} {a0 : Act} {w : World} {Q : Exit → Act → World → Prop} (rows : List Row) (A : List Know)
    (hm : P.follows .mixedOrders = true) (hok : flowOk ops.toArray a0.tmps.size = true) (hrows : rowsOf ops = rows) (hsure : ops.all (guardSure ops.toArray) = true) (hlen : A.length = ops.length)
    (hst : stableAll leB A) (hsteps : rowSteps P leB A a0 w.drew ops rows 0)
    (hend : ∀ W, leB w.drew W → flowEnd (Q .normal) A ops a0 W) : (Code.region id ops.toArray true).wp P Q a0 w :=
  wp_region_rows leB rows A hm hok hrows hsure hlen leB_refl (fun _ _ _ h k => leB_trans h k) hst hsteps hend

end Go.Proofs.YtejohcohkgcmhaaDoor
namespace Go.Proofs.YtejohcohkgcmhaaDoor
open Go Go.RowKit

def kindOf : TypeDesc → AK
  | .bool => .bool
  | .int k => .int k
  | .string => .str
  | .pointer e => .ptr e
  | .slice e => .slice e
  | .array n e => .array n e
  | .struct fs => .struct (fs.toList.map fun f => (f.type, f.offset))
  | .map k e => .map k e
  | .func _ _ _ => .func
  | _ => .other
def aggVal : Value → Bool
  | .agg _ => true
  | _ => false
/-- What the program says of a type. -/
def atOf (P : Program) (t : Nat) : Option AT :=
  match P.info? t, P.underlying t with
  | some i, some d => match i.zero with
    | some z => if aggVal z = (kindOf d).isAgg ∧ z.cells.size = i.size then some ⟨kindOf d, i.size, i.bytes, z.cells.toList.map AV.ofScalar⟩ else none
    | none => none
  | _, _ => none
def TOk (P : Program) (T : Nat → Option AT) : Prop := ∀ t a, T t = some a → atOf P t = some a

structure AtOk (P : Program) (t : Nat) (a : AT) (i : TypeInfo) (d : TypeDesc) (z : Value) : Prop where
  info : P.info? t = some i
  und : P.underlying t = some d
  kind : kindOf d = a.kind
  size : i.size = a.size
  bytes : i.bytes = a.bytes
  zero : i.zero = some z
  cells : a.zero = z.cells.toList.map AV.ofScalar
  agg : aggVal z = a.kind.isAgg
  len : a.zero.length = a.size
theorem TOk.at {P : Program} {T : Nat → Option AT} (h : TOk P T) {t : Nat} {a : AT} (ht : T t = some a) : ∃ i d z, AtOk P t a i d z := by
  have := h t a ht
  unfold atOf at this
  split at this
  · rename_i i d hi hd
    split at this
    · rename_i z hz
      split at this
      · rename_i hagg
        obtain rfl := Option.some.inj this
        exact ⟨i, d, z, hi, hd, rfl, rfl, rfl, hz, rfl, hagg.1, by simpa using hagg.2⟩
      · cases this
    · cases this
  · cases this

theorem vrel_scalar (K : KHeap) (ρ : Nat → Loc) (A : Nat → Prop) (v : Value) : VRel K ρ A (AV.ofScalar v) v := by
  unfold AV.ofScalar
  split
  all_goals first | exact .junk _ | skip
  · exact .int _ _
  · exact .bool _
  · rename_i s
    have := VRel.str (K := K) (ρ := ρ) (A := A) s.data.toList
    simpa using this
  · exact .nilp
  · exact .nils
  · exact .nilm
  · exact .nilf
theorem vrel_const (K : KHeap) (ρ : Nat → Loc) (A : Nat → Prop) (v : Value) : VRel K ρ A (AV.ofConst v) v := by
  unfold AV.ofConst
  split
  · rename_i cs
    refine .agg _ _ (by simp) fun j v c hv hc => ?_
    simp only [List.getElem?_map, Array.getElem?_toList, hc, Option.map_some, Option.some.injEq] at hv
    subst hv
    exact vrel_scalar _ _ _ _
  · rename_i cs
    refine .tup _ _ (by simp) fun j v c hv hc => ?_
    simp only [List.getElem?_map, Array.getElem?_toList, hc, Option.map_some, Option.some.injEq] at hv
    subst hv
    exact vrel_scalar _ _ _ _
  · exact vrel_scalar _ _ _ _

def APost (A : Nat → Prop) (ρ : Nat → Loc) (H : Heap) (w : World) (v : AV) (fr : List Nat) (D : Delta) : Value → World → Prop := fun cv w' =>
  ∃ ρ', Sim (fun x => A x ∨ x ∈ fr) ρ' (H.apply D) w' ∧ VRel (Kof ρ' (H.apply D) w') ρ' (fun x => A x ∨ x ∈ fr) v cv ∧ Fr A ρ H w (fun x => A x ∨ x ∈ fr) ρ' (H.apply D) w'

/-- An operation's effect, at whatever heap that agrees with H0 where it looks. -/
def Eff (P : Program) (o : Oper) (e : Operand → AV) (H0 : Heap) (rd fr : List Nat) (D : Delta) (v : AV) : Prop :=
  ∀ (A : Nat → Prop) (ρ : Nat → Loc) (H : Heap) (w : World) (ev : Operand → Value), Sim A ρ H w → (∀ x ∈ o.op.operands.toList, VRel (Kof ρ H w) ρ A (e x) (ev x)) →
    (∀ g ∈ rd, H g = H0 g) → (∀ g ∈ fr, ¬ A g) → flowUpon P (APost A ρ H w v fr D) ((execOp ev o).run P w)

theorem or_nil (A : Nat → Prop) : (fun x => A x ∨ x ∈ ([] : List Nat)) = A := by funext x; simp
theorem or_one (A : Nat → Prop) (g : Nat) : (fun x => A x ∨ x ∈ [g]) = (fun x => A x ∨ x = g) := by funext x; simp

theorem APost.quiet {A : Nat → Prop} {ρ : Nat → Loc} {H : Heap} {w : World} {v : AV} {cv : Value} (s : Sim A ρ H w) (h : VRel (Kof ρ H w) ρ A v cv) : APost A ρ H w v [] [] cv w :=
  ⟨ρ, by rw [or_nil]; exact s, by rw [or_nil]; exact h, by rw [or_nil]; exact Fr.refl _ _ _ _⟩

theorem flow_val {P : Program} {R : Value → World → Prop} {s : Sem Value} {w w' : World} {cv : Value} (h : s.run P w = .ok cv w') (hR : R cv w') :
    flowUpon P R ((do pure (Next.value (← s)) : Sem Next).run P w) := by
  simp only [Sem.run_bind, Sem.run_pure, h, Result.andThen_ok, flowUpon]; exact hR
theorem flow_unit {P : Program} {R : Value → World → Prop} {s : Sem Unit} {w w' : World} (h : s.run P w = .ok () w') (hR : R undef w') :
    flowUpon P R ((do s; pure Next.skip : Sem Next).run P w) := by
  simp only [Sem.run_bind, Sem.run_pure, h, Result.andThen_ok, flowUpon]; exact hR

section
variable {P : Program} {o : Oper} {e : Operand → AV} {H0 : Heap} {v : AV}

theorem Eff.pure (h : ∀ (K : KHeap) (ρ : Nat → Loc) (A : Nat → Prop) (w : World) (ev : Operand → Value), (∀ x ∈ o.op.operands.toList, VRel K ρ A (e x) (ev x)) →
    ∃ cv, (execOp ev o).run P w = .ok (.value cv) w ∧ VRel K ρ A v cv) : Eff P o e H0 [] [] [] v := by
  intro A ρ H w ev s hv _ _
  obtain ⟨cv, hr, hR⟩ := h _ ρ A w ev hv
  rw [hr]
  exact APost.quiet s hR
theorem Eff.read {rd : List Nat} (h : ∀ (A : Nat → Prop) (ρ : Nat → Loc) (H : Heap) (w : World) (ev : Operand → Value), Sim A ρ H w → (∀ x ∈ o.op.operands.toList, VRel (Kof ρ H w) ρ A (e x) (ev x)) → (∀ g ∈ rd, H g = H0 g) →
    ∃ cv, (execOp ev o).run P w = .ok (.value cv) w ∧ VRel (Kof ρ H w) ρ A v cv) : Eff P o e H0 rd [] [] v := by
  intro A ρ H w ev s hv hrd _
  obtain ⟨cv, hr, hR⟩ := h A ρ H w ev s hv hrd
  rw [hr]
  exact APost.quiet s hR
theorem Eff.new {rd : List Nat} {g : Nat} {ob : AObj} (h : ∀ (A : Nat → Prop) (ρ : Nat → Loc) (H : Heap) (w : World) (ev : Operand → Value), Sim A ρ H w → (∀ x ∈ o.op.operands.toList, VRel (Kof ρ H w) ρ A (e x) (ev x)) → (∀ g ∈ rd, H g = H0 g) →
    ∃ cv co l w', (execOp ev o).run P w = .ok (.value cv) w' ∧ w'.heap = (w.alloc co).heap ∧ w'.os = w.os ∧ w'.tape = w.tape ∧ w'.output = w.output ∧ l.block = w.heap.size ∧ (∀ w', w'.heap[w.heap.size]? = some co → ObjRel (Kof ρ H w) ρ A w' l ob) ∧
      (∀ (K : KHeap) ρ' (A' : Nat → Prop), ρ' g = l → A' g → VRel K ρ' A' v cv)) : Eff P o e H0 rd [g] [(g, some ob)] v := by
  intro A ρ H w ev s hv hrd hfr
  obtain ⟨cv, co, l, w', hr, hh, h1, h2, h3, hl, ho, hR⟩ := h A ρ H w ev s hv hrd
  rw [hr]
  obtain ⟨s', f'⟩ := s.alloc (hfr g (by simp)) ob co l hl ho
  refine ⟨fun x => if x = g then l else ρ x, ?_, ?_, ?_⟩
  · rw [or_one]; exact s'.heap hh
  · exact hR _ _ _ (if_pos rfl) (.inr (by simp))
  · rw [or_one]
    exact ⟨f'.agree, fun b ox hb => by rw [show Kof _ (H.apply [(g, some ob)]) w' = _ from Kof_heap hh]; exact f'.k b _ hb, h1, h2, h3, by rw [hh]; exact f'.size⟩

/-- A pointer's cells. -/
theorem rdp_spec {A : Nat → Prop} {ρ : Nat → Loc} {H : Heap} {w : World} {p : AV} {c : Value} {cells : List AV} {off : Nat} {rd : List Nat} (s : Sim A ρ H w) (hp : VRel (Kof ρ H w) ρ A p c)
    (h : rdp H0 p = some (cells, off, rd)) (hrd : ∀ g ∈ rd, H g = H0 g) :
    ∃ b q, c = .pointer (some ⟨b, q + off, none⟩) ∧ ∀ (j : Nat) v, cells[j]? = some v → ∃ cv, w.cell? ⟨b, q + j, none⟩ = some cv ∧ VRel (Kof ρ H w) ρ A v cv := by
  unfold rdp at h
  split at h
  · rename_i g off'
    split at h
    · rename_i sz cells' hg
      simp only [Option.some.injEq, Prod.mk.injEq] at h
      obtain ⟨rfl, rfl, rfl⟩ := h
      have hH : H g = some (.row sz cells') := by rw [hrd g (by simp)]; exact hg
      cases hp with
      | ptr _ _ a hA ha =>
        subst ha
        obtain ⟨c, el, lo, hi, h1, h2, h3, h4, h5, h6⟩ := s.obj g _ hH
        refine ⟨(ρ g).block, (ρ g).base, rfl, fun j v hv => ?_⟩
        obtain ⟨cv, hc, hR⟩ := h6 j v hv
        exact ⟨cv, by simp only [World.cell?, h1]; simpa using hc, hR⟩
    · cases h
  · rename_i cs off'
    simp only [Option.some.injEq, Prod.mk.injEq] at h
    obtain ⟨rfl, rfl, rfl⟩ := h
    cases hp with
    | rop _ _ b p a C ha h2 h3 =>
      subst ha
      refine ⟨b, p, rfl, fun j v hv => ⟨C j, ?_, h3 j v hv⟩⟩
      have := h2 j v hv
      unfold kcell at this
      split at this
      · rename_i c el fr hK
        have := (Kof_some.1 hK).2
        simp only [World.cell?, this]
        simpa using ‹c[p + j]? = some (C j)›
      · cases this
  · cases h

theorem add_addr (b o i : Nat) : (⟨b, o, none⟩ : Addr).add i = ⟨b, o + i, none⟩ := by unfold Addr.add; split <;> simp_all

theorem isAgg_of {d : TypeDesc} {k : AK} (h : kindOf d = k) : (match d with | .struct _ | .array _ _ => true | _ => false) = k.isAgg := by
  subst h; cases d <;> rfl
theorem run_isAgg_of {t : Nat} {a : AT} {i : TypeInfo} {d : TypeDesc} {z : Value} (h : AtOk P t a i d z) (w : World) : (Go.isAgg t).run P w = .ok a.kind.isAgg w := by
  unfold Go.isAgg
  simp only [Sem.run_bind, run_underlying h.und, Result.andThen_ok, ← isAgg_of h.kind]
  cases d <;> rfl
theorem run_sizeOf_of {t : Nat} {a : AT} {i : TypeInfo} {d : TypeDesc} {z : Value} (h : AtOk P t a i d z) (w : World) : (sizeOf t).run P w = .ok a.size w := by
  simp [sizeOf, typeInfo, program, Sem.run_bind, Sem.run, h.info, h.size]

/-- Cells that lie in memory, taken as one value. -/
theorem run_loadVar_of {t : Nat} {a : AT} {i : TypeInfo} {d : TypeDesc} {z : Value} (h : AtOk P t a i d z) {A : Nat → Prop} {ρ : Nat → Loc} {K : KHeap} {w : World} {cells : List AV} {off b q : Nat} {v : AV}
    (hc : ∀ (j : Nat) v, cells[j]? = some v → ∃ cv, w.cell? ⟨b, q + j, none⟩ = some cv ∧ VRel K ρ A v cv) (hl : ldv a.kind.isAgg a.size cells off = some v) :
    ∃ cv, (loadVar t ⟨b, q + off, none⟩).run P w = .ok cv w ∧ VRel K ρ A v cv := by
  unfold ldv at hl
  unfold loadVar
  simp only [Sem.run_bind, run_isAgg_of h, Result.andThen_ok]
  cases hag : a.kind.isAgg with
  | true =>
    simp only [hag, cond_true] at hl
    split at hl
    · rename_i hle
      obtain rfl := Option.some.inj hl
      have hex : ∀ j, j < a.size → ∃ cv, w.cell? ⟨b, q + off + j, none⟩ = some cv ∧ ∃ x, cells[off + j]? = some x ∧ VRel K ρ A x cv := by
        intro j hj
        have hlt : off + j < cells.length := by omega
        obtain ⟨cv, h1, h2⟩ := hc (off + j) _ (List.getElem?_eq_getElem hlt)
        exact ⟨cv, by rw [Nat.add_assoc]; exact h1, _, List.getElem?_eq_getElem hlt, h2⟩
      obtain ⟨f, hf⟩ : ∃ f : Nat → Value, ∀ j, j < a.size → w.cell? ⟨b, q + off + j, none⟩ = some (f j) ∧ ∃ x, cells[off + j]? = some x ∧ VRel K ρ A x (f j) := by
        haveI : Inhabited Value := ⟨undef⟩
        exact Go.Deep.choose_lt hex
      have hrun := run_loadCells (P := P) w ⟨b, q + off, none⟩ a.size f (fun j hj => by rw [add_addr]; exact (hf j hj).1)
      simp only [Sem.run_bind, run_sizeOf_of h, Result.andThen_ok, if_true, hrun, Sem.run_pure]
      refine ⟨_, rfl, .agg _ _ (by simp; omega) fun j x c hx hc => ?_⟩
      have hj : j < a.size := by
        have := (Array.getElem?_eq_some_iff.1 hc).1
        simpa using this
      obtain ⟨_, y, hy, hR⟩ := hf j hj
      have e1 : c = f j := by
        have : (((List.range a.size).map f).toArray)[j]? = some (f j) := by simp [hj]
        rw [this] at hc; exact (Option.some.inj hc).symm
      have e2 : x = y := by
        rw [List.getElem?_take, if_pos hj, List.getElem?_drop, hy] at hx
        exact (Option.some.inj hx).symm
      rw [e1, e2]; exact hR
    · cases hl
  | false =>
    simp only [hag, cond_false] at hl
    obtain ⟨cv, h1, h2⟩ := hc off v hl
    refine ⟨cv, ?_, h2⟩
    simp only [Bool.false_eq_true, if_false, run_load, h1]

theorem eff_load {t : Nat} {a : AT} {i : TypeInfo} {d : TypeDesc} {z : Value} (h : AtOk P t a i d z) {p : Operand} (ho : o.op = .load t p) {k : Kt} (hk : LOAD a.kind.isAgg a.size (e p) H0 k) :
    ∃ v rd, Eff P o e H0 rd [] [] v ∧ k v rd [] [] := by
  unfold LOAD at hk
  split at hk
  · rename_i cells off rd hrd
    split at hk
    · rename_i v hv
      refine ⟨v, rd, Eff.read fun A ρ H w ev s hx hH => ?_, hk⟩
      have hp := hx p (by rw [ho]; simp [Op.operands])
      obtain ⟨b, q, he, hc⟩ := rdp_spec s hp hrd hH
      obtain ⟨cv, hr, hR⟩ := run_loadVar_of h hc hv
      refine ⟨cv, ?_, hR⟩
      simp only [execOp, ho, Instr.loadAt, he, Instr.sureAddr, Sem.run_bind, Sem.run_pure, Result.andThen_ok, hr]
    · exact hk.elim
  · exact hk.elim
end
end Go.Proofs.YtejohcohkgcmhaaDoor
