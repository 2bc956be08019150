/- How Go data lies in memory, as Lean data: a predicate with the set of blocks that it rests on. -/
import Derived.WalkKit
import Derived.Deep.Slices
namespace Go.Proofs.Ytckhbfbbpdjmdaa
open Go Go.RowKit

abbrev Str := List UInt8
def I64 (n : Int) : Prop := -9223372036854775808 ≤ n ∧ n ≤ 9223372036854775807

/-- 'R S w cs x': the cells cs read as x, in world w, by blocks of S alone; so many cells each. -/
structure Ty (α : Type) where
  sz : Nat
  R : (Nat → Prop) → World → List Value → α → Prop
  len : ∀ {S : Nat → Prop} {w : World} {cs : List Value} {x : α}, R S w cs x → cs.length = sz
  mono : ∀ {S S' : Nat → Prop} {w w' : World} {cs : List Value} {x : α}, (∀ k, S k → S' k ∧ w'.heap[k]? = w.heap[k]?) → R S w cs x → R S' w' cs x

/-- The cells from one place on. -/
def CellsAt (w : World) (b off : Nat) (cs : List Value) : Prop := ∀ j v, cs[j]? = some v → w.cell? ⟨b, off + j, none⟩ = some v

theorem CellsAt.same {w w' : World} {b off : Nat} {cs : List Value} (h : CellsAt w b off cs) (hb : w'.heap[b]? = w.heap[b]?) : CellsAt w' b off cs :=
  fun j v hv => (World.cell?_of_block (w := w) (a := ⟨b, off + j, none⟩) hb).trans (h j v hv)

theorem CellsAt.c0 {w : World} {b off : Nat} {v : Value} {r : List Value} (h : CellsAt w b off (v :: r)) : w.cell? ⟨b, off, none⟩ = some v := h 0 v rfl
theorem CellsAt.c1 {w : World} {b off : Nat} {v0 v : Value} {r : List Value} (h : CellsAt w b off (v0 :: v :: r)) : w.cell? ⟨b, off + 1, none⟩ = some v := h 1 v rfl
theorem CellsAt.c2 {w : World} {b off : Nat} {v0 v1 v : Value} {r : List Value} (h : CellsAt w b off (v0 :: v1 :: v :: r)) : w.cell? ⟨b, off + 2, none⟩ = some v := h 2 v rfl
theorem CellsAt.c3 {w : World} {b off : Nat} {v0 v1 v2 v : Value} {r : List Value} (h : CellsAt w b off (v0 :: v1 :: v2 :: v :: r)) : w.cell? ⟨b, off + 3, none⟩ = some v := h 3 v rfl
theorem CellsAt.c4 {w : World} {b off : Nat} {v0 v1 v2 v3 v : Value} {r : List Value} (h : CellsAt w b off (v0 :: v1 :: v2 :: v3 :: v :: r)) : w.cell? ⟨b, off + 4, none⟩ = some v := h 4 v rfl
theorem CellsAt.c5 {w : World} {b off : Nat} {v0 v1 v2 v3 v4 v : Value} {r : List Value} (h : CellsAt w b off (v0 :: v1 :: v2 :: v3 :: v4 :: v :: r)) : w.cell? ⟨b, off + 5, none⟩ = some v := h 5 v rfl

def tInt : Ty Int where
  sz := 1
  R _ _ cs n := cs = [.int .i64 n] ∧ I64 n
  len h := by rw [h.1]; rfl
  mono _ h := h

def tByte : Ty UInt8 where
  sz := 1
  R _ _ cs n := cs = [.int .u8 (n.toNat : Int)]
  len h := by rw [h]; rfl
  mono _ h := h

def tStr : Ty Str where
  sz := 1
  R _ _ cs s := cs = [.string ⟨s.toArray⟩] ∧ s.length ≤ maxLen
  len h := by rw [h.1]; rfl
  mono _ h := h

def tBool : Ty Bool where
  sz := 1
  R _ _ cs b := cs = [.bool b]
  len h := by rw [h]; rfl
  mono _ h := h

/-- A slice. -/
def tSlice {α : Type} (T : Ty α) : Ty (List α) where
  sz := 1
  R S w cs l := ∃ a cap, cs = [.slice a l.length cap] ∧ l.length ≤ cap ∧ cap ≤ maxLen ∧ (a = none → cap = 0) ∧
    (l ≠ [] → ∃ b off, a = some ⟨b, off, none⟩ ∧ S b ∧ ∀ i x, l[i]? = some x → ∃ ec, CellsAt w b (off + i * T.sz) ec ∧ T.R S w ec x)
  len h := by obtain ⟨a, cap, rfl, _⟩ := h; rfl
  mono h hr := by
    obtain ⟨a, cap, e, h1, h2, h3, h4⟩ := hr
    refine ⟨a, cap, e, h1, h2, h3, fun hne => ?_⟩
    obtain ⟨b, off, ha, hS, hi⟩ := h4 hne
    refine ⟨b, off, ha, (h b hS).1, fun i x hx => ?_⟩
    obtain ⟨ec, hc, hR⟩ := hi i x hx
    exact ⟨ec, hc.same (h b hS).2, T.mono h hR⟩

theorem tSlice_nil {α : Type} (T : Ty α) (S : Nat → Prop) (w : World) : (tSlice T).R S w [.slice none 0 0] [] :=
  ⟨none, 0, rfl, Nat.le_refl _, Nat.zero_le _, fun _ => rfl, fun h => absurd rfl h⟩

/-- The first elements of a slice. -/
theorem tSlice_take {α : Type} {T : Ty α} {S : Nat → Prop} {w : World} {a : Option Addr} {n c : Nat} {l : List α} (h : (tSlice T).R S w [.slice a n c] l) (m : Nat) (hm : m ≤ n) :
    (tSlice T).R S w [.slice a m c] (l.take m) := by
  obtain ⟨a', cap, hv, hle, hcm, hnil, hel⟩ := h
  simp only [List.cons.injEq, Value.slice.injEq, and_true] at hv
  obtain ⟨rfl, rfl, rfl⟩ := hv
  have hl : (l.take m).length = m := by simp; omega
  refine ⟨a, c, by rw [hl], by omega, hcm, hnil, fun hne => ?_⟩
  obtain ⟨b, off, ha, hS, hc⟩ := hel (by intro h; simp [h] at hne)
  refine ⟨b, off, ha, hS, fun i x hx => hc i x ?_⟩
  rw [List.getElem?_take] at hx
  split at hx
  · exact hx
  · cases hx

/-- Everything that lies below a block number. -/
def Under (B : Nat) : Nat → Prop := fun k => k < B

theorem Ty.below {α : Type} (T : Ty α) {w w' : World} {cs : List Value} {x : α} (h : T.R (Under w.heap.size) w cs x) (hb : Below w.heap.size w w') : T.R (Under w'.heap.size) w' cs x :=
  T.mono (fun k hk => ⟨Nat.lt_of_lt_of_le hk hb.size, hb.block k hk⟩) h

theorem Ty.below' {α : Type} (T : Ty α) {B : Nat} {w w' : World} {cs : List Value} {x : α} (h : T.R (Under B) w cs x) (hb : Below B w w') : T.R (Under B) w' cs x :=
  T.mono (fun k hk => ⟨hk, hb.block k hk⟩) h

/-- An argument of a law, read as data. -/
def Opens (P : Program) {α : Type} (T : Ty α) (t : TypeId) : Prop :=
  P.cellsOf t = T.sz ∧ ∀ {H : Type} (enc : TypeId × Value → H) (w : World) (base : Nat) (sp : Nat → Bool) (held : Bool) (fuel : Nat) (cs : List Value) (x : DataW H × List MemPlace),
    DataW.trod enc P w base sp held fuel t cs = some x → ∃ y : α, T.R (Under w.heap.size) w cs y

theorem wf_i64 {n : Int} (h : (Lit.int .i64 n).wf = true) : I64 n := by
  simpa [Lit.wf, IntKind.min, IntKind.max, IntKind.signed, IntKind.bits, I64] using h

theorem opens_int {P : Program} {t : TypeId} (ht : P.underlying t = some (.int .i64)) (hc : P.cellsOf t = 1) : Opens P tInt t :=
  ⟨hc, fun enc w base sp held fuel cs x h => by
    obtain ⟨n, rfl, _, hw⟩ := DataW.trod_int ht h
    exact ⟨n, rfl, wf_i64 hw⟩⟩

theorem opens_bool {P : Program} {t : TypeId} (ht : P.underlying t = some .bool) (hc : P.cellsOf t = 1) : Opens P tBool t :=
  ⟨hc, fun enc w base sp held fuel cs x h => by
    obtain ⟨n, rfl, _⟩ := DataW.trod_bool ht h
    exact ⟨n, rfl⟩⟩

theorem opens_str {P : Program} {t : TypeId} (ht : P.underlying t = some .string) (hc : P.cellsOf t = 1) : Opens P tStr t :=
  ⟨hc, fun enc w base sp held fuel cs x h => by
    obtain ⟨s, rfl, _, hs⟩ := DataW.trod_string ht h
    exact ⟨s.data.toList, rfl, hs⟩⟩

theorem opens_byte {P : Program} {t : TypeId} (ht : P.underlying t = some (.int .u8)) (hc : P.cellsOf t = 1) : Opens P tByte t :=
  ⟨hc, fun enc w base sp held fuel cs x h => by
    obtain ⟨n, rfl, _, hw⟩ := DataW.trod_int ht h
    have hb : 0 ≤ n ∧ n ≤ 255 := by simpa [Lit.wf, IntKind.min, IntKind.max, IntKind.signed, IntKind.bits] using hw
    refine ⟨UInt8.ofNat n.toNat, ?_⟩
    show [Value.int .u8 n] = _
    have : ((UInt8.ofNat n.toNat).toNat : Int) = n := by
      simp [UInt8.toNat_ofNat']; omega
    rw [this]⟩

theorem cells?_some {w : World} {base : Nat} {a : Addr} {n : Nat} {cs : List Value} (h : w.cells? base a n = some cs) :
    cs.length = n ∧ ∀ j v, cs[j]? = some v → w.cell? (a.add j) = some v := by
  unfold World.cells? at h
  split at h
  · have hl := mapM_some_length h
    refine ⟨by simpa using hl, fun j v hv => ?_⟩
    have hj : j < n := by
      have := (List.getElem?_eq_some_iff.1 hv).1
      simp at hl; omega
    rw [mapM_some_get h j j (by simp [hj]), hv]
  · cases h

theorem cell?_spot {w : World} {a : Addr} {v : Value} (h : w.cell? a = some v) : a.spot = none := by
  unfold World.cell? at h
  split at h
  · split at h
    · cases h
    · rename_i hs; simpa using hs
  · cases h

theorem opens_slice {P : Program} {α : Type} {T : Ty α} {t e : TypeId} (ht : P.underlying t = some (.slice e)) (hc : P.cellsOf t = 1) (hE : Opens P T e) (hpos : 0 < T.sz) : Opens P (tSlice T) t :=
  ⟨hc, fun enc w base sp held fuel cs x h => by
    rcases Go.Deep.open_slice ht h with ⟨rfl, _⟩ | ⟨a, len, cap, m, n, D, Pl, rfl, hb, hl, hm, hmm, _, hel⟩
    · exact ⟨[], tSlice_nil T _ w⟩
    · have hlm : len ≤ m := by rw [hmm]; split <;> omega
      have hel' : ∀ i, i < len → ∃ y : α, ∃ ec, w.cells? base (a.add (i * P.cellsOf e)) (P.cellsOf e) = some ec ∧ T.R (Under w.heap.size) w ec y := by
        intro i hi
        obtain ⟨cs', h1, h2⟩ := hel i (by omega)
        obtain ⟨y, hy⟩ := hE.2 enc w base sp held n cs' _ h2
        exact ⟨y, cs', h1, hy⟩
      by_cases h0 : len = 0
      · subst h0
        exact ⟨[], some a, cap, rfl, Nat.zero_le _, hm, (fun h => by cases h), fun h => absurd rfl h⟩
      · obtain ⟨y0, ec0, hc0, hR0⟩ := hel' 0 (by omega)
        have hs0 := cells?_some hc0
        have hl0 : ec0.length = T.sz := T.len hR0
        have hcell0 : ∃ v, w.cell? a = some v := by
          have : 0 < ec0.length := by omega
          have := hs0.2 0 _ (List.getElem?_eq_getElem this)
          refine ⟨_, by simpa [Addr.add] using this⟩
        obtain ⟨v0, hv0⟩ := hcell0
        have hsp := cell?_spot hv0
        obtain ⟨b, off, sp⟩ := a
        simp only at hsp
        subst hsp
        have : ∃ f : Nat → α, ∀ i, i < len → ∃ ec, w.cells? base ((⟨b, off, none⟩ : Addr).add (i * P.cellsOf e)) (P.cellsOf e) = some ec ∧ T.R (Under w.heap.size) w ec (f i) := by
          haveI : Inhabited α := ⟨y0⟩
          exact Go.Deep.choose_lt hel'
        obtain ⟨f, hf⟩ := this
        refine ⟨(List.range len).map f, some ⟨b, off, none⟩, cap, by simp, by simpa using hl, hm, (fun h => by cases h), fun _ => ⟨b, off, rfl, World.block_lt_of_cell? w _ hv0, fun i y hy => ?_⟩⟩
        have hi : i < len := by
          have := (List.getElem?_eq_some_iff.1 hy).1
          simpa using this
        obtain ⟨ec, h1, h2⟩ := hf i hi
        have hyi : y = f i := by simpa [hi] using hy.symm
        subst hyi
        refine ⟨ec, fun j v hv => ?_, h2⟩
        have := (cells?_some h1).2 j v hv
        rw [hE.1] at this
        rw [Go.Deep.add_add] at this
        unfold Addr.add at this
        split at this
        · rename_i h00
          have e1 : i * T.sz = 0 := by omega
          have e2 : j = 0 := by omega
          rw [e1, e2]; exact this
        · simpa [Nat.add_assoc] using this⟩

end Go.Proofs.Ytckhbfbbpdjmdaa
