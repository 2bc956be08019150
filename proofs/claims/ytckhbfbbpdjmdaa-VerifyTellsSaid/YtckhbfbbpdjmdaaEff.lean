/- The operations' effects, as the model has them: each abstract operation stands for the model's own. -/
import Derived.Test.YtckhbfbbpdjmdaaAop
import Derived.Test.YtckhbfbbpdjmdaaFlow
import Derived.Deep.Slices
import Derived.Laws.IdiomCopy
namespace Go.Proofs.Ytckhbfbbpdjmdaa
open Go Go.RowKit

def kindOf : TypeDesc → AK
  | .bool => .bool
  | .int k => .int k
  | .string => .str
  | .pointer _ => .ptr
  | .slice e => .slice e
  | .array n e => .array n e
  | .struct fs => .struct (fs.toList.map fun f => (f.type, f.offset))
  | .map k e => .map k e
  | .func _ _ _ => .func
  | _ => .other
def aggVal : Value → Bool
  | .agg _ => true
  | _ => false
/-- What the program says of a type. -/
def atOf (P : Program) (t : Nat) : Option AT :=
  match P.info? t, P.underlying t with
  | some i, some d => match i.zero with
    | some z => if aggVal z = (kindOf d).isAgg ∧ z.cells.size = i.size then some ⟨kindOf d, i.size, i.bytes, z.cells.toList.map AV.ofScalar⟩ else none
    | none => none
  | _, _ => none
def TOk (P : Program) (T : Nat → Option AT) : Prop := ∀ t a, T t = some a → atOf P t = some a

structure AtOk (P : Program) (t : Nat) (a : AT) (i : TypeInfo) (d : TypeDesc) (z : Value) : Prop where
  info : P.info? t = some i
  und : P.underlying t = some d
  kind : kindOf d = a.kind
  size : i.size = a.size
  bytes : i.bytes = a.bytes
  zero : i.zero = some z
  cells : a.zero = z.cells.toList.map AV.ofScalar
  agg : aggVal z = a.kind.isAgg
  len : a.zero.length = a.size
theorem TOk.at {P : Program} {T : Nat → Option AT} (h : TOk P T) {t : Nat} {a : AT} (ht : T t = some a) : ∃ i d z, AtOk P t a i d z := by
  have := h t a ht
  unfold atOf at this
  split at this
  · rename_i i d hi hd
    split at this
    · rename_i z hz
      split at this
      · rename_i hagg
        obtain rfl := Option.some.inj this
        exact ⟨i, d, z, hi, hd, rfl, rfl, rfl, hz, rfl, hagg.1, by simpa using hagg.2⟩
      · cases this
    · cases this
  · cases this

theorem vrel_scalar (K : KHeap) (ρ : Nat → Loc) (A : Nat → Prop) (v : Value) : VRel K ρ A (AV.ofScalar v) v := by
  unfold AV.ofScalar
  split
  all_goals first | exact .junk _ | skip
  · exact .int _ _
  · exact .bool _
  · rename_i s
    have := VRel.str (K := K) (ρ := ρ) (A := A) s.data.toList
    simpa using this
  · exact .nilp
  · exact .nils
  · exact .nilm
  · exact .nilf
theorem vrel_const (K : KHeap) (ρ : Nat → Loc) (A : Nat → Prop) (v : Value) : VRel K ρ A (AV.ofConst v) v := by
  unfold AV.ofConst
  split
  · rename_i cs
    refine .agg _ _ (by simp) fun j v c hv hc => ?_
    simp only [List.getElem?_map, Array.getElem?_toList, hc, Option.map_some, Option.some.injEq] at hv
    subst hv
    exact vrel_scalar _ _ _ _
  · rename_i cs
    refine .tup _ _ (by simp) fun j v c hv hc => ?_
    simp only [List.getElem?_map, Array.getElem?_toList, hc, Option.map_some, Option.some.injEq] at hv
    subst hv
    exact vrel_scalar _ _ _ _
  · exact vrel_scalar _ _ _ _

def APost (A : Nat → Prop) (ρ : Nat → Loc) (H : Heap) (w : World) (v : AV) (fr : List Nat) (D : Delta) : Value → World → Prop := fun cv w' =>
  ∃ ρ', Sim (fun x => A x ∨ x ∈ fr) ρ' (H.apply D) w' ∧ VRel (Kof ρ' (H.apply D) w') ρ' (fun x => A x ∨ x ∈ fr) v cv ∧ Fr A ρ H w (fun x => A x ∨ x ∈ fr) ρ' (H.apply D) w'

/-- An operation's effect, at whatever heap that agrees with H0 where it looks. -/
def Eff (P : Program) (o : Oper) (e : Operand → AV) (H0 : Heap) (rd fr : List Nat) (D : Delta) (v : AV) : Prop :=
  ∀ (A : Nat → Prop) (ρ : Nat → Loc) (H : Heap) (w : World) (ev : Operand → Value), Sim A ρ H w → (∀ x ∈ o.op.operands.toList, VRel (Kof ρ H w) ρ A (e x) (ev x)) →
    (∀ g ∈ rd, H g = H0 g) → (∀ g ∈ fr, ¬ A g) → flowUpon P (APost A ρ H w v fr D) ((execOp ev o).run P w)

theorem or_nil (A : Nat → Prop) : (fun x => A x ∨ x ∈ ([] : List Nat)) = A := by funext x; simp
theorem or_one (A : Nat → Prop) (g : Nat) : (fun x => A x ∨ x ∈ [g]) = (fun x => A x ∨ x = g) := by funext x; simp

theorem APost.quiet {A : Nat → Prop} {ρ : Nat → Loc} {H : Heap} {w : World} {v : AV} {cv : Value} (s : Sim A ρ H w) (h : VRel (Kof ρ H w) ρ A v cv) : APost A ρ H w v [] [] cv w :=
  ⟨ρ, by rw [or_nil]; exact s, by rw [or_nil]; exact h, by rw [or_nil]; exact Fr.refl _ _ _ _⟩

theorem flow_val {P : Program} {R : Value → World → Prop} {s : Sem Value} {w w' : World} {cv : Value} (h : s.run P w = .ok cv w') (hR : R cv w') :
    flowUpon P R ((do pure (Next.value (← s)) : Sem Next).run P w) := by
  simp only [Sem.run_bind, Sem.run_pure, h, Result.andThen_ok, flowUpon]; exact hR
theorem flow_unit {P : Program} {R : Value → World → Prop} {s : Sem Unit} {w w' : World} (h : s.run P w = .ok () w') (hR : R undef w') :
    flowUpon P R ((do s; pure Next.skip : Sem Next).run P w) := by
  simp only [Sem.run_bind, Sem.run_pure, h, Result.andThen_ok, flowUpon]; exact hR

section
variable {P : Program} {o : Oper} {e : Operand → AV} {H0 : Heap} {v : AV}

theorem Eff.pure (h : ∀ (K : KHeap) (ρ : Nat → Loc) (A : Nat → Prop) (w : World) (ev : Operand → Value), (∀ x ∈ o.op.operands.toList, VRel K ρ A (e x) (ev x)) →
    ∃ cv, (execOp ev o).run P w = .ok (.value cv) w ∧ VRel K ρ A v cv) : Eff P o e H0 [] [] [] v := by
  intro A ρ H w ev s hv _ _
  obtain ⟨cv, hr, hR⟩ := h _ ρ A w ev hv
  rw [hr]
  exact APost.quiet s hR
theorem Eff.read {rd : List Nat} (h : ∀ (A : Nat → Prop) (ρ : Nat → Loc) (H : Heap) (w : World) (ev : Operand → Value), Sim A ρ H w → (∀ x ∈ o.op.operands.toList, VRel (Kof ρ H w) ρ A (e x) (ev x)) → (∀ g ∈ rd, H g = H0 g) →
    ∃ cv, (execOp ev o).run P w = .ok (.value cv) w ∧ VRel (Kof ρ H w) ρ A v cv) : Eff P o e H0 rd [] [] v := by
  intro A ρ H w ev s hv hrd _
  obtain ⟨cv, hr, hR⟩ := h A ρ H w ev s hv hrd
  rw [hr]
  exact APost.quiet s hR
theorem Eff.new {rd : List Nat} {g : Nat} {ob : AObj} (h : ∀ (A : Nat → Prop) (ρ : Nat → Loc) (H : Heap) (w : World) (ev : Operand → Value), Sim A ρ H w → (∀ x ∈ o.op.operands.toList, VRel (Kof ρ H w) ρ A (e x) (ev x)) → (∀ g ∈ rd, H g = H0 g) →
    ∃ cv co l w', (execOp ev o).run P w = .ok (.value cv) w' ∧ w'.heap = (w.alloc co).heap ∧ w'.os = w.os ∧ w'.tape = w.tape ∧ w'.output = w.output ∧ l.block = w.heap.size ∧ (∀ w', w'.heap[w.heap.size]? = some co → ObjRel (Kof ρ H w) ρ A w' l ob) ∧
      (∀ (K : KHeap) ρ' (A' : Nat → Prop), ρ' g = l → A' g → VRel K ρ' A' v cv)) : Eff P o e H0 rd [g] [(g, some ob)] v := by
  intro A ρ H w ev s hv hrd hfr
  obtain ⟨cv, co, l, w', hr, hh, h1, h2, h3, hl, ho, hR⟩ := h A ρ H w ev s hv hrd
  rw [hr]
  obtain ⟨s', f'⟩ := s.alloc (hfr g (by simp)) ob co l hl ho
  refine ⟨fun x => if x = g then l else ρ x, ?_, ?_, ?_⟩
  · rw [or_one]; exact s'.heap hh
  · exact hR _ _ _ (if_pos rfl) (.inr (by simp))
  · rw [or_one]
    exact ⟨f'.agree, fun b ox hb => by rw [show Kof _ (H.apply [(g, some ob)]) w' = _ from Kof_heap hh]; exact f'.k b _ hb, h1, h2, h3, by rw [hh]; exact f'.size⟩

/-- A pointer's cells. -/
theorem rdp_spec {A : Nat → Prop} {ρ : Nat → Loc} {H : Heap} {w : World} {p : AV} {c : Value} {cells : List AV} {off : Nat} {rd : List Nat} (s : Sim A ρ H w) (hp : VRel (Kof ρ H w) ρ A p c)
    (h : rdp H0 p = some (cells, off, rd)) (hrd : ∀ g ∈ rd, H g = H0 g) :
    ∃ b q, c = .pointer (some ⟨b, q + off, none⟩) ∧ ∀ (j : Nat) v, cells[j]? = some v → ∃ cv, w.cell? ⟨b, q + j, none⟩ = some cv ∧ VRel (Kof ρ H w) ρ A v cv := by
  unfold rdp at h
  split at h
  · rename_i g off'
    split at h
    · rename_i sz cells' hg
      simp only [Option.some.injEq, Prod.mk.injEq] at h
      obtain ⟨rfl, rfl, rfl⟩ := h
      have hH : H g = some (.row sz cells') := by rw [hrd g (by simp)]; exact hg
      cases hp with
      | ptr _ _ a hA ha =>
        subst ha
        obtain ⟨c, el, lo, hi, h1, h2, h3, h4, h5, h6⟩ := s.obj g _ hH
        refine ⟨(ρ g).block, (ρ g).base, rfl, fun j v hv => ?_⟩
        obtain ⟨cv, hc, hR⟩ := h6 j v hv
        exact ⟨cv, by simp only [World.cell?, h1]; simpa using hc, hR⟩
    · cases h
  · rename_i cs off'
    simp only [Option.some.injEq, Prod.mk.injEq] at h
    obtain ⟨rfl, rfl, rfl⟩ := h
    cases hp with
    | rop _ _ b p a C ha h2 h3 =>
      subst ha
      refine ⟨b, p, rfl, fun j v hv => ⟨C j, ?_, h3 j v hv⟩⟩
      have := h2 j v hv
      unfold kcell at this
      split at this
      · rename_i c el fr hK
        have := (Kof_some.1 hK).2
        simp only [World.cell?, this]
        simpa using ‹c[p + j]? = some (C j)›
      · cases this
  · cases h

theorem add_addr (b o i : Nat) : (⟨b, o, none⟩ : Addr).add i = ⟨b, o + i, none⟩ := by unfold Addr.add; split <;> simp_all

theorem isAgg_of {d : TypeDesc} {k : AK} (h : kindOf d = k) : (match d with | .struct _ | .array _ _ => true | _ => false) = k.isAgg := by
  subst h; cases d <;> rfl
theorem run_isAgg_of {t : Nat} {a : AT} {i : TypeInfo} {d : TypeDesc} {z : Value} (h : AtOk P t a i d z) (w : World) : (Go.isAgg t).run P w = .ok a.kind.isAgg w := by
  unfold Go.isAgg
  simp only [Sem.run_bind, run_underlying h.und, Result.andThen_ok, ← isAgg_of h.kind]
  cases d <;> rfl
theorem run_sizeOf_of {t : Nat} {a : AT} {i : TypeInfo} {d : TypeDesc} {z : Value} (h : AtOk P t a i d z) (w : World) : (sizeOf t).run P w = .ok a.size w := by
  simp [sizeOf, typeInfo, program, Sem.run_bind, Sem.run, h.info, h.size]

/-- Cells that lie in memory, taken as one value. -/
theorem run_loadVar_of {t : Nat} {a : AT} {i : TypeInfo} {d : TypeDesc} {z : Value} (h : AtOk P t a i d z) {A : Nat → Prop} {ρ : Nat → Loc} {K : KHeap} {w : World} {cells : List AV} {off b q : Nat} {v : AV}
    (hc : ∀ (j : Nat) v, cells[j]? = some v → ∃ cv, w.cell? ⟨b, q + j, none⟩ = some cv ∧ VRel K ρ A v cv) (hl : ldv a.kind.isAgg a.size cells off = some v) :
    ∃ cv, (loadVar t ⟨b, q + off, none⟩).run P w = .ok cv w ∧ VRel K ρ A v cv := by
  unfold ldv at hl
  unfold loadVar
  simp only [Sem.run_bind, run_isAgg_of h, Result.andThen_ok]
  cases hag : a.kind.isAgg with
  | true =>
    simp only [hag, cond_true] at hl
    split at hl
    · rename_i hle
      obtain rfl := Option.some.inj hl
      have hex : ∀ j, j < a.size → ∃ cv, w.cell? ⟨b, q + off + j, none⟩ = some cv ∧ ∃ x, cells[off + j]? = some x ∧ VRel K ρ A x cv := by
        intro j hj
        have hlt : off + j < cells.length := by omega
        obtain ⟨cv, h1, h2⟩ := hc (off + j) _ (List.getElem?_eq_getElem hlt)
        exact ⟨cv, by rw [Nat.add_assoc]; exact h1, _, List.getElem?_eq_getElem hlt, h2⟩
      obtain ⟨f, hf⟩ : ∃ f : Nat → Value, ∀ j, j < a.size → w.cell? ⟨b, q + off + j, none⟩ = some (f j) ∧ ∃ x, cells[off + j]? = some x ∧ VRel K ρ A x (f j) := by
        haveI : Inhabited Value := ⟨undef⟩
        exact Go.Deep.choose_lt hex
      have hrun := run_loadCells (P := P) w ⟨b, q + off, none⟩ a.size f (fun j hj => by rw [add_addr]; exact (hf j hj).1)
      simp only [Sem.run_bind, run_sizeOf_of h, Result.andThen_ok, if_true, hrun, Sem.run_pure]
      refine ⟨_, rfl, .agg _ _ (by simp; omega) fun j x c hx hc => ?_⟩
      have hj : j < a.size := by
        have := (Array.getElem?_eq_some_iff.1 hc).1
        simpa using this
      obtain ⟨_, y, hy, hR⟩ := hf j hj
      have e1 : c = f j := by
        have : (((List.range a.size).map f).toArray)[j]? = some (f j) := by simp [hj]
        rw [this] at hc; exact (Option.some.inj hc).symm
      have e2 : x = y := by
        rw [List.getElem?_take, if_pos hj, List.getElem?_drop, hy] at hx
        exact (Option.some.inj hx).symm
      rw [e1, e2]; exact hR
    · cases hl
  | false =>
    simp only [hag, cond_false] at hl
    obtain ⟨cv, h1, h2⟩ := hc off v hl
    refine ⟨cv, ?_, h2⟩
    simp only [Bool.false_eq_true, if_false, run_load, h1]

theorem eff_load {t : Nat} {a : AT} {i : TypeInfo} {d : TypeDesc} {z : Value} (h : AtOk P t a i d z) {p : Operand} (ho : o.op = .load t p) {k : Kt} (hk : LOAD a.kind.isAgg a.size (e p) H0 k) :
    ∃ v rd, Eff P o e H0 rd [] [] v ∧ k v rd [] [] := by
  unfold LOAD at hk
  split at hk
  · rename_i cells off rd hrd
    split at hk
    · rename_i v hv
      refine ⟨v, rd, Eff.read fun A ρ H w ev s hx hH => ?_, hk⟩
      have hp := hx p (by rw [ho]; simp [Op.operands])
      obtain ⟨b, q, he, hc⟩ := rdp_spec s hp hrd hH
      obtain ⟨cv, hr, hR⟩ := run_loadVar_of h hc hv
      refine ⟨cv, ?_, hR⟩
      simp only [execOp, ho, Instr.loadAt, he, Instr.sureAddr, Sem.run_bind, Sem.run_pure, Result.andThen_ok, hr]
    · exact hk.elim
  · exact hk.elim
end
end Go.Proofs.Ytckhbfbbpdjmdaa
