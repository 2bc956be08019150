/- The operations' effects, on: aggregates, addresses, lengths, stores. -/
import Derived.Test.YtckhbfbbpdjmdaaEff2
namespace Go.Proofs.Ytckhbfbbpdjmdaa
open Go Go.RowKit

section
variable {P : Program} {T : Nat → Option AT} {o : Oper} {e : Operand → AV} {H0 : Heap}

theorem struct_und {t : Nat} {fs : List (Nat × Nat)} {s b : Nat} {z0 : List AV} {i : TypeInfo} {d : TypeDesc} {z : Value} (h : AtOk P t ⟨.struct fs, s, b, z0⟩ i d z) :
    ∃ fields : Array Field, P.underlying t = some (.struct fields) ∧ fs = fields.toList.map fun f => (f.type, f.offset) := by
  have hk := h.kind
  cases d <;> simp only [kindOf] at hk <;> cases hk
  exact ⟨_, h.und, rfl⟩
theorem slice_und {t el : Nat} {s b : Nat} {z0 : List AV} {i : TypeInfo} {d : TypeDesc} {z : Value} (h : AtOk P t ⟨.slice el, s, b, z0⟩ i d z) : P.underlying t = some (.slice el) := by
  have hk := h.kind
  cases d <;> simp only [kindOf] at hk <;> cases hk
  exact h.und
theorem array_und {t n el : Nat} {s b : Nat} {z0 : List AV} {i : TypeInfo} {d : TypeDesc} {z : Value} (h : AtOk P t ⟨.array n el, s, b, z0⟩ i d z) : P.underlying t = some (.array n el) := by
  have hk := h.kind
  cases d <;> simp only [kindOf] at hk <;> cases hk
  exact h.und
theorem str_und {t : Nat} {s b : Nat} {z0 : List AV} {i : TypeInfo} {d : TypeDesc} {z : Value} (h : AtOk P t ⟨.str, s, b, z0⟩ i d z) : P.underlying t = some .string := by
  have hk := h.kind
  cases d <;> simp only [kindOf] at hk <;> cases hk
  exact h.und
theorem int_und {t : Nat} {k : IntKind} {s b : Nat} {z0 : List AV} {i : TypeInfo} {d : TypeDesc} {z : Value} (h : AtOk P t ⟨.int k, s, b, z0⟩ i d z) : P.underlying t = some (.int k) := by
  have hk := h.kind
  cases d <;> simp only [kindOf] at hk <;> cases hk
  exact h.und
theorem map_und {t k el : Nat} {s b : Nat} {z0 : List AV} {i : TypeInfo} {d : TypeDesc} {z : Value} (h : AtOk P t ⟨.map k el, s, b, z0⟩ i d z) : P.underlying t = some (.map k el) := by
  have hk := h.kind
  cases d <;> simp only [kindOf] at hk <;> cases hk
  exact h.und

theorem sizeT_pos (hT : TOk P T) {t : Nat} (h : sizeT T t ≠ 0) (w : World) : (sizeOf t).run P w = .ok (sizeT T t) w := by
  unfold sizeT at *
  cases ht : T t with
  | none => rw [ht] at h; simp at h
  | some a => obtain ⟨i, d, z, ha⟩ := hT.at ht; exact run_sizeOf_of ha w

theorem eff_faddr (hT : TOk P T) {t f off sz : Nat} {x : Operand} {fs : List (Nat × Nat)} {s b : Nat} {z0 : List AV} {i : TypeInfo} {d : TypeDesc} {z : Value} (h : AtOk P t ⟨.struct fs, s, b, z0⟩ i d z)
    (hp : placeOf T fs f = some (off, sz)) (hsz : sz ≠ 0) (ho : o.op = .fieldAddr t x f) {k : Kt} (hk : FADDR off (e x) k) : ∃ v rd, Eff P o e H0 rd [] [] v ∧ k v rd [] [] := by
  obtain ⟨fields, hu, rfl⟩ := struct_und h
  unfold placeOf at hp
  split at hp
  · rename_i ft fo hf
    simp only [Option.some.injEq, Prod.mk.injEq] at hp
    obtain ⟨rfl, rfl⟩ := hp
    simp only [List.getElem?_map, Option.map_eq_some_iff, Array.getElem?_toList, Prod.mk.injEq] at hf
    obtain ⟨fl, hfl, rfl, rfl⟩ := hf
    have hso := fun w => sizeT_pos hT hsz w
    have key : ∀ (a : Addr) (w : World) (ev : Operand → Value), ev x = .pointer (some a) → (execOp ev o).run P w = .ok (.value (.pointer (some (a.add fl.offset)))) w := by
      intro a w ev hev
      simp [execOp, ho, Instr.fieldAt, hev, Instr.sureAddr, fieldPlace, Sem.run_bind, Sem.run_pure, run_underlying hu, hfl, hso, hsz]
    unfold FADDR at hk
    split at hk
    · rename_i g q hx
      refine eff_pure_k hk fun K ρ A w ev hr => ?_
      have h1 := hr x (by simp [Op.operands, ho])
      rw [hx] at h1
      generalize hcv : ev x = cv at h1
      cases h1 with
      | ptr _ _ a hA ha =>
        subst ha
        exact ⟨_, key _ w ev hcv, .ptr _ _ _ hA (by rw [add_addr, Nat.add_assoc])⟩
    · rename_i cs q hx
      refine eff_pure_k hk fun K ρ A w ev hr => ?_
      have h1 := hr x (by simp [Op.operands, ho])
      rw [hx] at h1
      generalize hcv : ev x = cv at h1
      cases h1 with
      | rop _ _ b p a C ha h2 h3 =>
        subst ha
        exact ⟨_, key _ w ev hcv, .rop _ _ b p _ C (by rw [add_addr, Nat.add_assoc]) h2 h3⟩
    · exact hk.elim
  · cases hp

/-- A part of an aggregate. -/
theorem run_part_of {t : Nat} {a : AT} {i : TypeInfo} {d : TypeDesc} {z : Value} (h : AtOk P t a i d z) {K : KHeap} {ρ : Nat → Loc} {A : Nat → Prop} {w : World} {cells : List AV} {cs : Array Value} {off : Nat} {v : AV}
    (hc : LRel K ρ A cells cs.toList) (hl : ldv a.kind.isAgg a.size cells off = some v) : ∃ cv, (Go.part t cs off).run P w = .ok cv w ∧ VRel K ρ A v cv := by
  unfold ldv at hl
  unfold Go.part
  simp only [Sem.run_bind, run_isAgg_of h, Result.andThen_ok]
  cases hag : a.kind.isAgg with
  | true =>
    simp only [hag, cond_true] at hl
    split at hl
    · obtain rfl := Option.some.inj hl
      simp only [Sem.run_bind, run_sizeOf_of h, Result.andThen_ok, if_true, Sem.run_pure]
      refine ⟨_, rfl, LRel.agg ?_⟩
      rw [Array.toList_extract]
      simp only [List.extract_eq_drop_take']
      rw [List.drop_take, show off + a.size - off = a.size by omega]
      exact (hc.drop off).take a.size
    · cases hl
  | false =>
    simp only [hag, cond_false] at hl
    obtain ⟨c, h1, h2⟩ := hc.get hl
    simp only [Array.getElem?_toList] at h1
    exact ⟨c, by simp [h1, Sem.run_pure], h2⟩

theorem eff_field {t ft f off : Nat} {a : AT} {x : Operand} {fs : List (Nat × Nat)} {s b : Nat} {z0 : List AV} {i i' : TypeInfo} {d d' : TypeDesc} {z z' : Value} (h : AtOk P t ⟨.struct fs, s, b, z0⟩ i d z)
    (hf : fs[f]? = some (ft, off)) (ha : AtOk P ft a i' d' z') (ho : o.op = .field t x f) {k : Kt} (hk : FIELD a.kind.isAgg a.size off (e x) k) : ∃ v rd, Eff P o e H0 rd [] [] v ∧ k v rd [] [] := by
  obtain ⟨fields, hu, rfl⟩ := struct_und h
  simp only [List.getElem?_map, Option.map_eq_some_iff, Array.getElem?_toList, Prod.mk.injEq] at hf
  obtain ⟨fl, hfl, rfl, rfl⟩ := hf
  unfold FIELD at hk
  split at hk
  · rename_i cs hx
    split at hk
    · rename_i v hv
      refine eff_pure_k hk fun K ρ A w ev hr => ?_
      have h1 := hr x (by simp [Op.operands, ho])
      rw [hx] at h1
      generalize hcv : ev x = cv at h1
      cases h1 with
      | agg _ vs hl hR =>
        obtain ⟨u, hrun, hu2⟩ := run_part_of (P := P) (w := w) ha (K := K) (ρ := ρ) (A := A) (cells := cs) (cs := vs) ⟨by simpa using hl, fun j v c h1 h2 => hR j v c h1 (by simpa using h2)⟩ hv
        refine ⟨u, ?_, hu2⟩
        simp [execOp, ho, Instr.field, hcv, asAgg, Sem.run_bind, Sem.run_pure, run_underlying hu, hfl, hrun]
    · exact hk.elim
  · exact hk.elim

theorem eff_aindex {t el n : Nat} {a : AT} {x ix : Operand} {s b : Nat} {z0 : List AV} {i i' : TypeInfo} {d d' : TypeDesc} {z z' : Value} (h : AtOk P t ⟨.array n el, s, b, z0⟩ i d z)
    (ha : AtOk P el a i' d' z') (ho : o.op = .index t x ix) {k : Kt} (hk : AINDEX a.kind.isAgg a.size n (e x) (e ix) k) : ∃ v rd, Eff P o e H0 rd [] [] v ∧ k v rd [] [] := by
  have hu := array_und h
  unfold AINDEX at hk
  split at hk
  · rename_i ki m hix
    obtain ⟨h0, h1, hk⟩ := hk
    unfold FIELD at hk
    split at hk
    · rename_i cs hx
      split at hk
      · rename_i v hv
        refine eff_pure_k hk fun K ρ A w ev hr => ?_
        have r1 := hr x (by simp [Op.operands, ho])
        have r2 := hr ix (by simp [Op.operands, ho])
        rw [hx] at r1
        rw [hix] at r2
        generalize hcv : ev x = cv at r1
        generalize hci : ev ix = ci at r2
        cases r2
        cases r1 with
        | agg _ vs hl hR =>
          obtain ⟨u, hrun, hu2⟩ := run_part_of (P := P) (w := w) ha (K := K) (ρ := ρ) (A := A) (cells := cs) (cs := vs) ⟨by simpa using hl, fun j v c h1 h2 => hR j v c h1 (by simpa using h2)⟩ hv
          refine ⟨u, ?_, hu2⟩
          simp [execOp, ho, Instr.index, hcv, hci, asIntOf, Sem.run_bind, Sem.run_pure, run_underlying hu, h0, h1, run_sizeOf_of ha, hrun]
      · exact hk.elim
    · exact hk.elim
  · exact hk.elim

theorem eff_index {t : Nat} {x ix : Operand} {s b : Nat} {z0 : List AV} {i : TypeInfo} {d : TypeDesc} {z : Value} (h : AtOk P t ⟨.str, s, b, z0⟩ i d z) (ho : o.op = .index t x ix) {k : Kt} (hk : INDEX (e x) (e ix) k) :
    ∃ v rd, Eff P o e H0 rd [] [] v ∧ k v rd [] [] := by
  have hu := str_und h
  unfold INDEX at hk
  split at hk
  · rename_i ki m hix
    split at hk
    · rename_i l hx
      obtain ⟨h0, h1, hk⟩ := hk
      refine eff_pure_k hk fun K ρ A w ev hr => ?_
      have r1 := hr x (by simp [Op.operands, ho])
      have r2 := hr ix (by simp [Op.operands, ho])
      rw [hx] at r1
      rw [hix] at r2
      generalize hcv : ev x = cv at r1
      generalize hci : ev ix = ci at r2
      cases r2
      cases r1
      have hlt : m.toNat < l.length := by omega
      have hget : (ByteArray.mk l.toArray)[m.toNat]? = some l[m.toNat] := by
        rw [getElem?_pos (ByteArray.mk l.toArray) m.toNat (by show m.toNat < l.toArray.size; simpa using hlt)]
        rfl
      refine ⟨.int .u8 (l[m.toNat].toNat : Int), ?_, ?_⟩
      · simp [execOp, ho, Instr.index, hcv, hci, asIntOf, Sem.run_bind, Sem.run_pure, run_underlying hu, h0, hget]
      · rw [List.getD_eq_getElem?_getD, List.getElem?_eq_getElem hlt]
        exact .int _ _
    · exact hk.elim
  · exact hk.elim


theorem eff_lens {t : Nat} {x : Operand} {s b : Nat} {z0 : List AV} {i : TypeInfo} {d : TypeDesc} {z : Value} (h : AtOk P t ⟨.str, s, b, z0⟩ i d z) (ho : o.op = .call { callee := .builtin .len, args := #[x], argTypes := #[t] }) {k : Kt}
    (hk : LENS (e x) k) : ∃ v rd, Eff P o e H0 rd [] [] v ∧ k v rd [] [] := by
  have hu := str_und h
  unfold LENS at hk
  split at hk
  · rename_i l hx
    refine eff_pure_k hk fun K ρ A w ev hr => ?_
    have r1 := hr x (by simp [Op.operands, Call.operands, ho])
    rw [hx] at r1
    generalize hcv : ev x = cv at r1
    cases r1
    refine ⟨.int .i64 (l.length : Int), ?_, .int _ _⟩
    simp only [execOp, ho, resolve, invoke, builtin, Sem.run_bind, Sem.run_pure, Result.andThen_ok, List.map_toArray, List.map_cons, List.map_nil, hcv]
    have hsz : (ByteArray.mk l.toArray).size = l.length := by show l.toArray.size = _; simp
    simp [Builtin.len_, Sem.run_bind, Sem.run_pure, run_underlying hu, goInt, hsz]
  · exact hk.elim
theorem eff_lenl {t el : Nat} {x : Operand} {s b : Nat} {z0 : List AV} {i : TypeInfo} {d : TypeDesc} {z : Value} (h : AtOk P t ⟨.slice el, s, b, z0⟩ i d z) (ho : o.op = .call { callee := .builtin .len, args := #[x], argTypes := #[t] }) {k : Kt}
    (hk : LENL (e x) k) : ∃ v rd, Eff P o e H0 rd [] [] v ∧ k v rd [] [] := by
  have hu := slice_und h
  have key : ∀ (w : World) (ev : Operand → Value) a n c, ev x = .slice a n c → (execOp ev o).run P w = .ok (.value (.int .i64 (n : Int))) w := by
    intro w ev a n c hcv
    simp only [execOp, ho, resolve, invoke, builtin, Sem.run_bind, Sem.run_pure, Result.andThen_ok, List.map_toArray, List.map_cons, List.map_nil, hcv]
    simp [Builtin.len_, Sem.run_bind, Sem.run_pure, run_underlying hu, goInt]
  unfold LENL at hk
  split at hk
  all_goals first | exact hk.elim | skip
  all_goals
    rename_i hx
    refine eff_pure_k hk fun K ρ A w ev hr => ?_
    have r1 := hr x (by simp [Op.operands, Call.operands, ho])
    rw [hx] at r1
    generalize hcv : ev x = cv at r1
  · cases r1; exact ⟨_, key w ev _ _ _ hcv, .int _ _⟩
  · cases r1; exact ⟨_, key w ev _ _ _ hcv, .int _ _⟩
  · cases r1; exact ⟨_, key w ev _ _ _ hcv, .int _ _⟩
  · cases r1 with
    | ro _ a len cap sz b off C h1 h2 h3 h4 h5 h6 => subst h1; exact ⟨_, key w ev _ _ _ hcv, .int _ _⟩

theorem eff_lenm {t el kt : Nat} {x : Operand} {s b : Nat} {z0 : List AV} {i : TypeInfo} {d : TypeDesc} {z : Value} (h : AtOk P t ⟨.map kt el, s, b, z0⟩ i d z) (ho : o.op = .call { callee := .builtin .len, args := #[x], argTypes := #[t] }) {k : Kt}
    (hk : LENM (e x) H0 k) : ∃ v rd, Eff P o e H0 rd [] [] v ∧ k v rd [] [] := by
  have hu := map_und h
  unfold LENM at hk
  split at hk
  · rename_i hx
    refine eff_pure_k hk fun K ρ A w ev hr => ?_
    have r1 := hr x (by simp [Op.operands, Call.operands, ho])
    rw [hx] at r1
    generalize hcv : ev x = cv at r1
    cases r1
    refine ⟨.int .i64 0, ?_, .int _ _⟩
    simp only [execOp, ho, resolve, invoke, builtin, Sem.run_bind, Sem.run_pure, Result.andThen_ok, List.map_toArray, List.map_cons, List.map_nil, hcv]
    simp [Builtin.len_, Sem.run_bind, Sem.run_pure, run_underlying hu, goInt]
  · rename_i g hx
    split at hk
    · rename_i es hg
      refine ⟨_, _, Eff.read fun A ρ H w ev s hr hrd => ?_, hk⟩
      have r1 := hr x (by simp [Op.operands, Call.operands, ho])
      rw [hx] at r1
      generalize hcv : ev x = cv at r1
      cases r1 with
      | amap _ r hA hrr =>
        subst hrr
        obtain ⟨en, cl, h1, h2, h3⟩ := s.obj g _ (by rw [hrd g (by simp)]; exact hg)
        refine ⟨.int .i64 (en.size : Int), ?_, by rw [h2]; exact .int _ _⟩
        simp only [execOp, ho, resolve, invoke, builtin, Sem.run_bind, Sem.run_pure, Result.andThen_ok, List.map_toArray, List.map_cons, List.map_nil, hcv]
        simp [Builtin.len_, Sem.run_bind, Sem.run_pure, run_underlying hu, goInt, getObj, Sem.run, h1]
    · exact hk.elim
  · exact hk.elim

theorem getD_lt {xs : List (List AV)} {i : Nat} (h : i < xs.length) : xs[i]? = some (xs.getD i []) := by
  rw [List.getD_eq_getElem?_getD, List.getElem?_eq_getElem h]; rfl

theorem eff_iaddr (hT : TOk P T) {t el : Nat} {x ix : Operand} {s b : Nat} {z0 : List AV} {i : TypeInfo} {d : TypeDesc} {z : Value} (h : AtOk P t ⟨.slice el, s, b, z0⟩ i d z) (hsz : sizeT T el ≠ 0) (ho : o.op = .indexAddr t x ix) {k : Kt}
    (hk : IADDR (sizeT T el) (e x) (e ix) k) : ∃ v rd, Eff P o e H0 rd [] [] v ∧ k v rd [] [] := by
  have hu := slice_und h
  have hso := fun w => sizeT_pos hT hsz w
  have key : ∀ (w : World) (ev : Operand → Value) a n c ki m, ev x = .slice (some a) n c → ev ix = .int ki m → 0 ≤ m → m < n → (execOp ev o).run P w = .ok (.value (.pointer (some (a.add (m.toNat * sizeT T el))))) w := by
    intro w ev a n c ki m hcv hci h0 h1
    simp [execOp, ho, Instr.indexAt, hcv, hci, asIntOf, Sem.run_bind, Sem.run_pure, run_underlying hu, h0, h1, hso]
  unfold IADDR at hk
  split at hk
  · rename_i ki m hix
    split at hk
    · rename_i g off len hx
      obtain ⟨h0, h1, hk⟩ := hk
      refine eff_pure_k hk fun K ρ A w ev hr => ?_
      have r1 := hr x (by simp [Op.operands, ho])
      have r2 := hr ix (by simp [Op.operands, ho])
      rw [hx] at r1
      rw [hix] at r2
      generalize hcv : ev x = cv at r1
      generalize hci : ev ix = ci at r2
      cases r2
      cases r1 with
      | slc _ _ _ cap a hA hle hcap =>
        obtain ⟨_, rfl⟩ := hcap (by omega)
        exact ⟨_, key w ev _ _ _ _ _ hcv hci h0 h1, .ptr _ _ _ hA (by rw [add_addr, Nat.add_assoc])⟩
    · rename_i xs hx
      obtain ⟨h0, h1, h2, hk⟩ := hk
      have hlt : m.toNat < xs.length := by omega
      have hget := getD_lt hlt
      refine eff_pure_k hk fun K ρ A w ev hr => ?_
      have r1 := hr x (by simp [Op.operands, ho])
      have r2 := hr ix (by simp [Op.operands, ho])
      rw [hx] at r1
      rw [hix] at r2
      generalize hcv : ev x = cv at r1
      generalize hci : ev ix = ci at r2
      cases r2
      cases r1 with
      | ro _ a len cap sz b off C e1 e2 e3 e4 e5 e6 =>
        subst e1
        have hne : xs ≠ [] := by intro h; rw [h] at hlt; simp at hlt
        obtain rfl := e3 hne
        have hs : sz = sizeT T el := by rw [← h2]; exact (e4 _ (List.mem_of_getElem? hget)).symm
        subst hs
        exact ⟨_, key w ev _ _ _ _ _ hcv hci h0 h1, .rop _ 0 b (off + m.toNat * sizeT T el) _ (C m.toNat) (by rw [add_addr, Nat.add_zero]) (fun j v hv => e5 _ _ j v hget hv) (fun j v hv => e6 _ _ j v hget hv)⟩
    · exact hk.elim
  · exact hk.elim

theorem eff_aaddr (hT : TOk P T) {t el n : Nat} {x ix : Operand} {s b : Nat} {z0 : List AV} {i : TypeInfo} {d : TypeDesc} {z : Value} (h : AtOk P t ⟨.array n el, s, b, z0⟩ i d z) (hsz : sizeT T el ≠ 0) (ho : o.op = .indexAddr t x ix) {k : Kt}
    (hk : AADDR (sizeT T el) n (e x) (e ix) k) : ∃ v rd, Eff P o e H0 rd [] [] v ∧ k v rd [] [] := by
  have hu := array_und h
  have hso := fun w => sizeT_pos hT hsz w
  have key : ∀ (w : World) (ev : Operand → Value) a ki m, ev x = .pointer (some a) → ev ix = .int ki m → 0 ≤ m → m < n → (execOp ev o).run P w = .ok (.value (.pointer (some (a.add (m.toNat * sizeT T el))))) w := by
    intro w ev a ki m hcv hci h0 h1
    simp [execOp, ho, Instr.indexAt, hcv, hci, asIntOf, Instr.sureAddr, Sem.run_bind, Sem.run_pure, run_underlying hu, h0, h1, hso]
  unfold AADDR at hk
  split at hk
  · rename_i ki m hix
    obtain ⟨h0, h1, hk⟩ := hk
    split at hk
    · rename_i g off hx
      refine eff_pure_k hk fun K ρ A w ev hr => ?_
      have r1 := hr x (by simp [Op.operands, ho])
      have r2 := hr ix (by simp [Op.operands, ho])
      rw [hx] at r1
      rw [hix] at r2
      generalize hcv : ev x = cv at r1
      generalize hci : ev ix = ci at r2
      cases r2
      cases r1 with
      | ptr _ _ a hA ha =>
        subst ha
        exact ⟨_, key w ev _ _ _ hcv hci h0 h1, .ptr _ _ _ hA (by rw [add_addr, Nat.add_assoc])⟩
    · rename_i cs off hx
      refine eff_pure_k hk fun K ρ A w ev hr => ?_
      have r1 := hr x (by simp [Op.operands, ho])
      have r2 := hr ix (by simp [Op.operands, ho])
      rw [hx] at r1
      rw [hix] at r2
      generalize hcv : ev x = cv at r1
      generalize hci : ev ix = ci at r2
      cases r2
      cases r1 with
      | rop _ _ b p a C ha e5 e6 =>
        subst ha
        exact ⟨_, key w ev _ _ _ hcv hci h0 h1, .rop _ _ b p _ C (by rw [add_addr, Nat.add_assoc]) e5 e6⟩
    · exact hk.elim
  · exact hk.elim

theorem parts_rel {K : KHeap} {ρ : Nat → Loc} {A : Nat → Prop} {ev : Operand → Value} {ps : Array (Nat × Operand)} (h : ∀ x ∈ (ps.toList.map (·.2)), VRel K ρ A (e x) (ev x)) :
    (ps.toList.map fun p => (p.1, e p.2)).length = ((ps.map fun p => (p.1, ev p.2)).toList).length ∧
    ∀ (j : Nat) p q, (ps.toList.map fun p => (p.1, e p.2))[j]? = some p → ((ps.map fun p => (p.1, ev p.2)).toList)[j]? = some q → p.1 = q.1 ∧ VRel K ρ A p.2 q.2 := by
  refine ⟨by simp, fun j p q hp hq => ?_⟩
  simp only [Array.toList_map, List.getElem?_map, Option.map_eq_some_iff] at hp hq
  obtain ⟨x, hx, rfl⟩ := hp
  obtain ⟨y, hy, rfl⟩ := hq
  rw [hx] at hy
  obtain rfl := Option.some.inj hy
  exact ⟨rfl, h _ (List.mem_map.2 ⟨x, List.mem_of_getElem? hx, rfl⟩)⟩

theorem run_zeroValue_of {t : Nat} {a : AT} {i : TypeInfo} {d : TypeDesc} {z : Value} (h : AtOk P t a i d z) (w : World) : (zeroValue t).run P w = .ok z w := by
  simp [zeroValue, typeInfo, program, Sem.run_bind, Sem.run, h.info, h.zero]

theorem eff_build_arr (hT : TOk P T) {t el n : Nat} {ps : Array (Nat × Operand)} {s b : Nat} {z0 : List AV} {i : TypeInfo} {d : TypeDesc} {z : Value} (h : AtOk P t ⟨.array n el, s, b, z0⟩ i d z) (hsz : sizeT T el ≠ 0) (ho : o.op = .build t ps) {k : Kt}
    (hk : BUILD (fun i => some (i * sizeT T el, sizeT T el)) z0 (ps.toList.map fun p => (p.1, e p.2)) k) : ∃ v rd, Eff P o e H0 rd [] [] v ∧ k v rd [] [] := by
  have hu := array_und h
  have hso := fun w => sizeT_pos hT hsz w
  unfold BUILD at hk
  split at hk
  · rename_i cells hf
    refine eff_pure_k hk fun K ρ A w ev hr => ?_
    obtain ⟨p1, p2⟩ := parts_rel (K := K) (ρ := ρ) (A := A) (ev := ev) (e := e) (ps := ps) (fun x hx => hr x (by simpa [Op.operands, ho] using hx))
    obtain ⟨rc, hrc, hR⟩ := fill_rel _ _ z0 z.cells cells p1 p2 (by have := h.cells; simp only at this; rw [this]; exact LRel.scalars _) hf
    refine ⟨.agg rc, ?_, LRel.agg hR⟩
    simp [execOp, ho, Instr.build, Sem.run_bind, Sem.run_pure, run_underlying hu, run_zeroValue_of h, hso]
    simp at hrc
    simp [hrc, Sem.run_pure]
  · exact hk.elim
end
end Go.Proofs.Ytckhbfbbpdjmdaa
