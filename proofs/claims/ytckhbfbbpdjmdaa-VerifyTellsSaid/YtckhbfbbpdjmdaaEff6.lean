/- The operations' effects, on: slices made and cut, maps. -/
import Derived.Test.YtckhbfbbpdjmdaaEff5
import Derived.IntWalk
namespace Go.Proofs.Ytckhbfbbpdjmdaa
open Go Go.RowKit

section
variable {P : Program} {T : Nat → Option AT} {o : Oper} {e : Operand → AV} {H0 : Heap}

theorem run_askRoom {n : Nat} (h : n ≤ 140737488355328) (w : World) : (askRoom n).run P w = .ok () w := by
  unfold askRoom roomBytes
  rw [if_neg (by omega)]
  rfl

theorem eff_make {t el : Nat} {a : AT} {l c : Operand} {s b : Nat} {z0 : List AV} {i i' : TypeInfo} {d d' : TypeDesc} {z z' : Value} (h : AtOk P t ⟨.slice el, s, b, z0⟩ i d z) (ha : AtOk P el a i' d' z')
    (hzl : a.zero.length = a.size) (hpos : 0 < a.size) (ho : o.op = .makeSlice t l c) {nx : Nat} {k : Kt}
    (hk : MAKE a.size a.bytes a.zero (e l) (e c) nx k) : ∃ v rd cells, Eff P o e H0 rd [nx] [(nx, some (.row a.size cells))] v ∧ k v rd [nx] [(nx, some (.row a.size cells))] := by
  have hu := slice_und h
  unfold MAKE at hk
  split at hk
  · rename_i k1 n k2 m hl hc
    obtain ⟨rfl, h0, hn47, hnb, hk⟩ := hk
    obtain ⟨v, rd, h1, h2⟩ : ∃ v rd, Eff P o e H0 rd [nx] [(nx, some (.row a.size (List.replicate m.toNat a.zero).flatten))] v ∧ k v rd [nx] [(nx, some (.row a.size (List.replicate m.toNat a.zero).flatten))] := by
      refine eff_row hk fun A ρ H w ev s hr => ?_
      have r1 := hr l (by simp [Op.operands, ho])
      have r2 := hr c (by simp [Op.operands, ho])
      rw [hl] at r1
      rw [hc] at r2
      generalize hcv : ev l = cl at r1
      generalize hcw : ev c = cc at r2
      cases r1
      cases r2
      have hw : IntKind.i64.wrap m = m := IntWalk.i64_in _ (by omega)
      have hb : a.bytes * m ≤ 140737488355328 := by
        have e1 : (m.toNat * a.bytes : Nat) ≤ 140737488355328 := hnb
        have e2 : ((m.toNat * a.bytes : Nat) : Int) = a.bytes * m := by
          rw [Int.natCast_mul, Int.toNat_of_nonneg h0, Int.mul_comm]
        omega
      refine ⟨.slice (some ⟨w.heap.size, 0, none⟩) m.toNat m.toNat, (Array.range (m.toNat * a.size)).map (z'.cells[· % z'.cells.size]!), el, ?_, ?_, fun K ρ' A' g1 g2 => vrel_slc0 (by simp) (Nat.le_refl _) K ρ' A' g1 g2⟩
      · have hinfo : ∀ w : World, (typeInfo el).run P w = .ok i' w := fun w => by simp [typeInfo, program, Sem.run_bind, Sem.run, ha.info]
        have hcond : ((decide (m < 0) || decide ((a.bytes : Int) * m > 2 ^ 48)) || decide (m < 0) || decide (m > m)) = false := by
          simp
          omega
        simp only [execOp, ho, Instr.makeSlice, hcv, hcw, Sem.run_bind, run_underlying hu, Result.andThen_ok, asInt, asIntOf, Sem.run_pure, hinfo, hw, ha.bytes]
        simp only [hcond, Bool.false_eq_true, if_false, Sem.run_bind, Result.andThen_ok, run_askRoom hnb, run_sizeOf_of ha]
        by_cases hz : m.toNat * a.size = 0
        · have hr0 : (Array.range (m.toNat * a.size)).map (fun x => (#[] : Array Value)[x % (#[] : Array Value).size]!) = (Array.range (m.toNat * a.size)).map (z'.cells[· % z'.cells.size]!) := by simp [hz]
          simp only [if_pos hz, Sem.run_pure, Sem.run_bind, Result.andThen_ok, hr0, newRow, newObj]
          rfl
        · simp only [if_neg hz, Sem.run_pure, Sem.run_bind, Result.andThen_ok, run_zeroValue_of ha, newRow, newObj]
          rfl
      · rw [zero_rows z'.cells m.toNat a.size (by rw [ha.zsize, hzl]) hpos, ha.cells]
        exact (LRel.scalars _).replicate _
    exact ⟨v, rd, _, h1, h2⟩
  · exact hk.elim

theorem run_sliceBound {k : IntKind} {n : Int} {y : Nat} {code : BoundsCode} (h0 : 0 ≤ n) (h1 : n ≤ y) (w : World) : (Instr.sliceBound (.int k n) y code).run P w = .ok n.toNat w := by
  simp [Instr.sliceBound, asIntOf, Sem.run_bind, Sem.run_pure, h0, h1]

theorem run_bounds {isS : Bool} {len cap : Nat} {lo hi : Option AV} {clo chi : Option Value} {K : KHeap} {ρ : Nat → Loc} {A : Nat → Prop} {a b : Int}
    (hlo : ∀ x, lo = some x → ∃ c, clo = some c ∧ VRel K ρ A x c) (hlo' : lo = none → clo = none) (hhi : ∀ x, hi = some x → ∃ c, chi = some c ∧ VRel K ρ A x c) (hhi' : hi = none → chi = none)
    (h : lohi lo hi len = some (a, b)) (h0 : 0 ≤ a) (h1 : a ≤ b) (h2 : b ≤ len) (h3 : len ≤ cap) (w : World) :
    (Instr.sliceBounds isS len cap clo chi none).run P w = .ok (a.toNat, b.toNat, cap) w := by
  unfold lohi at h
  have hb : ∀ (k : IntKind) (n : Int) (y : Nat) code, 0 ≤ n → n ≤ y → (Instr.sliceBound (.int k n) y code).run P w = .ok n.toNat w := fun k n y code p q => run_sliceBound p q w
  split at h
  · simp only [Option.some.injEq, Prod.mk.injEq] at h
    obtain ⟨rfl, rfl⟩ := h
    rw [hlo' rfl, hhi' rfl]
    simp [Instr.sliceBounds, Sem.run_bind, Sem.run_pure]
  · rename_i k n
    simp only [Option.some.injEq, Prod.mk.injEq] at h
    obtain ⟨rfl, rfl⟩ := h
    obtain ⟨c, rfl, hc⟩ := hlo _ rfl
    cases hc
    rw [hhi' rfl]
    simp [Instr.sliceBounds, Sem.run_bind, Sem.run_pure, hb, h0, h1]
  · rename_i k n
    simp only [Option.some.injEq, Prod.mk.injEq] at h
    obtain ⟨rfl, rfl⟩ := h
    obtain ⟨c, rfl, hc⟩ := hhi _ rfl
    cases hc
    rw [hlo' rfl]
    have : n ≤ cap := by omega
    simp [Instr.sliceBounds, Sem.run_bind, Sem.run_pure, hb, h1, this]
  · rename_i k n k' n'
    simp only [Option.some.injEq, Prod.mk.injEq] at h
    obtain ⟨rfl, rfl⟩ := h
    obtain ⟨c, rfl, hc⟩ := hlo _ rfl
    cases hc
    obtain ⟨c, rfl, hc⟩ := hhi _ rfl
    cases hc
    have g1 : n' ≤ cap := by omega
    have g2 : 0 ≤ n' := by omega
    have g3 : n ≤ (n'.toNat : Nat) := by omega
    have g4 := hb k n n'.toNat .sliceB h0 g3
    simp [Instr.sliceBounds, Sem.run_bind, Sem.run_pure, hb, g1, g2, g4]
  · cases h

theorem opt_rel {lo : Option Operand} {K : KHeap} {ρ : Nat → Loc} {A : Nat → Prop} {ev : Operand → Value} (h : ∀ x, lo = some x → VRel K ρ A (e x) (ev x)) :
    (∀ x, lo.map e = some x → ∃ c, lo.map ev = some c ∧ VRel K ρ A x c) ∧ (lo.map e = none → lo.map ev = none) := by
  cases lo with
  | none => exact ⟨fun x h => by simp at h, fun _ => rfl⟩
  | some y => exact ⟨fun x hx => ⟨ev y, rfl, by simp at hx; subst hx; exact h y rfl⟩, fun h => by simp at h⟩

theorem eff_slice_str {t : Nat} {x : Operand} {lo hi : Option Operand} {s b : Nat} {z0 : List AV} {i : TypeInfo} {d : TypeDesc} {z : Value} (h : AtOk P t ⟨.str, s, b, z0⟩ i d z) (ho : o.op = .slice t x lo hi none) {k : Kt}
    (hk : SLICES (e x) (lo.map e) (hi.map e) k) : ∃ v rd, Eff P o e H0 rd [] [] v ∧ k v rd [] [] := by
  have hu := str_und h
  unfold SLICES at hk
  split at hk
  rotate_left
  · exact hk.elim
  rename_i l hx
  split at hk
  · rename_i a b' hl
    obtain ⟨h0, h1, h2, hk⟩ := hk
    refine eff_pure_k hk fun K ρ A w ev hr => ?_
    have r1 := hr x (by simp [Op.operands, ho])
    rw [hx] at r1
    generalize hcv : ev x = cv at r1
    cases r1
    obtain ⟨q1, q2⟩ := opt_rel (e := e) (K := K) (ρ := ρ) (A := A) (ev := ev) (lo := lo) fun y hy => hr y (by simp [Op.operands, ho, hy])
    obtain ⟨q3, q4⟩ := opt_rel (e := e) (K := K) (ρ := ρ) (A := A) (ev := ev) (lo := hi) fun y hy => hr y (by simp [Op.operands, ho, hy])
    have hsz : (ByteArray.mk l.toArray).size = l.length := by show l.toArray.size = _; simp
    have hrun := run_bounds (P := P) (isS := false) q1 q2 q3 q4 hl h0 h1 h2 (Nat.le_refl _) w
    refine ⟨.string ⟨((l.take b'.toNat).drop a.toNat).toArray⟩, ?_, .str _⟩
    have hext : (ByteArray.mk l.toArray).extract a.toNat b'.toNat = ⟨((l.take b'.toNat).drop a.toNat).toArray⟩ := by
      apply ByteArray.ext
      simp [ByteArray.data_extract, List.extract_toArray, List.extract_eq_drop_take']
    simp [execOp, ho, hcv, Instr.sliceAt, Instr.slice, Sem.run_bind, Sem.run_pure, run_underlying hu, hsz, hrun, hext]
  · exact hk.elim

theorem eff_slice (hT : TOk P T) {t el : Nat} {x : Operand} {lo hi : Option Operand} {s b : Nat} {z0 : List AV} {i : TypeInfo} {d : TypeDesc} {z : Value} (h : AtOk P t ⟨.slice el, s, b, z0⟩ i d z) (hsz : sizeT T el ≠ 0) (ho : o.op = .slice t x lo hi none) {k : Kt}
    (hk : SLICE (sizeT T el) (e x) (lo.map e) (hi.map e) H0 k) : ∃ v rd, Eff P o e H0 rd [] [] v ∧ k v rd [] [] := by
  have hu := slice_und h
  have hso := fun w => sizeT_pos hT hsz w
  have key : ∀ (K : KHeap) (ρ : Nat → Loc) (A : Nat → Prop) (w : World) (ev : Operand → Value) ad n c a b', (∀ y ∈ o.op.operands.toList, VRel K ρ A (e y) (ev y)) → ev x = .slice ad n c → lohi (lo.map e) (hi.map e) n = some (a, b') → 0 ≤ a → a ≤ b' → b' ≤ n → n ≤ c →
      (execOp ev o).run P w = .ok (.value (.slice (if c = a.toNat then ad else ad.map (·.add (a.toNat * sizeT T el))) (b'.toNat - a.toNat) (c - a.toNat))) w := by
    intro K ρ A w ev ad n c a b' hr hcv hl h0 h1 h2 h3
    obtain ⟨q1, q2⟩ := opt_rel (e := e) (K := K) (ρ := ρ) (A := A) (ev := ev) (lo := lo) fun y hy => hr y (by simp [Op.operands, ho, hy])
    obtain ⟨q3, q4⟩ := opt_rel (e := e) (K := K) (ρ := ρ) (A := A) (ev := ev) (lo := hi) fun y hy => hr y (by simp [Op.operands, ho, hy])
    have hrun := run_bounds (P := P) (isS := true) q1 q2 q3 q4 hl h0 h1 h2 h3 w
    simp [execOp, ho, hcv, Instr.sliceAt, Instr.slice, Sem.run_bind, Sem.run_pure, run_underlying hu, hso, hrun]
  generalize hxe : e x = xv at hk
  cases xv <;> simp only [SLICE] at hk
  all_goals first | exact hk.elim | skip
  case nils =>
    split at hk
    · rename_i a b' hl
      obtain ⟨rfl, rfl, hk⟩ := hk
      refine eff_pure_k hk fun K ρ A w ev hr => ?_
      have r1 := hr x (by simp [Op.operands, ho])
      rw [hxe] at r1
      generalize hcv : ev x = cv at r1
      cases r1
      exact ⟨_, key K ρ A w ev _ _ _ _ _ hr hcv hl (by omega) (by omega) (by simp) (by simp), by simpa using VRel.nils⟩
    · exact hk.elim
  case zs =>
    split at hk
    · rename_i a b' hl
      obtain ⟨rfl, rfl, hk⟩ := hk
      refine eff_pure_k hk fun K ρ A w ev hr => ?_
      have r1 := hr x (by simp [Op.operands, ho])
      rw [hxe] at r1
      generalize hcv : ev x = cv at r1
      cases r1
      exact ⟨_, key K ρ A w ev _ _ _ _ _ hr hcv hl (by omega) (by omega) (by simp) (by simp), by simpa using VRel.zs _⟩
    · exact hk.elim
  case ro xs =>
    split at hk
    · rename_i a b' hl
      obtain ⟨h0, h1, h2, hall, hk⟩ := hk
      refine eff_pure_k hk fun K ρ A w ev hr => ?_
      have r1 := hr x (by simp [Op.operands, ho])
      rw [hxe] at r1
      generalize hcv : ev x = cv at r1
      cases r1 with
      | ro _ ad len cap sz b off C e1 e2 e3 e4 e5 e6 =>
        subst e1
        refine ⟨_, key K ρ A w ev _ _ _ _ _ hr hcv hl h0 h1 h2 e2, ?_⟩
        have hlen : ((xs.take b'.toNat).drop a.toNat).length = b'.toNat - a.toNat := by simp; omega
        have hel : ∀ (j : Nat) (y : List AV), ((xs.take b'.toNat).drop a.toNat)[j]? = some y → xs[a.toNat + j]? = some y := by
          intro j y hy
          rw [List.getElem?_drop, List.getElem?_take] at hy
          split at hy
          · exact hy
          · cases hy
        refine .ro _ _ _ _ sz b (off + a.toNat * sz) (fun i j => C (a.toNat + i) j) hlen.symm (by omega) (fun hne => ?_) (fun y hy => e4 y (List.mem_of_mem_take (List.mem_of_mem_drop hy))) (fun i y j v hy hv => ?_) (fun i y j v hy hv => e6 _ _ j v (hel i y hy) hv)
        · have hpos : a.toNat < cap := by
            have : 0 < ((xs.take b'.toNat).drop a.toNat).length := List.length_pos_iff.2 hne
            omega
          have hxne : xs ≠ [] := by
            intro h; subst h; simp at hne
          obtain rfl := e3 hxne
          have hs : sz = sizeT T el := by
            obtain ⟨y, hy⟩ := List.exists_mem_of_ne_nil _ hxne
            rw [← e4 y hy]; exact hall y hy
          rw [if_neg (by omega)]
          simp only [Option.map_some, add_addr, hs]
        · have := e5 _ _ j v (hel i y hy) hv
          rw [Nat.add_mul] at this
          rw [← this]; congr 1; omega
    · exact hk.elim
  case slc g off len =>
    split at hk
    · rename_i a b' hl
      split at hk
      · rename_i sz cells hg
        obtain ⟨rfl, h0, h1, h2, hk⟩ := hk
        refine ⟨_, _, Eff.read fun A ρ H w ev s hr hrd => ?_, hk⟩
        have hH : H g = some (.row (sizeT T el) cells) := by rw [hrd g (by simp)]; exact hg
        have r1 := hr x (by simp [Op.operands, ho])
        rw [hxe] at r1
        generalize hcv : ev x = cv at r1
        cases r1 with
        | slc _ _ _ cap ad hA hle hcap =>
          obtain ⟨c, el', lo', hi', _, _, _, hs, _, _⟩ := s.obj g _ hH
          refine ⟨_, key _ ρ A w ev _ _ _ _ _ hr hcv hl h0 h1 h2 hle, ?_⟩
          have e1 : b'.toNat - a.toNat = (b' - a).toNat := by omega
          rw [e1]
          refine .slc g _ _ _ _ hA (by omega) fun hc => ?_
          obtain ⟨q1, rfl⟩ := hcap (by omega)
          rw [if_neg (by omega), ← hs]
          rw [← hs] at q1
          refine ⟨?_, by simp only [Option.map_some, add_addr, Nat.add_assoc]⟩
          have : cap * sizeT T el = a.toNat * sizeT T el + (cap - a.toNat) * sizeT T el := by rw [← Nat.add_mul]; congr 1; omega
          omega
      · exact hk.elim
    · exact hk.elim

theorem eff_slice0 (hT : TOk P T) {t el : Nat} {x lo hi mx : Operand} {s b : Nat} {z0 : List AV} {i : TypeInfo} {d : TypeDesc} {z : Value} (h : AtOk P t ⟨.slice el, s, b, z0⟩ i d z) (hsz : sizeT T el ≠ 0) (ho : o.op = .slice t x (some lo) (some hi) (some mx)) {k : Kt}
    (hk : SLICE0 (e x) (e lo) (e hi) (e mx) k) : ∃ v rd, Eff P o e H0 rd [] [] v ∧ k v rd [] [] := by
  have hu := slice_und h
  have hso := fun w => sizeT_pos hT hsz w
  have key : ∀ (w : World) (ev : Operand → Value) ad n c k1 k2 k3, ev x = .slice ad n c → ev lo = .int k1 0 → ev hi = .int k2 0 → ev mx = .int k3 0 → ∃ ad', (execOp ev o).run P w = .ok (.value (.slice ad' 0 0)) w ∧ (ad = none → ad' = none) := by
    intro w ev ad n c k1 k2 k3 hcv e1 e2 e3
    refine ⟨ad, ?_, id⟩
    have hb : ∀ (y : Nat) (kk : IntKind) code (w : World), (Instr.sliceBound (.int kk 0) y code).run P w = .ok 0 w := fun y kk code w => by have := run_sliceBound (P := P) (k := kk) (n := 0) (y := y) (code := code) (by omega) (by omega) w; simpa using this
    simp only [execOp, ho, hcv, e1, e2, e3, Instr.sliceAt, Instr.slice, Option.map_some, Sem.run_bind, Sem.run_pure, run_underlying hu, hso, Result.andThen_ok, Instr.sliceBounds, hb]
    simp
  unfold SLICE0 at hk
  split at hk
  · rename_i k1 n1 k2 n2 k3 n3 q1 q2 q3
    obtain ⟨rfl, rfl, rfl, hk⟩ := hk
    split at hk
    · rename_i hxe
      refine eff_pure_k hk fun K ρ A w ev hr => ?_
      have r0 := hr x (by simp [Op.operands, ho])
      have r1 := hr lo (by simp [Op.operands, ho])
      have r2 := hr hi (by simp [Op.operands, ho])
      have r3 := hr mx (by simp [Op.operands, ho])
      rw [hxe] at r0; rw [q1] at r1; rw [q2] at r2; rw [q3] at r3
      generalize c0 : ev x = v0 at r0
      generalize c1 : ev lo = v1 at r1
      generalize c2 : ev hi = v2 at r2
      generalize c3 : ev mx = v3 at r3
      cases r1; cases r2; cases r3; cases r0
      obtain ⟨ad', hrun, hn⟩ := key w ev _ _ _ _ _ _ c0 c1 c2 c3
      rw [hn rfl] at hrun
      exact ⟨_, hrun, .nils⟩
    · rename_i hxe
      refine eff_pure_k hk fun K ρ A w ev hr => ?_
      have r0 := hr x (by simp [Op.operands, ho])
      have r1 := hr lo (by simp [Op.operands, ho])
      have r2 := hr hi (by simp [Op.operands, ho])
      have r3 := hr mx (by simp [Op.operands, ho])
      rw [hxe] at r0; rw [q1] at r1; rw [q2] at r2; rw [q3] at r3
      generalize c0 : ev x = v0 at r0
      generalize c1 : ev lo = v1 at r1
      generalize c2 : ev hi = v2 at r2
      generalize c3 : ev mx = v3 at r3
      cases r1; cases r2; cases r3; cases r0
      obtain ⟨ad', hrun, hn⟩ := key w ev _ _ _ _ _ _ c0 c1 c2 c3
      exact ⟨_, hrun, .zs _⟩
    · rename_i xs hxe
      refine eff_pure_k hk fun K ρ A w ev hr => ?_
      have r0 := hr x (by simp [Op.operands, ho])
      have r1 := hr lo (by simp [Op.operands, ho])
      have r2 := hr hi (by simp [Op.operands, ho])
      have r3 := hr mx (by simp [Op.operands, ho])
      rw [hxe] at r0; rw [q1] at r1; rw [q2] at r2; rw [q3] at r3
      generalize c0 : ev x = v0 at r0
      generalize c1 : ev lo = v1 at r1
      generalize c2 : ev hi = v2 at r2
      generalize c3 : ev mx = v3 at r3
      cases r1; cases r2; cases r3; cases r0
      obtain ⟨ad', hrun, hn⟩ := key w ev _ _ _ _ _ _ c0 c1 c2 c3
      exact ⟨_, hrun, .zs _⟩
    · rename_i g off len hxe
      refine eff_pure_k hk fun K ρ A w ev hr => ?_
      have r0 := hr x (by simp [Op.operands, ho])
      have r1 := hr lo (by simp [Op.operands, ho])
      have r2 := hr hi (by simp [Op.operands, ho])
      have r3 := hr mx (by simp [Op.operands, ho])
      rw [hxe] at r0; rw [q1] at r1; rw [q2] at r2; rw [q3] at r3
      generalize c0 : ev x = v0 at r0
      generalize c1 : ev lo = v1 at r1
      generalize c2 : ev hi = v2 at r2
      generalize c3 : ev mx = v3 at r3
      cases r1; cases r2; cases r3; cases r0
      obtain ⟨ad', hrun, hn⟩ := key w ev _ _ _ _ _ _ c0 c1 c2 c3
      exact ⟨_, hrun, .zs _⟩
    · exact hk.elim
  · exact hk.elim
end
end Go.Proofs.Ytckhbfbbpdjmdaa
