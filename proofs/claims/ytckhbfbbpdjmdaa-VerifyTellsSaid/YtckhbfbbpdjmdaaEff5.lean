/- The operations' effects, on: numbers, texts, functions, maps, slices. -/
import Derived.Test.YtckhbfbbpdjmdaaEff4
import Derived.Laws.Strings
namespace Go.Proofs.Ytckhbfbbpdjmdaa
open Go Go.RowKit

section
variable {P : Program} {T : Nat → Option AT} {o : Oper} {e : Operand → AV} {H0 : Heap}

theorem ba_toList (l : List UInt8) : (ByteArray.mk l.toArray).toList = l := by
  rw [ByteArray.toList_eq]

/-- What an operation of two integers gives. -/
def ibinV (op : BinOp) (k : IntKind) (a b : Int) : AV := match op with
  | .add => .int k (k.wrap (a + b))
  | .sub => .int k (k.wrap (a - b))
  | .mul => .int k (k.wrap (a * b))
  | .quo => .int k (k.wrap (a.tdiv b))
  | .rem => .int k (a.tmod b)
  | .shl => .int k (k.wrap (a * 2 ^ (min b.toNat k.bits)))
  | .shr => .int k (a.fdiv (2 ^ (min b.toNat k.bits)))
  | .and | .or | .xor | .andNot => match ibits op k a b with | some r => .int k r | none => .junk
  | .eql | .neq | .lss | .leq | .gtr | .geq => match icmp op a b with | some r => .bool r | none => .junk

theorem run_ibin {op : BinOp} {k : IntKind} {a b : Int} {K : Kt} {yk : IntKind} (hyk : shiftOp op = false → yk = k) (hk : IBIN op k a b K) :
    PURE (ibinV op k a b) K ∧ ∀ (w : World) (t : TypeId), ∃ cv, (binOp op t (.int k a) (.int yk b)).run P w = .ok cv w ∧ ∀ K ρ A, VRel K ρ A (ibinV op k a b) cv := by
  cases op <;> simp only [IBIN, icmp, ibits] at hk
  case add => have := hyk rfl; subst this; exact ⟨hk, fun w t => ⟨_, by simp [binOp, Op.intArith, Sem.run_pure], fun _ _ _ => .int _ _⟩⟩
  case sub => have := hyk rfl; subst this; exact ⟨hk, fun w t => ⟨_, by simp [binOp, Op.intArith, Sem.run_pure], fun _ _ _ => .int _ _⟩⟩
  case mul => have := hyk rfl; subst this; exact ⟨hk, fun w t => ⟨_, by simp [binOp, Op.intArith, Sem.run_pure], fun _ _ _ => .int _ _⟩⟩
  case quo => have := hyk rfl; subst this; exact ⟨hk.2, fun w t => ⟨_, by simp [binOp, Op.intDiv, hk.1, Sem.run_pure], fun _ _ _ => .int _ _⟩⟩
  case rem => have := hyk rfl; subst this; exact ⟨hk.2, fun w t => ⟨_, by simp [binOp, Op.intDiv, hk.1, Sem.run_pure], fun _ _ _ => .int _ _⟩⟩
  case shl =>
    have h0 : ¬ b < 0 := by omega
    exact ⟨hk.2, fun w t => ⟨_, by simp [binOp, Op.shift, h0, Sem.run_pure], fun _ _ _ => .int _ _⟩⟩
  case shr =>
    have h0 : ¬ b < 0 := by omega
    exact ⟨hk.2, fun w t => ⟨_, by simp [binOp, Op.shift, h0, Sem.run_pure], fun _ _ _ => .int _ _⟩⟩
  case and => have := hyk rfl; subst this; exact ⟨hk, fun w t => ⟨_, by simp [binOp, Op.intBits, Sem.run_pure], fun _ _ _ => .int _ _⟩⟩
  case or => have := hyk rfl; subst this; exact ⟨hk, fun w t => ⟨_, by simp [binOp, Op.intBits, Sem.run_pure], fun _ _ _ => .int _ _⟩⟩
  case xor => have := hyk rfl; subst this; exact ⟨hk, fun w t => ⟨_, by simp [binOp, Op.intBits, Sem.run_pure], fun _ _ _ => .int _ _⟩⟩
  case andNot => have := hyk rfl; subst this; exact ⟨hk, fun w t => ⟨_, by simp [binOp, Op.intBits, Sem.run_pure], fun _ _ _ => .int _ _⟩⟩
  all_goals
    have := hyk rfl
    subst this
    exact ⟨hk, fun w t => ⟨_, by simp [binOp, Op.intCmp, Sem.run_pure], fun _ _ _ => .bool _⟩⟩

def sbinV (op : BinOp) (a b : List UInt8) : AV := match op with
  | .add => .str (a ++ b)
  | .eql => .bool (a == b)
  | .neq => .bool (!(a == b))
  | .lss => .bool (Op.bytesLess a b)
  | .leq => .bool (Op.bytesLess a b || a == b)
  | .gtr => .bool (!(Op.bytesLess a b || a == b))
  | .geq => .bool (!Op.bytesLess a b)
  | _ => .junk
theorem run_sbin {op : BinOp} {a b : List UInt8} {K : Kt} (hk : SBIN op a b K) :
    PURE (sbinV op a b) K ∧ ∀ (w : World) (t : TypeId), ∃ cv, (binOp op t (.string ⟨a.toArray⟩) (.string ⟨b.toArray⟩)).run P w = .ok cv w ∧ ∀ K ρ A, VRel K ρ A (sbinV op a b) cv := by
  have ea := ba_toList a
  have eb := ba_toList b
  cases op <;> simp only [SBIN] at hk
  case add =>
    have hs : (⟨a.toArray⟩ : ByteArray) ++ ⟨b.toArray⟩ = ⟨(a ++ b).toArray⟩ := by
      apply ByteArray.ext; simp
    have h1 : (ByteArray.mk a.toArray).size = a.length := by show a.toArray.size = _; simp
    have h2 : (ByteArray.mk b.toArray).size = b.length := by show b.toArray.size = _; simp
    have hmax : IntKind.i64.max = 9223372036854775807 := by decide
    refine ⟨hk.2, fun w t => ⟨_, ?_, fun _ _ _ => .str _⟩⟩
    simp only [binOp, Op.stringOp, h1, h2, hmax]
    rw [if_neg (by omega), hs]
    rfl
  all_goals first | exact hk.elim | exact ⟨hk, fun w t => ⟨_, by simp [binOp, Op.stringOp, ea, eb, Sem.run_pure], fun _ _ _ => .bool _⟩⟩

theorem run_eqGuard_other {op : BinOp} {t : TypeId} {x y : Operand} {a b : Value} (h1 : ¬ (a = .nilIface ∧ b = .nilIface)) (h2 : ∀ xs ys, ¬ (a = .agg xs ∧ b = .agg ys)) (w : World) : (eqGuard op t x y a b).run P w = .ok () w := by
  unfold eqGuard
  cases op <;> try rfl
  all_goals
    cases a <;> first
      | rfl
      | (cases b <;> first
        | rfl
        | exact absurd ⟨rfl, rfl⟩ h1
        | exact absurd ⟨rfl, rfl⟩ (h2 _ _))

/-- How two values of a type are compared, where that is by their cells. -/
def EqTy (P : Program) (t : TypeId) (sz : Nat) : Prop := ∀ (w : World) (K : KHeap) (ρ : Nat → Loc) (A : Nat → Prop) (xs ys : List AV) (cs ds : Array Value) (r : Bool) (x y : Operand) (op : BinOp), LRel K ρ A xs cs.toList → LRel K ρ A ys ds.toList → xs.length = sz → eqCells xs ys = some r →
  (Op.equal t (.agg cs) (.agg ds)).run P w = .ok r w ∧ (eqGuard op t x y (.agg cs) (.agg ds)).run P w = .ok () w

theorem run_bool_eq {t : TypeId} (h : P.underlying t = some .bool) (a b : Bool) (w : World) : (Op.equal t (.bool a) (.bool b)).run P w = .ok (a == b) w := by
  unfold Op.equal Op.maxDepth
  rw [show (10000 : Nat) = 9999 + 1 from rfl, Op.equalIn]
  simp [Sem.run_bind, run_underlying h, Sem.run_pure]


theorem exec_bin {t yt : Nat} {op : BinOp} {x y : Operand} (ho : o.op = .binOp op t x y yt) {a b : Value} (h1 : ¬ (a = .nilIface ∧ b = .nilIface)) (h2 : ∀ xs ys, ¬ (a = .agg xs ∧ b = .agg ys)) {w : World} {cv : Value}
    (hr : (binOp op t a b).run P w = .ok cv w) {ev : Operand → Value} (e1 : ev x = a) (e2 : ev y = b) : (execOp ev o).run P w = .ok (.value cv) w := by
  simp only [execOp, ho, e1, e2, Sem.run_bind, run_eqGuard_other h1 h2, Result.andThen_ok, hr, Sem.run_pure]

theorem eff_bini {t yt : Nat} {op : BinOp} {x y : Operand} (ho : o.op = .binOp op t x y yt) {k : Kt} (hk : BINI op (e x) (e y) k) : ∃ v rd, Eff P o e H0 rd [] [] v ∧ k v rd [] [] := by
  unfold BINI at hk
  split at hk
  · rename_i ki a yk b hx hy
    obtain ⟨hs, hk⟩ := hk
    obtain ⟨hp, hrun⟩ := run_ibin (P := P) hs hk
    refine eff_pure_k hp fun K ρ A w ev hr => ?_
    have r1 := hr x (by simp [Op.operands, ho])
    have r2 := hr y (by simp [Op.operands, ho])
    rw [hx] at r1
    rw [hy] at r2
    generalize hcv : ev x = cx at r1
    generalize hcw : ev y = cy at r2
    cases r1
    cases r2
    obtain ⟨cv, h1, h2⟩ := hrun w t
    exact ⟨cv, exec_bin ho (by rintro ⟨h, _⟩; cases h) (by rintro _ _ ⟨h, _⟩; cases h) h1 hcv hcw, h2 _ _ _⟩
  · exact hk.elim
theorem eff_bins {t yt : Nat} {op : BinOp} {x y : Operand} (ho : o.op = .binOp op t x y yt) {k : Kt} (hk : BINS op (e x) (e y) k) : ∃ v rd, Eff P o e H0 rd [] [] v ∧ k v rd [] [] := by
  unfold BINS at hk
  split at hk
  · rename_i a b hx hy
    obtain ⟨hp, hrun⟩ := run_sbin (P := P) hk
    refine eff_pure_k hp fun K ρ A w ev hr => ?_
    have r1 := hr x (by simp [Op.operands, ho])
    have r2 := hr y (by simp [Op.operands, ho])
    rw [hx] at r1
    rw [hy] at r2
    generalize hcv : ev x = cx at r1
    generalize hcw : ev y = cy at r2
    cases r1
    cases r2
    obtain ⟨cv, h1, h2⟩ := hrun w t
    exact ⟨cv, exec_bin ho (by rintro ⟨h, _⟩; cases h) (by rintro _ _ ⟨h, _⟩; cases h) h1 hcv hcw, h2 _ _ _⟩
  · exact hk.elim
theorem eff_binb {t yt : Nat} {op : BinOp} {x y : Operand} (hu : P.underlying t = some .bool) (ho : o.op = .binOp op t x y yt) {k : Kt} (hk : BINB op (e x) (e y) k) : ∃ v rd, Eff P o e H0 rd [] [] v ∧ k v rd [] [] := by
  unfold BINB at hk
  split at hk
  · rename_i neg hop
    split at hk
    · rename_i a b hx hy
      refine eff_pure_k hk fun K ρ A w ev hr => ?_
      have r1 := hr x (by simp [Op.operands, ho])
      have r2 := hr y (by simp [Op.operands, ho])
      rw [hx] at r1
      rw [hy] at r2
      generalize hcv : ev x = cx at r1
      generalize hcw : ev y = cy at r2
      cases r1
      cases r2
      refine ⟨.bool (neg ^^ (a == b)), exec_bin ho (by rintro ⟨h, _⟩; cases h) (by rintro _ _ ⟨h, _⟩; cases h) ?_ hcv hcw, .bool _⟩
      cases op <;> simp only [eqlOp] at hop <;> cases hop
      · simp [binOp, Sem.run_bind, run_bool_eq hu, Sem.run_pure]
      · simp [binOp, Sem.run_bind, run_bool_eq hu, Sem.run_pure]
    · exact hk.elim
  · exact hk.elim
theorem eff_bina {t yt sz : Nat} {op : BinOp} {x y : Operand} (hE : EqTy P t sz) (ho : o.op = .binOp op t x y yt) {k : Kt} (hk : BINA sz op (e x) (e y) k) : ∃ v rd, Eff P o e H0 rd [] [] v ∧ k v rd [] [] := by
  unfold BINA at hk
  split at hk
  · rename_i neg hop
    split at hk
    · rename_i a b hx hy
      obtain ⟨hlen, hk⟩ := hk
      split at hk
      · rename_i r hcells
        refine eff_pure_k hk fun K ρ A w ev hr => ?_
        have r1 := hr x (by simp [Op.operands, ho])
        have r2 := hr y (by simp [Op.operands, ho])
        rw [hx] at r1
        rw [hy] at r2
        generalize hcv : ev x = cx at r1
        generalize hcw : ev y = cy at r2
        cases r1 with
        | agg _ cs g1 g2 =>
        cases r2 with
        | agg _ ds g3 g4 =>
        obtain ⟨q1, q2⟩ := hE w K ρ A a b cs ds r x y op ⟨by simpa using g1, fun j v c h1 h2 => g2 j v c h1 (by simpa using h2)⟩ ⟨by simpa using g3, fun j v c h1 h2 => g4 j v c h1 (by simpa using h2)⟩ hlen hcells
        refine ⟨.bool (neg ^^ r), ?_, .bool _⟩
        cases op <;> simp only [eqlOp] at hop <;> cases hop
        · simp only [execOp, ho, hcv, hcw, Sem.run_bind, q2, Result.andThen_ok, binOp, q1, Sem.run_pure]; simp
        · simp only [execOp, ho, hcv, hcw, Sem.run_bind, q2, Result.andThen_ok, binOp, q1, Sem.run_pure]; simp
      · exact hk.elim
    · exact hk.elim
  · exact hk.elim

theorem run_ptr_eq {t el : TypeId} (h : P.underlying t = some (.pointer el)) {a b : Option Addr} (hab : a = none ∨ b = none) (w : World) : (Op.equal t (.pointer a) (.pointer b)).run P w = .ok (a.isNone && b.isNone) w := by
  unfold Op.equal Op.maxDepth
  rw [show (10000 : Nat) = 9999 + 1 from rfl, Op.equalIn]
  rcases hab with rfl | rfl
  · simp [Sem.run_bind, run_underlying h, Sem.run_pure]
  · cases a <;> simp [Sem.run_bind, run_underlying h, Sem.run_pure]

theorem nilP_rel {K : KHeap} {ρ : Nat → Loc} {A : Nat → Prop} {v : AV} {c : Value} {r : Bool} (h : VRel K ρ A v c) (hn : nilP v = some r) : ∃ a, c = .pointer a ∧ a.isNone = r := by
  cases h <;> simp only [nilP] at hn <;> cases hn
  · exact ⟨_, rfl, rfl⟩
  · exact ⟨_, rfl, rfl⟩
  · exact ⟨_, rfl, rfl⟩

theorem eff_binp {t yt el : Nat} {op : BinOp} {x y : Operand} (hu : P.underlying t = some (.pointer el)) (ho : o.op = .binOp op t x y yt) {k : Kt} (hk : BINP op (e x) (e y) k) : ∃ v rd, Eff P o e H0 rd [] [] v ∧ k v rd [] [] := by
  have key : ∀ neg r r', eqlOp op = some neg → nilP (e x) = some r → nilP (e y) = some r' → (r = true ∨ r' = true) → PURE (.bool (neg ^^ (r && r'))) k → ∃ v rd, Eff P o e H0 rd [] [] v ∧ k v rd [] [] := by
    intro neg r r' hop h1 h2 h3 hk
    refine eff_pure_k hk fun K ρ A w ev hr => ?_
    obtain ⟨a, ha, har⟩ := nilP_rel (hr x (by simp [Op.operands, ho])) h1
    obtain ⟨b, hb, hbr⟩ := nilP_rel (hr y (by simp [Op.operands, ho])) h2
    have hab : a = none ∨ b = none := by
      rcases h3 with h | h
      · left; rw [h] at har; simpa using har
      · right; rw [h] at hbr; simpa using hbr
    have heq := run_ptr_eq (P := P) hu hab w
    rw [har, hbr] at heq
    refine ⟨.bool (neg ^^ (r && r')), exec_bin ho (by rintro ⟨h, _⟩; cases h) (by rintro _ _ ⟨h, _⟩; cases h) ?_ ha hb, .bool _⟩
    cases op <;> simp only [eqlOp] at hop <;> cases hop
    · simp [binOp, Sem.run_bind, heq, Sem.run_pure]
    · simp [binOp, Sem.run_bind, heq, Sem.run_pure]
  unfold BINP at hk
  split at hk
  · rename_i neg hop
    split at hk
    · rename_i hx
      split at hk
      · rename_i r hr
        exact key neg true r hop (by rw [hx]; rfl) hr (.inl rfl) (by simpa using hk)
      · exact hk.elim
    · have hy : e y = .nilp := by assumption
      split at hk
      · rename_i r hr
        exact key neg r true hop hr (by rw [hy]; rfl) (.inr rfl) (by simpa using hk)
      · exact hk.elim
    · exact hk.elim
  · exact hk.elim

theorem eff_un {t : Nat} {op : UnOp} {x : Operand} (ho : o.op = .unOp op t x) {k : Kt} (hk : UN op (e x) k) : ∃ v rd, Eff P o e H0 rd [] [] v ∧ k v rd [] [] := by
  unfold UN at hk
  split at hk
  · rename_i b hx
    refine eff_pure_k hk fun K ρ A w ev hr => ?_
    have r1 := hr x (by simp [Op.operands, ho])
    rw [hx] at r1
    generalize hcv : ev x = cv at r1
    cases r1
    exact ⟨.bool (!b), by simp [execOp, ho, hcv, Op.unary, Sem.run_pure, Sem.run_bind], .bool _⟩
  · rename_i ki n hx
    refine eff_pure_k hk fun K ρ A w ev hr => ?_
    have r1 := hr x (by simp [Op.operands, ho])
    rw [hx] at r1
    generalize hcv : ev x = cv at r1
    cases r1
    exact ⟨.int ki (ki.wrap (0 - n)), by simp [execOp, ho, hcv, Op.unary, Op.intArith, Sem.run_pure, Sem.run_bind], .int _ _⟩
  · rename_i ki n hx
    simp only [IBIN, ibits] at hk
    refine eff_pure_k hk fun K ρ A w ev hr => ?_
    have r1 := hr x (by simp [Op.operands, ho])
    rw [hx] at r1
    generalize hcv : ev x = cv at r1
    cases r1
    refine ⟨_, ?_, .int _ _⟩
    simp only [execOp, ho, hcv, Op.unary, Op.intBits, Sem.run_pure, Sem.run_bind, Result.andThen_ok]
  · exact hk.elim

theorem eff_convi {ss d : Nat} {kd : IntKind} {x : Operand} {us : TypeDesc} (hs : P.underlying ss = some us) (hd : P.underlying d = some (.int kd)) (ho : o.op = .convert ss d x) {k : Kt} (hk : CONVI kd (e x) k) : ∃ v rd, Eff P o e H0 rd [] [] v ∧ k v rd [] [] := by
  unfold CONVI at hk
  split at hk
  · rename_i ki n hx
    refine eff_pure_k hk fun K ρ A w ev hr => ?_
    have r1 := hr x (by simp [Op.operands, ho])
    rw [hx] at r1
    generalize hcv : ev x = cv at r1
    cases r1
    refine ⟨_, ?_, .int _ _⟩
    simp [execOp, ho, hcv, convert, Conv.intToInt, Sem.run_pure, Sem.run_bind, run_underlying hs, run_underlying hd]
  · exact hk.elim

theorem eff_mkfunc {f : FuncId} {cap : Array Operand} (ho : o.op = .makeFunc (.func f) #[] cap) {k : Kt} (hk : PURE (.clo f (cap.toList.map e)) k) : ∃ v rd, Eff P o e H0 rd [] [] v ∧ k v rd [] [] := by
  refine eff_pure_k hk fun K ρ A w ev hr => ⟨.func (.func f) #[] (cap.map ev), by simp [execOp, ho, Instr.makeFunc, Sem.run_pure, Sem.run_bind], .clo f _ _ (by simp) fun j v c hv hc => ?_⟩
  simp only [List.getElem?_map, Option.map_eq_some_iff, Array.getElem?_map, Array.getElem?_toList] at hv hc
  obtain ⟨x, hx, rfl⟩ := hv
  obtain ⟨y, hy, rfl⟩ := hc
  rw [hx] at hy
  obtain rfl := Option.some.inj hy
  exact hr x (by simp only [Op.operands, ho]; simp; exact Array.mem_of_getElem? hx)

theorem eff_mkmap {t : Nat} (ho : o.op = .makeMap t none) {nx : Nat} {k : Kt} (hk : NEW nx (.mp []) (.amap nx) k) : ∃ v rd, Eff P o e H0 rd [nx] [(nx, some (.mp []))] v ∧ k v rd [nx] [(nx, some (.mp []))] := by
  refine ⟨_, [], Eff.new fun A ρ H w ev s hx _ => ⟨.map (some w.heap.size), .map #[] 0, ⟨w.heap.size, 0, 0, 0⟩, w.alloc (.map #[] 0), ?_, rfl, rfl, rfl, rfl, rfl, fun w' hw => ⟨#[], 0, hw, rfl, fun j kv en h => by simp at h⟩, fun K ρ' A' h1 h2 => .amap _ _ h2 (by rw [h1])⟩, hk⟩
  simp only [execOp, ho, Instr.makeMap, newObj, Option.map_none, Sem.run_bind, Sem.run_pure, Result.andThen_ok]
  rfl
end
end Go.Proofs.Ytckhbfbbpdjmdaa
