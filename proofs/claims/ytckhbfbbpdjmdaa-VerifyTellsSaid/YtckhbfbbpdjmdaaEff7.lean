/- The operations' effects, on: maps' entries, append, copy. -/
import Derived.Test.YtckhbfbbpdjmdaaEff6
namespace Go.Proofs.Ytckhbfbbpdjmdaa
open Go Go.RowKit

section
variable {P : Program} {T : Nat → Option AT} {o : Oper} {e : Operand → AV} {H0 : Heap}

theorem ba_beq (a b : List UInt8) : ((ByteArray.mk a.toArray) == (ByteArray.mk b.toArray)) = (a == b) := by
  show (a.toArray == b.toArray) = _
  simp

/-- A key's kind. -/
def KeyD (d : TypeDesc) : Prop := (∃ k, d = .int k) ∨ d = .string ∨ d = .bool
theorem keyFit_spec {kt : Nat} {a : AT} {i : TypeInfo} {d : TypeDesc} {z : Value} (h : AtOk P kt a i d z) {v : AV} (hf : keyFit a.kind v = true) :
    KeyD d ∧ ∀ (K : KHeap) (ρ : Nat → Loc) (A : Nat → Prop) (c : Value), VRel K ρ A v c → (∀ k n, c = .int k n → ∃ k', d = .int k') ∧ (∀ s, c = .string s → d = .string) ∧ (∀ s, c = .bool s → d = .bool) := by
  have hk := h.kind
  rw [← hk] at hf
  cases v <;> cases d <;> simp only [keyFit, kindOf] at hf <;> first | cases hf | skip
  · exact ⟨.inl ⟨_, rfl⟩, fun K ρ A c hc => by cases hc; exact ⟨fun _ _ _ => ⟨_, rfl⟩, (fun _ h => by cases h), (fun _ h => by cases h)⟩⟩
  · exact ⟨.inr (.inr rfl), fun K ρ A c hc => by cases hc; exact ⟨(fun _ _ h => by cases h), (fun _ h => by cases h), fun _ _ => rfl⟩⟩
  · exact ⟨.inr (.inl rfl), fun K ρ A c hc => by cases hc; exact ⟨(fun _ _ h => by cases h), (fun _ _ => rfl), (fun _ h => by cases h)⟩⟩

theorem run_checkKey {kt : Nat} {d : TypeDesc} (hu : P.underlying kt = some d) (hd : KeyD d) (b : Bool) (v : Value) (w : World) : (Instr.checkKey b 10000 kt v).run P w = .ok () w := by
  rw [show (10000 : Nat) = 9999 + 1 from rfl, Instr.checkKey]
  simp only [Sem.run_bind, run_underlying hu, Result.andThen_ok]
  rcases hd with ⟨k, rfl⟩ | rfl | rfl <;> rfl

theorem sameNow_rel {K : KHeap} {ρ : Nat → Loc} {A : Nat → Prop} {d : TypeDesc} (hd : KeyD d) {x y : AV} {a b : Value} {r : Bool} (hx : VRel K ρ A x a) (hy : VRel K ρ A y b) (h : keyEq x y = some r)
    (hxd : ∀ k n, a = .int k n → ∃ k', d = .int k') (hxs : ∀ s, a = .string s → d = .string) (hxb : ∀ s, a = .bool s → d = .bool) : Instr.sameNow d a b = some r := by
  unfold keyEq at h
  split at h
  · split at h
    · rename_i hk
      subst hk
      cases hx
      cases hy
      obtain ⟨k', rfl⟩ := hxd _ _ rfl
      simpa [Instr.sameNow] using h
    · cases h
  · cases hx
    cases hy
    rw [hxs _ rfl]
    simp only [Option.some.injEq] at h
    subst h
    simp only [Instr.sameNow, ba_beq]
  · cases hx
    cases hy
    rw [hxb _ rfl]
    simpa [Instr.sameNow] using h
  · cases h

theorem findNow_rel {K : KHeap} {ρ : Nat → Loc} {A : Nat → Prop} {d : TypeDesc} (hd : KeyD d) {x : AV} {a : Value} (hx : VRel K ρ A x a)
    (hxd : ∀ k n, a = .int k n → ∃ k', d = .int k') (hxs : ∀ s, a = .string s → d = .string) (hxb : ∀ s, a = .bool s → d = .bool) :
    ∀ (es : List (AV × AV)) (en : List MapEntry) (i : Nat) (r : Option (Nat × AV)), en.length = es.length → (∀ (j : Nat) kv x, es[j]? = some kv → en[j]? = some x → VRel K ρ A kv.1 x.key ∧ VRel K ρ A kv.2 x.val) → findK x es = some r →
      match r with
      | none => Instr.findNow d a en i = some none
      | some (j, v) => ∃ c, Instr.findNow d a en i = some (some (i + j, c)) ∧ VRel K ρ A v c ∧ (∃ kv me, es[j]? = some kv ∧ en[j]? = some me ∧ kv.2 = v ∧ keyEq x kv.1 = some true ∧ VRel K ρ A kv.1 me.key)
  | [], en, i, r, hl, _, h => by
    have : en = [] := List.eq_nil_of_length_eq_zero (by simpa using hl)
    subst this
    simp only [findK, Option.some.injEq] at h
    subst h
    rfl
  | kv :: es, en, i, r, hl, hR, h => by
    obtain ⟨me, en, rfl⟩ : ∃ q s, en = q :: s := by
      cases en with
      | nil => simp at hl
      | cons q s => exact ⟨q, s, rfl⟩
    obtain ⟨r1, r2⟩ := hR 0 _ _ rfl rfl
    simp only [findK] at h
    split at h
    · rename_i hk
      simp only [Option.some.injEq] at h
      subst h
      refine ⟨me.val, ?_, r2, kv, me, rfl, rfl, rfl, hk, r1⟩
      simp only [Instr.findNow, sameNow_rel hd hx r1 hk hxd hxs hxb, Nat.add_zero]
    · rename_i hk
      cases hf : findK x es with
      | none => rw [hf] at h; cases h
      | some r0 =>
        rw [hf] at h
        simp only [Option.map_some, Option.some.injEq] at h
        have ih := findNow_rel hd hx hxd hxs hxb es en (i + 1) r0 (by simpa using hl) (fun j kv x h1 h2 => hR (j + 1) kv x (by simpa using h1) (by simpa using h2)) hf
        subst h
        cases r0 with
        | none =>
          simp only [Option.map_none] at ih ⊢
          simp only [Instr.findNow, sameNow_rel hd hx r1 hk hxd hxs hxb]; exact ih
        | some p =>
          obtain ⟨j, v⟩ := p
          simp only [Option.map_some] at ih ⊢
          obtain ⟨c, q1, q2, kv', me', q3, q4, q5, q6, q7⟩ := ih
          refine ⟨c, ?_, q2, kv', me', by simpa using q3, by simpa using q4, q5, q6, q7⟩
          simp only [Instr.findNow, sameNow_rel hd hx r1 hk hxd hxs hxb, q1]
          congr 3; omega
    · cases h

theorem run_findKey {kt : Nat} {d : TypeDesc} (hu : P.underlying kt = some d) {a : Value} {en : List MapEntry} {r : Option (Nat × Value)} (h : Instr.findNow d a en 0 = some r) (w : World) : (Instr.findKey kt a en).run P w = .ok r w := by
  unfold Instr.findKey
  simp only [Sem.run_bind, run_underlying hu, Result.andThen_ok, h, Sem.run_pure]


theorem eff_look {t kt el : Nat} {a ka : AT} {m key : Operand} {ok : Bool} {s b : Nat} {z0 : List AV} {i i' i'' : TypeInfo} {d d' d'' : TypeDesc} {z z' z'' : Value} (h : AtOk P t ⟨.map kt el, s, b, z0⟩ i d z) (ha : AtOk P el a i' d' z') (hka : AtOk P kt ka i'' d'' z'')
    (hfit : keyFit ka.kind (e key) = true) (hzl : a.kind.isAgg = false → a.zero.length = 1) (ho : o.op = .lookup t m key ok) {k : Kt} (hk : LOOK a.zero a.kind.isAgg (e m) (e key) ok H0 k) : ∃ v rd, Eff P o e H0 rd [] [] v ∧ k v rd [] [] := by
  have hu := map_und h
  obtain ⟨hD, hF⟩ := keyFit_spec hka hfit
  have hzero : ∀ (K : KHeap) (ρ : Nat → Loc) (A : Nat → Prop), VRel K ρ A (bif a.kind.isAgg then .agg a.zero else a.zero.getD 0 .junk) z' := by
    intro K ρ A
    have hag := ha.agg
    cases hb : a.kind.isAgg with
    | true =>
      rw [hb] at hag
      cases z' <;> simp only [aggVal] at hag <;> try cases hag
      simp only [cond_true]
      rw [ha.cells]
      exact LRel.agg (LRel.scalars _)
    | false =>
      rw [hb] at hag
      simp only [cond_false]
      have hz : z'.cells = #[z'] := by cases z' <;> simp only [aggVal] at hag <;> first | rfl | cases hag
      rw [ha.cells, hz]
      exact vrel_scalar _ _ _ _
  have hres : ∀ (K : KHeap) (ρ : Nat → Loc) (A : Nat → Prop) (v : AV) (c : Value) (f : Bool), VRel K ρ A v c → VRel K ρ A (bif ok then .tup [v, .bool f] else v) (if ok then .tuple #[c, .bool f] else c) := by
    intro K ρ A v c f hv
    cases ok with
    | false => exact hv
    | true =>
      simp only [cond_true, if_true]
      refine .tup _ _ rfl fun j x y hx hy => ?_
      match j with
      | 0 => simp at hx hy; subst hx; subst hy; exact hv
      | 1 => simp at hx hy; subst hx; subst hy; exact .bool _
      | j + 2 => simp at hx
  unfold LOOK at hk
  split at hk
  · rename_i hm
    refine eff_pure_k hk fun K ρ A w ev hr => ?_
    have r1 := hr m (by simp [Op.operands, ho])
    rw [hm] at r1
    generalize hcv : ev m = cv at r1
    cases r1
    refine ⟨_, ?_, hres K ρ A _ z' false (hzero K ρ A)⟩
    have hf : Instr.findNow d'' (ev key) ([] : List MapEntry) 0 = some none := rfl
    simp only [execOp, ho, Instr.lookup, hcv, Sem.run_bind, run_underlying hu, Result.andThen_ok, Sem.run_pure, run_checkKey hka.und hD, run_findKey hka.und hf, run_zeroValue_of ha]
  · rename_i g hm
    split at hk
    · rename_i es hg
      have main : ∀ (A : Nat → Prop) (ρ : Nat → Loc) (H : Heap) (w : World) (ev : Operand → Value), Sim A ρ H w → (∀ x ∈ o.op.operands.toList, VRel (Kof ρ H w) ρ A (e x) (ev x)) → (∀ x ∈ [g], H x = H0 x) → ∀ r, findK (e key) es = some r →
          ∃ cv, (execOp ev o).run P w = .ok (.value cv) w ∧ VRel (Kof ρ H w) ρ A (match r with | some (_, v) => bif ok then .tup [v, .bool true] else v | none => bif ok then .tup [bif a.kind.isAgg then .agg a.zero else a.zero.getD 0 .junk, .bool false] else (bif a.kind.isAgg then .agg a.zero else a.zero.getD 0 .junk)) cv := by
        intro A ρ H w ev s hr hrd r hfind
        have hH : H g = some (.mp es) := by rw [hrd g (by simp)]; exact hg
        have r1 := hr m (by simp [Op.operands, ho])
        have r2 := hr key (by simp [Op.operands, ho])
        rw [hm] at r1
        generalize hcv : ev m = cv at r1
        obtain ⟨f1, f2, f3⟩ := hF _ _ _ _ r2
        cases r1 with
        | amap _ rr hA hrr =>
          subst hrr
          obtain ⟨en, cl, q1, q2, q3⟩ := s.obj g _ hH
          have hfn := findNow_rel hD r2 f1 f2 f3 es en.toList 0 r (by simpa using q2) (fun j kv x h1 h2 => q3 j kv x h1 (by simpa using h2)) hfind
          have hobj : ∀ w' : World, w'.heap = w.heap → (getObj (ρ g).block).run P w' = .ok (.map en cl) w' := fun w' hw => by simp [getObj, Sem.run, hw, q1]
          cases r with
          | none =>
            simp only at hfn
            refine ⟨_, ?_, hres _ _ _ _ z' false (hzero _ _ _)⟩
            simp only [execOp, ho, Instr.lookup, hcv, Sem.run_bind, run_underlying hu, Result.andThen_ok, Sem.run_pure, hobj w rfl, run_checkKey hka.und hD, run_findKey hka.und hfn, run_zeroValue_of ha]
          | some p =>
            obtain ⟨j, v⟩ := p
            simp only at hfn
            obtain ⟨c, g1, g2, _⟩ := hfn
            refine ⟨_, ?_, hres _ _ _ _ c true g2⟩
            simp only [execOp, ho, Instr.lookup, hcv, Sem.run_bind, run_underlying hu, Result.andThen_ok, Sem.run_pure, hobj w rfl, run_checkKey hka.und hD, run_findKey hka.und g1]
      split at hk
      · rename_i j v hf
        exact ⟨_, _, Eff.read fun A ρ H w ev s hr hrd => main A ρ H w ev s hr hrd _ hf, hk⟩
      · rename_i hf
        exact ⟨_, _, Eff.read fun A ρ H w ev s hr hrd => main A ρ H w ev s hr hrd _ hf, hk⟩
      · exact hk.elim
    · exact hk.elim
  · exact hk.elim

theorem sameBits_key {K : KHeap} {ρ : Nat → Loc} {A : Nat → Prop} {x y : AV} {a b : Value} (hx : VRel K ρ A x a) (hy : VRel K ρ A y b) (h : keyEq x y = some true) : Instr.sameBits 10000 b a = true := by
  unfold keyEq at h
  split at h
  · split at h
    · rename_i hk
      subst hk
      cases hx
      cases hy
      simp only [Option.some.injEq, beq_iff_eq] at h
      subst h
      simp [Instr.sameBits]
    · cases h
  · cases hx
    cases hy
    simp only [Option.some.injEq, beq_iff_eq] at h
    subst h
    simp [Instr.sameBits, ba_beq]
  · cases hx
    cases hy
    simp only [Option.some.injEq, beq_iff_eq] at h
    subst h
    simp [Instr.sameBits]
  · cases h

theorem eff_mupd {t kt el : Nat} {ka : AT} {m key v : Operand} {s b : Nat} {z0 : List AV} {i i'' : TypeInfo} {d d'' : TypeDesc} {z z'' : Value} (h : AtOk P t ⟨.map kt el, s, b, z0⟩ i d z) (hka : AtOk P kt ka i'' d'' z'')
    (hfit : keyFit ka.kind (e key) = true) (ho : o.op = .mapUpdate t m key v ∨ o.op = .insert t m key v) {k : Kt} (hk : MUPD (e m) (e key) (e v) H0 k) : ∃ u rd D, Eff P o e H0 rd [] D u ∧ k u rd [] D := by
  have hu := map_und h
  obtain ⟨hD, hF⟩ := keyFit_spec hka hfit
  unfold MUPD at hk
  split at hk
  · rename_i g hm
    split at hk
    · rename_i es hg
      have main : ∀ r, findK (e key) es = some r → ∀ es', es' = (match r with | some (j, _) => es.set j (e key, e v) | none => es ++ [(e key, e v)]) → Eff P o e H0 [g] [] [(g, some (.mp es'))] .und := by
        intro r hfind es' hes A ρ H w ev s hr hrd _
        have hH : H g = some (.mp es) := by rw [hrd g (by simp)]; exact hg
        have r1 := hr m (by rcases ho with ho | ho <;> simp [Op.operands, ho])
        have r2 := hr key (by rcases ho with ho | ho <;> simp [Op.operands, ho])
        have r3 := hr v (by rcases ho with ho | ho <;> simp [Op.operands, ho])
        rw [hm] at r1
        generalize hcv : ev m = cv at r1
        obtain ⟨f1, f2, f3⟩ := hF _ _ _ _ r2
        cases r1 with
        | amap _ rr hA hrr =>
          subst hrr
          obtain ⟨en, cl, q1, q2, q3⟩ := s.obj g _ hH
          have hfn := findNow_rel hD r2 f1 f2 f3 es en.toList 0 r (by simpa using q2) (fun j kv x h1 h2 => q3 j kv x h1 (by simpa using h2)) hfind
          have hobj : (getObj (ρ g).block).run P w = .ok (.map en cl) w := by simp [getObj, Sem.run, q1]
          have hset : ∀ o', (setObj (ρ g).block o').run P w = .ok () { w with heap := w.heap.setIfInBounds (ρ g).block o' } := fun o' => by simp [setObj, Sem.run, q1]
          have hlt := (Array.getElem?_eq_some_iff.1 q1).1
          have finish : ∀ (en' : Array MapEntry) (cl' : Nat), en'.size = es'.length → (∀ (j : Nat) kv x, es'[j]? = some kv → en'[j]? = some x → VRel (Kof ρ H w) ρ A kv.1 x.key ∧ VRel (Kof ρ H w) ρ A kv.2 x.val) →
              (Instr.mapUpdate t (ev m) (ev key) (ev v)).run P w = .ok () { w with heap := w.heap.setIfInBounds (ρ g).block (.map en' cl') } → flowUpon P (APost A ρ H w .und [] [(g, some (.mp es'))]) ((execOp ev o).run P w) := by
            intro en' cl' hl hR hrun
            have e0 : execOp ev o = (do Instr.mapUpdate t (ev m) (ev key) (ev v); pure Next.skip) := by rcases ho with ho | ho <;> simp only [execOp, ho]
            rw [e0]
            have hnew : ({ w with heap := w.heap.setIfInBounds (ρ g).block (.map en' cl') } : World).heap[(ρ g).block]? = some (.map en' cl') := by simp [hlt]
            obtain ⟨s', f'⟩ := s.write (w' := { w with heap := w.heap.setIfInBounds (ρ g).block (.map en' cl') }) (g := g) (by rw [hH]; rfl) (.mp es') (fun b hb => by simp [Array.getElem?_setIfInBounds_ne (Ne.symm hb)]) (by simp) ⟨en', cl', hnew, hl, hR⟩ rfl rfl rfl
            exact flow_unit hrun ⟨ρ, by rw [or_nil]; exact s', .und, by rw [or_nil]; exact f'⟩
          cases r with
          | none =>
            simp only at hfn hes
            subst hes
            refine finish (en.push { key := ev key, val := ev v, born := cl }) (cl + 1) (by simp [q2]) (fun j kv x h1 h2 => ?_) ?_
            · rw [List.getElem?_append] at h1
              rw [Array.getElem?_push] at h2
              split at h1
              · rename_i hj
                rw [if_neg (by omega)] at h2
                exact q3 j kv x h1 h2
              · rename_i hj
                have hj0 : j = es.length := by
                  have := (List.getElem?_eq_some_iff.1 h1).1
                  simp at this; omega
                subst hj0
                rw [if_pos q2.symm] at h2
                simp at h1 h2
                subst h1; subst h2
                exact ⟨r2, r3⟩
            · simp only [Instr.mapUpdate, hcv, Sem.run_bind, run_underlying hu, Result.andThen_ok, hobj, run_checkKey hka.und hD, run_findKey hka.und hfn, hset]
          | some p =>
            obtain ⟨j, u⟩ := p
            simp only at hfn hes
            obtain ⟨c, g1, g2, kv, me, g3, g4, g5, g6, g7⟩ := hfn
            subst hes
            have g4' : en[j]? = some me := by simpa using g4
            have hjl := (List.getElem?_eq_some_iff.1 g3).1
            refine finish (en.modify j fun e => { e with key := ev key, val := ev v }) cl (by simp [q2]) (fun q kv' x h1 h2 => ?_) ?_
            · rw [Array.getElem?_modify] at h2
              by_cases hq : j = q
              · subst hq
                rw [if_pos rfl, g4'] at h2
                simp at h2
                rw [List.getElem?_set_self hjl] at h1
                simp at h1
                subst h1; subst h2
                exact ⟨r2, r3⟩
              · rw [if_neg hq] at h2
                rw [List.getElem?_set_ne hq] at h1
                exact q3 q kv' x h1 h2
            · have hkeep : ∀ w' : World, (Instr.keyThatStays (((en[j]?).map (·.key)).getD (ev key)) (ev key)).run P w' = .ok (ev key) w' := by
                intro w'
                rw [g4']
                unfold Instr.keyThatStays
                rw [if_pos (by simpa using sameBits_key r2 g7 g6)]
                rfl
              have g1' : Instr.findNow d'' (ev key) en.toList 0 = some (some (j, c)) := by simpa using g1
              simp only [Instr.mapUpdate, hcv, Sem.run_bind, run_underlying hu, Result.andThen_ok, hobj, run_checkKey hka.und hD, run_findKey hka.und g1', hkeep, hset]
      split at hk
      · rename_i j u hf
        exact ⟨_, _, _, main _ hf _ rfl, hk⟩
      · rename_i hf
        exact ⟨_, _, _, main _ hf _ rfl, hk⟩
      · exact hk.elim
    · exact hk.elim
  · exact hk.elim
end
end Go.Proofs.Ytckhbfbbpdjmdaa
