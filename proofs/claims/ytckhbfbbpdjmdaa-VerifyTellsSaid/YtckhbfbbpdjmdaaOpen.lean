/- A law's arguments, read as abstract values; and a law's call, out of an abstract one. -/
import Derived.Test.YtckhbfbbpdjmdaaGc
import Derived.Deep.Slices
import Derived.SizedLaws
import Derived.ChangeSame
namespace Go.Proofs.Ytckhbfbbpdjmdaa
open Go Go.RowKit

theorem LRel.one {K : KHeap} {ρ : Nat → Loc} {A : Nat → Prop} {v : AV} {c : Value} (h : VRel K ρ A v c) : LRel K ρ A [v] [c] := LRel.cons h LRel.nil

theorem kcell_of {w : World} {b o : Nat} {s} {v : Value} (h : w.cell? ⟨b, o, s⟩ = some v) : kcell (fun b => w.heap[b]?) b o = some v ∧ s = none := by
  unfold World.cell? at h
  unfold kcell
  simp only at h ⊢
  split at h
  · rename_i c _ _ he
    rw [he]
    split at h
    · cases h
    · rename_i hs; exact ⟨h, by simpa using hs⟩
  · cases h

/-- An argument of such a type is such a datum. -/
structure OpA (P : Program) (t : TypeId) {α : Type} (av : α → List AV) (ok : α → Prop) : Prop where
  len : ∀ x, ok x → (av x).length = P.cellsOf t
  get : ∀ {H : Type} (enc : TypeId × Value → H) (w : World) (base : Nat) (sp : Nat → Bool) (held : Bool) (fuel : Nat) (cs : List Value) (x : DataW H × List MemPlace),
    DataW.trod enc P w base sp held fuel t cs = some x → (∀ n ∈ x.1.weights P t, n ≤ reachBytes) → ∃ y, ok y ∧ ∀ ρ A, LRel (fun b => w.heap[b]?) ρ A (av y) cs

theorem opa_int {P : Program} {t : TypeId} (ht : P.underlying t = some (.int .i64)) (hc : P.cellsOf t = 1) : OpA P t (fun n : Int => [.int .i64 n]) (fun n => -9223372036854775808 ≤ n ∧ n ≤ 9223372036854775807) :=
  ⟨fun _ _ => hc.symm, fun enc w base sp held fuel cs x h _ => by
    obtain ⟨n, rfl, _, hw⟩ := DataW.trod_int ht h
    exact ⟨n, by simpa [Lit.wf, IntKind.min, IntKind.max, IntKind.signed, IntKind.bits] using hw, fun ρ A => LRel.one (.int _ _)⟩⟩
theorem opa_bool {P : Program} {t : TypeId} (ht : P.underlying t = some .bool) (hc : P.cellsOf t = 1) : OpA P t (fun n : Bool => [.bool n]) (fun _ => True) :=
  ⟨fun _ _ => hc.symm, fun enc w base sp held fuel cs x h _ => by
    obtain ⟨n, rfl, _⟩ := DataW.trod_bool ht h
    exact ⟨n, trivial, fun ρ A => LRel.one (.bool _)⟩⟩
theorem opa_str {P : Program} {t : TypeId} (ht : P.underlying t = some .string) (hc : P.cellsOf t = 1) : OpA P t (fun s : List UInt8 => [.str s]) (fun s => s.length ≤ reachBytes) :=
  ⟨fun _ _ => hc.symm, fun enc w base sp held fuel cs x h hw => by
    obtain ⟨s, rfl, rfl, _⟩ := DataW.trod_string ht h
    exact ⟨s.data.toList, hw _ (by simp [DataW.weights]), fun ρ A => LRel.one (.str _)⟩⟩
theorem opa_byte {P : Program} {t : TypeId} (ht : P.underlying t = some (.int .u8)) (hc : P.cellsOf t = 1) : OpA P t (fun b : UInt8 => [.int .u8 (b.toNat : Int)]) (fun _ => True) :=
  ⟨fun _ _ => hc.symm, fun enc w base sp held fuel cs x h _ => by
    obtain ⟨n, rfl, _, hw⟩ := DataW.trod_int ht h
    have hb : 0 ≤ n ∧ n ≤ 255 := by simpa [Lit.wf, IntKind.min, IntKind.max, IntKind.signed, IntKind.bits] using hw
    have e : ((UInt8.ofNat n.toNat).toNat : Int) = n := by simp [UInt8.toNat_ofNat']; omega
    exact ⟨UInt8.ofNat n.toNat, trivial, fun ρ A => LRel.one (by simp only [e]; exact .int _ _)⟩⟩

theorem weightsAll_mem' {H : Type} {P : Program} {e : TypeId} : ∀ {l : List (DataW H)} {d : DataW H}, d ∈ l → ∀ n ∈ d.weights P e, n ∈ DataW.weightsAll P e l
  | d' :: r, d, hd, n, hn => by
    simp only [DataW.weightsAll, List.mem_append]
    rcases List.mem_cons.1 hd with rfl | h
    · exact Or.inl hn
    · exact Or.inr (weightsAll_mem' h n hn)
theorem weightsEach_mem {H : Type} {P : Program} : ∀ {ts : List TypeId} {l : List (DataW H)} {i : Nat} {t : TypeId} {d : DataW H}, ts[i]? = some t → l[i]? = some d → ∀ n ∈ d.weights P t, n ∈ DataW.weightsEach P ts l
  | t' :: ts, d' :: r, 0, t, d, ht, hd, n, hn => by
    simp only [List.getElem?_cons_zero, Option.some.injEq] at ht hd
    subst ht; subst hd
    simp only [DataW.weightsEach, List.mem_append]
    exact Or.inl hn
  | t' :: ts, d' :: r, i + 1, t, d, ht, hd, n, hn => by
    simp only [DataW.weightsEach, List.mem_append]
    exact Or.inr (weightsEach_mem (by simpa using ht) (by simpa using hd) n hn)
  | [], _, i, t, d, ht, hd, n, hn => by simp at ht
  | t' :: ts, [], i, t, d, ht, hd, n, hn => by simp at hd

theorem opa_slice {P : Program} {α : Type} {av : α → List AV} {ok : α → Prop} {t e : TypeId} (ht : P.underlying t = some (.slice e)) (hc : P.cellsOf t = 1) (hE : OpA P e av ok) (hpos : 0 < P.cellsOf e) :
    OpA P t (fun l : List α => [.ro (l.map av)]) (fun l => (∀ x ∈ l, ok x) ∧ l.length * P.bytesOf e ≤ reachBytes) :=
  ⟨fun _ _ => hc.symm, fun enc w base sp held fuel cs x h hw => by
    rcases Go.Deep.open_slice ht h with ⟨rfl, _⟩ | ⟨a, len, cap, m, n, D, Pl, rfl, hb, hl, hm, hmm, hx, hel⟩
    · refine ⟨[], ⟨fun x hx => by simp at hx, by simp⟩, fun ρ A => LRel.one ?_⟩
      exact .ro [] none 0 0 0 0 0 (fun _ _ => undef) rfl (Nat.le_refl _) (fun h => absurd rfl h) (fun x hx => by cases hx) (fun i x j v hx => by simp at hx) (fun i x j v hx => by simp at hx)
    · have hlm : len ≤ m := by rw [hmm]; split <;> omega
      have hwl : len * P.bytesOf e ≤ reachBytes := by
        have := hw ((len + (m - len)) * P.bytesOf e) (by rw [hx]; simp [DataW.weights, ht])
        have h2 : len * P.bytesOf e ≤ (len + (m - len)) * P.bytesOf e := Nat.mul_le_mul_right _ (by omega)
        omega
      have hel' : ∀ i, i < len → ∃ y : α, ok y ∧ ∃ ec, w.cells? base (a.add (i * P.cellsOf e)) (P.cellsOf e) = some ec ∧ ∀ ρ A, LRel (fun b => w.heap[b]?) ρ A (av y) ec := by
        intro i hi
        obtain ⟨cs', h1, h2⟩ := hel i (by omega)
        obtain ⟨y, hy, hr⟩ := hE.get enc w base sp held n cs' _ h2 (fun k hk => hw k (by
          rw [hx]
          simp only [DataW.weights, ht, List.mem_cons, List.mem_append]
          exact .inr (.inl (weightsAll_mem' (List.mem_map.2 ⟨i, List.mem_range.2 hi, rfl⟩) k hk))))
        exact ⟨y, hy, cs', h1, hr⟩
      by_cases h0 : len = 0
      · subst h0
        refine ⟨[], ⟨fun x hx => by simp at hx, by simp⟩, fun ρ A => LRel.one ?_⟩
        exact .ro [] (some a) 0 cap 0 0 0 (fun _ _ => undef) rfl (Nat.zero_le _) (fun h => absurd rfl h) (fun x hx => by cases hx) (fun i x j v hx => by simp at hx) (fun i x j v hx => by simp at hx)
      · obtain ⟨y0, hy0, ec0, hc0, hR0⟩ := hel' 0 (by omega)
        haveI : Inhabited α := ⟨y0⟩
        obtain ⟨f, hf⟩ : ∃ f : Nat → α, ∀ i, i < len → ok (f i) ∧ ∃ ec, w.cells? base (a.add (i * P.cellsOf e)) (P.cellsOf e) = some ec ∧ ∀ ρ A, LRel (fun b => w.heap[b]?) ρ A (av (f i)) ec := Go.Deep.choose_lt hel'
        obtain ⟨F, hF⟩ : ∃ F : Nat → List Value, ∀ i, i < len → w.cells? base (a.add (i * P.cellsOf e)) (P.cellsOf e) = some (F i) ∧ ∀ ρ A, LRel (fun b => w.heap[b]?) ρ A (av (f i)) (F i) := Go.Deep.choose_lt fun i hi => (hf i hi).2
        have cellAt : ∀ (i : Nat), i < len → ∀ (j : Nat) v, (F i)[j]? = some v → w.cell? ((a.add (i * P.cellsOf e)).add j) = some v := by
          intro i hi j v hv
          have := (hF i hi).1
          unfold World.cells? at this
          split at this
          · have hl := mapM_some_length this
            have hj : j < P.cellsOf e := by
              have := (List.getElem?_eq_some_iff.1 hv).1
              simp at hl; omega
            rw [mapM_some_get this j j (by simp [hj]), hv]
          · cases this
        have hlen : ∀ i, i < len → (av (f i)).length = P.cellsOf e := fun i hi => hE.len _ (hf i hi).1
        have hlen2 : ∀ i, i < len → (F i).length = P.cellsOf e := fun i hi => by
          have h1 := ((hF i hi).2 (fun _ => default) (fun _ => False)).1
          rw [h1, hlen i hi]
        have hsp : a.spot = none := by
          have h1 : 0 < (F 0).length := by rw [hlen2 0 (by omega)]; exact hpos
          have h2 := cellAt 0 (by omega) 0 _ (List.getElem?_eq_getElem h1)
          obtain ⟨b, o, s⟩ := a
          simp [Addr.add] at h2
          exact (kcell_of h2).2
        obtain ⟨b, off, sp⟩ := a
        simp only at hsp
        subst hsp
        have hcellk : ∀ (i : Nat), i < len → ∀ (j : Nat) v, (F i)[j]? = some v → kcell (fun b => w.heap[b]?) b (off + i * P.cellsOf e + j) = some v := by
          intro i hi j v hv
          have := cellAt i hi j v hv
          rw [Go.Deep.add_add] at this
          unfold Addr.add at this
          split at this
          · rename_i h00
            have e1 : i * P.cellsOf e = 0 := by omega
            have e2 : j = 0 := by omega
            rw [e1, e2]; exact (kcell_of this).1
          · rw [Nat.add_assoc]; exact (kcell_of this).1
        refine ⟨(List.range len).map f, ⟨fun x hx => ?_, by simpa using hwl⟩, fun ρ A => LRel.one ?_⟩
        · obtain ⟨i, hi, rfl⟩ := List.mem_map.1 hx
          exact (hf i (List.mem_range.1 hi)).1
        · refine .ro _ (some ⟨b, off, none⟩) len cap (P.cellsOf e) b off (fun i j => ((F i)[j]?).getD undef) (by simp) hl (fun _ => rfl) (fun x hx => ?_) (fun i x j v hx hv => ?_) (fun i x j v hx hv => ?_)
          · obtain ⟨y, hy, rfl⟩ := List.mem_map.1 hx
            obtain ⟨i, hi, rfl⟩ := List.mem_map.1 hy
            exact hlen i (List.mem_range.1 hi)
          · have hi : i < len := by have := (List.getElem?_eq_some_iff.1 hx).1; simpa using this
            have hxi : x = av (f i) := by simpa [hi] using hx.symm
            subst hxi
            have hj : j < (F i).length := by
              have := (List.getElem?_eq_some_iff.1 hv).1
              rw [hlen2 i hi, ← hlen i hi]; exact this
            have := hcellk i hi j _ (List.getElem?_eq_getElem hj)
            rw [this, List.getElem?_eq_getElem hj]; rfl
          · have hi : i < len := by have := (List.getElem?_eq_some_iff.1 hx).1; simpa using this
            have hxi : x = av (f i) := by simpa [hi] using hx.symm
            subst hxi
            have hj : j < (F i).length := by
              have := (List.getElem?_eq_some_iff.1 hv).1
              rw [hlen2 i hi, ← hlen i hi]; exact this
            rw [List.getElem?_eq_getElem hj]
            exact ((hF i hi).2 ρ A).2 j v _ hv (List.getElem?_eq_getElem hj)⟩

/-- A structure's fields. -/
theorem struct_field {H : Type} {P : Program} {enc : TypeId × Value → H} {w : World} {base fuel : Nat} {sp : Nat → Bool} {held : Bool} {t : TypeId} {fs : Array Field} {cs : List Value} {x : DataW H × List MemPlace} (ht : P.underlying t = some (.struct fs))
    (h : DataW.trod enc P w base sp held fuel t cs = some x) (hw : ∀ n ∈ x.1.weights P t, n ≤ reachBytes) : cs.length = P.cellsOf t ∧
    ∀ (i t' off n' : Nat), (fs[i]?).map (fun f => (f.type, f.offset)) = some (t', off) → P.cellsOf t' = n' → ∀ {α : Type} {av : α → List AV} {ok : α → Prop}, OpA P t' av ok → ∃ y, ok y ∧ ∀ ρ A, LRel (fun b => w.heap[b]?) ρ A (av y) ((cs.drop off).take n') := by
  obtain ⟨xs, n, _, rfl, hl, hlen, hf⟩ := DataW.trod_struct ht h
  refine ⟨hl, fun i t' off n' hm hn' α av ok hO => ?_⟩
  obtain ⟨f, hfi, he⟩ := Option.map_eq_some_iff.1 hm
  obtain ⟨rfl, rfl⟩ := Prod.mk.inj he
  subst hn'
  have hi : i < xs.length := by rw [hlen]; exact (Array.getElem?_eq_some_iff.1 hfi).1
  have h1 := hf i f hfi
  rw [List.getElem?_eq_getElem hi] at h1
  refine hO.get enc w base sp held n _ _ h1 fun k hk => hw k ?_
  simp only [DataW.weights, ht]
  exact weightsEach_mem (i := i) (t := f.type) (d := (xs[i]).1) (by simp [hfi]) (by simp [hi]) k hk

/-- A law's call. -/
theorem ACalls.law {P : Program} {f : FuncId} {args : List AV} {r : AV} {cargs : Array Value} {w : World} {fn : Func} {c : Code} (hf : P.funcs[f]? = some fn) (hb : fn.body = some c) (hname : (fn.name == "runtime.NumGoroutine") = false)
    (h : ∀ H nx, ACalls P f args H nx fun v _ _ => v = r) (ha : ∀ ρ A, LRel (fun b => w.heap[b]?) ρ A args cargs.toList) :
    Calls P f cargs w fun e w' => ∃ v, e = .returned v ∧ (∃ K ρ A, VRel K ρ A r v) ∧ Below w.heap.size w w' := by
  have hk : Kof (fun _ => default) (fun _ => none) w = fun b => w.heap[b]? := by
    funext b
    unfold Kof
    rw [if_neg (by rintro ⟨g, hg, _⟩; simp at hg)]
  have s : Sim (fun x => x < 0) (fun _ => default) (fun _ => none) w := ⟨fun g o h => (by cases h), fun g o h => (by cases h), fun g g' h _ _ => (by cases h)⟩
  have := h (fun _ => none) 0 (fun _ => default) w cargs s (by rw [hk]; exact ha _ _)
  have hcall : (callFunc f cargs).run P w = .ok (.enter f cargs) w := by
    have hname' : ¬ fn.name = "runtime.NumGoroutine" := by simpa using hname
    simp [callFunc, program, Sem.run_bind, Sem.run, hf, hname', hb, pure]
  rw [hcall] at this
  simp only [flowUpon] at this
  refine this.mono fun e w' ⟨v, he, r', H', nx', ρ', q0, q1, q2, q3⟩ => ?_
  subst q0
  refine ⟨v, he, ⟨_, _, _, q2⟩, ⟨q3.os, q3.tape, q3.output, q3.size, fun k hk' => ?_⟩⟩
  have := q3.k k (w.heap[k]) (by rw [hk]; exact Array.getElem?_eq_getElem hk')
  rw [(Kof_some.1 this).2, Array.getElem?_eq_getElem hk']
end Go.Proofs.Ytckhbfbbpdjmdaa
