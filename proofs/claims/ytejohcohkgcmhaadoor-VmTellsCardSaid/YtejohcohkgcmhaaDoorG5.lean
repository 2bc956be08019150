/- Values, and cells of values: plain functions (chapter 1). What is wrong with a value: what the program's function, and the document's, make of it. A law's arguments, read as abstract values; and a law's call, out of an abstract one. Values, and cells of values, read as data. Numbers, texts, and what is made of two values: the program's functions, and the document's. Lists of values, and of cells, that are the same; and that may be. The machine: an agent's steps, as a plain function (chapter 7). Plain laws of what is wrong with programs. Heights hold together: as many values lie ahead of an instruction as were reckoned, on whichever way it is come to. What is right never gets stuck: an agent's steps keep it right. What is right never gets stuck: the agent behind a step is right. -/
import Derived.Test.YtejohcohkgcmhaaDoorG4
import Derived.Lib.ItoaNum
import Derived.Deep.Slices
import Derived.SizedLaws
import Derived.ChangeSame
namespace Go.Proofs.YtejohcohkgcmhaaDoor
namespace VM
def cInt (n : Int) : Val := ⟨0, n.tmod 1073741825, []⟩
def cText (s : Str) : Val := ⟨1, 0, s.take 60⟩
def bit (b : Bool) : Val := ⟨0, if b = true then 1 else 0, []⟩
def vzero : Val := ⟨0, 0, []⟩
def two (op : Int) (a b : Val) : Val × Int :=
  if op < 1 ∨ 5 < op then (vzero, 1)
  else if op = 5 then (bit (decide (a = b)), 0)
  else if (a.kind = 1 ∧ b.kind = 1) ∧ op = 1 then (cText (a.text ++ b.text), 0)
  else if (a.kind = 1 ∧ b.kind = 1) ∧ op = 4 then (bit (Op.bytesLess a.text b.text), 0)
  else if a.kind ≠ 0 ∨ b.kind ≠ 0 then (vzero, 11)
  else if op = 1 then (cInt (a.n + b.n), 0)
  else if op = 2 then (cInt (a.n - b.n), 0)
  else if op = 3 then (cInt (a.n * b.n), 0)
  else (bit (decide (a.n < b.n)), 0)
structure WrongOk (v : Val) (N : Int) : Prop where
  kind : v.kind = 0 ∨ v.kind = 1 ∨ v.kind = 2
  int : v.kind = 0 → -1073741824 ≤ v.n ∧ v.n ≤ 1073741824
  len : v.text.length ≤ 60
  cell : v.kind = 2 → 0 ≤ v.n ∧ v.n < N
  txt : v.kind = 1 → v.n = 0
  non : v.kind ≠ 1 → v.text = []
theorem wrong_ok {v : Val} {N : Int} (h : wrong v N = 0) : WrongOk v N := by
  unfold wrong at h
  split at h
  · cases h
  rename_i h1
  split at h
  · cases h
  rename_i h2
  split at h
  · cases h
  rename_i h3
  split at h
  · cases h
  rename_i h4
  split at h
  · cases h
  rename_i h5
  have hn : v.kind ≠ 1 → v.text = [] := fun hk => Classical.byContradiction fun ht => h5 (.inr ⟨hk, ht⟩)
  refine ⟨by omega, fun hk => by omega, ?_, fun hk => by omega, fun hk => Classical.byContradiction fun ht => h5 (.inl ⟨hk, ht⟩), hn⟩
  by_cases hk : v.kind = 1
  · omega
  · rw [hn hk]; simp
theorem ok_wrong {v : Val} {N : Int} (h : WrongOk v N) : wrong v N = 0 := by
  obtain ⟨h1, h2, h3, h4, h5, h6⟩ := h
  unfold wrong
  rw [if_neg (by omega), if_neg (by omega), if_neg (by omega), if_neg (by omega), if_neg]
  rintro (⟨a, b⟩ | ⟨a, b⟩)
  · exact b (h5 a)
  · exact b (h6 a)
def vshow (h : List Cl) : Nat → Val → Str
  | d, v => if v.kind = 0 then Lib.itoa v.n else if v.kind = 1 then v.text else match d with
    | 0 => [46, 46]
    | d + 1 => match (if 0 ≤ v.n then h[v.n.toNat]? else none) with
      | none => [46, 46]
      | some c => [40] ++ vshow h d c.left ++ [32] ++ vshow h d c.right ++ [41]
def meet (o : List Nat) (v : Val) : List Nat := if v.kind = 2 ∧ v.n.toNat ∉ o then o ++ [v.n.toNat] else o
def drain (h : List Cl) : Nat → List Nat → Nat → List Nat
  | 0, o, _ => o
  | f + 1, o, d => match o[d]? with
    | none => o
    | some n => match h[n]? with
      | none => o
      | some c => drain h f (meet (meet o c.left) c.right) (d + 1)
def orderGo (h : List Cl) : List Val → List Nat → List Nat
  | [], o => o
  | v :: r, o => orderGo h r (drain h (h.length - o.length) (meet o v) o.length)
def order (h : List Cl) (l : List Val) : List Nat := orderGo h l []
def put (o : List Nat) (v : Val) : Val := if v.kind = 2 then { v with n := (o.idxOf v.n.toNat : Nat) } else v
def putC (o : List Nat) (c : Cl) : Cl := ⟨put o c.left, put o c.right⟩
def canonV (h : List Cl) (l : List Val) : List Val := l.map (put (order h l))
def canonC (h : List Cl) (l : List Val) : List Cl := (order h l).filterMap fun n => (h[n]?).map (putC (order h l))
def right (h : List Cl) (l : List Val) : Bool := l.all (fun v => decide (wrong v h.length = 0)) && h.all (fun c => decide (wrong c.left h.length = 0) && decide (wrong c.right h.length = 0))
end VM
end Go.Proofs.YtejohcohkgcmhaaDoor
namespace Go.Proofs.YtejohcohkgcmhaaDoor
open Go Go.RowKit
def Val.avs (v : Val) : List AV := [.int .i64 v.kind, .int .i64 v.n, .str v.text]
def Cl.avs (c : Cl) : List AV := c.left.avs ++ c.right.avs
def Ins.avs (i : Ins) : List AV := [.int .i64 i.op, .int .i64 i.a, .int .i64 i.b]
@[simp] theorem zair (v : Val) : v.avs.length = 3 := rfl
@[simp] theorem zass (c : Cl) : c.avs.length = 6 := rfl
theorem zpd (v : Val) (n : Int) : QC Tryd.prog 12 [.agg v.avs, .int .i64 n] (.int .i64 (VM.wrong v n)) := by
  refine QC.of' fun H nx => zoa _ _ H nx _ ?_
  obtain ⟨kind, m, text⟩ := v
  simp [zed, Val.avs]
  simp only [← List.length_eq_zero_iff]
  repeat' first | apply And.intro | intro _
  all_goals (simp only [VM.wrong, ne_eq, ← List.length_eq_zero_iff]; (repeat' split) <;> omega)
def scal : AV → Bool
  | .int _ _ | .str _ | .bool _ => true
  | _ => false
theorem zanj {H : Heap} {nx : Nat} {v r : AV} (hv : scal v = true) (h : Frz H nx v r) : r = v := by
  cases h <;> first | rfl | cases hv
theorem zaii {H : Heap} {nx : Nat} {xs : List AV} {r : AV} (hs : xs.all scal = true) : Frz H nx (.agg xs) r = (r = .agg xs) := by
  apply propext
  constructor
  · intro h
    cases h with
    | same _ _ => rfl
    | agg _ ys hl hj =>
      congr 1
      refine List.ext_getElem hl fun j h1 h2 => ?_
      have := hj j xs[j] ys[j] (by simp [h2]) (by simp [h1])
      exact zanj (List.all_eq_true.1 hs _ (List.getElem_mem h2)) this
  · rintro rfl
    refine .same _ (.agg _ fun j v hv => ?_)
    have := List.all_eq_true.1 hs v (List.mem_of_getElem? hv)
    cases v <;> first | (cases this; done) | exact .int _ _ | exact .str _ | exact .bool _
@[simp] theorem zawn {H : Heap} {nx : Nat} {v : Val} {r : AV} : Frz H nx (.agg v.avs) r = (r = .agg v.avs) := zaii rfl
@[simp] theorem zave {H : Heap} {nx : Nat} {a b : Int} {s : List UInt8} {r : AV} : Frz H nx (.agg [.int .i64 a, .int .i64 b, .str s]) r = (r = .agg [.int .i64 a, .int .i64 b, .str s]) := zaii rfl
end Go.Proofs.YtejohcohkgcmhaaDoor
namespace Go.Proofs.YtejohcohkgcmhaaDoor
open Go Go.RowKit
theorem LRel.one {K : zy} {ρ : Nat → Loc} {A : Nat → Prop} {v : AV} {c : Value} (h : VRel K ρ A v c) : LRel K ρ A [v] [c] := LRel.cons h LRel.nil
theorem zzk {w : World} {b o : Nat} {s} {v : Value} (h : w.cell? ⟨b, o, s⟩ = some v) : zgu (fun b => w.heap[b]?) b o = some v ∧ s = none := by
  unfold World.cell? at h
  unfold zgu
  simp only at h ⊢
  split at h
  · rename_i c _ _ he
    rw [he]
    split at h
    · cases h
    · rename_i hs; exact ⟨h, by simpa using hs⟩
  · cases h
structure OpA (P : Program) (t : TypeId) {α : Type} (av : α → List AV) (ok : α → Prop) : Prop where
  len : ∀ x, ok x → (av x).length = P.cellsOf t
  get : ∀ {H : Type} (enc : TypeId × Value → H) (w : World) (base : Nat) (sp : Nat → Bool) (held : Bool) (fuel : Nat) (cs : List Value) (x : DataW H × List MemPlace),
    DataW.trod enc P w base sp held fuel t cs = some x → (∀ n ∈ x.1.weights P t, n ≤ reachBytes) → ∃ y, ok y ∧ ∀ ρ A, LRel (fun b => w.heap[b]?) ρ A (av y) cs
theorem zapx {P : Program} {t : TypeId} (ht : P.underlying t = some (.int .i64)) (hc : P.cellsOf t = 1) : OpA P t (fun n : Int => [.int .i64 n]) (fun n => -9223372036854775808 ≤ n ∧ n ≤ 9223372036854775807) :=
  ⟨fun _ _ => hc.symm, fun enc w base sp held fuel cs x h _ => by
    obtain ⟨n, rfl, _, hw⟩ := DataW.trod_int ht h
    exact ⟨n, by simpa [Lit.wf, IntKind.min, IntKind.max, IntKind.signed, IntKind.bits] using hw, fun ρ A => LRel.one (.int _ _)⟩⟩
theorem zapw {P : Program} {t : TypeId} (ht : P.underlying t = some .string) (hc : P.cellsOf t = 1) : OpA P t (fun s : List UInt8 => [.str s]) (fun s => s.length ≤ reachBytes) :=
  ⟨fun _ _ => hc.symm, fun enc w base sp held fuel cs x h hw => by
    obtain ⟨s, rfl, rfl, _⟩ := DataW.trod_string ht h
    exact ⟨s.data.toList, hw _ (by simp [DataW.weights]), fun ρ A => LRel.one (.str _)⟩⟩
theorem zpf {H : Type} {P : Program} {e : TypeId} : ∀ {l : List (DataW H)} {d : DataW H}, d ∈ l → ∀ n ∈ d.weights P e, n ∈ DataW.weightsAll P e l
  | d' :: r, d, hd, n, hn => by
    simp only [DataW.weightsAll, List.mem_append]
    rcases List.mem_cons.1 hd with rfl | h
    · exact Or.inl hn
    · exact Or.inr (zpf h n hn)
theorem zpe {H : Type} {P : Program} : ∀ {ts : List TypeId} {l : List (DataW H)} {i : Nat} {t : TypeId} {d : DataW H}, ts[i]? = some t → l[i]? = some d → ∀ n ∈ d.weights P t, n ∈ DataW.weightsEach P ts l
  | t' :: ts, d' :: r, 0, t, d, ht, hd, n, hn => by
    simp only [List.getElem?_cons_zero, Option.some.injEq] at ht hd
    subst ht; subst hd
    simp only [DataW.weightsEach, List.mem_append]
    exact Or.inl hn
  | t' :: ts, d' :: r, i + 1, t, d, ht, hd, n, hn => by
    simp only [DataW.weightsEach, List.mem_append]
    exact Or.inr (zpe (by simpa using ht) (by simpa using hd) n hn)
  | [], _, i, t, d, ht, hd, n, hn => by simp at ht
  | t' :: ts, [], i, t, d, ht, hd, n, hn => by simp at hd
theorem zff {P : Program} {α : Type} {av : α → List AV} {ok : α → Prop} {t e : TypeId} (ht : P.underlying t = some (.slice e)) (hc : P.cellsOf t = 1) (hE : OpA P e av ok) (hpos : 0 < P.cellsOf e) :
    OpA P t (fun l : List α => [.ro (l.map av)]) (fun l => (∀ x ∈ l, ok x) ∧ l.length * P.bytesOf e ≤ reachBytes) :=
  ⟨fun _ _ => hc.symm, fun enc w base sp held fuel cs x h hw => by
    rcases Go.Deep.open_slice ht h with ⟨rfl, _⟩ | ⟨a, len, cap, m, n, D, Pl, rfl, hb, hl, hm, hmm, hx, hel⟩
    · refine ⟨[], ⟨fun x hx => by simp at hx, by simp⟩, fun ρ A => LRel.one ?_⟩
      exact .ro [] none 0 0 0 0 0 (fun _ _ => undef) rfl (Nat.le_refl _) (fun h => absurd rfl h) (fun x hx => by cases hx) (fun i x j v hx => by simp at hx) (fun i x j v hx => by simp at hx)
    · have hlm : len ≤ m := by rw [hmm]; split <;> omega
      have hwl : len * P.bytesOf e ≤ reachBytes := by
        have := hw ((len + (m - len)) * P.bytesOf e) (by rw [hx]; simp [DataW.weights, ht])
        have h2 : len * P.bytesOf e ≤ (len + (m - len)) * P.bytesOf e := Nat.mul_le_mul_right _ (by omega)
        omega
      have hel' : ∀ i, i < len → ∃ y : α, ok y ∧ ∃ ec, w.cells? base (a.add (i * P.cellsOf e)) (P.cellsOf e) = some ec ∧ ∀ ρ A, LRel (fun b => w.heap[b]?) ρ A (av y) ec := by
        intro i hi
        obtain ⟨cs', h1, h2⟩ := hel i (by omega)
        obtain ⟨y, hy, hr⟩ := hE.get enc w base sp held n cs' _ h2 (fun k hk => hw k (by
          rw [hx]
          simp only [DataW.weights, ht, List.mem_cons, List.mem_append]
          exact .inr (.inl (zpf (List.mem_map.2 ⟨i, List.mem_range.2 hi, rfl⟩) k hk))))
        exact ⟨y, hy, cs', h1, hr⟩
      by_cases h0 : len = 0
      · subst h0
        refine ⟨[], ⟨fun x hx => by simp at hx, by simp⟩, fun ρ A => LRel.one ?_⟩
        exact .ro [] (some a) 0 cap 0 0 0 (fun _ _ => undef) rfl (Nat.zero_le _) (fun h => absurd rfl h) (fun x hx => by cases hx) (fun i x j v hx => by simp at hx) (fun i x j v hx => by simp at hx)
      · obtain ⟨y0, hy0, ec0, hc0, hR0⟩ := hel' 0 (by omega)
        haveI : Inhabited α := ⟨y0⟩
        obtain ⟨f, hf⟩ : ∃ f : Nat → α, ∀ i, i < len → ok (f i) ∧ ∃ ec, w.cells? base (a.add (i * P.cellsOf e)) (P.cellsOf e) = some ec ∧ ∀ ρ A, LRel (fun b => w.heap[b]?) ρ A (av (f i)) ec := Go.Deep.choose_lt hel'
        obtain ⟨F, hF⟩ : ∃ F : Nat → List Value, ∀ i, i < len → w.cells? base (a.add (i * P.cellsOf e)) (P.cellsOf e) = some (F i) ∧ ∀ ρ A, LRel (fun b => w.heap[b]?) ρ A (av (f i)) (F i) := Go.Deep.choose_lt fun i hi => (hf i hi).2
        have zdw : ∀ (i : Nat), i < len → ∀ (j : Nat) v, (F i)[j]? = some v → w.cell? ((a.add (i * P.cellsOf e)).add j) = some v := by
          intro i hi j v hv
          have := (hF i hi).1
          unfold World.cells? at this
          split at this
          · have hl := mapM_some_length this
            have hj : j < P.cellsOf e := by
              have := (List.getElem?_eq_some_iff.1 hv).1
              simp at hl; omega
            rw [mapM_some_get this j j (by simp [hj]), hv]
          · cases this
        have hlen : ∀ i, i < len → (av (f i)).length = P.cellsOf e := fun i hi => hE.len _ (hf i hi).1
        have hlen2 : ∀ i, i < len → (F i).length = P.cellsOf e := fun i hi => by
          have h1 := ((hF i hi).2 (fun _ => default) (fun _ => False)).1
          rw [h1, hlen i hi]
        have hsp : a.spot = none := by
          have h1 : 0 < (F 0).length := by rw [hlen2 0 (by omega)]; exact hpos
          have h2 := zdw 0 (by omega) 0 _ (List.getElem?_eq_getElem h1)
          obtain ⟨b, o, s⟩ := a
          simp [Addr.add] at h2
          exact (zzk h2).2
        obtain ⟨b, off, sp⟩ := a
        simp only at hsp
        subst hsp
        have hcellk : ∀ (i : Nat), i < len → ∀ (j : Nat) v, (F i)[j]? = some v → zgu (fun b => w.heap[b]?) b (off + i * P.cellsOf e + j) = some v := by
          intro i hi j v hv
          have := zdw i hi j v hv
          rw [Go.Deep.add_add] at this
          unfold Addr.add at this
          split at this
          · rename_i h00
            have e1 : i * P.cellsOf e = 0 := by omega
            have e2 : j = 0 := by omega
            rw [e1, e2]; exact (zzk this).1
          · rw [Nat.add_assoc]; exact (zzk this).1
        refine ⟨(List.range len).map f, ⟨fun x hx => ?_, by simpa using hwl⟩, fun ρ A => LRel.one ?_⟩
        · obtain ⟨i, hi, rfl⟩ := List.mem_map.1 hx
          exact (hf i (List.mem_range.1 hi)).1
        · refine .ro _ (some ⟨b, off, none⟩) len cap (P.cellsOf e) b off (fun i j => ((F i)[j]?).getD undef) (by simp) hl (fun _ => rfl) (fun x hx => ?_) (fun i x j v hx hv => ?_) (fun i x j v hx hv => ?_)
          · obtain ⟨y, hy, rfl⟩ := List.mem_map.1 hx
            obtain ⟨i, hi, rfl⟩ := List.mem_map.1 hy
            exact hlen i (List.mem_range.1 hi)
          · have hi : i < len := by have := (List.getElem?_eq_some_iff.1 hx).1; simpa using this
            have hxi : x = av (f i) := by simpa [hi] using hx.symm
            subst hxi
            have hj : j < (F i).length := by
              have := (List.getElem?_eq_some_iff.1 hv).1
              rw [hlen2 i hi, ← hlen i hi]; exact this
            have := hcellk i hi j _ (List.getElem?_eq_getElem hj)
            rw [this, List.getElem?_eq_getElem hj]; rfl
          · have hi : i < len := by have := (List.getElem?_eq_some_iff.1 hx).1; simpa using this
            have hxi : x = av (f i) := by simpa [hi] using hx.symm
            subst hxi
            have hj : j < (F i).length := by
              have := (List.getElem?_eq_some_iff.1 hv).1
              rw [hlen2 i hi, ← hlen i hi]; exact this
            rw [List.getElem?_eq_getElem hj]
            exact ((hF i hi).2 ρ A).2 j v _ hv (List.getElem?_eq_getElem hj)⟩
theorem zbg {H : Type} {P : Program} {enc : TypeId × Value → H} {w : World} {base fuel : Nat} {sp : Nat → Bool} {held : Bool} {t : TypeId} {fs : Array Field} {cs : List Value} {x : DataW H × List MemPlace} (ht : P.underlying t = some (.struct fs))
    (h : DataW.trod enc P w base sp held fuel t cs = some x) (hw : ∀ n ∈ x.1.weights P t, n ≤ reachBytes) : cs.length = P.cellsOf t ∧
    ∀ (i t' off n' : Nat), (fs[i]?).map (fun f => (f.type, f.offset)) = some (t', off) → P.cellsOf t' = n' → ∀ {α : Type} {av : α → List AV} {ok : α → Prop}, OpA P t' av ok → ∃ y, ok y ∧ ∀ ρ A, LRel (fun b => w.heap[b]?) ρ A (av y) ((cs.drop off).take n') := by
  obtain ⟨xs, n, _, rfl, hl, hlen, hf⟩ := DataW.trod_struct ht h
  refine ⟨hl, fun i t' off n' hm hn' α av ok hO => ?_⟩
  obtain ⟨f, hfi, he⟩ := Option.map_eq_some_iff.1 hm
  obtain ⟨rfl, rfl⟩ := Prod.mk.inj he
  subst hn'
  have hi : i < xs.length := by rw [hlen]; exact (Array.getElem?_eq_some_iff.1 hfi).1
  have h1 := hf i f hfi
  rw [List.getElem?_eq_getElem hi] at h1
  refine hO.get enc w base sp held n _ _ h1 fun k hk => hw k ?_
  simp only [DataW.weights, ht]
  exact zpe (i := i) (t := f.type) (d := (xs[i]).1) (by simp [hfi]) (by simp [hi]) k hk
theorem za.law {P : Program} {f : FuncId} {args : List AV} {r : AV} {cargs : Array Value} {w : World} {fn : Func} {c : Code} (hf : P.funcs[f]? = some fn) (hb : fn.body = some c) (hname : (fn.name == "runtime.NumGoroutine") = false)
    (hlay : LayK (fun b => w.heap[b]?)) (h : ∀ H nx, za P f args H nx fun v _ _ => v = r) (ha : ∀ ρ A, LRel (fun b => w.heap[b]?) ρ A args cargs.toList) :
    Calls P f cargs w fun e w' => ∃ v, e = .returned v ∧ (∃ K ρ A, VRel K ρ A r v) ∧ Below w.heap.size w w' := by
  have hk : Kof (fun _ => default) (fun _ => none) w = fun b => w.heap[b]? := by
    funext b
    unfold Kof
    rw [if_neg (by rintro ⟨g, hg, _⟩; simp at hg)]
  have s : Sim (fun x => x < 0) (fun _ => default) (fun _ => none) w := ⟨fun g o h => (by cases h), fun g o h => (by cases h), fun g g' h _ _ => (by cases h), by rw [hk]; exact hlay⟩
  have := h (fun _ => none) 0 (fun _ => default) w cargs s (by rw [hk]; exact ha _ _)
  have hcall : (callFunc f cargs).run P w = .ok (.enter f cargs) w := by
    have hname' : ¬ fn.name = "runtime.NumGoroutine" := by simpa using hname
    simp [callFunc, program, Sem.run_bind, Sem.run, hf, hname', hb, pure]
  rw [hcall] at this
  simp only [zaq] at this
  refine this.mono fun e w' ⟨v, he, r', H', nx', ρ', q0, q1, q2, q3⟩ => ?_
  subst q0
  refine ⟨v, he, ⟨_, _, _, q2⟩, ⟨q3.os, q3.tape, q3.output, q3.size, fun k hk' => ?_⟩⟩
  have := q3.k k (w.heap[k]) (by rw [hk]; exact Array.getElem?_eq_getElem hk')
  rw [(zac.1 this).2, Array.getElem?_eq_getElem hk']
end Go.Proofs.YtejohcohkgcmhaaDoor
namespace Go.Proofs.YtejohcohkgcmhaaDoor
open Go Go.RowKit
theorem cInt : Tryd.prog.cellsOf 3 = 1 := by kernel_rfl
theorem cStr : Tryd.prog.cellsOf 9 = 1 := by kernel_rfl
theorem cVal : Tryd.prog.cellsOf 25 = 3 := by kernel_rfl
theorem cCl : Tryd.prog.cellsOf 43 = 6 := by kernel_rfl
theorem zajy : Tryd.prog.cellsOf 23 = 1 := by kernel_rfl
theorem cCls : Tryd.prog.cellsOf 22 = 1 := by kernel_rfl
def zdc (n : Int) : Prop := -9223372036854775808 ≤ n ∧ n ≤ 9223372036854775807
theorem oInt : OpA Tryd.prog 3 (fun n : Int => [.int .i64 n]) zdc := zapx Tryd.underlying3 cInt
theorem oStr : OpA Tryd.prog 9 (fun s : List UInt8 => [.str s]) (fun s => s.length ≤ reachBytes) := zapw Tryd.underlying9 cStr
def Val.rd (v : Val) : Prop := zdc v.kind ∧ zdc v.n ∧ v.text.length ≤ reachBytes
theorem oVal : OpA Tryd.prog 25 Val.avs Val.rd :=
  ⟨fun _ _ => cVal.symm, fun enc w base sp held fuel cs x h hw => by
    obtain ⟨hl, hf⟩ := zbg Tryd.underlying25 h hw
    rw [cVal] at hl
    obtain ⟨k, hk, rk⟩ := hf 0 3 0 1 (by kernel_rfl) cInt oInt
    obtain ⟨n, hn, rn⟩ := hf 1 3 1 1 (by kernel_rfl) cInt oInt
    obtain ⟨s, hs, rs⟩ := hf 2 9 2 1 (by kernel_rfl) cStr oStr
    match cs, hl with
    | [c0, c1, c2], _ => exact ⟨⟨k, n, s⟩, ⟨hk, hn, hs⟩, fun ρ A => (rk ρ A).append ((rn ρ A).append (rs ρ A))⟩⟩
def rdL {α : Type} (ok : α → Prop) (n : Nat) (l : List α) : Prop := (∀ x ∈ l, ok x) ∧ l.length * n ≤ reachBytes
theorem zaor : OpA Tryd.prog 23 (fun l : List Val => [.ro (l.map Val.avs)]) (rdL Val.rd (Tryd.prog.bytesOf 25)) := zff Tryd.underlying23 zajy oVal (by rw [cVal]; decide)
def Cl.rd (c : Cl) : Prop := c.left.rd ∧ c.right.rd
theorem oCl : OpA Tryd.prog 43 Cl.avs Cl.rd :=
  ⟨fun _ _ => cCl.symm, fun enc w base sp held fuel cs x h hw => by
    obtain ⟨hl, hf⟩ := zbg Tryd.underlying43 h hw
    rw [cCl] at hl
    obtain ⟨k, hk, rk⟩ := hf 0 25 0 3 (by kernel_rfl) cVal oVal
    obtain ⟨n, hn, rn⟩ := hf 1 25 3 3 (by kernel_rfl) cVal oVal
    match cs, hl with
    | [c0, c1, c2, c3, c4, c5], _ => exact ⟨⟨k, n⟩, ⟨hk, hn⟩, fun ρ A => (rk ρ A).append (rn ρ A)⟩⟩
theorem oCls : OpA Tryd.prog 22 (fun l : List Cl => [.ro (l.map Cl.avs)]) (rdL Cl.rd (Tryd.prog.bytesOf 43)) := zff Tryd.underlying22 cCls oCl (by rw [cCl]; decide)
end Go.Proofs.YtejohcohkgcmhaaDoor
namespace Go.Proofs.YtejohcohkgcmhaaDoor
open Go Go.RowKit
@[simp] theorem zavj : eqsT 25 = true := by kernel_rfl
@[simp] theorem zats : eqsT 43 = true := by kernel_rfl
theorem tdm (k : Int) : k = 1073741825 * k.tdiv 1073741825 + k.tmod 1073741825 ∧ (0 ≤ k → 0 ≤ k.tmod 1073741825 ∧ k.tmod 1073741825 < 1073741825 ∧ 0 ≤ k.tdiv 1073741825) ∧
    (k ≤ 0 → -1073741825 < k.tmod 1073741825 ∧ k.tmod 1073741825 ≤ 0 ∧ k.tdiv 1073741825 ≤ 0) := by
  have pos : ∀ j : Int, 0 ≤ j → j = 1073741825 * j.tdiv 1073741825 + j.tmod 1073741825 ∧ 0 ≤ j.tmod 1073741825 ∧ j.tmod 1073741825 < 1073741825 ∧ 0 ≤ j.tdiv 1073741825 := by
    intro j hj
    rw [Int.tdiv_eq_ediv_of_nonneg hj, Int.tmod_eq_emod_of_nonneg hj]
    omega
  by_cases h : 0 ≤ k
  · obtain ⟨a, b, c, d⟩ := pos k h
    exact ⟨a, fun _ => ⟨b, c, d⟩, fun hk => by omega⟩
  · obtain ⟨a, b, c, d⟩ := pos (-k) (by omega)
    rw [Int.neg_tdiv, Int.neg_tmod] at *
    exact ⟨by omega, fun hk => by omega, fun _ => by omega⟩
theorem zaau {k : Int} (h : -1073741825 < k ∧ k < 1073741825) : k.tmod 1073741825 = k := by
  obtain ⟨h1, h2, h3⟩ := tdm k
  by_cases hk : 0 ≤ k
  · have := h2 hk; omega
  · have := h3 (by omega); omega
theorem zagc (n : Int) : QC Tryd.prog 7 [.int .i64 n] (.agg (VM.cInt n).avs) := by
  refine QC.of' fun H nx => zacv _ H nx _ ?_
  simp [zqb, VM.cInt, Val.avs]
theorem zamz (n : Int) (h0 : I64 n) : QC Tryd.prog 35 [.int .i64 n] (.int .i64 (n.tmod 1073741825)) := by
  refine fun H nx => ztx _ H nx _ ?_
  simp only [I64] at h0
  unfold zic
  refine LP.mk (fun m xs H' nx' => ∃ k : Int, m = (if -1073741825 < k ∧ k < 1073741825 then 0 else 1) ∧ xs = [.int .i64 k, .int .i64 1073741825] ∧ I64 k ∧ H = H' ∧ nx = nx' ∧ k.tmod 1073741825 = n.tmod 1073741825) _ ⟨n, rfl, rfl, h0, rfl, rfl, rfl⟩ ?_
  rintro m xs H' nx' ⟨k, rfl, rfl, hk, rfl, rfl, hm⟩
  simp only [I64] at hk
  obtain ⟨d1, d2, d3⟩ := tdm k
  have d4 : (0 ≤ k ∧ 0 ≤ k.tmod 1073741825 ∧ k.tmod 1073741825 < 1073741825 ∧ 0 ≤ k.tdiv 1073741825) ∨ (k ≤ 0 ∧ -1073741825 < k.tmod 1073741825 ∧ k.tmod 1073741825 ≤ 0 ∧ k.tdiv 1073741825 ≤ 0) := by
    by_cases hk0 : 0 ≤ k
    · exact .inl ⟨hk0, d2 hk0⟩
    · exact .inr ⟨by omega, d3 (by omega)⟩
  clear d2 d3
  have hw : IntKind.i64.wrap (-1073741825) = -1073741825 := i64w (by omega)
  have hq : IntKind.i64.wrap (k.tdiv 1073741825) = k.tdiv 1073741825 := i64w (by omega)
  have hp : IntKind.i64.wrap (k.tdiv 1073741825 * 1073741825) = k.tdiv 1073741825 * 1073741825 := i64w (by omega)
  have hr : k - k.tdiv 1073741825 * 1073741825 = k.tmod 1073741825 := by omega
  have hs : IntKind.i64.wrap (k - k.tdiv 1073741825 * 1073741825) = k.tmod 1073741825 := by rw [hr]; exact i64w (by omega)
  have hin : -1073741825 < k.tmod 1073741825 ∧ k.tmod 1073741825 < 1073741825 := by omega
  have next : (1073741825 ≤ k ∨ k ≤ -1073741825) → ∃ m', m' < (if -1073741825 < k ∧ k < 1073741825 then 0 else 1) ∧ ∃ k' : Int, m' = (if -1073741825 < k' ∧ k' < 1073741825 then 0 else 1) ∧ [AV.int .i64 (k.tmod 1073741825), .int .i64 1073741825] = [.int .i64 k', .int .i64 1073741825] ∧ I64 k' ∧ H = H ∧ nx = nx ∧ k'.tmod 1073741825 = n.tmod 1073741825 := by
    intro hk'
    rw [if_neg (by omega)]
    exact ⟨0, by omega, k.tmod 1073741825, by rw [if_pos hin], rfl, by simp only [I64]; omega, rfl, rfl, by rw [← hm]; exact zaau hin⟩
  simp [zot, hq, hp, hs, hw]
  refine ⟨fun h => ?_, fun h => ⟨fun h2 => ?_, fun h2 => ?_⟩⟩
  · simpa using next (.inl h)
  · simpa using next (.inr h2)
  · rw [← hm]; exact (zaau (by omega)).symm
theorem zacq (n : Int) (h0 : I64 n) : QC Tryd.prog 8 [.int .i64 n] (.agg (VM.cInt n).avs) := by
  refine QC.of' fun H nx => zyt _ H nx _ ?_
  unfold zkt
  refine QC.call (zamz n h0) ?_
  simp [zte, VM.cInt, Val.avs]
theorem zacf (s : Str) (hs : s.length ≤ maxLen) : QC Tryd.prog 9 [.str s] (.agg (VM.cText s).avs) := by
  refine QC.of' fun H nx => zabm _ H nx _ ?_
  simp only [maxLen] at hs
  have h1 : (min (s.length : Int) 60).toNat = min s.length 60 := by omega
  have h2 : s.take (min s.length 60) = s.take 60 := by rw [List.take_eq_take_iff]; omega
  simp [znx, VM.cText, Val.avs, SLS, zkq, lohi, PURE, qk, h1, h2, or_imp, forall_and]
  omega
theorem zze (s : Str) (hs : s.length ≤ maxLen) : QC Tryd.prog 10 [.str s] (.agg (VM.cText s).avs) := by
  refine QC.of' fun H nx => zwv _ H nx _ ?_
  simp only [maxLen] at hs
  have h2 : ¬ (60 < s.length) → s.take 60 = s := fun h => List.take_of_length_le (by omega)
  simp [zjc, VM.cText, Val.avs, SLS, zkq, lohi, PURE, qk, or_imp, forall_and]
  refine ⟨fun h => by omega, fun h => h2 (by omega)⟩
theorem zaez (b : Bool) : QC Tryd.prog 36 [.bool b] (.tup [.agg (VM.bit b).avs, .int .i64 0]) := by
  refine QC.of' fun H nx => zzn _ H nx _ ?_
  cases b <;> simp [zkz, VM.bit, Val.avs]
theorem zvs (b : Bool) : QC Tryd.prog 37 [.bool b] (.tup [.agg (VM.bit b).avs, .int .i64 0]) := by
  refine QC.of' fun H nx => ztw _ H nx _ ?_
  cases b <;> simp [zia, VM.bit, Val.avs, zaf, zse, zej]
end Go.Proofs.YtejohcohkgcmhaaDoor
namespace Go.Proofs.YtejohcohkgcmhaaDoor
open Go Go.RowKit
theorem zadr {α : Type} {a b : List α} {i : Nat} (h1 : i < a.length) (h2 : i < b.length) : (a.drop i = b.drop i) ↔ (a[i] = b[i] ∧ a.drop (i + 1) = b.drop (i + 1)) := by
  rw [List.drop_eq_getElem_cons h1, List.drop_eq_getElem_cons h2, List.cons.injEq]
set_option maxHeartbeats 1000000 in
theorem zafi (a b : List Val) (ha : a.length ≤ 4611686018427387904) : QC Tryd.prog 20 [.ro (a.map Val.avs), .ro (b.map Val.avs)] (.bool (decide (a = b))) := by
  refine fun H nx => zob _ _ H nx _ ?_
  by_cases hl : a.length = b.length
  case neg =>
    have : ¬ ((a.length : Int) = b.length) := by omega
    have hab : ¬ a = b := fun h => hl (by rw [h])
    simp [zci, this, hab]
  simp [zci, hl]
  refine LP.mk (fun m xs H' nx' => ∃ i : Nat, i ≤ b.length ∧ m = b.length - i ∧ xs = [.ro (a.map Val.avs), .ro (b.map Val.avs), .int .i64 b.length, .int .i64 i] ∧ H = H' ∧ nx = nx' ∧ (a = b ↔ a.drop i = b.drop i)) b.length ⟨0, by omega, by omega, rfl, rfl, rfl, by simp⟩ ?_
  rintro m xs H' nx' ⟨i, hi, rfl, rfl, rfl, rfl, hd⟩
  by_cases h : i < b.length
  · have h1 : i < a.length := by omega
    have hia : a[i]? = some a[i] := List.getElem?_eq_getElem h1
    have hib : b[i]? = some b[i] := List.getElem?_eq_getElem h
    rw [zadr h1 h] at hd
    generalize a[i] = x at *
    generalize b[i] = y at *
    obtain ⟨_, hia'⟩ := List.getElem?_eq_some_iff.1 hia
    obtain ⟨_, hib'⟩ := List.getElem?_eq_some_iff.1 hib
    clear hia hib
    obtain ⟨kx, nx', sx⟩ := x
    obtain ⟨ky, ny, sy⟩ := y
    simp [zee, h, h1, hl, hia', hib', Val.avs]
    refine ⟨fun hne => ?_, fun h1 h2 h3 => ?_⟩
    · rw [hd]
      rintro ⟨he, _⟩
      cases he
      simp at hne
    · subst h1 h2 h3
      rw [i64w (by omega)]
      exact ⟨b.length - (i + 1), by omega, i + 1, by omega, rfl, by simp, by rw [hd]; simp⟩
  · simp [zee, h]
    rw [hd, List.drop_of_length_le (by omega), List.drop_of_length_le (by omega)]
set_option maxHeartbeats 1000000 in
theorem zamu (a b : List Cl) (ha : a.length ≤ 4611686018427387904) : QC Tryd.prog 21 [.ro (a.map Cl.avs), .ro (b.map Cl.avs)] (.bool (decide (a = b))) := by
  refine fun H nx => zpu _ _ H nx _ ?_
  by_cases hl : a.length = b.length
  case neg =>
    have : ¬ ((a.length : Int) = b.length) := by omega
    have hab : ¬ a = b := fun h => hl (by rw [h])
    simp [zcp, this, hab]
  simp [zcp, hl]
  refine LP.mk (fun m xs H' nx' => ∃ i : Nat, i ≤ b.length ∧ m = b.length - i ∧ xs = [.ro (a.map Cl.avs), .ro (b.map Cl.avs), .int .i64 b.length, .int .i64 i] ∧ H = H' ∧ nx = nx' ∧ (a = b ↔ a.drop i = b.drop i)) b.length ⟨0, by omega, by omega, rfl, rfl, rfl, by simp⟩ ?_
  rintro m xs H' nx' ⟨i, hi, rfl, rfl, rfl, rfl, hd⟩
  by_cases h : i < b.length
  · have h1 : i < a.length := by omega
    have hia : a[i]? = some a[i] := List.getElem?_eq_getElem h1
    have hib : b[i]? = some b[i] := List.getElem?_eq_getElem h
    rw [zadr h1 h] at hd
    generalize a[i] = x at *
    generalize b[i] = y at *
    obtain ⟨_, hia'⟩ := List.getElem?_eq_some_iff.1 hia
    obtain ⟨_, hib'⟩ := List.getElem?_eq_some_iff.1 hib
    clear hia hib
    obtain ⟨⟨kx, nx', sx⟩, ⟨kx2, nx2, sx2⟩⟩ := x
    obtain ⟨⟨ky, ny, sy⟩, ⟨ky2, ny2, sy2⟩⟩ := y
    simp [zev, h, h1, hl, hia', hib', Cl.avs, Val.avs]
    refine ⟨fun hne => ?_, fun h1 h2 h3 h4 h5 h6 => ?_⟩
    · rw [hd]
      rintro ⟨he, _⟩
      cases he
      simp at hne
    · subst h1 h2 h3 h4 h5 h6
      rw [i64w (by omega)]
      exact ⟨b.length - (i + 1), by omega, i + 1, by omega, rfl, by simp, by rw [hd]; simp⟩
  · simp [zev, h]
    rw [hd, List.drop_of_length_le (by omega), List.drop_of_length_le (by omega)]
end Go.Proofs.YtejohcohkgcmhaaDoor
namespace Go.Proofs.YtejohcohkgcmhaaDoor
structure Fct where
  key : Str
  val : Val
structure Spt where
  name : Str
  facts : List Fct
  fuel : Int
  cells : Int
structure Evt where
  kind : Int
  text : Str
  err : Int
namespace VM
def ev0 : Evt := ⟨0, [], 0⟩
def dead (e : Int) : Evt := ⟨5, [], e⟩
def ask (l : List Fct) (k : Str) : Val := match l.find? (fun f => decide (f.key = k)) with
  | some f => f.val
  | none => vzero
def cl0 : Cl := ⟨vzero, vzero⟩
def toF (a : Agt) (fs : List Frm) (f : Frm) : Agt := { a with frames := fs ++ [f] }
def top1 (st : List Val) : Val := st.getD (st.length - 1) vzero
def top2 (st : List Val) : Val := st.getD (st.length - 2) vzero
def low (k : Nat) (st : List Val) : List Val := st.take (st.length - k)
def push (a : Agt) (fs : List Frm) (f : Frm) (st : List Val) (v : Val) : Agt × Evt := (toF a fs { f with stack := st ++ [v] }, ev0)
def codeAt (p : Prg) (n : Int) : Cod := p.codes.getD n.toNat ⟨0, 0, []⟩
def opDo (a : Agt) (s : Spt) (fs : List Frm) (f : Frm) (i : Ins) : Agt × Evt :=
  if i.op = 1 then push a fs f f.stack ⟨0, i.a, []⟩
  else if i.op = 2 then push a fs f f.stack (cText (a.prog.words.getD i.a.toNat []))
  else if i.op = 3 then push a fs f f.stack (f.vars.getD i.a.toNat vzero)
  else if i.op = 4 then (toF a fs { f with stack := low 1 f.stack, vars := f.vars.set i.a.toNat (top1 f.stack) }, ev0)
  else if i.op = 5 then (if (two i.a (top2 f.stack) (top1 f.stack)).2 = 0 then push a fs f (low 2 f.stack) (two i.a (top2 f.stack) (top1 f.stack)).1 else (toF a fs { f with stack := low 2 f.stack }, dead (two i.a (top2 f.stack) (top1 f.stack)).2))
  else if i.op = 6 then (if a.permit.room = 0 then (toF a fs { f with stack := low 2 f.stack }, dead 13)
    else push { a with heap := a.heap ++ [⟨top2 f.stack, top1 f.stack⟩], permit := { a.permit with room := a.permit.room - 1 } } fs f (low 2 f.stack) ⟨2, a.heap.length, []⟩)
  else if i.op = 7 then (if (top1 f.stack).kind ≠ 2 then (toF a fs { f with stack := low 1 f.stack }, dead 11) else push a fs f (low 1 f.stack) (a.heap.getD (top1 f.stack).n.toNat cl0).left)
  else if i.op = 8 then (if (top1 f.stack).kind ≠ 2 then (toF a fs { f with stack := low 1 f.stack }, dead 11) else push a fs f (low 1 f.stack) (a.heap.getD (top1 f.stack).n.toNat cl0).right)
  else if i.op = 9 then (if (top2 f.stack).kind ≠ 2 then (toF a fs { f with stack := low 2 f.stack }, dead 11) else (toF { a with heap := a.heap.set (top2 f.stack).n.toNat { a.heap.getD (top2 f.stack).n.toNat cl0 with left := top1 f.stack } } fs { f with stack := low 2 f.stack }, ev0))
  else if i.op = 10 then (if (top2 f.stack).kind ≠ 2 then (toF a fs { f with stack := low 2 f.stack }, dead 11) else (toF { a with heap := a.heap.set (top2 f.stack).n.toNat { a.heap.getD (top2 f.stack).n.toNat cl0 with right := top1 f.stack } } fs { f with stack := low 2 f.stack }, ev0))
  else if i.op = 11 then (if (top1 f.stack).kind ≠ 1 then (toF a fs { f with stack := low 1 f.stack }, dead 11) else push a fs f (low 1 f.stack) (ask s.facts (top1 f.stack).text))
  else if i.op = 12 then push a fs f f.stack (cText s.name)
  else if i.op = 13 then (if (top1 f.stack).kind ≠ 1 then (toF a fs { f with stack := low 1 f.stack }, dead 11) else if a.permit.hops = 0 then push a fs f (low 1 f.stack) vzero
    else (toF { a with permit := { a.permit with hops := a.permit.hops - 1 } } fs { f with stack := low 1 f.stack }, ⟨3, (top1 f.stack).text, 0⟩))
  else if i.op = 14 then (toF a fs { f with stack := low 1 f.stack }, ⟨2, vshow a.heap 4 (top1 f.stack), 0⟩)
  else if i.op = 15 then (toF a fs { f with at_ := i.a }, ev0)
  else if i.op = 16 then (toF a fs { f with stack := low 1 f.stack, at_ := if (top1 f.stack).kind = 0 ∧ (top1 f.stack).n = 0 then i.a else f.at_ }, ev0)
  else if i.op = 17 then (if 12 ≤ fs.length + 1 then (toF a fs f, dead 9)
    else (toF a (fs ++ [{ f with stack := low i.b.toNat f.stack }]) ⟨i.a, 0, f.stack.drop (f.stack.length - i.b.toNat) ++ List.replicate ((codeAt a.prog i.a).vars - i.b).toNat vzero, []⟩, ev0))
  else if i.op = 18 then (match fs.getLast? with
    | none => ({ a with frames := [] }, ⟨4, vshow a.heap 4 (top1 f.stack), 0⟩)
    | some g => push a fs.dropLast g g.stack (top1 f.stack))
  else (toF a fs { f with stack := low 1 f.stack }, ev0)
theorem opDo_1 (a : Agt) (s : Spt) (fs : List Frm) (f : Frm) (ia ib : Int) : opDo a s fs f ⟨1, ia, ib⟩ = push a fs f f.stack ⟨0, ia, []⟩ := rfl
theorem opDo_2 (a : Agt) (s : Spt) (fs : List Frm) (f : Frm) (ia ib : Int) : opDo a s fs f ⟨2, ia, ib⟩ = push a fs f f.stack (cText (a.prog.words.getD ia.toNat [])) := rfl
theorem opDo_3 (a : Agt) (s : Spt) (fs : List Frm) (f : Frm) (ia ib : Int) : opDo a s fs f ⟨3, ia, ib⟩ = push a fs f f.stack (f.vars.getD ia.toNat vzero) := rfl
theorem opDo_4 (a : Agt) (s : Spt) (fs : List Frm) (f : Frm) (ia ib : Int) : opDo a s fs f ⟨4, ia, ib⟩ = (toF a fs { f with stack := low 1 f.stack, vars := f.vars.set ia.toNat (top1 f.stack) }, ev0) := rfl
theorem opDo_5 (a : Agt) (s : Spt) (fs : List Frm) (f : Frm) (ia ib : Int) : opDo a s fs f ⟨5, ia, ib⟩ = (if (two ia (top2 f.stack) (top1 f.stack)).2 = 0 then push a fs f (low 2 f.stack) (two ia (top2 f.stack) (top1 f.stack)).1 else (toF a fs { f with stack := low 2 f.stack }, dead (two ia (top2 f.stack) (top1 f.stack)).2)) := rfl
theorem opDo_6 (a : Agt) (s : Spt) (fs : List Frm) (f : Frm) (ia ib : Int) : opDo a s fs f ⟨6, ia, ib⟩ = (if a.permit.room = 0 then (toF a fs { f with stack := low 2 f.stack }, dead 13) else push { a with heap := a.heap ++ [⟨top2 f.stack, top1 f.stack⟩], permit := { a.permit with room := a.permit.room - 1 } } fs f (low 2 f.stack) ⟨2, a.heap.length, []⟩) := rfl
theorem opDo_7 (a : Agt) (s : Spt) (fs : List Frm) (f : Frm) (ia ib : Int) : opDo a s fs f ⟨7, ia, ib⟩ = (if (top1 f.stack).kind ≠ 2 then (toF a fs { f with stack := low 1 f.stack }, dead 11) else push a fs f (low 1 f.stack) (a.heap.getD (top1 f.stack).n.toNat cl0).left) := rfl
theorem opDo_8 (a : Agt) (s : Spt) (fs : List Frm) (f : Frm) (ia ib : Int) : opDo a s fs f ⟨8, ia, ib⟩ = (if (top1 f.stack).kind ≠ 2 then (toF a fs { f with stack := low 1 f.stack }, dead 11) else push a fs f (low 1 f.stack) (a.heap.getD (top1 f.stack).n.toNat cl0).right) := rfl
theorem opDo_9 (a : Agt) (s : Spt) (fs : List Frm) (f : Frm) (ia ib : Int) : opDo a s fs f ⟨9, ia, ib⟩ = (if (top2 f.stack).kind ≠ 2 then (toF a fs { f with stack := low 2 f.stack }, dead 11) else (toF { a with heap := a.heap.set (top2 f.stack).n.toNat { a.heap.getD (top2 f.stack).n.toNat cl0 with left := top1 f.stack } } fs { f with stack := low 2 f.stack }, ev0)) := rfl
theorem opDo_10 (a : Agt) (s : Spt) (fs : List Frm) (f : Frm) (ia ib : Int) : opDo a s fs f ⟨10, ia, ib⟩ = (if (top2 f.stack).kind ≠ 2 then (toF a fs { f with stack := low 2 f.stack }, dead 11) else (toF { a with heap := a.heap.set (top2 f.stack).n.toNat { a.heap.getD (top2 f.stack).n.toNat cl0 with right := top1 f.stack } } fs { f with stack := low 2 f.stack }, ev0)) := rfl
theorem opDo_11 (a : Agt) (s : Spt) (fs : List Frm) (f : Frm) (ia ib : Int) : opDo a s fs f ⟨11, ia, ib⟩ = (if (top1 f.stack).kind ≠ 1 then (toF a fs { f with stack := low 1 f.stack }, dead 11) else push a fs f (low 1 f.stack) (ask s.facts (top1 f.stack).text)) := rfl
theorem opDo_12 (a : Agt) (s : Spt) (fs : List Frm) (f : Frm) (ia ib : Int) : opDo a s fs f ⟨12, ia, ib⟩ = push a fs f f.stack (cText s.name) := rfl
theorem opDo_13 (a : Agt) (s : Spt) (fs : List Frm) (f : Frm) (ia ib : Int) : opDo a s fs f ⟨13, ia, ib⟩ = (if (top1 f.stack).kind ≠ 1 then (toF a fs { f with stack := low 1 f.stack }, dead 11) else if a.permit.hops = 0 then push a fs f (low 1 f.stack) vzero else (toF { a with permit := { a.permit with hops := a.permit.hops - 1 } } fs { f with stack := low 1 f.stack }, ⟨3, (top1 f.stack).text, 0⟩)) := rfl
theorem opDo_14 (a : Agt) (s : Spt) (fs : List Frm) (f : Frm) (ia ib : Int) : opDo a s fs f ⟨14, ia, ib⟩ = (toF a fs { f with stack := low 1 f.stack }, ⟨2, vshow a.heap 4 (top1 f.stack), 0⟩) := rfl
theorem opDo_15 (a : Agt) (s : Spt) (fs : List Frm) (f : Frm) (ia ib : Int) : opDo a s fs f ⟨15, ia, ib⟩ = (toF a fs { f with at_ := ia }, ev0) := rfl
theorem opDo_16 (a : Agt) (s : Spt) (fs : List Frm) (f : Frm) (ia ib : Int) : opDo a s fs f ⟨16, ia, ib⟩ = (toF a fs { f with stack := low 1 f.stack, at_ := if (top1 f.stack).kind = 0 ∧ (top1 f.stack).n = 0 then ia else f.at_ }, ev0) := rfl
theorem opDo_17 (a : Agt) (s : Spt) (fs : List Frm) (f : Frm) (ia ib : Int) : opDo a s fs f ⟨17, ia, ib⟩ = (if 12 ≤ fs.length + 1 then (toF a fs f, dead 9) else (toF a (fs ++ [{ f with stack := low ib.toNat f.stack }]) ⟨ia, 0, f.stack.drop (f.stack.length - ib.toNat) ++ List.replicate ((codeAt a.prog ia).vars - ib).toNat vzero, []⟩, ev0)) := rfl
theorem opDo_18 (a : Agt) (s : Spt) (fs : List Frm) (f : Frm) (ia ib : Int) : opDo a s fs f ⟨18, ia, ib⟩ = (match fs.getLast? with | none => ({ a with frames := [] }, ⟨4, vshow a.heap 4 (top1 f.stack), 0⟩) | some g => push a fs.dropLast g g.stack (top1 f.stack)) := rfl
theorem opDo_19 (a : Agt) (s : Spt) (fs : List Frm) (f : Frm) (ia ib : Int) : opDo a s fs f ⟨19, ia, ib⟩ = (toF a fs { f with stack := low 1 f.stack }, ev0) := rfl
def insAt (p : Prg) (f : Frm) : Ins := (codeAt p f.fn).ins.getD f.at_.toNat ⟨0, 0, 0⟩
def step (a : Agt) (s : Spt) : Agt × Evt :=
  if a.permit.fuel = 0 then (a, dead 12)
  else match a.frames.getLast? with
    | none => (a, ev0)
    | some f => opDo { a with permit := { a.permit with fuel := a.permit.fuel - 1 } } s a.frames.dropLast { f with at_ := f.at_ + 1 } (insAt a.prog f)
def run (s : Spt) : Nat → Agt → Agt × Evt
  | 0, a => (a, ⟨1, [], 0⟩)
  | n + 1, a => if (step a s).2.kind ≠ 0 then step a s else run s n (step a s).1
def answer (a : Agt) (n : Int) : Agt := match a.frames.getLast? with
  | none => a
  | some f => toF a a.frames.dropLast { f with stack := f.stack ++ [⟨0, n, []⟩] }
def roots (a : Agt) : List Val := a.frames.flatMap fun f => f.vars ++ f.stack
def pack (a : Agt) : Agt := { a with frames := a.frames.map (fun f => { f with vars := f.vars.map (put (order a.heap (roots a))), stack := f.stack.map (put (order a.heap (roots a))) }), heap := canonC a.heap (roots a) }
def newAgt (id : Int) (p : Prg) (m : Pmt) : Agt := ⟨id, 0, p, [⟨0, 0, List.replicate (codeAt p 0).vars.toNat vzero, []⟩], [], m⟩
end VM
end Go.Proofs.YtejohcohkgcmhaaDoor
namespace Go.Proofs.YtejohcohkgcmhaaDoor
open Go Go.RowKit
def zmi (out : List Int) : Nat := out.countP (· < 0)
theorem zur {out : List Int} {k : Nat} {h : Int} (hk : k < out.length) (h0 : out.getD k 0 < 0) (h1 : 0 ≤ h) : zmi (out.set k h) + 1 = zmi out := by
  unfold zmi
  have hg : out[k] < 0 := by simpa [List.getD, hk] using h0
  have hpos : 0 < out.countP (· < 0) := List.countP_pos_iff.2 ⟨out[k], List.getElem_mem hk, by simpa using hg⟩
  rw [List.countP_set hk]
  have hnl : ¬ h < 0 := by omega
  simp [hg, hnl]
  omega
theorem zho (i : Ins) (h : i.op = 17 → 0 ≤ i.b ∧ i.b ≤ 16) : 0 ≤ (VM.effect i).1 ∧ (VM.effect i).1 ≤ 16 ∧ 0 ≤ (VM.effect i).2 ∧ (VM.effect i).2 ≤ 1 := by
  unfold VM.effect
  (repeat' split) <;> simp_all
def Calm (ins : List Ins) : Prop := ∀ i ∈ ins, i.op = 17 → 0 ≤ i.b ∧ i.b ≤ 16
theorem zem {α : Type} (f : α → Int) (l : List α) (k : Nat) (x : α) (hk : l[k]? = some x) : VM.firstErr f (l.drop k) = if f x ≠ 0 then f x else VM.firstErr f (l.drop (k + 1)) := by
  obtain ⟨hlt, rfl⟩ := List.getElem?_eq_some_iff.1 hk
  rw [List.drop_eq_getElem_cons hlt]
  rfl
theorem zaoo {α : Type} (f : α → Bool) (l : List α) (k : Nat) (x : α) (hk : l[k]? = some x) : (l.drop k).any f = (f x || (l.drop (k + 1)).any f) := by
  obtain ⟨hlt, rfl⟩ := List.getElem?_eq_some_iff.1 hk
  rw [List.drop_eq_getElem_cons hlt]
  rfl
theorem zaop {α : Type} (f : α → Bool) (l : List α) (k : Nat) (x : α) (hk : l[k]? = some x) : (l.drop k).all f = (f x && (l.drop (k + 1)).all f) := by
  obtain ⟨hlt, rfl⟩ := List.getElem?_eq_some_iff.1 hk
  rw [List.drop_eq_getElem_cons hlt]
  rfl
theorem zbt {α : Type} {f : α → Int} {l : List α} (h : VM.firstErr f l = 0) : ∀ x ∈ l, f x = 0 := by
  induction l with
  | nil => intro x hx; simp at hx
  | cons a r ih =>
    unfold VM.firstErr at h
    by_cases h0 : f a ≠ 0
    · rw [if_pos h0] at h; exact absurd h h0
    · rw [if_neg h0] at h
      intro x hx
      rcases List.mem_cons.1 hx with rfl | hx
      · omega
      · exact ih h x hx
theorem zain {p : Prg} {c : Cod} (hr : ∀ x ∈ p.codes, VM.codeRange x = false) (hn : ∀ i ∈ c.ins, VM.numbers p c i = 0) : Calm c.ins := by
  intro i hi h17
  have h := hn i hi
  unfold VM.numbers at h
  rw [if_neg (by omega)] at h
  by_cases hok : VM.numOk p c i = false ∨ (i.op ≠ 17 ∧ i.b ≠ 0)
  · rw [if_pos hok] at h; omega
  · have h2 : VM.numOk p c i = true := by
      cases hq : VM.numOk p c i with
      | true => rfl
      | false => exact absurd (Or.inl hq) hok
    unfold VM.numOk at h2
    simp [h17] at h2
    obtain ⟨_, h3⟩ := h2
    cases hx : p.codes[i.a.toNat]? with
    | none => rw [hx] at h3; simp at h3
    | some x =>
      rw [hx] at h3
      have h4 := hr x (List.mem_of_getElem? hx)
      unfold VM.codeRange at h4
      rw [decide_eq_false_iff_not] at h4
      simp at h3
      omega
theorem zkx (ins : List Ins) (hc : Calm ins) : ∀ (fuel : Nat) (q : List (Int × Int)) (out : List Int), q.length + 2 * zmi out < fuel → (∀ x ∈ q, 0 ≤ x.2 ∧ x.2 ≤ 16) → out.length = ins.length →
    (∀ x ∈ out, -1 ≤ x ∧ x ≤ 16) → (VM.heightsGo ins fuel q out).2 = 0 → (VM.heightsGo ins fuel q out).1.length = ins.length ∧ ∀ x ∈ (VM.heightsGo ins fuel q out).1, -1 ≤ x ∧ x ≤ 16
  | 0, q, out, h, _, _, _, _ => by omega
  | f + 1, [], out, _, _, hl, ho, _ => ⟨hl, ho⟩
  | f + 1, (at_, h) :: q, out, hp, hq, hl, ho, he => by
    unfold VM.heightsGo at he ⊢
    have hh := hq (at_, h) (by simp)
    simp only at hh
    have hq' : ∀ x ∈ q, 0 ≤ x.2 ∧ x.2 ≤ 16 := fun x hx => hq x (by simp [hx])
    simp only [List.length_cons] at hp
    generalize hm : (if 0 ≤ at_ then ins[at_.toNat]? else none) = m at *
    cases m with
    | none => simp at he
    | some i =>
      have hi : ins[at_.toNat]? = some i := by
        by_cases h0 : 0 ≤ at_
        · rwa [if_pos h0] at hm
        · rw [if_neg h0] at hm; cases hm
      have hlt : at_.toNat < out.length := by rw [hl]; exact (List.getElem?_eq_some_iff.1 hi).1
      simp only at he ⊢
      by_cases hs : 0 ≤ out.getD at_.toNat 0
      · rw [if_pos hs] at he ⊢
        by_cases hne : out.getD at_.toNat 0 ≠ h
        · rw [if_pos hne] at he; simp at he
        · rw [if_neg hne] at he ⊢
          exact zkx ins hc f q out (by omega) hq' hl ho he
      · rw [if_neg hs] at he ⊢
        have hb := zho i (hc i (List.mem_of_getElem? hi))
        by_cases h1 : h < (VM.effect i).1 ∨ (i.op = 18 ∧ h ≠ 1)
        · rw [if_pos h1] at he; simp at he
        · rw [if_neg h1] at he ⊢
          by_cases h2 : 16 < h + (VM.effect i).2 - (VM.effect i).1
          · rw [if_pos h2] at he; simp at he
          · rw [if_neg h2] at he ⊢
            have hu := zur (out := out) (k := at_.toNat) (h := h) hlt (by omega) hh.1
            refine zkx ins hc f _ _ ?_ ?_ (by simpa using hl) ?_ he
            · simp only [List.length_append]
              have l1 : (if i.op ≠ 15 ∧ i.op ≠ 18 then [(at_ + 1, h + (VM.effect i).2 - (VM.effect i).1)] else []).length ≤ 1 := by split <;> simp
              have l2 : (if i.op = 15 ∨ i.op = 16 then [(i.a, h + (VM.effect i).2 - (VM.effect i).1)] else []).length ≤ 1 := by split <;> simp
              omega
            · intro x hx
              simp only [List.mem_append] at hx
              rcases hx with (hx | hx) | hx
              · exact hq' x hx
              · split at hx
                · simp at hx; subst hx; constructor <;> simp only <;> omega
                · simp at hx
              · split at hx
                · simp at hx; subst hx; constructor <;> simp only <;> omega
                · simp at hx
            · intro x hx
              rcases List.mem_or_eq_of_mem_set hx with h9 | h9
              · exact ho x h9
              · omega
theorem zde {ins : List Ins} (hc : Calm ins) (h : (VM.heights ins).2 = 0) : (VM.heights ins).1.length = ins.length ∧ ∀ x ∈ (VM.heights ins).1, -1 ≤ x ∧ x ≤ 16 := by
  refine zkx ins hc _ _ _ ?_ ?_ (by simp) ?_ h
  · unfold zmi; simp [List.countP_replicate]; omega
  · intro x hx; simp at hx; subst hx; simp
  · intro x hx; have := List.eq_of_mem_replicate hx; omega
theorem zz {p : Prg} (h : VM.program p = 0) : (∀ c ∈ p.codes, VM.codeRange c = false ∧ Calm c.ins ∧ (VM.heights c.ins).2 = 0) ∧ p.codes.length ≤ 5 ∧ p.words.length ≤ 16 := by
  unfold VM.program at h
  by_cases h1 : p.codes.length < 1 ∨ 5 < p.codes.length
  · rw [if_pos h1] at h; omega
  rw [if_neg h1] at h
  by_cases h2 : 16 < p.words.length
  · rw [if_pos h2] at h; omega
  rw [if_neg h2] at h
  split at h
  · omega
  split at h
  · omega
  by_cases h5 : p.codes.any VM.codeRange = true
  · rw [if_pos h5] at h; omega
  rw [if_neg h5] at h
  have hr : ∀ x ∈ p.codes, VM.codeRange x = false := by simpa using h5
  refine ⟨fun c hc => ?_, by omega, by omega⟩
  have he := zbt h c hc
  unfold VM.codeErr at he
  by_cases hn : VM.firstErr (VM.numbers p c) c.ins ≠ 0
  · rw [if_pos hn] at he; exact absurd he hn
  · rw [if_neg hn] at he
    exact ⟨hr c hc, zain hr (zbt (by omega)), he⟩
def zda (a : Agt) (vs st : List Val) (h : Int) : Int :=
  if h < 0 ∨ (st.length : Int) ≠ h then 10 else VM.firstErr (fun v => VM.wrong v a.heap.length) (vs ++ st)
def zqz (a : Agt) (k : Nat) (c : Cod) (hs : List Int) (m : Nat) : Bool :=
  (!decide (k + 1 = a.frames.length) && (decide ((c.ins.getD (m - 1) ⟨0, 0, 0⟩).op ≠ 17) || decide ((c.ins.getD (m - 1) ⟨0, 0, 0⟩).a ≠ ((a.frames[k + 1]?).map (·.fn)).getD 0))) ||
    (decide (k + 1 = a.frames.length) && decide ((c.ins.getD (m - 1) ⟨0, 0, 0⟩).op ≠ 13)) || decide (hs.getD (m - 1) 0 < 0)
theorem zank {a : Agt} {k n m : Nat} {away : Bool} {vs st : List Val} {c : Cod} {hs : List Int} {h : Int} (hf : a.frames[k]? = some ⟨(n : Int), (m : Int), vs, st⟩) (hc : a.prog.codes[n]? = some c)
    (hm : m < c.ins.length) (hvs : (vs.length : Int) = c.vars) (hhs : hs = (VM.heights c.ins).1) (hh : hs[m]? = some h) :
    VM.frame a k away = if (!decide (k + 1 = a.frames.length) || away) && (decide ((m : Int) = 0) || zqz a k c hs m) then 10
      else zda a vs st (if (!decide (k + 1 = a.frames.length) || away) = true then h - 1 else h) := by
  have e1 : (VM.heights c.ins).1.getD m 0 = h := by rw [← hhs, List.getD_eq_getElem?_getD, hh]; rfl
  unfold VM.frame
  rw [hf]
  simp only [Int.toNat_natCast]
  rw [if_pos (by omega), hc]
  simp only
  rw [if_pos (by omega), List.getElem?_eq_getElem hm]
  simp only
  rw [if_neg (by omega), e1, ← hhs]
  rfl
end Go.Proofs.YtejohcohkgcmhaaDoor
namespace Go.Proofs.YtejohcohkgcmhaaDoor
namespace VM
def after (i : Ins) (h : Int) : Int := h + (effect i).2 - (effect i).1
def zrt (at_ : Int) (i : Ins) (h : Int) : List (Int × Int) := (if i.op ≠ 15 ∧ i.op ≠ 18 then [(at_ + 1, after i h)] else []) ++ (if i.op = 15 ∨ i.op = 16 then [(i.a, after i h)] else [])
def zbu (hs : List Int) (x : Int × Int) : Prop := 0 ≤ x.1 ∧ hs[x.1.toNat]? = some x.2
structure zaov (ins : List Ins) (hs : List Int) : Prop where
  len : hs.length = ins.length
  start : zbu hs (0, 0)
  at_ : ∀ (m : Nat) (i : Ins) (h : Int), ins[m]? = some i → hs[m]? = some h → 0 ≤ h → (effect i).1 ≤ h ∧ (i.op = 18 → h = 1) ∧ after i h ≤ 16 ∧ ∀ x ∈ zrt m i h, zbu hs x
structure zarx (ins : List Ins) (q : List (Int × Int)) (out : List Int) : Prop where
  len : out.length = ins.length
  start : (0, 0) ∈ q ∨ zbu out (0, 0)
  at_ : ∀ (m : Nat) (i : Ins) (h : Int), ins[m]? = some i → out[m]? = some h → 0 ≤ h → (effect i).1 ≤ h ∧ (i.op = 18 → h = 1) ∧ after i h ≤ 16 ∧ ∀ x ∈ zrt m i h, x ∈ q ∨ zbu out x
theorem zadn {out : List Int} {k : Nat} {h : Int} {x : Int × Int} (hx : zbu out x) (hk : out.getD k 0 < 0) (h0 : 0 ≤ x.2) : zbu (out.set k h) x := by
  refine ⟨hx.1, ?_⟩
  by_cases e : x.1.toNat = k
  · subst e
    have := hx.2
    rw [List.getD_eq_getElem?_getD, this] at hk
    simp at hk; omega
  · rw [List.getElem?_set_ne (fun h => e h.symm)]; exact hx.2
theorem znt (ins : List Ins) (hc : Calm ins) : ∀ (fuel : Nat) (q : List (Int × Int)) (out : List Int), q.length + 2 * zmi out < fuel → (∀ x ∈ q, 0 ≤ x.2 ∧ x.2 ≤ 16) → zarx ins q out → (heightsGo ins fuel q out).2 = 0 → zaov ins (heightsGo ins fuel q out).1
  | 0, q, out, h, _, _, _ => by omega
  | f + 1, [], out, _, _, iv, _ => ⟨iv.len, by rcases iv.start with h | h; simp at h; exact h, fun m i h h1 h2 h3 => by
      obtain ⟨a, b, c, d⟩ := iv.at_ m i h h1 h2 h3
      exact ⟨a, b, c, fun x hx => (d x hx).resolve_left (by simp)⟩⟩
  | f + 1, (at_, h) :: q, out, hp, hq, iv, he => by
    unfold heightsGo at he ⊢
    have hh := hq (at_, h) (by simp)
    simp only at hh
    have hq' : ∀ x ∈ q, 0 ≤ x.2 ∧ x.2 ≤ 16 := fun x hx => hq x (by simp [hx])
    simp only [List.length_cons] at hp
    generalize hm : (if 0 ≤ at_ then ins[at_.toNat]? else none) = m at *
    cases m with
    | none => simp at he
    | some i =>
      obtain ⟨h0, hi⟩ : 0 ≤ at_ ∧ ins[at_.toNat]? = some i := by
        by_cases h0 : 0 ≤ at_
        · rw [if_pos h0] at hm; exact ⟨h0, hm⟩
        · rw [if_neg h0] at hm; cases hm
      have hl := iv.len
      have hlt : at_.toNat < out.length := by rw [hl]; exact (List.getElem?_eq_some_iff.1 hi).1
      have hget : out[at_.toNat]? = some out[at_.toNat] := List.getElem?_eq_getElem hlt
      have hgd : out.getD at_.toNat 0 = out[at_.toNat] := by rw [List.getD_eq_getElem?_getD, hget]; rfl
      simp only at he ⊢
      by_cases hs : 0 ≤ out.getD at_.toNat 0
      · rw [if_pos hs] at he ⊢
        by_cases hne : out.getD at_.toNat 0 ≠ h
        · rw [if_pos hne] at he; simp at he
        · rw [if_neg hne] at he ⊢
          have hth : zbu out (at_, h) := ⟨h0, by rw [hget, ← hgd]; simp only; rw [Classical.not_not.1 hne]⟩
          refine znt ins hc f q out (by omega) hq' ⟨hl, ?_, fun m j k h1 h2 h3 => ?_⟩ he
          · rcases iv.start with h | h
            · rcases List.mem_cons.1 h with h | h
              · rw [h]; exact .inr hth
              · exact .inl h
            · exact .inr h
          · obtain ⟨a, b, c, d⟩ := iv.at_ m j k h1 h2 h3
            refine ⟨a, b, c, fun x hx => ?_⟩
            rcases d x hx with h | h
            · rcases List.mem_cons.1 h with h | h
              · rw [h]; exact .inr hth
              · exact .inl h
            · exact .inr h
      · rw [if_neg hs] at he ⊢
        have hb := zho i (hc i (List.mem_of_getElem? hi))
        by_cases h1 : h < (effect i).1 ∨ (i.op = 18 ∧ h ≠ 1)
        · rw [if_pos h1] at he; simp at he
        · rw [if_neg h1] at he ⊢
          by_cases h2 : 16 < h + (effect i).2 - (effect i).1
          · rw [if_pos h2] at he; simp at he
          · rw [if_neg h2] at he ⊢
            have hu := zur (out := out) (k := at_.toNat) (h := h) hlt (by omega) hh.1
            have hth : zbu (out.set at_.toNat h) (at_, h) := ⟨h0, List.getElem?_set_self hlt⟩
            refine znt ins hc f _ _ ?_ ?_ ⟨by simpa using hl, ?_, ?_⟩ he
            · simp only [List.length_append]
              have l1 : (if i.op ≠ 15 ∧ i.op ≠ 18 then [(at_ + 1, h + (effect i).2 - (effect i).1)] else []).length ≤ 1 := by split <;> simp
              have l2 : (if i.op = 15 ∨ i.op = 16 then [(i.a, h + (effect i).2 - (effect i).1)] else []).length ≤ 1 := by split <;> simp
              omega
            · intro x hx
              simp only [List.mem_append] at hx
              rcases hx with (hx | hx) | hx
              · exact hq' x hx
              · split at hx
                · simp at hx; subst hx; constructor <;> simp only <;> omega
                · simp at hx
              · split at hx
                · simp at hx; subst hx; constructor <;> simp only <;> omega
                · simp at hx
            · rcases iv.start with h9 | h9
              · rcases List.mem_cons.1 h9 with h9 | h9
                · rw [h9]; exact .inr hth
                · exact .inl (by simp [h9])
              · exact .inr (zadn h9 (by omega) (Int.le_refl _))
            · intro m j k m1 m2 m3
              by_cases e : m = at_.toNat
              · subst e
                rw [hi] at m1
                cases m1
                rw [List.getElem?_set_self hlt] at m2
                cases m2
                have ea : ((at_.toNat : Nat) : Int) = at_ := Int.toNat_of_nonneg h0
                refine ⟨by omega, fun h18 => by omega, by unfold after; omega, fun x hx => .inl ?_⟩
                unfold zrt after at hx
                rw [ea] at hx
                rw [List.append_assoc]
                exact List.mem_append_right _ hx
              · rw [List.getElem?_set_ne (fun h => e h.symm)] at m2
                obtain ⟨a, b, c, d⟩ := iv.at_ m j k m1 m2 m3
                have hbj := zho j (hc j (List.mem_of_getElem? m1))
                refine ⟨a, b, c, fun x hx => ?_⟩
                have hx2 : 0 ≤ x.2 := by
                  have : x.2 = after j k := by
                    unfold zrt at hx
                    rcases List.mem_append.1 hx with h | h
                    · split at h
                      · simp at h; rw [h]
                      · simp at h
                    · split at h
                      · simp at h; rw [h]
                      · simp at h
                  rw [this]; unfold after; omega
                rcases d x hx with h | h
                · rcases List.mem_cons.1 h with h | h
                  · rw [h]; exact .inr hth
                  · exact .inl (by simp [h])
                · exact .inr (zadn h (by omega) hx2)
theorem zabf {ins : List Ins} (hc : Calm ins) (h : (heights ins).2 = 0) : zaov ins (heights ins).1 := by
  refine znt ins hc _ _ _ ?_ ?_ ⟨by simp, .inl (by simp), fun m i k h1 h2 h3 => ?_⟩ h
  · unfold zmi; simp [List.countP_replicate]; omega
  · intro x hx; simp at hx; subst hx; simp
  · have := List.mem_of_getElem? h2
    have := List.eq_of_mem_replicate this
    omega
end VM
end Go.Proofs.YtejohcohkgcmhaaDoor
namespace Go.Proofs.YtejohcohkgcmhaaDoor
namespace VM
theorem WrongOk.mono {v : Val} {N M : Int} (h : WrongOk v N) (hn : N ≤ M) : WrongOk v M := ⟨h.kind, h.int, h.len, fun k => by have := h.cell k; omega, h.txt, h.non⟩
structure FrOk (p : Prg) (N : Nat) (f : Frm) : Prop where
  fn0 : 0 ≤ f.fn
  at0 : 0 ≤ f.at_
  code : f.fn.toNat < p.codes.length
  ins : f.at_.toNat < (codeAt p f.fn).ins.length
  vars : (f.vars.length : Int) = (codeAt p f.fn).vars
  vv : ∀ v ∈ f.vars, WrongOk v N
  sv : ∀ v ∈ f.stack, WrongOk v N
def hts (p : Prg) (f : Frm) : List Int := (heights (codeAt p f.fn).ins).1
def Still (p : Prg) (f : Frm) : Prop := (hts p f)[f.at_.toNat]? = some (f.stack.length : Int)
structure Waits (p : Prg) (f : Frm) (fn : Int) : Prop where
  pos : 0 < f.at_
  op : ((codeAt p f.fn).ins.getD (f.at_.toNat - 1) ⟨0, 0, 0⟩).op = 17
  to : ((codeAt p f.fn).ins.getD (f.at_.toNat - 1) ⟨0, 0, 0⟩).a = fn
  seen : 0 ≤ (hts p f).getD (f.at_.toNat - 1) 0
  hei : (hts p f)[f.at_.toNat]? = some ((f.stack.length : Int) + 1)
inductive WChain (p : Prg) : List Frm → Int → Prop
  | nil (fn : Int) : WChain p [] fn
  | snoc (gs : List Frm) (g : Frm) (fn : Int) : WChain p gs g.fn → Waits p g fn → WChain p (gs ++ [g]) fn
structure Live (a : Agt) (fs : List Frm) (f : Frm) : Prop where
  fr : a.frames = fs ++ [f]
  prog : program a.prog = 0
  id : 0 ≤ a.id ∧ a.id ≤ 1073741824
  trip : 0 ≤ a.trip ∧ a.trip ≤ 1073741824
  fuel : 0 ≤ a.permit.fuel ∧ a.permit.fuel ≤ 2000
  room : 0 ≤ a.permit.room
  hops : 0 ≤ a.permit.hops ∧ a.permit.hops ≤ 12
  flen : fs.length < 12
  hlen : (a.heap.length : Int) + a.permit.room ≤ 60
  ok : ∀ g ∈ fs ++ [f], FrOk a.prog a.heap.length g
  chain : WChain a.prog fs f.fn
  still : Still a.prog f
  cells : ∀ c ∈ a.heap, WrongOk c.left a.heap.length ∧ WrongOk c.right a.heap.length
structure Now (p : Prg) (f : Frm) (i : Ins) : Prop where
  at_ : (codeAt p f.fn).ins[f.at_.toNat]? = some i
  num : numbers p (codeAt p f.fn) i = 0
  pops : (effect i).1 ≤ f.stack.length
  ret : i.op = 18 → f.stack.length = 1
  most : after i f.stack.length ≤ 16
  next : ∀ x ∈ zrt f.at_ i f.stack.length, zbu (hts p f) x
theorem code_mem {p : Prg} {n : Int} (h : n.toNat < p.codes.length) : codeAt p n ∈ p.codes := by
  unfold codeAt
  rw [List.getD_eq_getElem?_getD, List.getElem?_eq_getElem h]
  exact List.getElem_mem h
theorem zafu {p : Prg} (h : program p = 0) : ∀ c ∈ p.codes, ∀ i ∈ c.ins, numbers p c i = 0 := by
  unfold program at h
  split at h
  · omega
  split at h
  · omega
  split at h
  · omega
  split at h
  · omega
  split at h
  · omega
  intro c hc i hi
  have he := zbt h c hc
  unfold codeErr at he
  by_cases hn : firstErr (numbers p c) c.ins ≠ 0
  · rw [if_pos hn] at he; exact absurd he hn
  · exact zbt (by omega) i hi
theorem Live.now {a : Agt} {fs : List Frm} {f : Frm} (l : Live a fs f) : Now a.prog f (insAt a.prog f) := by
  have ok := l.ok f (by simp)
  obtain ⟨pr, _⟩ := zz l.prog
  obtain ⟨_, calm, hz⟩ := pr _ (code_mem ok.code)
  have hk := zabf calm hz
  have hi : (codeAt a.prog f.fn).ins[f.at_.toNat]? = some (insAt a.prog f) := by
    unfold insAt
    rw [List.getD_eq_getElem?_getD, List.getElem?_eq_getElem ok.ins]; rfl
  have ea : ((f.at_.toNat : Nat) : Int) = f.at_ := Int.toNat_of_nonneg ok.at0
  obtain ⟨h1, h2, h3, h4⟩ := hk.at_ _ _ _ hi l.still (by omega)
  rw [ea] at h4
  exact ⟨hi, zafu l.prog _ (code_mem ok.code) _ (List.mem_of_getElem? hi), h1, fun h => by have := h2 h; omega, h3, h4⟩
theorem numbers_ok {p : Prg} {c : Cod} {i : Ins} (h : numbers p c i = 0) : 1 ≤ i.op ∧ i.op ≤ 19 ∧ numOk p c i = true ∧ (i.op ≠ 17 → i.b = 0) := by
  unfold numbers at h
  split at h
  · omega
  split at h
  · omega
  rename_i h1 h2
  refine ⟨by omega, by omega, ?_, fun hb => ?_⟩
  · cases hn : numOk p c i with
    | true => rfl
    | false => exact absurd (.inl hn) h2
  · exact Classical.byContradiction fun hx => h2 (.inr ⟨hb, hx⟩)
theorem zagh {α : Type} {f : α → Int} {l m : List α} (h : firstErr f (l ++ m) = 0) : (∀ x ∈ l, f x = 0) ∧ ∀ x ∈ m, f x = 0 := by
  have := zbt h
  exact ⟨fun x hx => this x (by simp [hx]), fun x hx => this x (by simp [hx])⟩
theorem zsd {a : Agt} {k : Nat} {f : Frm} (hp : program a.prog = 0) (hk : a.frames[k]? = some f) (h : frame a k false = 0) : FrOk a.prog a.heap.length f ∧ (k + 1 = a.frames.length → Still a.prog f) ∧ (k + 1 ≠ a.frames.length → Waits a.prog f (((a.frames[k + 1]?).map (·.fn)).getD 0)) := by
  unfold frame at h
  rw [hk] at h
  simp only at h
  by_cases hfn : 0 ≤ f.fn
  case neg => rw [if_neg hfn] at h; simp at h
  rw [if_pos hfn] at h
  cases hc : a.prog.codes[f.fn.toNat]? with
  | none => rw [hc] at h; simp at h
  | some c =>
  rw [hc] at h
  simp only at h
  by_cases hat : 0 ≤ f.at_
  case neg => rw [if_neg hat] at h; simp at h
  rw [if_pos hat] at h
  cases hi : c.ins[f.at_.toNat]? with
  | none => rw [hi] at h; simp at h
  | some i =>
  rw [hi] at h
  simp only at h
  by_cases hv : (f.vars.length : Int) ≠ c.vars
  · rw [if_pos hv] at h; omega
  rw [if_neg hv] at h
  have hcode := (List.getElem?_eq_some_iff.1 hc).1
  have hca : codeAt a.prog f.fn = c := by unfold codeAt; rw [List.getD_eq_getElem?_getD, hc]; rfl
  have hil := (List.getElem?_eq_some_iff.1 hi).1
  obtain ⟨pr, _⟩ := zz hp
  obtain ⟨_, calm, hz⟩ := pr _ (List.mem_of_getElem? hc)
  have hlen := (zde calm hz).1
  have hh : (heights c.ins).1[f.at_.toNat]? = some ((heights c.ins).1.getD f.at_.toNat 0) := by
    rw [List.getD_eq_getElem?_getD, List.getElem?_eq_getElem (by omega)]; rfl
  have main : VM.firstErr (fun v => wrong v a.heap.length) (f.vars ++ f.stack) = 0 ∧ (k + 1 = a.frames.length → (heights c.ins).1.getD f.at_.toNat 0 = f.stack.length) ∧ (k + 1 ≠ a.frames.length → f.at_ ≠ 0 ∧ (c.ins.getD (f.at_.toNat - 1) ⟨0, 0, 0⟩).op = 17 ∧
      (c.ins.getD (f.at_.toNat - 1) ⟨0, 0, 0⟩).a = ((a.frames[k + 1]?).map (·.fn)).getD 0 ∧ 0 ≤ (heights c.ins).1.getD (f.at_.toNat - 1) 0 ∧ (heights c.ins).1.getD f.at_.toNat 0 = f.stack.length + 1) := by
    by_cases hlast : k + 1 = a.frames.length
    · simp only [hlast, decide_true, Bool.not_true, Bool.false_or, Bool.or_false, Bool.false_and, Bool.false_eq_true, if_false] at h
      by_cases hst : (heights c.ins).1.getD f.at_.toNat 0 < 0 ∨ (f.stack.length : Int) ≠ (heights c.ins).1.getD f.at_.toNat 0
      · rw [if_pos hst] at h; omega
      · rw [if_neg hst] at h
        exact ⟨h, fun _ => by omega, fun hx => absurd hlast hx⟩
    · simp only [hlast, decide_false, Bool.not_false, Bool.true_and, Bool.or_false, Bool.false_and, if_true] at h
      by_cases hw : (decide (f.at_ = 0) || (decide ((c.ins.getD (f.at_.toNat - 1) ⟨0, 0, 0⟩).op ≠ 17) || decide ((c.ins.getD (f.at_.toNat - 1) ⟨0, 0, 0⟩).a ≠ ((a.frames[k + 1]?).map (·.fn)).getD 0) || decide ((heights c.ins).1.getD (f.at_.toNat - 1) 0 < 0))) = true
      · rw [if_pos hw] at h; omega
      · rw [if_neg hw] at h
        by_cases hst : (heights c.ins).1.getD f.at_.toNat 0 - 1 < 0 ∨ (f.stack.length : Int) ≠ (heights c.ins).1.getD f.at_.toNat 0 - 1
        · rw [if_pos hst] at h; omega
        · rw [if_neg hst] at h
          simp only [Bool.or_eq_true, decide_eq_true_eq, not_or, Classical.not_not] at hw
          obtain ⟨w1, ⟨w2, w3⟩, w4⟩ := hw
          exact ⟨h, fun hx => absurd hx hlast, fun _ => ⟨w1, w2, w3, by omega, by omega⟩⟩
  obtain ⟨m1, m2, m3⟩ := main
  obtain ⟨e1, e2⟩ := zagh m1
  refine ⟨⟨hfn, hat, hcode, by rw [hca]; exact hil, by rw [hca]; omega, fun v hv => wrong_ok (e1 v hv), fun v hv => wrong_ok (e2 v hv)⟩, fun hlast => ?_, fun hlast => ?_⟩
  · unfold Still hts
    rw [hca, hh, m2 hlast]
  · obtain ⟨w1, w2, w3, w4, w5⟩ := m3 hlast
    refine ⟨by omega, by rw [hca]; exact w2, by rw [hca]; exact w3, by unfold hts; rw [hca]; exact w4, ?_⟩
    unfold hts
    rw [hca, hh, w5]
theorem zagq {p : Prg} {l : List Frm} : ∀ (k : Nat) (f : Frm), l[k]? = some f → (∀ (j : Nat) (g : Frm), j < k → l[j]? = some g → Waits p g (((l[j + 1]?).map (·.fn)).getD 0)) → WChain p (l.take k) f.fn
  | 0, f, _, _ => by rw [List.take_zero]; exact .nil _
  | k + 1, f, hf, hw => by
    have hk : k < l.length := by have := (List.getElem?_eq_some_iff.1 hf).1; omega
    have hg : l[k]? = some l[k] := List.getElem?_eq_getElem hk
    have ih := zagq (p := p) k l[k] hg fun j g hj hjg => hw j g (by omega) hjg
    have w := hw k _ (by omega) hg
    rw [hf] at w
    have e : l.take (k + 1) = l.take k ++ [l[k]] := by rw [List.take_add_one, hg]; rfl
    rw [e]
    exact .snoc _ _ _ ih w
theorem agent_live {a : Agt} (h : agent a false = 0) : ∃ fs f, Live a fs f := by
  unfold agent at h
  by_cases h1 : program a.prog ≠ 0
  · rw [if_pos h1] at h; exact absurd h h1
  rw [if_neg h1] at h
  have hp := Classical.not_not.1 h1
  split at h
  · omega
  rename_i h2
  split at h
  · omega
  rename_i h3
  split at h
  · omega
  rename_i h4
  by_cases h5 : framesErr a false ≠ 0
  · rw [if_pos h5] at h; exact absurd h h5
  rw [if_neg h5] at h
  have hfr := zbt (Classical.not_not.1 h5)
  have hcell := zbt h
  obtain ⟨n, hn⟩ : ∃ n, a.frames.length = n + 1 := ⟨a.frames.length - 1, by omega⟩
  have hlast : a.frames[n]? = some a.frames[n] := List.getElem?_eq_getElem (by omega)
  have hall : ∀ (k : Nat) (g : Frm), a.frames[k]? = some g → frame a k false = 0 := fun k g hg => hfr k (List.mem_range.2 (List.getElem?_eq_some_iff.1 hg).1)
  have hsplit : a.frames = a.frames.take n ++ [a.frames[n]] := by
    have : a.frames.take (n + 1) = a.frames.take n ++ [a.frames[n]] := by rw [List.take_add_one, hlast]; rfl
    rw [← this, List.take_of_length_le (by omega)]
  refine ⟨a.frames.take n, a.frames[n], hsplit, hp, by omega, by omega, by omega, by omega, by omega, by rw [List.length_take]; omega, by omega, fun g hg => ?_, ?_, (zsd hp hlast (hall n _ hlast)).2.1 (by omega), fun c hc => ?_⟩
  · rw [← hsplit] at hg
    obtain ⟨k, hk, rfl⟩ := List.getElem_of_mem hg
    exact (zsd hp (List.getElem?_eq_getElem hk) (hall k _ (List.getElem?_eq_getElem hk))).1
  · exact zagq n _ hlast fun j g hj hg => (zsd hp hg (hall j g hg)).2.2 (by omega)
  · have := hcell c hc
    unfold cellErr at this
    split at this
    · rename_i hx; exact absurd this hx
    · rename_i hx
      exact ⟨wrong_ok (Classical.not_not.1 hx), wrong_ok this⟩
end VM
end Go.Proofs.YtejohcohkgcmhaaDoor
namespace Go.Proofs.YtejohcohkgcmhaaDoor
namespace VM
theorem zaif {p : Prg} {f : Frm} (hp : program p = 0) (hc : f.fn.toNat < p.codes.length) : (hts p f).length = (codeAt p f.fn).ins.length := by
  obtain ⟨pr, _⟩ := zz hp
  obtain ⟨_, calm, hz⟩ := pr _ (code_mem hc)
  exact (zde calm hz).1
theorem FrOk.mono {p : Prg} {N M : Nat} {f : Frm} (h : FrOk p N f) (hn : N ≤ M) : FrOk p M f :=
  ⟨h.fn0, h.at0, h.code, h.ins, h.vars, fun v hv => (h.vv v hv).mono (by omega), fun v hv => (h.sv v hv).mono (by omega)⟩
theorem Live.on {a : Agt} {fs : List Frm} {f : Frm} (l : Live a fs f) {k : Int} {vs st : List Val} {h : List Cl} {m : Pmt} (hk : zbu (hts a.prog f) (k, st.length)) (hvl : vs.length = f.vars.length) (hv : ∀ v ∈ vs, WrongOk v h.length) (hs : ∀ v ∈ st, WrongOk v h.length)
    (hh : a.heap.length ≤ h.length) (hc : ∀ c ∈ h, WrongOk c.left h.length ∧ WrongOk c.right h.length) (m1 : 0 ≤ m.fuel ∧ m.fuel ≤ 2000) (m2 : 0 ≤ m.room) (m3 : 0 ≤ m.hops ∧ m.hops ≤ 12) (hl : (h.length : Int) + m.room ≤ 60) :
    Live { a with frames := fs ++ [⟨f.fn, k, vs, st⟩], heap := h, permit := m } fs ⟨f.fn, k, vs, st⟩ := by
  have ok := l.ok f (by simp)
  obtain ⟨k0, k1⟩ := hk
  have klt := (List.getElem?_eq_some_iff.1 k1).1
  rw [zaif l.prog ok.code] at klt
  refine ⟨rfl, l.prog, l.id, l.trip, m1, m2, m3, l.flen, hl, fun g hg => ?_, l.chain, k1, hc⟩
  rcases List.mem_append.1 hg with hg | hg
  · exact (l.ok g (by simp [hg])).mono hh
  · simp only [List.mem_singleton] at hg
    subst hg
    exact ⟨ok.fn0, k0, ok.code, klt, by have := ok.vars; simp only; omega, hv, hs⟩
theorem WChain.last {p : Prg} {gs : List Frm} {g : Frm} {fn : Int} (h : WChain p (gs ++ [g]) fn) : WChain p gs g.fn ∧ Waits p g fn := by
  generalize hl : gs ++ [g] = l at h
  cases h with
  | nil => simp at hl
  | snoc gs' g' _ h1 h2 =>
    obtain ⟨rfl, h⟩ := List.append_inj' hl rfl
    cases h
    exact ⟨h1, h2⟩
theorem Now.go {p : Prg} {f : Frm} {i : Ins} (n : Now p f i) (h1 : i.op ≠ 15) (h2 : i.op ≠ 18) : zbu (hts p f) (f.at_ + 1, after i f.stack.length) :=
  n.next _ (by unfold zrt; simp [h1, h2])
theorem Now.jump {p : Prg} {f : Frm} {i : Ins} (n : Now p f i) (h : i.op = 15 ∨ i.op = 16) : zbu (hts p f) (i.a, after i f.stack.length) :=
  n.next _ (by unfold zrt; simp [h])
theorem low_len (k : Nat) (st : List Val) : (low k st).length = st.length - k := by unfold low; simp
theorem zaqa {k : Nat} {st : List Val} {v : Val} (h : v ∈ low k st) : v ∈ st := List.mem_of_mem_take h
theorem top1_mem {st : List Val} (h : 1 ≤ st.length) : top1 st ∈ st := by
  unfold top1
  rw [List.getD_eq_getElem?_getD, List.getElem?_eq_getElem (by omega)]
  exact List.getElem_mem _
theorem top2_mem {st : List Val} (h : 2 ≤ st.length) : top2 st ∈ st := by
  unfold top2
  rw [List.getD_eq_getElem?_getD, List.getElem?_eq_getElem (by omega)]
  exact List.getElem_mem _
theorem zwa (N : Int) : WrongOk vzero N := ⟨.inl rfl, fun _ => by unfold vzero; simp, by unfold vzero; simp, fun h => by unfold vzero at h; simp at h, fun h => by unfold vzero at h; simp at h, fun _ => rfl⟩
theorem zafz {n : Int} (h : -1073741824 ≤ n ∧ n ≤ 1073741824) (N : Int) : WrongOk ⟨0, n, []⟩ N := ⟨.inl rfl, fun _ => h, by simp, fun h => by simp at h, fun h => by simp at h, fun _ => rfl⟩
theorem zacg (s : Str) (N : Int) : WrongOk (cText s) N := ⟨.inr (.inl rfl), fun h => by unfold cText at h; simp at h, by unfold cText; simp; omega, fun h => by unfold cText at h; simp at h, fun _ => rfl, fun h => by unfold cText at h; simp at h⟩
theorem zaql (n N : Int) : WrongOk (cInt n) N := by
  unfold cInt
  apply zafz
  have := Int.tmod_lt_of_pos n (b := 1073741825) (by omega)
  have := Int.lt_tmod_of_pos n (b := 1073741825) (by omega)
  omega
theorem zarq (b : Bool) (N : Int) : WrongOk (bit b) N := by
  unfold bit
  apply zafz
  cases b <;> simp
theorem zaqp (op : Int) (a b : Val) (N : Int) : WrongOk (two op a b).1 N := by
  unfold two
  repeat' split
  all_goals first | exact zwa N | exact zarq _ N | exact zacg _ N | exact zaql _ N
theorem zarv {v : Val} (h : WrongOk v (0 : Int)) (N : Int) : WrongOk v N := ⟨h.kind, h.int, h.len, fun k => by have := h.cell k; omega, h.txt, h.non⟩
theorem zars {l : List Fct} (h : ∀ x ∈ l, WrongOk x.val (0 : Int)) (k : Str) (N : Int) : WrongOk (ask l k) N := by
  unfold ask
  cases hf : l.find? (fun f => decide (f.key = k)) with
  | none => exact zwa N
  | some f => exact zarv (h f (List.mem_of_find?_eq_some hf)) N
theorem zagd {α : Type} {l : List α} {n : Nat} {d : α} (h : n < l.length) : l.getD n d ∈ l := by
  rw [List.getD_eq_getElem?_getD, List.getElem?_eq_getElem h]
  exact List.getElem_mem h
set_option maxHeartbeats 2000000 in
theorem zakv {a : Agt} {fs : List Frm} {f : Frm} {s : Spt} (l : Live a fs f) (hf : a.permit.fuel ≠ 0) (hs : ∀ x ∈ s.facts, WrongOk x.val (0 : Int)) {i : Ins} (n : Now a.prog f i) :
    (opDo { a with permit := { a.permit with fuel := a.permit.fuel - 1 } } s fs { f with at_ := f.at_ + 1 } i).2.kind = 0 → ∃ gs g, Live (opDo { a with permit := { a.permit with fuel := a.permit.fuel - 1 } } s fs { f with at_ := f.at_ + 1 } i).1 gs g := by
  obtain ⟨o1, o2, o3, o4⟩ := numbers_ok n.num
  have ok := l.ok f (by simp)
  have sv := ok.sv
  have vv := ok.vv
  have b1 := l.fuel
  have b2 := l.room
  have b3 := l.hops
  have b4 := l.hlen
  have nx := n.go
  have pops := n.pops
  obtain ⟨fn, at_, vars, stack⟩ := f
  obtain ⟨op, ia, ib⟩ := i
  simp only at *
  have hop : op = 1 ∨ op = 2 ∨ op = 3 ∨ op = 4 ∨ op = 5 ∨ op = 6 ∨ op = 7 ∨ op = 8 ∨ op = 9 ∨ op = 10 ∨ op = 11 ∨ op = 12 ∨ op = 13 ∨ op = 14 ∨ op = 15 ∨ op = 16 ∨ op = 17 ∨ op = 18 ∨ op = 19 := by omega
  have lowok : ∀ k, ∀ v ∈ low k stack, WrongOk v a.heap.length := fun k v hv => sv v (zaqa hv)
  have snoc : ∀ (st : List Val) (v : Val) (N : Nat), a.heap.length ≤ N → (∀ x ∈ st, WrongOk x a.heap.length) → WrongOk v N → ∀ x ∈ st ++ [v], WrongOk x N := fun st v N hN h1 h2 x hx => by
    rcases List.mem_append.1 hx with h | h
    · exact (h1 x h).mono (by omega)
    · simp at h; rw [h]; exact h2
  have gen : ∀ {st vs : List Val} {z k : Int} {h : List Cl} {m : Pmt}, zbu (hts a.prog ⟨fn, at_, vars, stack⟩) (k, z) → (st.length : Int) = z → vs.length = vars.length → (∀ v ∈ vs, WrongOk v h.length) → (∀ v ∈ st, WrongOk v h.length) →
      a.heap.length ≤ h.length → (∀ c ∈ h, WrongOk c.left h.length ∧ WrongOk c.right h.length) → (0 ≤ m.fuel ∧ m.fuel ≤ 2000) → 0 ≤ m.room → (0 ≤ m.hops ∧ m.hops ≤ 12) → ((h.length : Int) + m.room ≤ 60) →
      ∃ gs g, Live { a with frames := fs ++ [⟨fn, k, vs, st⟩], heap := h, permit := m } gs g := fun h1 hz h2 h3 h4 h5 h6 h7 h8 h9 h10 =>
    ⟨fs, _, l.on (by rw [hz]; exact h1) h2 h3 h4 h5 h6 h7 h8 h9 h10⟩
  have same : ∀ {st vs : List Val} {z k : Int}, zbu (hts a.prog ⟨fn, at_, vars, stack⟩) (k, z) → (st.length : Int) = z → vs.length = vars.length → (∀ v ∈ vs, WrongOk v a.heap.length) → (∀ v ∈ st, WrongOk v a.heap.length) →
      ∃ gs g, Live { a with frames := fs ++ [⟨fn, k, vs, st⟩], heap := a.heap, permit := { a.permit with fuel := a.permit.fuel - 1 } } gs g := fun h1 hz h2 h3 h4 =>
    gen h1 hz h2 h3 h4 (Nat.le_refl _) l.cells (by simp only; omega) b2 b3 b4
  have top1ok : 1 ≤ stack.length → WrongOk (top1 stack) a.heap.length := fun h => sv _ (top1_mem h)
  have top2ok : 2 ≤ stack.length → WrongOk (top2 stack) a.heap.length := fun h => sv _ (top2_mem h)
  have cellok : ∀ v : Val, WrongOk v a.heap.length → v.kind = 2 → v.n.toNat < a.heap.length := fun v h k => by have := h.cell k; omega
  have cellin : ∀ v : Val, WrongOk v a.heap.length → v.kind = 2 → WrongOk (a.heap.getD v.n.toNat cl0).left a.heap.length ∧ WrongOk (a.heap.getD v.n.toNat cl0).right a.heap.length := fun v h k => l.cells _ (zagd (cellok v h k))
  have ll : ∀ k, (low k stack).length = stack.length - k := fun k => low_len k stack
  rcases hop with rfl | rfl | rfl | rfl | rfl | rfl | rfl | rfl | rfl | rfl | rfl | rfl | rfl | rfl | rfl | rfl | rfl | rfl | rfl
  · -- a number
    rw [opDo_1]
    intro _
    have hn : -1073741824 ≤ ia ∧ ia ≤ 1073741824 := by unfold numOk at o3; simpa using o3
    exact same (nx (by omega) (by omega)) (by simp [after, effect]) rfl vv (snoc _ _ _ (Nat.le_refl _) sv (zafz hn _))
  · -- a text
    rw [opDo_2]
    intro _
    exact same (nx (by omega) (by omega)) (by simp [after, effect]) rfl vv (snoc _ _ _ (Nat.le_refl _) sv (zacg _ _))
  · -- a variable
    rw [opDo_3]
    intro _
    have hv := ok.vars
    have hn : 0 ≤ ia ∧ ia < (codeAt a.prog fn).vars := by unfold numOk isIn at o3; simpa using o3
    exact same (nx (by omega) (by omega)) (by simp [after, effect]) rfl vv (snoc _ _ _ (Nat.le_refl _) sv (vv _ (zagd (by simp only at hv; omega))))
  · -- a variable is set
    rw [opDo_4]
    have hp : 1 ≤ stack.length := by simp [effect] at pops; omega
    intro _
    exact same (nx (by omega) (by omega)) (by simp [after, effect, ll]; omega) (by simp) (fun v hv => by
      rcases List.mem_or_eq_of_mem_set hv with h | h
      · exact vv v h
      · rw [h]; exact top1ok hp) (lowok 1)
  · -- an operation
    rw [opDo_5]
    have hp : 2 ≤ stack.length := by simp [effect] at pops; omega
    by_cases ht : (two ia (top2 stack) (top1 stack)).2 = 0
    · rw [if_pos ht]
      intro _
      exact same (nx (by omega) (by omega)) (by simp [after, effect, ll]; omega) rfl vv (snoc _ _ _ (Nat.le_refl _) (lowok 2) (zaqp _ _ _ _))
    · rw [if_neg ht]; intro h; exact absurd h (by simp [dead])
  · -- a cell
    rw [opDo_6]
    have hp : 2 ≤ stack.length := by simp [effect] at pops; omega
    by_cases hr : a.permit.room = 0
    · rw [if_pos hr]; intro h; exact absurd h (by simp [dead])
    · rw [if_neg hr]
      intro _
      refine gen (h := a.heap ++ [⟨top2 stack, top1 stack⟩]) (m := ⟨a.permit.fuel - 1, a.permit.room - 1, a.permit.hops⟩) (nx (by omega) (by omega)) (by simp [after, effect, ll]; omega) rfl (fun v hv => (vv v hv).mono (by simp; omega)) (snoc _ _ _ (by simp) (lowok 2) ?_) (by simp) (fun c hc => ?_) (by simp only; omega) (by simp only; omega) b3 (by simp; omega)
      · exact ⟨.inr (.inr rfl), fun h => by simp at h, by simp, fun _ => by simp; omega, fun h => by simp at h, fun _ => rfl⟩
      · rcases List.mem_append.1 hc with h | h
        · obtain ⟨w1, w2⟩ := l.cells c h
          exact ⟨w1.mono (by simp; omega), w2.mono (by simp; omega)⟩
        · simp at h; subst h
          exact ⟨(top2ok hp).mono (by simp; omega), (top1ok (by omega)).mono (by simp; omega)⟩
  · -- a left part
    rw [opDo_7]
    have hp : 1 ≤ stack.length := by simp [effect] at pops; omega
    by_cases hk : (top1 stack).kind = 2
    · rw [if_neg (by simpa using hk)]
      intro _
      exact same (nx (by omega) (by omega)) (by simp [after, effect, ll]; omega) rfl vv (snoc _ _ _ (Nat.le_refl _) (lowok 1) (cellin _ (top1ok hp) hk).1)
    · rw [if_pos (by simpa using hk)]; intro h; exact absurd h (by simp [dead])
  · -- a right part
    rw [opDo_8]
    have hp : 1 ≤ stack.length := by simp [effect] at pops; omega
    by_cases hk : (top1 stack).kind = 2
    · rw [if_neg (by simpa using hk)]
      intro _
      exact same (nx (by omega) (by omega)) (by simp [after, effect, ll]; omega) rfl vv (snoc _ _ _ (Nat.le_refl _) (lowok 1) (cellin _ (top1ok hp) hk).2)
    · rw [if_pos (by simpa using hk)]; intro h; exact absurd h (by simp [dead])
  · -- a left part is set
    rw [opDo_9]
    have hp : 2 ≤ stack.length := by simp [effect] at pops; omega
    by_cases hk : (top2 stack).kind = 2
    · rw [if_neg (by simpa using hk)]
      intro _
      refine gen (h := a.heap.set (top2 stack).n.toNat { a.heap.getD (top2 stack).n.toNat cl0 with left := top1 stack }) (nx (by omega) (by omega)) (by simp [after, effect, ll]; omega) rfl (by simpa using vv) (by simpa using lowok 2) (by simp) (fun c hc => ?_) (by simp only; omega) b2 b3 (by simpa using b4)
      rw [List.length_set]
      rcases List.mem_or_eq_of_mem_set hc with h | h
      · exact l.cells c h
      · rw [h]; exact ⟨top1ok (by omega), (cellin _ (top2ok hp) hk).2⟩
    · rw [if_pos (by simpa using hk)]; intro h; exact absurd h (by simp [dead])
  · -- a right part is set
    rw [opDo_10]
    have hp : 2 ≤ stack.length := by simp [effect] at pops; omega
    by_cases hk : (top2 stack).kind = 2
    · rw [if_neg (by simpa using hk)]
      intro _
      refine gen (h := a.heap.set (top2 stack).n.toNat { a.heap.getD (top2 stack).n.toNat cl0 with right := top1 stack }) (nx (by omega) (by omega)) (by simp [after, effect, ll]; omega) rfl (by simpa using vv) (by simpa using lowok 2) (by simp) (fun c hc => ?_) (by simp only; omega) b2 b3 (by simpa using b4)
      rw [List.length_set]
      rcases List.mem_or_eq_of_mem_set hc with h | h
      · exact l.cells c h
      · rw [h]; exact ⟨(cellin _ (top2ok hp) hk).1, top1ok (by omega)⟩
    · rw [if_pos (by simpa using hk)]; intro h; exact absurd h (by simp [dead])
  · -- the place is asked
    rw [opDo_11]
    have hp : 1 ≤ stack.length := by simp [effect] at pops; omega
    by_cases hk : (top1 stack).kind = 1
    · rw [if_neg (by simpa using hk)]
      intro _
      exact same (nx (by omega) (by omega)) (by simp [after, effect, ll]; omega) rfl vv (snoc _ _ _ (Nat.le_refl _) (lowok 1) (zars hs _ _))
    · rw [if_pos (by simpa using hk)]; intro h; exact absurd h (by simp [dead])
  · -- the place's name
    rw [opDo_12]
    intro _
    exact same (nx (by omega) (by omega)) (by simp [after, effect]) rfl vv (snoc _ _ _ (Nat.le_refl _) sv (zacg _ _))
  · -- setting out
    rw [opDo_13]
    have hp : 1 ≤ stack.length := by simp [effect] at pops; omega
    by_cases hk : (top1 stack).kind = 1
    · rw [if_neg (by simpa using hk)]
      by_cases hh : a.permit.hops = 0
      · rw [if_pos hh]
        intro _
        exact same (nx (by omega) (by omega)) (by simp [after, effect, ll]; omega) rfl vv (snoc _ _ _ (Nat.le_refl _) (lowok 1) (zwa _))
      · rw [if_neg hh]; intro h; exact absurd h (by simp)
    · rw [if_pos (by simpa using hk)]; intro h; exact absurd h (by simp [dead])
  · -- something is said
    rw [opDo_14]
    intro h; exact absurd h (by simp)
  · -- a jump
    rw [opDo_15]
    intro _
    exact same (n.jump (.inl rfl)) (by simp [after, effect]) rfl vv sv
  · -- a branch
    rw [opDo_16]
    have hp : 1 ≤ stack.length := by simp [effect] at pops; omega
    intro _
    by_cases hz : (top1 stack).kind = 0 ∧ (top1 stack).n = 0
    · rw [if_pos hz]
      exact same (n.jump (.inr rfl)) (by simp [after, effect, ll]; omega) rfl vv (lowok 1)
    · rw [if_neg hz]
      exact same (nx (by omega) (by omega)) (by simp [after, effect, ll]; omega) rfl vv (lowok 1)
  · -- a call
    rw [opDo_17]
    by_cases hd : 12 ≤ fs.length + 1
    · rw [if_pos hd]; intro h; exact absurd h (by simp [dead])
    rw [if_neg hd]
    intro _
    have hn : (0 ≤ ia ∧ ia < a.prog.codes.length) ∧ some ib = (a.prog.codes[ia.toNat]?).map (·.params) := by unfold numOk isIn at o3; simpa using o3
    obtain ⟨⟨h0, h1⟩, h2⟩ := hn
    have hlt : ia.toNat < a.prog.codes.length := by omega
    have hcm := code_mem (p := a.prog) (n := ia) hlt
    have hpar : (codeAt a.prog ia).params = ib := by
      unfold codeAt
      rw [List.getD_eq_getElem?_getD]
      rw [List.getElem?_eq_getElem hlt] at h2 ⊢
      simp at h2; simp [h2]
    obtain ⟨pr, _⟩ := zz l.prog
    obtain ⟨crange, calm, hz⟩ := pr _ hcm
    have hk := zabf calm hz
    unfold codeRange at crange
    rw [decide_eq_false_iff_not, hpar] at crange
    simp [effect] at pops
    have nxt := nx (by omega) (by omega)
    have eaf : after ⟨17, ia, ib⟩ stack.length = stack.length + 1 - ib := by simp [after, effect]
    rw [eaf] at nxt
    obtain ⟨nx0, nx1⟩ := nxt
    have klt := (List.getElem?_eq_some_iff.1 nx1).1
    rw [zaif l.prog ok.code] at klt
    have ok0 := ok.at0
    have okc := ok.code
    have okf := ok.fn0
    have okv := ok.vars
    simp only at nx0 nx1 klt ok0 okc okf okv
    have hat : (at_ + 1).toNat - 1 = at_.toNat := by omega
    have hins : (codeAt a.prog fn).ins[at_.toNat]? = some ⟨17, ia, ib⟩ := n.at_
    have hst : (hts a.prog ⟨fn, at_, vars, stack⟩)[at_.toNat]? = some (stack.length : Int) := l.still
    have hhts : ∀ (x : Int) (vs st : List Val), hts a.prog ⟨fn, x, vs, st⟩ = hts a.prog ⟨fn, at_, vars, stack⟩ := fun _ _ _ => rfl
    have hwait : Waits a.prog ⟨fn, at_ + 1, vars, low ib.toNat stack⟩ ia := by
      refine ⟨by simp only; omega, ?_, ?_, ?_, ?_⟩
      · simp only
        rw [hat, List.getD_eq_getElem?_getD, hins]; rfl
      · simp only
        rw [hat, List.getD_eq_getElem?_getD, hins]; rfl
      · simp only
        rw [hhts, hat, List.getD_eq_getElem?_getD, hst]
        simp
      · simp only
        rw [hhts, nx1, ll]
        congr 1
        omega
    have hstart : (heights (codeAt a.prog ia).ins).1[(0 : Int).toNat]? = some 0 := hk.start.2
    simp only [toF]
    refine ⟨fs ++ [⟨fn, at_ + 1, vars, low ib.toNat stack⟩], ⟨ia, 0, stack.drop (stack.length - ib.toNat) ++ List.replicate ((codeAt a.prog ia).vars - ib).toNat vzero, []⟩, rfl, l.prog, l.id, l.trip, by simp only; omega, b2, b3, by simp; omega, b4, fun g hg => ?_, WChain.snoc fs ⟨fn, at_ + 1, vars, low ib.toNat stack⟩ ia l.chain hwait, hstart, l.cells⟩
    · rcases List.mem_append.1 hg with hg | hg
      · rcases List.mem_append.1 hg with hg | hg
        · exact l.ok g (by simp [hg])
        · simp at hg; subst hg
          exact ⟨okf, nx0, okc, klt, okv, vv, lowok _⟩
      · simp at hg; subst hg
        refine ⟨h0, by simp, hlt, by simp only; omega, ?_, fun v hv => ?_, by simp⟩
        · simp only [List.length_append, List.length_drop, List.length_replicate]; omega
        · rcases List.mem_append.1 hv with h | h
          · exact sv v (List.mem_of_mem_drop h)
          · rw [List.eq_of_mem_replicate h]; exact zwa _
  · -- coming back
    rw [opDo_18]
    have hp : 1 ≤ stack.length := by simp [effect] at pops; omega
    cases hg : fs.getLast? with
    | none => intro h; exact absurd h (by simp)
    | some g =>
      intro _
      obtain ⟨gs, rfl⟩ := List.getLast?_eq_some_iff.1 hg
      obtain ⟨c1, c2⟩ := l.chain.last
      have okg := l.ok g (by simp)
      refine ⟨gs, { g with stack := g.stack ++ [top1 stack] }, ?_, l.prog, l.id, l.trip, by simp only [push, toF]; omega, b2, b3, by have := l.flen; simp at this; omega, b4, fun x hx => ?_, c1, ?_, l.cells⟩
      · simp [push, toF]
      · rcases List.mem_append.1 hx with h | h
        · exact l.ok x (by simp [h])
        · simp at h; subst h
          exact ⟨okg.fn0, okg.at0, okg.code, okg.ins, okg.vars, okg.vv, snoc _ _ _ (Nat.le_refl _) okg.sv (top1ok hp)⟩
      · have h1 : (hts a.prog g)[g.at_.toNat]? = some ((g.stack.length : Int) + 1) := c2.hei
        show (hts a.prog g)[g.at_.toNat]? = some (((g.stack ++ [top1 stack]).length : Nat) : Int)
        rw [h1]; simp
  · -- nothing of it
    rw [opDo_19]
    have hp : 1 ≤ stack.length := by simp [effect] at pops; omega
    intro _
    exact same (nx (by omega) (by omega)) (by simp [after, effect, ll]; omega) rfl vv (lowok 1)
theorem step_live {a : Agt} {fs : List Frm} {f : Frm} {s : Spt} (l : Live a fs f) (hs : ∀ x ∈ s.facts, WrongOk x.val (0 : Int)) (h : (step a s).2.kind = 0) : ∃ gs g, Live (step a s).1 gs g := by
  unfold step at h ⊢
  by_cases hf : a.permit.fuel = 0
  · rw [if_pos hf] at h; exact absurd h (by simp [dead])
  rw [if_neg hf] at h ⊢
  have e1 : a.frames.getLast? = some f := by rw [l.fr]; simp
  have e2 : a.frames.dropLast = fs := by rw [l.fr]; simp
  rw [e1] at h ⊢
  simp only [e2] at h ⊢
  exact zakv l hf hs l.now h
end VM
end Go.Proofs.YtejohcohkgcmhaaDoor
