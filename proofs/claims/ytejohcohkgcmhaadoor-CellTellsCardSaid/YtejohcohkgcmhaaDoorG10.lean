/- What is told of values, and cells: the law's function. A law's arguments, read as abstract values; and a law's call, out of an abstract one. Values, and cells of values, read as data. -/
import Derived.Test.YtejohcohkgcmhaaDoorG9
import Derived.Test.YtejohcohkgcmhaaDoorG7
import Derived.Deep.Slices
import Derived.SizedLaws
import Derived.ChangeSame
namespace Go.Proofs.YtejohcohkgcmhaaDoor
open Go Go.RowKit

set_option maxHeartbeats 4000000 in
set_option maxRecDepth 20000 in
theorem cellTells_qc (h : List Cl) (l : List Val) (a b : Val) (op n : Int) (s : Str) (deep : Int) (hs : h.length * 64 ≤ 140737488355328) (hl : (l.length + 1) * 32 ≤ 140737488355328) (hn : I64 n) (hd : I64 deep) (hlen : s.length ≤ maxLen) :
    QC Tryd.prog 3 [.ro (h.map Cl.avs), .ro (l.map Val.avs), .agg a.avs, .agg b.avs, .int .i64 op, .int .i64 n, .str s, .int .i64 deep] (.bool true) := by
  refine QC.of' fun H nx => cellTellsJ_calls _ _ _ _ _ _ _ _ H nx _ ?_
  simp [cellTellsJ_vc, Val.avs]
  refine JN.cut (fun xs H' nx' => H' = (H.put nx (some (.row 3 a.avs))).put (nx + 1) (some (.row 3 b.avs)) ∧ nx' = nx + 2 ∧ xs = [.ro (h.map Cl.avs), .ro (l.map Val.avs), .int .i64 op, .int .i64 deep, .ptr nx 0, .ptr (nx + 1) 0, .bool false]) ?_ ?_
  · rintro xs H' nx' ⟨rfl, rfl, rfl⟩
    simp [cellTellsJ_j6]
    refine JN.cut (fun xs H' nx' => nx + 2 ≤ nx' ∧ H' (nx + 1) = some (.row 3 b.avs) ∧ Keep nx H' H ∧ xs = [.ro (h.map Cl.avs), .ro (l.map Val.avs), .int .i64 deep, .ptr (nx + 1) 0]) ?_ ?_
    · rintro xs H' nx' ⟨h1, h2, h3, rfl⟩
      simp [cellTellsJ_j5]
      refine JN.cut (fun xs H' nx' => nx + 2 ≤ nx' ∧ H' (nx + 1) = some (.row 3 b.avs) ∧ Keep nx H' H ∧ ∃ t : Bool, (t = false → VM.right h (l ++ [b]) = true ∧ deep ≤ 5) ∧ xs = [.ro (h.map Cl.avs), .ro (l.map Val.avs), .int .i64 deep, .ptr (nx + 1) 0, .bool t]) ?_ ?_
      · rintro xs H2 n2 ⟨q1, q2, q3, t, q4, rfl⟩
        cases t with
        | true => simp [cellTellsJ_j2]; exact q3
        | false =>
          obtain ⟨hr, h5⟩ := q4 rfl
          have hrl : VM.right h l = true := VM.ok_right (fun v hv => VM.right_okV hr v (List.mem_append_left _ hv)) (VM.right_okC hr)
          have wb := VM.right_okV hr b (by simp)
          have okh : OkCells h := VM.right_okC hr
          have p := VM.canon_law hrl
          have tb : b.avs.take 3 = b.avs := rfl
          simp [cellTellsJ_j2]
          refine QC.call (canon_qc h l hrl hs (by omega)) ?_
          simp [cellTellsJ_k6]
          refine QC.call (refcanon_qc h l hrl hs (by omega)) ?_
          simp [cellTellsJ_k5]
          refine JN.same ?_
          simp [cellTellsJ_b1, q2, tb]
          refine CALLD.of_qc (show_qc okh deep.toNat b deep wb rfl (by omega) (by unfold I64 at hd; omega)) (.str _) ?_
          simp [cellTellsJ_k4, q2, tb]
          refine CALLD.of_qc (show1_qc okh deep.toNat b deep wb rfl (by omega) (by unfold I64 at hd; omega)) (.str _) ?_
          simp [cellTellsJ_k3]
          refine CALLD.of_qc (sameV_qc _ _ (by omega)) (.bool _) ?_
          simp [cellTellsJ_k2]
          refine CALLD.of_qc (sameC_qc _ _ (by omega)) (.bool _) ?_
          simp [cellTellsJ_k1, cellTellsJ_j1]
          exact q3
      · have f1 : nx + 1 ≠ nx' := by omega
        have f0 : nx ≠ nx' := by omega
        have fl : (List.map Val.avs l).flatten = rowV l := rfl
        have lb : b.avs.length = 3 := rfl
        have tb : b.avs.take 3 = b.avs := rfl
        have tl : List.take (l.length * 3) (rowV l) = rowV l := List.take_of_length_le (by simp)
        have f2 : nx + 1 ≠ nx' + 1 + 1 := by omega
        simp [cellTellsJ_b2, fl, lb, tb, tl, f0, f1, f2, h2]
        have hrow : rowV l ++ b.avs = rowV (l ++ [b]) := (rowV_snoc l b).symm
        refine ⟨fun x hx => scal_one (scal_rowV l x hx), by omega, fun x hx => scal_one (scal_val b x hx), hl, ?_⟩
        rw [hrow]
        refine CALLD.of_qcr [nx' + 1 + 1 + 1] (by simp) (fun H2 n2 ha => QC.reads (right_qc h (l ++ [b]) (by omega) (by simp; omega)) (by simp) (.cons (.same _ (bel_ro (scal_mapC h))) (.cons (RowArg.frzV (nx := n2) (l := l ++ [b]) ?_) .nil))) (.bool _) ?_
        · obtain ⟨a1, a2⟩ := ha (nx' + 1 + 1 + 1) (by simp)
          have := RowArg.slc (H := H2) (nx := n2) (sz := 3) (xs := (l ++ [b]).map Val.avs) (nx' + 1 + 1 + 1) a2 (by rw [a1]; simp [rowV])
          simpa using this
        have f3 : nx' ≠ nx + 1 := by omega
        have f4 : nx' + 1 ≠ nx + 1 := by omega
        have f5 : nx' + 1 + 1 ≠ nx + 1 := by omega
        have f6 : nx' + 1 + 1 + 1 ≠ nx + 1 := by omega
        have hkk : Keep nx (((((H'.put nx' none).put (nx' + 1) (some (AObj.row 3 (rowV l)))).put (nx' + 1 + 1) (some (AObj.row 3 b.avs))).put (nx' + 1) none).put (nx' + 1 + 1 + 1) (some (AObj.row 3 (rowV (l ++ [b]))))) H := by
          intro g hg
          rw [Heap.put_ne _ _ (by omega), Heap.put_ne _ _ (by omega), Heap.put_ne _ _ (by omega), Heap.put_ne _ _ (by omega), Heap.put_ne _ _ (by omega)]
          exact h3 g hg
        cases hr : VM.right h (l ++ [b]) with
        | false =>
          simp [cellTellsJ_k7, f3, f4, f5, f6]
          refine ⟨by omega, by omega, by omega, by omega, ?_, hkk⟩
          repeat rw [if_neg (by omega)]
          exact h2
        | true =>
          simp [cellTellsJ_k7, f3, f4, f5, f6]
          refine ⟨by omega, by omega, by omega, by omega, ?_, hkk, by omega⟩
          repeat rw [if_neg (by omega)]
          exact h2
    · have f1 : nx ≠ nx + 1 := by omega
      have ta : a.avs.take 3 = a.avs := rfl
      have tb : b.avs.take 3 = b.avs := rfl
      generalize hHab : (H.put nx (some (AObj.row 3 a.avs))).put (nx + 1) (some (AObj.row 3 b.avs)) = Hab
      have ea : Hab nx = some (.row 3 a.avs) := by rw [← hHab, Heap.put_ne _ _ f1, Heap.put_at]
      have eb : Hab (nx + 1) = some (.row 3 b.avs) := by rw [← hHab, Heap.put_at]
      have hkp : Keep nx Hab H := by intro g hg; rw [← hHab, Heap.put_ne _ _ (by omega), Heap.put_ne _ _ (by omega)]
      refine JN.same ?_
      simp [cellTellsJ_b4, ea, ta]
      refine QC.call (wrong1_qc a 1073741824) ?_
      by_cases wa : VM.wrong a 1073741824 = 0
      · simp [cellTellsJ_k11, wa, eb, tb]
        refine QC.call (wrong1_qc b 1073741824) ?_
        by_cases wb : VM.wrong b 1073741824 = 0
        · simp [cellTellsJ_k10, cellTellsJ_j4, wb, ea, eb, ta, tb]
          refine QC.call (two_qc op a b _ _ wa wb) ?_
          have f2 : nx ≠ nx + 2 := by omega
          have f3 : nx + 1 ≠ nx + 2 := by omega
          have one2 : ∀ v : Val, ∀ x ∈ v.avs, x.one = true := fun v x hx => scal_one (scal_val v x hx)
          have t3 : ∀ v : Val, v.avs.take 3 = v.avs := fun v => rfl
          simp [cellTellsJ_k9, ea, eb, ta, tb, t3]
          refine ⟨one2 _, ?_⟩
          refine QC.call (two1_qc op a b _ _ wa wb) ?_
          have eC : ∀ v : Val, eqCells v.avs v.avs = some true := by intro v; simp [Val.avs]
          have eZ : ∀ v : Val, (eqCells [AV.int IntKind.i64 0, AV.int IntKind.i64 0, AV.str []] v.avs).isSome = true := by intro v; simp [Val.avs]
          simp [cellTellsJ_k8, t3]
          refine ⟨one2 _, ?_⟩
          refine JN.same ?_
          simp [cellTellsJ_b3, cellTellsJ_j3, t3, eC, eZ, eb]
          intro g hg
          rw [Heap.put_ne _ _ (by omega), Heap.put_ne _ _ (by omega)]
          exact hkp g hg
        · have : (VM.wrong b 1073741824 == 0) = false := by simp [wb]
          simp [cellTellsJ_k10, cellTellsJ_j4, wb, eb]
          exact hkp
      · simp [cellTellsJ_k11, cellTellsJ_j4, wa, eb]
        exact hkp
  · have eC : ∀ v : Val, eqCells v.avs v.avs = some true := by intro v; simp [Val.avs]
    have eZ : ∀ v : Val, (eqCells [AV.int IntKind.i64 0, AV.int IntKind.i64 0, AV.str []] v.avs).isSome = true := by intro v; simp [Val.avs]
    have f1 : nx ≠ nx + 1 := by omega
    simp [cellTellsJ_b6]
    refine CALLD.of_qc (int_qc n) (scal_belV _) ?_
    simp [cellTellsJ_k17]
    refine CALLD.of_qc (int1_qc n hn) (scal_belV _) ?_
    simp [cellTellsJ_k16, eC, eZ]
    refine CALLD.of_qc (text_qc s hlen) (scal_belV _) ?_
    simp [cellTellsJ_k15]
    refine CALLD.of_qc (text1_qc s hlen) (scal_belV _) ?_
    simp [cellTellsJ_k14, eC, eZ, f1]
    refine CALLD.of_qc (wrong_qc a n) (.int _ _) ?_
    simp [cellTellsJ_k13, f1]
    refine CALLD.of_qc (wrong1_qc a n) (.int _ _) ?_
    simp [cellTellsJ_k12]
    rfl
end Go.Proofs.YtejohcohkgcmhaaDoor
namespace Go.Proofs.YtejohcohkgcmhaaDoor
open Go Go.RowKit

theorem LRel.one {K : KHeap} {ρ : Nat → Loc} {A : Nat → Prop} {v : AV} {c : Value} (h : VRel K ρ A v c) : LRel K ρ A [v] [c] := LRel.cons h LRel.nil

theorem kcell_of {w : World} {b o : Nat} {s} {v : Value} (h : w.cell? ⟨b, o, s⟩ = some v) : kcell (fun b => w.heap[b]?) b o = some v ∧ s = none := by
  unfold World.cell? at h
  unfold kcell
  simp only at h ⊢
  split at h
  · rename_i c _ _ he
    rw [he]
    split at h
    · cases h
    · rename_i hs; exact ⟨h, by simpa using hs⟩
  · cases h

/-- An argument of such a type is such a datum. -/
structure OpA (P : Program) (t : TypeId) {α : Type} (av : α → List AV) (ok : α → Prop) : Prop where
  len : ∀ x, ok x → (av x).length = P.cellsOf t
  get : ∀ {H : Type} (enc : TypeId × Value → H) (w : World) (base : Nat) (sp : Nat → Bool) (held : Bool) (fuel : Nat) (cs : List Value) (x : DataW H × List MemPlace),
    DataW.trod enc P w base sp held fuel t cs = some x → (∀ n ∈ x.1.weights P t, n ≤ reachBytes) → ∃ y, ok y ∧ ∀ ρ A, LRel (fun b => w.heap[b]?) ρ A (av y) cs

theorem opa_int {P : Program} {t : TypeId} (ht : P.underlying t = some (.int .i64)) (hc : P.cellsOf t = 1) : OpA P t (fun n : Int => [.int .i64 n]) (fun n => -9223372036854775808 ≤ n ∧ n ≤ 9223372036854775807) :=
  ⟨fun _ _ => hc.symm, fun enc w base sp held fuel cs x h _ => by
    obtain ⟨n, rfl, _, hw⟩ := DataW.trod_int ht h
    exact ⟨n, by simpa [Lit.wf, IntKind.min, IntKind.max, IntKind.signed, IntKind.bits] using hw, fun ρ A => LRel.one (.int _ _)⟩⟩
theorem opa_bool {P : Program} {t : TypeId} (ht : P.underlying t = some .bool) (hc : P.cellsOf t = 1) : OpA P t (fun n : Bool => [.bool n]) (fun _ => True) :=
  ⟨fun _ _ => hc.symm, fun enc w base sp held fuel cs x h _ => by
    obtain ⟨n, rfl, _⟩ := DataW.trod_bool ht h
    exact ⟨n, trivial, fun ρ A => LRel.one (.bool _)⟩⟩
theorem opa_str {P : Program} {t : TypeId} (ht : P.underlying t = some .string) (hc : P.cellsOf t = 1) : OpA P t (fun s : List UInt8 => [.str s]) (fun s => s.length ≤ reachBytes) :=
  ⟨fun _ _ => hc.symm, fun enc w base sp held fuel cs x h hw => by
    obtain ⟨s, rfl, rfl, _⟩ := DataW.trod_string ht h
    exact ⟨s.data.toList, hw _ (by simp [DataW.weights]), fun ρ A => LRel.one (.str _)⟩⟩
theorem opa_byte {P : Program} {t : TypeId} (ht : P.underlying t = some (.int .u8)) (hc : P.cellsOf t = 1) : OpA P t (fun b : UInt8 => [.int .u8 (b.toNat : Int)]) (fun _ => True) :=
  ⟨fun _ _ => hc.symm, fun enc w base sp held fuel cs x h _ => by
    obtain ⟨n, rfl, _, hw⟩ := DataW.trod_int ht h
    have hb : 0 ≤ n ∧ n ≤ 255 := by simpa [Lit.wf, IntKind.min, IntKind.max, IntKind.signed, IntKind.bits] using hw
    have e : ((UInt8.ofNat n.toNat).toNat : Int) = n := by simp [UInt8.toNat_ofNat']; omega
    exact ⟨UInt8.ofNat n.toNat, trivial, fun ρ A => LRel.one (by simp only [e]; exact .int _ _)⟩⟩

theorem weightsAll_mem' {H : Type} {P : Program} {e : TypeId} : ∀ {l : List (DataW H)} {d : DataW H}, d ∈ l → ∀ n ∈ d.weights P e, n ∈ DataW.weightsAll P e l
  | d' :: r, d, hd, n, hn => by
    simp only [DataW.weightsAll, List.mem_append]
    rcases List.mem_cons.1 hd with rfl | h
    · exact Or.inl hn
    · exact Or.inr (weightsAll_mem' h n hn)
theorem weightsEach_mem {H : Type} {P : Program} : ∀ {ts : List TypeId} {l : List (DataW H)} {i : Nat} {t : TypeId} {d : DataW H}, ts[i]? = some t → l[i]? = some d → ∀ n ∈ d.weights P t, n ∈ DataW.weightsEach P ts l
  | t' :: ts, d' :: r, 0, t, d, ht, hd, n, hn => by
    simp only [List.getElem?_cons_zero, Option.some.injEq] at ht hd
    subst ht; subst hd
    simp only [DataW.weightsEach, List.mem_append]
    exact Or.inl hn
  | t' :: ts, d' :: r, i + 1, t, d, ht, hd, n, hn => by
    simp only [DataW.weightsEach, List.mem_append]
    exact Or.inr (weightsEach_mem (by simpa using ht) (by simpa using hd) n hn)
  | [], _, i, t, d, ht, hd, n, hn => by simp at ht
  | t' :: ts, [], i, t, d, ht, hd, n, hn => by simp at hd

theorem opa_slice {P : Program} {α : Type} {av : α → List AV} {ok : α → Prop} {t e : TypeId} (ht : P.underlying t = some (.slice e)) (hc : P.cellsOf t = 1) (hE : OpA P e av ok) (hpos : 0 < P.cellsOf e) :
    OpA P t (fun l : List α => [.ro (l.map av)]) (fun l => (∀ x ∈ l, ok x) ∧ l.length * P.bytesOf e ≤ reachBytes) :=
  ⟨fun _ _ => hc.symm, fun enc w base sp held fuel cs x h hw => by
    rcases Go.Deep.open_slice ht h with ⟨rfl, _⟩ | ⟨a, len, cap, m, n, D, Pl, rfl, hb, hl, hm, hmm, hx, hel⟩
    · refine ⟨[], ⟨fun x hx => by simp at hx, by simp⟩, fun ρ A => LRel.one ?_⟩
      exact .ro [] none 0 0 0 0 0 (fun _ _ => undef) rfl (Nat.le_refl _) (fun h => absurd rfl h) (fun x hx => by cases hx) (fun i x j v hx => by simp at hx) (fun i x j v hx => by simp at hx)
    · have hlm : len ≤ m := by rw [hmm]; split <;> omega
      have hwl : len * P.bytesOf e ≤ reachBytes := by
        have := hw ((len + (m - len)) * P.bytesOf e) (by rw [hx]; simp [DataW.weights, ht])
        have h2 : len * P.bytesOf e ≤ (len + (m - len)) * P.bytesOf e := Nat.mul_le_mul_right _ (by omega)
        omega
      have hel' : ∀ i, i < len → ∃ y : α, ok y ∧ ∃ ec, w.cells? base (a.add (i * P.cellsOf e)) (P.cellsOf e) = some ec ∧ ∀ ρ A, LRel (fun b => w.heap[b]?) ρ A (av y) ec := by
        intro i hi
        obtain ⟨cs', h1, h2⟩ := hel i (by omega)
        obtain ⟨y, hy, hr⟩ := hE.get enc w base sp held n cs' _ h2 (fun k hk => hw k (by
          rw [hx]
          simp only [DataW.weights, ht, List.mem_cons, List.mem_append]
          exact .inr (.inl (weightsAll_mem' (List.mem_map.2 ⟨i, List.mem_range.2 hi, rfl⟩) k hk))))
        exact ⟨y, hy, cs', h1, hr⟩
      by_cases h0 : len = 0
      · subst h0
        refine ⟨[], ⟨fun x hx => by simp at hx, by simp⟩, fun ρ A => LRel.one ?_⟩
        exact .ro [] (some a) 0 cap 0 0 0 (fun _ _ => undef) rfl (Nat.zero_le _) (fun h => absurd rfl h) (fun x hx => by cases hx) (fun i x j v hx => by simp at hx) (fun i x j v hx => by simp at hx)
      · obtain ⟨y0, hy0, ec0, hc0, hR0⟩ := hel' 0 (by omega)
        haveI : Inhabited α := ⟨y0⟩
        obtain ⟨f, hf⟩ : ∃ f : Nat → α, ∀ i, i < len → ok (f i) ∧ ∃ ec, w.cells? base (a.add (i * P.cellsOf e)) (P.cellsOf e) = some ec ∧ ∀ ρ A, LRel (fun b => w.heap[b]?) ρ A (av (f i)) ec := Go.Deep.choose_lt hel'
        obtain ⟨F, hF⟩ : ∃ F : Nat → List Value, ∀ i, i < len → w.cells? base (a.add (i * P.cellsOf e)) (P.cellsOf e) = some (F i) ∧ ∀ ρ A, LRel (fun b => w.heap[b]?) ρ A (av (f i)) (F i) := Go.Deep.choose_lt fun i hi => (hf i hi).2
        have cellAt : ∀ (i : Nat), i < len → ∀ (j : Nat) v, (F i)[j]? = some v → w.cell? ((a.add (i * P.cellsOf e)).add j) = some v := by
          intro i hi j v hv
          have := (hF i hi).1
          unfold World.cells? at this
          split at this
          · have hl := mapM_some_length this
            have hj : j < P.cellsOf e := by
              have := (List.getElem?_eq_some_iff.1 hv).1
              simp at hl; omega
            rw [mapM_some_get this j j (by simp [hj]), hv]
          · cases this
        have hlen : ∀ i, i < len → (av (f i)).length = P.cellsOf e := fun i hi => hE.len _ (hf i hi).1
        have hlen2 : ∀ i, i < len → (F i).length = P.cellsOf e := fun i hi => by
          have h1 := ((hF i hi).2 (fun _ => default) (fun _ => False)).1
          rw [h1, hlen i hi]
        have hsp : a.spot = none := by
          have h1 : 0 < (F 0).length := by rw [hlen2 0 (by omega)]; exact hpos
          have h2 := cellAt 0 (by omega) 0 _ (List.getElem?_eq_getElem h1)
          obtain ⟨b, o, s⟩ := a
          simp [Addr.add] at h2
          exact (kcell_of h2).2
        obtain ⟨b, off, sp⟩ := a
        simp only at hsp
        subst hsp
        have hcellk : ∀ (i : Nat), i < len → ∀ (j : Nat) v, (F i)[j]? = some v → kcell (fun b => w.heap[b]?) b (off + i * P.cellsOf e + j) = some v := by
          intro i hi j v hv
          have := cellAt i hi j v hv
          rw [Go.Deep.add_add] at this
          unfold Addr.add at this
          split at this
          · rename_i h00
            have e1 : i * P.cellsOf e = 0 := by omega
            have e2 : j = 0 := by omega
            rw [e1, e2]; exact (kcell_of this).1
          · rw [Nat.add_assoc]; exact (kcell_of this).1
        refine ⟨(List.range len).map f, ⟨fun x hx => ?_, by simpa using hwl⟩, fun ρ A => LRel.one ?_⟩
        · obtain ⟨i, hi, rfl⟩ := List.mem_map.1 hx
          exact (hf i (List.mem_range.1 hi)).1
        · refine .ro _ (some ⟨b, off, none⟩) len cap (P.cellsOf e) b off (fun i j => ((F i)[j]?).getD undef) (by simp) hl (fun _ => rfl) (fun x hx => ?_) (fun i x j v hx hv => ?_) (fun i x j v hx hv => ?_)
          · obtain ⟨y, hy, rfl⟩ := List.mem_map.1 hx
            obtain ⟨i, hi, rfl⟩ := List.mem_map.1 hy
            exact hlen i (List.mem_range.1 hi)
          · have hi : i < len := by have := (List.getElem?_eq_some_iff.1 hx).1; simpa using this
            have hxi : x = av (f i) := by simpa [hi] using hx.symm
            subst hxi
            have hj : j < (F i).length := by
              have := (List.getElem?_eq_some_iff.1 hv).1
              rw [hlen2 i hi, ← hlen i hi]; exact this
            have := hcellk i hi j _ (List.getElem?_eq_getElem hj)
            rw [this, List.getElem?_eq_getElem hj]; rfl
          · have hi : i < len := by have := (List.getElem?_eq_some_iff.1 hx).1; simpa using this
            have hxi : x = av (f i) := by simpa [hi] using hx.symm
            subst hxi
            have hj : j < (F i).length := by
              have := (List.getElem?_eq_some_iff.1 hv).1
              rw [hlen2 i hi, ← hlen i hi]; exact this
            rw [List.getElem?_eq_getElem hj]
            exact ((hF i hi).2 ρ A).2 j v _ hv (List.getElem?_eq_getElem hj)⟩

/-- A structure's fields. -/
theorem struct_field {H : Type} {P : Program} {enc : TypeId × Value → H} {w : World} {base fuel : Nat} {sp : Nat → Bool} {held : Bool} {t : TypeId} {fs : Array Field} {cs : List Value} {x : DataW H × List MemPlace} (ht : P.underlying t = some (.struct fs))
    (h : DataW.trod enc P w base sp held fuel t cs = some x) (hw : ∀ n ∈ x.1.weights P t, n ≤ reachBytes) : cs.length = P.cellsOf t ∧
    ∀ (i t' off n' : Nat), (fs[i]?).map (fun f => (f.type, f.offset)) = some (t', off) → P.cellsOf t' = n' → ∀ {α : Type} {av : α → List AV} {ok : α → Prop}, OpA P t' av ok → ∃ y, ok y ∧ ∀ ρ A, LRel (fun b => w.heap[b]?) ρ A (av y) ((cs.drop off).take n') := by
  obtain ⟨xs, n, _, rfl, hl, hlen, hf⟩ := DataW.trod_struct ht h
  refine ⟨hl, fun i t' off n' hm hn' α av ok hO => ?_⟩
  obtain ⟨f, hfi, he⟩ := Option.map_eq_some_iff.1 hm
  obtain ⟨rfl, rfl⟩ := Prod.mk.inj he
  subst hn'
  have hi : i < xs.length := by rw [hlen]; exact (Array.getElem?_eq_some_iff.1 hfi).1
  have h1 := hf i f hfi
  rw [List.getElem?_eq_getElem hi] at h1
  refine hO.get enc w base sp held n _ _ h1 fun k hk => hw k ?_
  simp only [DataW.weights, ht]
  exact weightsEach_mem (i := i) (t := f.type) (d := (xs[i]).1) (by simp [hfi]) (by simp [hi]) k hk

/-- A law's call. -/
theorem ACalls.law {P : Program} {f : FuncId} {args : List AV} {r : AV} {cargs : Array Value} {w : World} {fn : Func} {c : Code} (hf : P.funcs[f]? = some fn) (hb : fn.body = some c) (hname : (fn.name == "runtime.NumGoroutine") = false)
    (hlay : LayK (fun b => w.heap[b]?)) (h : ∀ H nx, ACalls P f args H nx fun v _ _ => v = r) (ha : ∀ ρ A, LRel (fun b => w.heap[b]?) ρ A args cargs.toList) :
    Calls P f cargs w fun e w' => ∃ v, e = .returned v ∧ (∃ K ρ A, VRel K ρ A r v) ∧ Below w.heap.size w w' := by
  have hk : Kof (fun _ => default) (fun _ => none) w = fun b => w.heap[b]? := by
    funext b
    unfold Kof
    rw [if_neg (by rintro ⟨g, hg, _⟩; simp at hg)]
  have s : Sim (fun x => x < 0) (fun _ => default) (fun _ => none) w := ⟨fun g o h => (by cases h), fun g o h => (by cases h), fun g g' h _ _ => (by cases h), by rw [hk]; exact hlay⟩
  have := h (fun _ => none) 0 (fun _ => default) w cargs s (by rw [hk]; exact ha _ _)
  have hcall : (callFunc f cargs).run P w = .ok (.enter f cargs) w := by
    have hname' : ¬ fn.name = "runtime.NumGoroutine" := by simpa using hname
    simp [callFunc, program, Sem.run_bind, Sem.run, hf, hname', hb, pure]
  rw [hcall] at this
  simp only [flowUpon] at this
  refine this.mono fun e w' ⟨v, he, r', H', nx', ρ', q0, q1, q2, q3⟩ => ?_
  subst q0
  refine ⟨v, he, ⟨_, _, _, q2⟩, ⟨q3.os, q3.tape, q3.output, q3.size, fun k hk' => ?_⟩⟩
  have := q3.k k (w.heap[k]) (by rw [hk]; exact Array.getElem?_eq_getElem hk')
  rw [(Kof_some.1 this).2, Array.getElem?_eq_getElem hk']
end Go.Proofs.YtejohcohkgcmhaaDoor
namespace Go.Proofs.YtejohcohkgcmhaaDoor
open Go Go.RowKit
theorem cInt : Tryd.prog.cellsOf 3 = 1 := by kernel_rfl
theorem cStr : Tryd.prog.cellsOf 9 = 1 := by kernel_rfl
theorem cVal : Tryd.prog.cellsOf 25 = 3 := by kernel_rfl
theorem cCl : Tryd.prog.cellsOf 43 = 6 := by kernel_rfl
theorem cVals : Tryd.prog.cellsOf 23 = 1 := by kernel_rfl
theorem cCls : Tryd.prog.cellsOf 22 = 1 := by kernel_rfl

def I64ok (n : Int) : Prop := -9223372036854775808 ≤ n ∧ n ≤ 9223372036854775807
theorem oInt : OpA Tryd.prog 3 (fun n : Int => [.int .i64 n]) I64ok := opa_int Tryd.underlying3 cInt
theorem oStr : OpA Tryd.prog 9 (fun s : List UInt8 => [.str s]) (fun s => s.length ≤ reachBytes) := opa_str Tryd.underlying9 cStr

def Val.rd (v : Val) : Prop := I64ok v.kind ∧ I64ok v.n ∧ v.text.length ≤ reachBytes
theorem oVal : OpA Tryd.prog 25 Val.avs Val.rd :=
  ⟨fun _ _ => cVal.symm, fun enc w base sp held fuel cs x h hw => by
    obtain ⟨hl, hf⟩ := struct_field Tryd.underlying25 h hw
    rw [cVal] at hl
    obtain ⟨k, hk, rk⟩ := hf 0 3 0 1 (by kernel_rfl) cInt oInt
    obtain ⟨n, hn, rn⟩ := hf 1 3 1 1 (by kernel_rfl) cInt oInt
    obtain ⟨s, hs, rs⟩ := hf 2 9 2 1 (by kernel_rfl) cStr oStr
    match cs, hl with
    | [c0, c1, c2], _ => exact ⟨⟨k, n, s⟩, ⟨hk, hn, hs⟩, fun ρ A => (rk ρ A).append ((rn ρ A).append (rs ρ A))⟩⟩
def rdL {α : Type} (ok : α → Prop) (n : Nat) (l : List α) : Prop := (∀ x ∈ l, ok x) ∧ l.length * n ≤ reachBytes
theorem oVals : OpA Tryd.prog 23 (fun l : List Val => [.ro (l.map Val.avs)]) (rdL Val.rd (Tryd.prog.bytesOf 25)) := opa_slice Tryd.underlying23 cVals oVal (by rw [cVal]; decide)
def Cl.rd (c : Cl) : Prop := c.left.rd ∧ c.right.rd
theorem oCl : OpA Tryd.prog 43 Cl.avs Cl.rd :=
  ⟨fun _ _ => cCl.symm, fun enc w base sp held fuel cs x h hw => by
    obtain ⟨hl, hf⟩ := struct_field Tryd.underlying43 h hw
    rw [cCl] at hl
    obtain ⟨k, hk, rk⟩ := hf 0 25 0 3 (by kernel_rfl) cVal oVal
    obtain ⟨n, hn, rn⟩ := hf 1 25 3 3 (by kernel_rfl) cVal oVal
    match cs, hl with
    | [c0, c1, c2, c3, c4, c5], _ => exact ⟨⟨k, n⟩, ⟨hk, hn⟩, fun ρ A => (rk ρ A).append (rn ρ A)⟩⟩
theorem oCls : OpA Tryd.prog 22 (fun l : List Cl => [.ro (l.map Cl.avs)]) (rdL Cl.rd (Tryd.prog.bytesOf 43)) := opa_slice Tryd.underlying22 cCls oCl (by rw [cCl]; decide)
end Go.Proofs.YtejohcohkgcmhaaDoor
