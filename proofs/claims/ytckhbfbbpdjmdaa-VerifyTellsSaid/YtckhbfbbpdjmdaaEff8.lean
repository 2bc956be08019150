/- The operations' effects, on: append, copy. -/
import Derived.Test.YtckhbfbbpdjmdaaEff7
import Derived.Laws.Append
namespace Go.Proofs.Ytckhbfbbpdjmdaa
open Go Go.RowKit

theorem flatten_get {α : Type} {n : Nat} (hn : 0 < n) : ∀ (xs : List (List α)), (∀ x ∈ xs, x.length = n) → ∀ q, xs.flatten[q]? = (xs[q / n]?).bind (·[q % n]?)
  | [], _, q => by simp
  | x :: r, h, q => by
    have hx := h x (by simp)
    simp only [List.flatten_cons]
    by_cases hq : q < n
    · rw [List.getElem?_append_left (by omega), Nat.div_eq_of_lt hq, Nat.mod_eq_of_lt hq]
      rfl
    · rw [List.getElem?_append_right (by omega), hx, flatten_get hn r (fun y hy => h y (by simp [hy]))]
      have e1 : q / n = (q - n) / n + 1 := by
        have := Nat.div_eq_sub_div hn (Nat.le_of_not_lt hq); exact this
      have e2 : q % n = (q - n) % n := Nat.mod_eq_sub_mod (Nat.le_of_not_lt hq)
      rw [e1, e2, List.getElem?_cons_succ]
theorem flatten_len {α : Type} {n : Nat} : ∀ (xs : List (List α)), (∀ x ∈ xs, x.length = n) → xs.flatten.length = xs.length * n
  | [], _ => by simp
  | x :: r, h => by
    simp only [List.flatten_cons, List.length_append, List.length_cons, h x (by simp), flatten_len r (fun y hy => h y (by simp [hy]))]
    rw [Nat.add_mul]; omega

section
variable {P : Program} {T : Nat → Option AT} {o : Oper} {e : Operand → AV} {H0 : Heap}

/-- A source's cells. -/
def IsSrc (P : Program) (esz : Nat) (w : World) (cx : Value) (m : Nat) (us : List Value) : Prop :=
  us.length = m * esz ∧ (∀ w : World, (Builtin.lenOf cx).run P w = .ok m w) ∧ ∀ (n : Nat) (w' : World), n ≤ m → w'.heap = w.heap → (Builtin.firstCells esz n cx).run P w' = .ok (us.take (n * esz)).toArray w'

theorem cell?_heap {w w' : World} (h : w'.heap = w.heap) (a : Addr) : w'.cell? a = w.cell? a := by unfold World.cell?; rw [h]

theorem isSrc_slice {esz : Nat} {w : World} {a : Addr} {m c : Nat} {us : List Value} (hl : us.length = m * esz) (h : ∀ (j : Nat) v, us[j]? = some v → w.cell? (a.add j) = some v) : IsSrc P esz w (.slice (some a) m c) m us := by
  refine ⟨hl, fun w => by simp [Builtin.lenOf, Sem.run_pure], fun n w' hn hw => ?_⟩
  have hlt : (us.take (n * esz)).length = n * esz := by
    rw [List.length_take, hl]; exact Nat.min_eq_left (Nat.mul_le_mul_right _ hn)
  refine run_firstCells_some w' esz n a m c (us.take (n * esz)) hlt fun j v hv => ?_
  rw [List.getElem?_take] at hv
  split at hv
  · rw [cell?_heap hw]; exact h j v hv
  · cases hv
theorem isSrc_empty {esz : Nat} {w : World} {a : Option Addr} {c : Nat} : IsSrc P esz w (.slice a 0 c) 0 [] := by
  cases a with
  | some a => exact isSrc_slice (by simp) (fun j v h => by simp at h)
  | none => exact ⟨by simp, fun w => by simp [Builtin.lenOf, Sem.run_pure], fun n w' _ _ => by simp [Builtin.firstCells, Sem.run_pure]⟩

theorem src_spec {esz : Nat} (hpos : 0 < esz) {A : Nat → Prop} {ρ : Nat → Loc} {H : Heap} {w : World} (s : Sim A ρ H w) {x : AV} {cx : Value} (hx : VRel (Kof ρ H w) ρ A x cx) {m : Nat} {news : List AV} {rd : List Nat}
    (h : srcCells esz H0 x = some (m, news, rd)) (hrd : ∀ g ∈ rd, H g = H0 g) : ∃ us, LRel (Kof ρ H w) ρ A news us ∧ IsSrc P esz w cx m us := by
  unfold srcCells at h
  split at h
  · simp only [Option.some.injEq, Prod.mk.injEq] at h
    obtain ⟨rfl, rfl, rfl⟩ := h
    cases hx
    exact ⟨[], LRel.nil, isSrc_empty⟩
  · simp only [Option.some.injEq, Prod.mk.injEq] at h
    obtain ⟨rfl, rfl, rfl⟩ := h
    cases hx
    exact ⟨[], LRel.nil, isSrc_empty⟩
  · rename_i l
    split at h
    · rename_i h1
      subst h1
      simp only [Option.some.injEq, Prod.mk.injEq] at h
      obtain ⟨rfl, rfl, rfl⟩ := h
      cases hx
      refine ⟨l.map fun b => .int .u8 (b.toNat : Int), ⟨by simp, fun j v c hv hc => ?_⟩, by simp, fun w => ?_, fun n w' hn _ => ?_⟩
      · simp only [List.getElem?_map, Option.map_eq_some_iff] at hv hc
        obtain ⟨b, hb, rfl⟩ := hv
        obtain ⟨b', hb', rfl⟩ := hc
        rw [hb] at hb'
        obtain rfl := Option.some.inj hb'
        exact .int _ _
      · have : (ByteArray.mk l.toArray).size = l.length := by show l.toArray.size = _; simp
        simp [Builtin.lenOf, Sem.run_pure, this]
      · simp only [Builtin.firstCells, Sem.run_pure, Nat.mul_one]
        congr 1
        apply Array.ext'
        have : ((ByteArray.mk l.toArray).extract 0 n).data.toList = l.take n := by
          simp [ByteArray.data_extract, List.extract_toArray, List.extract_eq_drop_take']
        simp only [Array.toList_map, this, List.map_take]
    · cases h
  · rename_i xs
    split at h
    · rename_i hall
      simp only [Option.some.injEq, Prod.mk.injEq] at h
      obtain ⟨rfl, rfl, rfl⟩ := h
      have hall' : ∀ y ∈ xs, y.length = esz := fun y hy => by simpa using List.all_eq_true.1 hall y hy
      cases hx with
      | ro _ a len cap sz b off C e1 e2 e3 e4 e5 e6 =>
        subst e1
        by_cases hne : xs = []
        · subst hne; exact ⟨[], LRel.nil, isSrc_empty⟩
        · obtain rfl := e3 hne
          have hsz : sz = esz := by
            obtain ⟨y, hy⟩ := List.exists_mem_of_ne_nil _ hne
            rw [← e4 y hy]; exact hall' y hy
          subst hsz
          have hfl := flatten_len xs hall'
          have hget : ∀ (q : Nat) v, xs.flatten[q]? = some v → ∃ y, xs[q / sz]? = some y ∧ y[q % sz]? = some v := by
            intro q v hv
            rw [flatten_get hpos xs hall'] at hv
            obtain ⟨y, hy, hv⟩ := Option.bind_eq_some_iff.1 hv
            exact ⟨y, hy, hv⟩
          refine ⟨(List.range (xs.length * sz)).map fun q => C (q / sz) (q % sz), ⟨by simp [hfl], fun j v c hv hc => ?_⟩, isSrc_slice (by simp) fun j v hv => ?_⟩
          · obtain ⟨y, hy, hyv⟩ := hget j v hv
            have hj : j < xs.length * sz := by rw [← hfl]; exact (List.getElem?_eq_some_iff.1 hv).1
            simp only [List.getElem?_map, List.getElem?_range hj, Option.map_some, Option.some.injEq] at hc
            subst hc
            exact e6 _ _ _ v hy hyv
          · have hj : j < xs.length * sz := by have := (List.getElem?_eq_some_iff.1 hv).1; simpa using this
            simp only [List.getElem?_map, List.getElem?_range hj, Option.map_some, Option.some.injEq] at hv
            subst hv
            have hjf : j < xs.flatten.length := by rw [hfl]; exact hj
            obtain ⟨y, hy, hyv⟩ := hget j _ (List.getElem?_eq_getElem hjf)
            have hk := e5 _ _ _ _ hy hyv
            unfold kcell at hk
            split at hk
            · rename_i c el fr hK
              have h1 := (Kof_some.1 hK).2
              rw [add_addr]
              simp only [World.cell?, h1]
              have e : off + j / sz * sz + j % sz = off + j := by have := Nat.div_add_mod j sz; rw [Nat.mul_comm] at this; omega
              rw [e] at hk
              simpa using hk
            · cases hk
    · cases h
  · rename_i g off len
    split at h
    · rename_i sz cells hg
      split at h
      · rename_i hle
        simp only [Option.some.injEq, Prod.mk.injEq] at h
        obtain ⟨rfl, rfl, rfl⟩ := h
        have hH : H g = some (.row sz cells) := by rw [hrd g (by simp)]; exact hg
        cases hx with
        | slc _ _ _ cap a hA hle' hcap =>
          by_cases h0 : len = 0
          · subst h0
            exact ⟨[], by simpa using LRel.nil, isSrc_empty⟩
          · obtain ⟨_, rfl⟩ := hcap (by omega)
            obtain ⟨c, el, lo, hi, q1, q2, q3, q4, q5, q6⟩ := s.obj g _ hH
            have hcl : (ρ g).base + off + len * esz ≤ c.size := by omega
            refine ⟨(c.toList.drop ((ρ g).base + off)).take (len * esz), ⟨by simp; omega, fun j v cv hv hc => ?_⟩, isSrc_slice (by simp; omega) fun j v hv => ?_⟩
            · rw [List.getElem?_take] at hv hc
              split at hv
              · rename_i hj
                rw [if_pos hj, List.getElem?_drop] at hc
                rw [List.getElem?_drop] at hv
                obtain ⟨cv', h1, h2⟩ := q6 _ v hv
                rw [show (ρ g).base + off + j = (ρ g).base + (off + j) by omega] at hc
                simp only [Array.getElem?_toList] at hc
                rw [h1] at hc
                obtain rfl := Option.some.inj hc
                exact h2
              · cases hv
            · rw [List.getElem?_take] at hv
              split at hv
              · rw [List.getElem?_drop] at hv
                rw [add_addr]
                simp only [World.cell?, q1]
                simpa using hv
              · cases hv
      · cases h
    · cases h
  · cases h

def ListD (d : TypeDesc) : Prop := (∃ e, d = .slice e) ∨ d = .string
theorem listOk_spec (hT : TOk P T) {t : Nat} (h : listOk T t = true) : ∃ d, P.underlying t = some d ∧ ListD d := by
  unfold listOk at h
  split at h
  · rename_i ht
    obtain ⟨i, d, z, ha⟩ := hT.at ht
    exact ⟨_, slice_und ha, .inl ⟨_, rfl⟩⟩
  · rename_i ht
    obtain ⟨i, d, z, ha⟩ := hT.at ht
    exact ⟨_, str_und ha, .inr rfl⟩
  · cases h

theorem run_app_fit {t t2 ty el : Nat} {a : AT} {i' : TypeInfo} {d' d2 : TypeDesc} {z' : Value} (hu : P.underlying t = some (.slice el)) (h2 : P.underlying t2 = some d2) (hd2 : ListD d2)
    (ha : AtOk P el a i' d' z') {w w' : World} {cx : Value} {m : Nat} {us : List Value} (hs : IsSrc P a.size w cx m us) (base : Option Addr) (n c : Nat) (hfit : n + m ≤ c)
    (hw : match base with | some ad => (storeCells (ad.add (n * a.size)) us).run P w = .ok () w' | none => w' = w) :
    (Builtin.append_ #[t, t2] ty #[.slice base n c, cx]).run P w = .ok (.slice base (n + m) c) w' := by
  obtain ⟨hl, hlen, hfc⟩ := hs
  have hf := hfc m w (Nat.le_refl _) rfl
  rw [← hl, List.take_length] at hf
  have hso := run_sizeOf_of ha
  cases base with
  | none =>
    simp only at hw
    subst hw
    rcases hd2 with ⟨e, rfl⟩ | rfl <;> simp [Builtin.append_, run_underlying hu, run_underlying h2, hso, hlen, hfit, hf]
  | some ad =>
    simp only at hw
    rcases hd2 with ⟨e, rfl⟩ | rfl <;> simp [Builtin.append_, run_underlying hu, run_underlying h2, hso, hlen, hfit, hf, hw]

theorem run_app_grow {t t2 ty el : Nat} {a : AT} {i' : TypeInfo} {d' d2 : TypeDesc} {z' : Value} (hu : P.underlying t = some (.slice el)) (h2 : P.underlying t2 = some d2) (hd2 : ListD d2)
    (ha : AtOk P el a i' d' z') {w : World} {cx : Value} {m : Nat} {us : List Value} (hs : IsSrc P a.size w cx m us) {base : Option Addr} {n c : Nat} {olds : List Value} (ho : IsSrc P a.size w (.slice base n c) n olds)
    (hfit : c < n + m) (hb0 : 0 < a.bytes) (hb : (n + m) * a.bytes ≤ 140737488355328) :
    ∃ c' w' , (Builtin.append_ #[t, t2] ty #[.slice base n c, cx]).run P w = .ok (.slice (some ⟨w.heap.size, 0, none⟩) (n + m) c') w' ∧ n + m ≤ c' ∧
      w'.heap = (w.alloc (.cells (olds ++ us ++ (Builtin.zeroCells z'.cells (c' - (n + m))).toList).toArray el (0, 0))).heap ∧ w'.os = w.os ∧ w'.tape = w.tape ∧ w'.output = w.output := by
  obtain ⟨hl, hlen, hfc⟩ := hs
  obtain ⟨hl', _, hfo⟩ := ho
  have hf := hfc m w.drew (Nat.le_refl _) rfl
  have hg := hfo n w.drew (Nat.le_refl _) rfl
  rw [← hl, List.take_length] at hf
  rw [← hl', List.take_length] at hg
  have hso := run_sizeOf_of ha
  have hn : ¬ (n + m ≤ c) := by omega
  have hnb : n + m ≤ (n + m) * a.bytes := Nat.le_mul_of_pos_right _ hb0
  have h63' : ¬ (9223372036854775807 < ((n : Int) + (m : Int))) := by omega
  have h48' : ¬ (281474976710656 < Builtin.nextslicecap (n + m) c * i'.bytes) := by rw [ha.bytes]; have := growslice_fits hfit hb; omega
  have hgc : n + m ≤ grownCap w (n + m) c el := by simp [grownCap, Question.cut]
  refine ⟨grownCap w (n + m) c el, w.drew.alloc (.cells (olds ++ us ++ (Builtin.zeroCells z'.cells (grownCap w (n + m) c el - (n + m))).toList).toArray el (0, 0)), ?_, hgc, rfl, rfl, rfl, rfl⟩
  have hi := ha.info
  have hz := ha.zero
  rcases hd2 with ⟨e, rfl⟩ | rfl
  · simp [Builtin.append_, run_underlying hu, run_underlying h2, hso, typeInfo, zeroValue, hi, hz, hlen, hn, h63', h48', Question.forced, hf, hg, newRow, grownCap]
    congr 2
    apply Array.ext'
    simp
  · simp [Builtin.append_, run_underlying hu, run_underlying h2, hso, typeInfo, zeroValue, hi, hz, hlen, hn, h63', h48', Question.forced, hf, hg, newRow, grownCap]
    congr 2
    apply Array.ext'
    simp

theorem zeroCells_len (zs : Array Value) (n : Nat) : (Builtin.zeroCells zs n).size = n * zs.size := by simp [Builtin.zeroCells]

theorem eff_append (hT : TOk P T) {t t2 el : Nat} {a : AT} {x y : Operand} {s b : Nat} {z0 : List AV} {i i' : TypeInfo} {d d' : TypeDesc} {z z' : Value} (h : AtOk P t ⟨.slice el, s, b, z0⟩ i d z) (ha : AtOk P el a i' d' z')
    (hzl : a.zero.length = a.size) (hpos : 0 < a.size) (hb0 : 0 < a.bytes) (h2 : listOk T t2 = true) (ho : o.op = .call { callee := .builtin .append, args := #[x, y], argTypes := #[t, t2] }) {nx : Nat} {k : Kt}
    (hk : APPEND a.size a.bytes (e x) (e y) H0 nx k) : ∃ v rd fr D, (fr = [] ∨ fr = [nx]) ∧ Eff P o e H0 rd fr D v ∧ k v rd fr D := by
  have hu := slice_und h
  obtain ⟨d2, hu2, hd2⟩ := listOk_spec hT h2
  have exec : ∀ (w w' : World) (ev : Operand → Value) (cv cx cy : Value), ev x = cx → ev y = cy → (Builtin.append_ #[t, t2] o.type #[cx, cy]).run P w = .ok cv w' → (execOp ev o).run P w = .ok (.value cv) w' := by
    intro w w' ev cv cx cy e1 e2 hr
    simp only [execOp, ho, resolve, invoke, builtin, Sem.run_bind, Sem.run_pure, Result.andThen_ok, List.map_toArray, List.map_cons, List.map_nil, e1, e2, hr]
  unfold APPEND at hk
  split at hk
  · rename_i m news rd hsrc
    obtain ⟨hone, hk⟩ := hk
    have fresh : ∀ (A : Nat → Prop) (ρ : Nat → Loc) (H : Heap) (w : World) (ev : Operand → Value) ad, Sim A ρ H w → (∀ q ∈ o.op.operands.toList, VRel (Kof ρ H w) ρ A (e q) (ev q)) → (∀ g ∈ rd, H g = H0 g) → ev x = .slice ad 0 0 → m ≠ 0 → m * a.bytes ≤ 140737488355328 →
        ∃ cv co l w', (execOp ev o).run P w = .ok (.value cv) w' ∧ w'.heap = (w.alloc co).heap ∧ w'.os = w.os ∧ w'.tape = w.tape ∧ w'.output = w.output ∧ l.block = w.heap.size ∧ (∀ w', w'.heap[w.heap.size]? = some co → ObjRel (Kof ρ H w) ρ A w' l (.row a.size news)) ∧
          (∀ (K : KHeap) ρ' (A' : Nat → Prop), ρ' nx = l → A' nx → VRel K ρ' A' (.slc nx 0 m) cv) := by
      intro A ρ H w ev ad s hr hrd hx hm hmb
      have ry := hr y (by simp [Op.operands, Call.operands, ho])
      obtain ⟨us, hL, hS⟩ := src_spec (P := P) hpos s ry hsrc hrd
      obtain ⟨c', w', q1, q2, q3, q4, q5, q6⟩ := run_app_grow (ty := o.type) hu hu2 hd2 ha hS (isSrc_empty (P := P) (esz := a.size) (w := w) (a := ad) (c := 0)) (by omega) hb0 (by simpa using hmb)
      simp only [Nat.zero_add, List.nil_append] at q1 q2 q3
      refine ⟨_, _, ⟨w.heap.size, 0, c' * a.size, a.size⟩, w', exec _ _ _ _ _ _ hx rfl q1, q3, q4, q5, q6, rfl, fun w2 hw2 => ?_, fun K ρ' A' g1 g2 => vrel_slc0 (Nat.le_refl _) q2 K ρ' A' g1 g2⟩
      have hul : us.length = m * a.size := hS.1
      have hnl : news.length = us.length := hL.1.symm
      have hzs : z'.cells.size = a.size := by rw [ha.zsize, hzl]
      have htot : (us ++ (Builtin.zeroCells z'.cells (c' - m)).toList).toArray.size = c' * a.size := by
        simp only [List.size_toArray, List.length_append, Array.length_toList, zeroCells_len, hul, hzs]
        rw [← Nat.add_mul]; congr 1; omega
      have := objrel_new (K := Kof ρ H w) (ρ := ρ) (A := A) (sz := a.size) (cells := news) (cs := (us ++ (Builtin.zeroCells z'.cells (c' - m)).toList).toArray) (el := el) (b := w.heap.size) (lo := 0) (hi := 0)
        (by rw [hnl]; simpa using hL) (by rw [htot, hnl, hul]; exact Nat.mul_le_mul_right _ q2) (fun j _ => by omega) hw2
      rw [htot] at this
      exact this
    split at hk
    · rename_i hxe
      by_cases hm : m = 0
      · refine ⟨.nils, rd, [], [], .inl rfl, Eff.read fun A ρ H w ev s hr hrd => ?_, ?_⟩
        · have rx := hr x (by simp [Op.operands, Call.operands, ho])
          have ry := hr y (by simp [Op.operands, Call.operands, ho])
          rw [hxe] at rx
          generalize hcx : ev x = cx at rx
          cases rx
          obtain ⟨us, hL, hS⟩ := src_spec (P := P) hpos s ry hsrc hrd
          subst hm
          exact ⟨_, exec _ _ _ _ _ _ hcx rfl (run_app_fit hu hu2 hd2 ha hS none 0 0 (by omega) rfl), .nils⟩
        · exact hk.1 hm
      · obtain ⟨hmb, hk⟩ := hk.2 hm
        refine ⟨_, rd, [nx], _, .inr rfl, Eff.new fun A ρ H w ev s hr hrd => ?_, hk⟩
        have rx := hr x (by simp [Op.operands, Call.operands, ho])
        rw [hxe] at rx
        generalize hcx : ev x = cx at rx
        cases rx
        exact fresh A ρ H w ev _ s hr hrd hcx hm hmb
    · rename_i hxe
      by_cases hm : m = 0
      · refine ⟨.zs, rd, [], [], .inl rfl, Eff.read fun A ρ H w ev s hr hrd => ?_, ?_⟩
        · have rx := hr x (by simp [Op.operands, Call.operands, ho])
          have ry := hr y (by simp [Op.operands, Call.operands, ho])
          rw [hxe] at rx
          generalize hcx : ev x = cx at rx
          cases rx with
          | zs ad =>
          obtain ⟨us, hL, hS⟩ := src_spec (P := P) hpos s ry hsrc hrd
          subst hm
          have hus : us = [] := List.eq_nil_of_length_eq_zero (by simpa using hS.1)
          exact ⟨_, exec _ _ _ _ _ _ hcx rfl (run_app_fit (w' := w) hu hu2 hd2 ha hS ad 0 0 (by omega) (by cases ad <;> simp [hus, storeCells, Sem.run_pure])), .zs _⟩
        · exact hk.1 hm
      · obtain ⟨hmb, hk⟩ := hk.2 hm
        refine ⟨_, rd, [nx], _, .inr rfl, Eff.new fun A ρ H w ev s hr hrd => ?_, hk⟩
        have rx := hr x (by simp [Op.operands, Call.operands, ho])
        rw [hxe] at rx
        generalize hcx : ev x = cx at rx
        cases rx with
        | zs ad =>
        exact fresh A ρ H w ev _ s hr hrd hcx hm hmb
    · rename_i g off len hxe
      split at hk
      · rename_i sz cells hg
        obtain ⟨rfl, hle, hmb, hk⟩ := hk
        refine ⟨_, _, [nx], _, .inr rfl, fun A ρ H w ev s hr hrd hfr => ?_, hk⟩
        have hH : H g = some (.row a.size cells) := by rw [hrd g (by simp)]; exact hg
        have hrd' : ∀ q ∈ rd, H q = H0 q := fun q hq => hrd q (by simp [hq])
        have rx := hr x (by simp [Op.operands, Call.operands, ho])
        have ry := hr y (by simp [Op.operands, Call.operands, ho])
        rw [hxe] at rx
        generalize hcx : ev x = cx at rx
        obtain ⟨us, hL, hS⟩ := src_spec (P := P) hpos s ry hsrc hrd'
        have hul : us.length = m * a.size := hS.1
        have hnl : news.length = us.length := hL.1.symm
        obtain ⟨olds, hoL, hoS⟩ := src_spec (P := P) (H0 := H) (x := .slc g off len) (m := len) (news := (cells.drop off).take (len * a.size)) (rd := [g]) hpos s rx (by simp [srcCells, hH, hle]) (fun _ _ => rfl)
        have hol : olds.length = len * a.size := hoS.1
        have hnx : ¬ A nx := hfr nx (by simp)
        have hgs : (H g).isSome = true := by rw [hH]; rfl
        cases rx with
        | slc _ _ _ cap ad hA hlc hcap =>
          by_cases hfit : len + m ≤ cap
          · -- in its own room
            obtain ⟨c, el', lo, hi, q1, q2, q3, q4, q5, q6⟩ := s.obj g _ hH
            by_cases hc0 : cap = 0
            · -- nothing at all
              have hl0 : len = 0 := by omega
              have hm0 : m = 0 := by omega
              subst hc0; subst hl0; subst hm0
              have hus : us = [] := List.eq_nil_of_length_eq_zero (by simpa using hul)
              have hns : news = [] := List.eq_nil_of_length_eq_zero (by rw [hnl, hus]; rfl)
              subst hns
              have hrun := run_app_fit (P := P) (ty := o.type) (w' := w) hu hu2 hd2 ha hS ad 0 0 (by omega) (by cases ad <;> simp [hus, storeCells, Sem.run_pure])
              rw [exec _ _ _ _ _ _ hcx rfl hrun]
              obtain ⟨s', f'⟩ := s.move (w' := w) (g := g) (g' := nx) hgs hnx (.row a.size []) ⟨(ρ g).block, (ρ g).base, (ρ g).tot, (ρ g).sz⟩ rfl (fun _ _ => rfl) (Nat.le_refl _) ⟨c, el', lo, hi, q1, q2, q3, q4, by simp; omega, fun j v h => by simp at h⟩ rfl rfl rfl
              refine ⟨fun q => if q = nx then _ else ρ q, by rw [or_one]; simpa [Heap.apply] using s', ?_, by rw [or_one]; simpa [Heap.apply] using f'⟩
              exact .slc nx 0 0 0 _ (.inr (by simp)) (by omega) (fun h => by omega)
            · obtain ⟨hcb, rfl⟩ := hcap (by omega)
              have hsz : (ρ g).sz = a.size := q4.symm
              rw [hsz] at hcb
              have hroom : (ρ g).base + off + len * a.size + us.length ≤ c.size := by
                have : (len + m) * a.size ≤ cap * a.size := Nat.mul_le_mul_right _ hfit
                rw [Nat.add_mul] at this
                omega
              have hst := run_storeCells_cells (P := P) (ρ g).block ((ρ g).base + off + len * a.size) us 0 w (fun j hj => by
                  have : (ρ g).base + off + len * a.size + 0 + j < c.size := by omega
                  simp only [World.cell?, q1]
                  simp
                  omega)
                (fun j hj => by
                  simp only [World.frozen?, q1]
                  have := q2 ((ρ g).base + off + len * a.size + 0 + j) (by omega)
                  simp; omega) (hL.ones hone)
              simp only [Nat.add_zero] at hst
              obtain ⟨c', b1, b2, b3⟩ := setCells_block (ρ g).block us ((ρ g).base + off + len * a.size) w c el' (lo, hi) q1 (by omega)
              obtain ⟨r1, r2, r3, r4, r5⟩ := setCells_rest (ρ g).block us ((ρ g).base + off + len * a.size) w
              have hrun := run_app_fit (P := P) (ty := o.type) (w' := w.setCells (ρ g).block ((ρ g).base + off + len * a.size) us) hu hu2 hd2 ha hS (some ⟨(ρ g).block, (ρ g).base + off, none⟩) len cap hfit (by simp only [add_addr]; exact hst)
              rw [exec _ _ _ _ _ _ hcx rfl hrun]
              have hdl : ((cells.drop off).take (len * a.size)).length = len * a.size := by simp; omega
              obtain ⟨s', f'⟩ := s.move (w' := w.setCells (ρ g).block ((ρ g).base + off + len * a.size) us) (g := g) (g' := nx) hgs hnx (.row a.size ((cells.drop off).take (len * a.size) ++ news)) ⟨(ρ g).block, (ρ g).base + off, (ρ g).tot, (ρ g).sz⟩ rfl (fun b hb => r1 b hb) (by omega)
                ⟨c', el', lo, hi, b1, q2, (by show c'.size = (ρ g).tot; omega), q4, (by show (ρ g).base + off + _ ≤ (ρ g).tot; simp only [List.length_append, hdl, hnl]; omega), fun j v hv => by
                  show ∃ cv, c'[(ρ g).base + off + j]? = some cv ∧ _
                  rw [List.getElem?_append] at hv
                  rw [hdl] at hv
                  split at hv
                  · rename_i hj
                    rw [List.getElem?_take, if_pos hj, List.getElem?_drop] at hv
                    obtain ⟨cv, g1, g2⟩ := q6 _ v hv
                    refine ⟨cv, ?_, g2⟩
                    rw [b3, if_neg (by omega)]
                    rw [show (ρ g).base + off + j = (ρ g).base + (off + j) by omega]; exact g1
                  · rename_i hj
                    obtain ⟨u, g1, g2⟩ := hL.get hv
                    have hjl := (List.getElem?_eq_some_iff.1 g1).1
                    refine ⟨u, ?_, g2⟩
                    rw [b3, if_pos (by omega)]
                    rw [show (ρ g).base + off + j - ((ρ g).base + off + len * a.size) = j - len * a.size by omega]; exact g1⟩ r3 r4 r5
              refine ⟨fun q => if q = nx then _ else ρ q, by rw [or_one]; simpa [Heap.apply] using s', ?_, by rw [or_one]; simpa [Heap.apply] using f'⟩
              refine .slc nx 0 _ _ _ (.inr (by simp)) hfit fun _ => ?_
              rw [if_pos rfl]
              exact ⟨by show (ρ g).base + off + 0 + cap * (ρ g).sz ≤ (ρ g).tot; rw [hsz]; omega, rfl⟩
          · -- into a new row
            obtain ⟨c', w', p1, p2, p3, p4, p5, p6⟩ := run_app_grow (P := P) (ty := o.type) hu hu2 hd2 ha hS hoS (by omega) hb0 hmb
            rw [exec _ _ _ _ _ _ hcx rfl p1]
            obtain ⟨s1, f1⟩ := s.drop (H' := H.put g none) fun q ob hq => by
              rw [Heap.put_eq] at hq
              split at hq
              · cases hq
              · exact hq
            have hzs : z'.cells.size = a.size := by rw [ha.zsize, hzl]
            have hLL : LRel (Kof ρ (H.put g none) w) ρ A ((cells.drop off).take (len * a.size) ++ news) (olds ++ us) := (hoL.append hL).mono f1.k (fun _ h => ⟨rfl, h⟩)
            have htot : (olds ++ us ++ (Builtin.zeroCells z'.cells (c' - (len + m))).toList).toArray.size = c' * a.size := by
              simp only [List.size_toArray, List.length_append, Array.length_toList, zeroCells_len, hol, hul, hzs]
              rw [← Nat.add_mul, ← Nat.add_mul]; congr 1; omega
            have hln : ((cells.drop off).take (len * a.size) ++ news).length = (olds ++ us).length := hLL.1.symm
            obtain ⟨s2, f2⟩ := s1.alloc hnx (.row a.size ((cells.drop off).take (len * a.size) ++ news)) (.cells (olds ++ us ++ (Builtin.zeroCells z'.cells (c' - (len + m))).toList).toArray el (0, 0)) ⟨w.heap.size, 0, c' * a.size, a.size⟩ rfl (fun w2 hw2 => by
              have := objrel_new (K := Kof ρ (H.put g none) w) (ρ := ρ) (A := A) (sz := a.size) (cells := (cells.drop off).take (len * a.size) ++ news) (cs := (olds ++ us ++ (Builtin.zeroCells z'.cells (c' - (len + m))).toList).toArray) (el := el) (b := w.heap.size) (lo := 0) (hi := 0)
                (by rw [hln]; show LRel _ _ _ _ (List.take (olds ++ us).length (olds ++ us ++ _)); rw [List.take_left]; exact hLL) (by rw [htot, hln]; simp only [List.length_append, hol, hul]; rw [← Nat.add_mul]; exact Nat.mul_le_mul_right _ p2) (fun j _ => by omega) hw2
              rw [htot] at this
              exact this)
            refine ⟨fun q => if q = nx then (⟨w.heap.size, 0, c' * a.size, a.size⟩ : Loc) else ρ q, ?_, ?_, ?_⟩
            · rw [or_one]; exact s2.heap p3
            · exact vrel_slc0 (Nat.le_refl _) p2 _ _ _ (if_pos rfl) (.inr (by simp))
            · rw [or_one]
              refine f1.trans ⟨f2.agree, fun b ob hb => ?_, p4, p5, p6, by rw [p3]; exact f2.size⟩
              rw [show Kof _ (H.apply [(g, none), (nx, _)]) w' = _ from Kof_heap p3]; exact f2.k b _ hb
      · exact hk.elim
    · exact hk.elim
  · exact hk.elim

theorem eff_copy {t t2 el : Nat} {a : AT} {x y : Operand} {s b : Nat} {z0 : List AV} {i i' : TypeInfo} {d d' : TypeDesc} {z z' : Value} (h : AtOk P t ⟨.slice el, s, b, z0⟩ i d z) (ha : AtOk P el a i' d' z')
    (hpos : 0 < a.size) (ho : o.op = .call { callee := .builtin .copy, args := #[x, y], argTypes := #[t, t2] }) {k : Kt}
    (hk : COPY a.size (e x) (e y) H0 k) : ∃ v rd D, Eff P o e H0 rd [] D v ∧ k v rd [] D := by
  have hu := slice_und h
  have hso := run_sizeOf_of ha
  have exec : ∀ (w w' : World) (ev : Operand → Value) (cv cx cy : Value), ev x = cx → ev y = cy → (Builtin.copy_ #[t, t2] o.type #[cx, cy]).run P w = .ok cv w' → (execOp ev o).run P w = .ok (.value cv) w' := by
    intro w w' ev cv cx cy e1 e2 hr
    simp only [execOp, ho, resolve, invoke, builtin, Sem.run_bind, Sem.run_pure, Result.andThen_ok, List.map_toArray, List.map_cons, List.map_nil, e1, e2, hr]
  have crun : ∀ (w w' : World) (base : Option Addr) (len c : Nat) (cy : Value) (m : Nat) (us : List Value), IsSrc P a.size w cy m us →
      (match base with | some ad => (storeCells ad (us.take (min m len * a.size))).run P w = .ok () w' | none => w' = w) →
      (Builtin.copy_ #[t, t2] o.type #[.slice base len c, cy]).run P w = .ok (.int .i64 ((min m len : Nat) : Int)) w' := by
    intro w w' base len c cy m us hS hw
    have hf := hS.2.2 (min m len) w (Nat.min_le_left _ _) rfl
    have hl := hS.2.1
    cases base with
    | none =>
      simp only at hw
      subst hw
      simp [Builtin.copy_, run_underlying hu, hso, hl, hf, goInt]
    | some ad =>
      simp only at hw
      simp [Builtin.copy_, run_underlying hu, hso, hl, hf, goInt, hw]
  unfold COPY at hk
  split at hk
  · rename_i m news rd hsrc
    have zero : ∀ (v : AV), e x = v → (v = .nils ∨ v = .zs) → k (.int .i64 0) rd [] [] → ∃ v rd D, Eff P o e H0 rd [] D v ∧ k v rd [] D := by
      intro v hxe hv hk
      refine ⟨_, rd, [], Eff.read fun A ρ H w ev s hr hrd => ?_, hk⟩
      have rx := hr x (by simp [Op.operands, Call.operands, ho])
      have ry := hr y (by simp [Op.operands, Call.operands, ho])
      obtain ⟨us, hL, hS⟩ := src_spec (P := P) hpos s ry hsrc hrd
      rw [hxe] at rx
      generalize hcx : ev x = cx at rx
      have hex : ∃ ad, cx = .slice ad 0 0 := by
        rcases hv with rfl | rfl <;> cases rx <;> exact ⟨_, rfl⟩
      obtain ⟨ad, rfl⟩ := hex
      have := crun w w ad 0 0 (ev y) m us hS (by cases ad <;> simp [storeCells, Sem.run_pure])
      simp only [Nat.min_zero] at this
      exact ⟨_, exec _ _ _ _ _ _ hcx rfl this, .int _ _⟩
    split at hk
    · exact zero _ (by assumption) (.inl rfl) hk
    · exact zero _ (by assumption) (.inr rfl) hk
    · rename_i g off len hxe
      split at hk
      · rename_i sz cells hg
        obtain ⟨rfl, hle, hone, hk⟩ := hk
        refine ⟨_, _, _, fun A ρ H w ev s hr hrd _ => ?_, hk⟩
        have hH : H g = some (.row a.size cells) := by rw [hrd g (by simp)]; exact hg
        have rx := hr x (by simp [Op.operands, Call.operands, ho])
        have ry := hr y (by simp [Op.operands, Call.operands, ho])
        obtain ⟨us, hL, hS⟩ := src_spec (P := P) hpos s ry hsrc (fun q hq => hrd q (by simp [hq]))
        rw [hxe] at rx
        generalize hcx : ev x = cx at rx
        have hul : us.length = m * a.size := hS.1
        have hnl : news.length = us.length := hL.1.symm
        have hLt := hL.take (min m len * a.size)
        have htl : (news.take (min m len * a.size)).length = min m len * a.size := by
          rw [List.length_take, hnl, hul]; exact Nat.min_eq_left (Nat.mul_le_mul_right _ (Nat.min_le_left _ _))
        have hmm : min m len * a.size ≤ len * a.size := Nat.mul_le_mul_right _ (Nat.min_le_right _ _)
        cases rx with
        | slc _ _ _ cap ad hA hlc hcap =>
          by_cases h0 : cap = 0
          · have hl0 : len = 0 := by omega
            subst h0; subst hl0
            have hrun := crun w w ad 0 0 (ev y) m us hS (by cases ad <;> simp [storeCells, Sem.run_pure])
            rw [exec _ _ _ _ _ _ hcx rfl hrun]
            have hsp : splice cells off (news.take (min m 0 * a.size)) = cells := by simp [splice]
            obtain ⟨c, el', lo, hi, q1, q2, q3, q4, q5, q6⟩ := s.obj g _ hH
            obtain ⟨s', f'⟩ := s.write (w' := w) (g := g) (by rw [hH]; rfl) (.row a.size (splice cells off (news.take (min m 0 * a.size)))) (fun _ _ => rfl) (Nat.le_refl _) (by rw [hsp]; exact ⟨c, el', lo, hi, q1, q2, q3, q4, q5, q6⟩) rfl rfl rfl
            exact ⟨ρ, by rw [or_nil]; exact s', .int _ _, by rw [or_nil]; exact f'⟩
          · obtain ⟨_, rfl⟩ := hcap (by omega)
            obtain ⟨w', p1, p2, p3, _⟩ := write_row (P := P) (off := off) s hH hLt (List.all_eq_true.2 fun v hv => List.all_eq_true.1 hone v (List.mem_of_mem_take hv)) (by rw [htl]; omega)
            have hrun := crun w w' (some ⟨(ρ g).block, (ρ g).base + off, none⟩) len cap (ev y) m us hS p1
            rw [exec _ _ _ _ _ _ hcx rfl hrun]
            exact ⟨ρ, by rw [or_nil]; exact p2, .int _ _, by rw [or_nil]; exact p3⟩
      · exact hk.elim
    · exact hk.elim
  · exact hk.elim
end
end Go.Proofs.Ytckhbfbbpdjmdaa
