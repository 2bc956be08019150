/- The writer: numbers, values, programs. A copy of an agent: the frames' part. A copy of an agent. Agents, by value. Sums of bytes. The number that bytes begin with. The text that bytes begin with. The readers: numbers, texts, counts. The readers: numbers, texts, counts, in the machine. The readers: values. The writer: programs. What a call is handed is read by value from then on, in part. Lists of values, and of cells, that are the same; and that may be. The laws' first question, asked of closed facts. -/
import Derived.Test.YtpbnaaoilgohkaaG10
import Derived.Test.YtpbnaaoilgohkaaG9
set_option linter.unusedSimpArgs false
set_option linter.unusedVariables false
set_option maxRecDepth 8000
namespace Go.Proofs.Ytpbnaaoilgohkaa
open Go Go.RowKit
structure WrM (p : Nat) (l : AV) (bs : Str) (H : Heap) (n : Nat) : Prop where
  row : H p = some (.row 1 [l])
  slot : Slot H 1 bs.length (bsV bs) l
  ow : ∀ y ∈ own l, p < y ∧ y < n
  lt : p < n
structure WExt (p : Nat) (l : AV) (H : Heap) (n : Nat) (l' : AV) (bs : Str) (H' : Heap) (n' : Nat) : Prop where
  le : n ≤ n'
  wr : WrM p l' bs H' n'
  new : ∀ y ∈ own l', y ∈ own l ∨ n ≤ y
  keep : ∀ y, y < n → y ≠ p → y ∉ own l → H' y = H y
theorem WrM.ext {p n : Nat} {l : AV} {bs : Str} {H : Heap} (h : WrM p l bs H n) : WExt p l H n l bs H n := ⟨Nat.le_refl _, h, fun _ hy => .inl hy, fun _ _ _ _ => rfl⟩
theorem WExt.trans {p n n' n2 : Nat} {l l' l2 : AV} {bs bs2 : Str} {H H' H2 : Heap} (h : WExt p l H n l' bs H' n') (k : WExt p l' H' n' l2 bs2 H2 n2) : WExt p l H n l2 bs2 H2 n2 :=
  ⟨Nat.le_trans h.le k.le, k.wr, fun y hy => by
    rcases k.new y hy with h1 | h1
    · exact h.new y h1
    · exact .inr (by have := h.le; omega), fun y hy h1 h2 => by
    rw [k.keep y (by have := h.le; omega) h1 fun h3 => ?_, h.keep y hy h1 h2]
    rcases h.new y h3 with h4 | h4
    · exact h2 h4
    · omega⟩
theorem WExt.put {p n n' : Nat} {l l' : AV} {bs : Str} {H H' : Heap} (h : WExt p l H n l' bs H' n') (o : AObj) : WExt p l H n l' bs (H'.put n' (some o)) (n' + 1) := by
  have w := h.wr
  refine ⟨by have := h.le; omega, ⟨by rw [Heap.put_ne _ _ (by have := w.lt; omega)]; exact w.row, w.slot.keep fun g hg => Heap.put_ne _ _ (by have := w.ow g hg; omega), fun y hy => by have := w.ow y hy; omega, by have := w.lt; omega⟩, h.new, fun y hy h1 h2 => ?_⟩
  rw [Heap.put_ne _ _ (by have := h.le; omega)]; exact h.keep y hy h1 h2
theorem WExt.row {p n n' n2 g : Nat} {l l' : AV} {bs bs2 : Str} {H H' H2 : Heap} (h : WExt p l H n l' bs H' n') (b : BNew H' n' l' H2 n2 g bs2) : WExt p l H n (.slc g 0 bs2.length) bs2 (H2.put p (some (.row 1 [.slc g 0 bs2.length]))) n2 := by
  have w := h.wr
  have h1 := b.lo
  have h2 := b.hi
  have h3 := h.le
  have h4 := w.lt
  refine ⟨by omega, ⟨Heap.put_at _ _ _, ?_, fun y hy => ?_, by omega⟩, fun y hy => ?_, fun y hy e1 e2 => ?_⟩
  · exact Slot.full (by rw [Heap.put_ne _ _ (by omega)]; exact b.row) (by rw [zcz]; omega)
  · have e : y = g := by simpa [own] using hy
    omega
  · have e : y = g := by simpa [own] using hy
    exact .inr (by omega)
  · rw [Heap.put_ne _ _ e1, b.keep y (by omega) fun h5 => ?_, h.keep y hy e1 e2]
    rcases h.new y h5 with h6 | h6
    · exact e2 h6
    · omega
theorem WrM.keep {p n n' : Nat} {l : AV} {bs : Str} {H H' : Heap} (w : WrM p l bs H n) (hn : n ≤ n') (hk : ∀ y, (y = p ∨ y ∈ own l) → H' y = H y) : WrM p l bs H' n' :=
  ⟨by rw [hk p (.inl rfl)]; exact w.row, w.slot.keep fun g hg => hk g (.inr hg), fun y hy => by have := w.ow y hy; omega, by have := w.lt; omega⟩
theorem WrM.one {p n : Nat} {l : AV} {bs : Str} {H : Heap} (w : WrM p l bs H n) : l.cells = [l] ∧ l.one = true ∧ l.sure = true := w.slot.one
def zt (ns : List Int) : Str := ns.flatMap WM.num
theorem zbk (ns : List Int) : (zt ns).length ≤ 10 * ns.length := by
  induction ns with
  | nil => simp [zt]
  | cons n r ih => have := zap n; simp [zt] at ih ⊢; omega
theorem zaay {ns : List Int} {i : Nat} {n : Int} (h : ns[i]? = some n) : zt (ns.take (i + 1)) = zt (ns.take i) ++ WM.num n := by
  unfold zt; rw [List.take_add_one, h]; simp
set_option maxRecDepth 20000 in
set_option maxHeartbeats 1000000 in
theorem zahe {p g n : Nat} {l : AV} {bs : Str} {ns : List Int} {H : Heap} {Q : AV → Heap → Nat → Prop} (w : WrM p l bs H n) (hg : H g = some (.row 1 (ns.map (AV.int .i64)))) (hgp : g ≠ p) (hgl : g ∉ own l) (hgn : g < n) (hb : bs.length + 10 * ns.length ≤ 100000000000000) (hi : ∀ m ∈ ns, -9223372036854775808 ≤ m ∧ m ≤ 9223372036854775807)
    (hq : ∀ H' n' l', WExt p l H n l' (bs ++ zt ns) H' n' → Q (.tup []) H' n') : za Try.prog 14 [.ptr p 0, .slc g 0 ns.length] H n Q := by
  refine zpz _ _ H n _ ?_
  simp [zky]
  refine LP.mk (fun k xs H' n' => ∃ (i : Nat) (l' : AV), k = ns.length - i ∧ i ≤ ns.length ∧ xs = [.ptr p 0, .slc g 0 ns.length, .int .i64 ns.length, .int .i64 i] ∧ WExt p l H n l' (bs ++ zt (ns.take i)) H' n') ns.length ⟨0, l, rfl, by omega, rfl, by simpa [zt] using w.ext⟩ ?_
  rintro k xs H' n' ⟨i, l', rfl, hil, rfl, ext⟩
  have e1 : H' g = some (.row 1 (ns.map (AV.int .i64))) := (ext.keep g hgn hgp hgl).trans hg
  have e2 := ext.wr.row
  have o1 := ext.wr.one
  by_cases hlt : i < ns.length
  · have hadd : IntKind.i64.wrap ((i : Int) + 1) = ((i + 1 : Nat) : Int) := by rw [i64w (by omega)]; rfl
    have hm : ns[i]? = some ns[i] := List.getElem?_eq_getElem hlt
    have hmi := hi _ (List.getElem_mem hlt)
    generalize hmm : ns[i] = m at hm hmi
    have hsn := zaay hm
    simp [zfd, hlt, e1, e2, hmm]
    have hl := zbk (ns.take i)
    rw [List.length_take, Nat.min_eq_left hil] at hl
    refine zagz ext.wr.slot (by rw [List.length_append]; omega) hmi (fun y hy => (ext.wr.ow y hy).2) fun H2 n2 g2 b2 => ?_
    have er := ext.row b2
    rw [List.append_assoc, ← hsn] at er
    rw [List.append_assoc, ← hsn]
    have hp : H2 p = some (.row 1 [l']) := by rw [b2.keep p ext.wr.lt fun h => by have := ext.wr.ow p h; omega]; exact e2
    simp [zkz, hp, hadd]
    simp only [List.length_append] at er
    exact ⟨ns.length - (i + 1), by omega, i + 1, rfl, by omega, rfl, _, er⟩
  · obtain rfl : i = ns.length := by omega
    rw [List.take_length] at ext
    simp [zfd]
    exact hq _ _ _ ext
theorem WExt.nums {p n n' : Nat} {l l' : AV} {bs : Str} {H H' : Heap} {Q : AV → Heap → Nat → Prop} (e : WExt p l H n l' bs H' n') (ns : List Int) (hb : bs.length + 10 * ns.length ≤ 100000000000000) (hi : ∀ m ∈ ns, -9223372036854775808 ≤ m ∧ m ≤ 9223372036854775807)
    (hq : ∀ H2 n2 l2, WExt p l H n l2 (bs ++ zt ns) H2 n2 → (∀ y, y < n' → y ≠ p → y ∉ own l' → H2 y = H' y) → Q (.tup []) H2 n2) : za Try.prog 14 [.ptr p 0, .slc n' 0 ns.length] (H'.put n' (some (.row 1 (ns.map (AV.int .i64))))) (n' + 1) Q := by
  have w := e.wr
  have e1 := e.put (.row 1 (ns.map (AV.int .i64)))
  refine zahe e1.wr (Heap.put_at _ _ _) (by have := w.lt; omega) (fun h => by have := w.ow _ h; omega) (by omega) hb hi fun H2 n2 l2 e2 => hq _ _ _ (e1.trans e2) fun y h1 h2 h3 => ?_
  rw [e2.keep y (by omega) h2 h3, Heap.put_ne _ _ (by omega)]
theorem zj.wtext {l : AV} {bs s : Str} {H : Heap} {m : Nat} {kt : Kt} (hs : Slot H 1 bs.length (bsV bs) l) (hb : bs.length + s.length ≤ 100000000000000) (hl : ∀ y ∈ own l, y < m)
    (hq : ∀ rd D, (∀ y, y < m → y ∉ own l → (H.apply D) y = H y) → (H.apply D) m = some (.row 1 (bsV (bs ++ VM.textB s))) → (∀ y ∈ domD D, y ∈ own l ∨ y = m) → kt (.slc m 0 (bs ++ VM.textB s).length) rd [m] D) :
    zj Try.prog (.clo 44 []) [l, .str s] H m kt := by
  let D : zl := ((own l).map fun g => (g, none)) ++ [(m, some (.row 1 (bsV (bs ++ VM.textB s))))]
  have app : ∀ Hx : Heap, (Hx.apply D) m = some (.row 1 (bsV (bs ++ VM.textB s))) ∧ (∀ y, y ≠ m → y ∉ own l → (Hx.apply D) y = Hx y) ∧ (∀ y ∈ own l, (Hx.apply D) y = none) := fun Hx => by
    cases l <;> simp [D, own, Heap.apply] at hl ⊢
    case slc g off len => exact ⟨fun y h1 h2 => by rw [if_neg h1, if_neg h2], by omega⟩
    all_goals exact fun y h1 h2 => absurd h2 h1
  have dD : ∀ x, x ∈ domD D ↔ x ∈ own l ∨ x = m := fun x => by simp [D, domD]
  obtain ⟨a1, a2, _⟩ := app H
  refine ⟨_, own l, [m], D, .inr (.inl rfl), LC.of_callsN (fun x hx => ?_) (fun x hx => (dD x).1 hx) (fun A _ _ H' n' hag => ?_), hq _ D (fun y h1 h2 => a2 y (by omega) h2) a1 fun y hy => (dD y).1 hy⟩
  · rcases hs with ⟨_, rfl | rfl⟩ | ⟨g, cs, rfl, h1, _⟩
    · simp [own] at hx
    · simp [own] at hx
    · simp [own] at hx; subst hx; rw [h1]; rfl
  · have hs' : Slot H' 1 bs.length (bsV bs) l := hs.keep fun g hg => (hag g hg).1
    refine zadv hs' hb (fun y hy => (hag y hy).2) fun H2 n2 g b => ?_
    obtain ⟨c1, c2, c3⟩ := app H'
    refine ⟨g, b.lo, b.hi, .slc _ _, fun y hy hd => ?_, fun x o hx hxm ho => ?_, ⟨_, _, c1, b.row, rfl, rfl, fun j v u hv hu => ?_⟩⟩
    · have := (not_congr (dD y)).1 hd
      simp only [not_or] at this
      exact b.keep y hy this.1
    · rcases (dD x).1 hx with h | h
      · rw [c3 x h] at ho; cases ho
      · exact absurd h hxm
    · rw [hv] at hu; cases hu
      refine .same _ ?_
      unfold bsV at hv
      rw [List.getElem?_map] at hv
      obtain ⟨c, _, rfl⟩ := Option.map_eq_some_iff.1 hv
      exact .int _ _
theorem zjj (v : Val) : (VM.valB v).length ≤ 20 + v.text.length := by
  unfold VM.valB
  have h1 := zap v.kind
  have h2 := zap v.n
  have h3 := zmp v.text
  rw [List.length_append]
  split <;> omega
def I64v (v : Val) : Prop := (-9223372036854775808 ≤ v.kind ∧ v.kind ≤ 9223372036854775807) ∧ (-9223372036854775808 ≤ v.n ∧ v.n ≤ 9223372036854775807)
set_option maxRecDepth 20000 in
set_option maxHeartbeats 1000000 in
theorem zzr {p n : Nat} {l : AV} {bs : Str} {v : Val} {H : Heap} {Q : AV → Heap → Nat → Prop} (w : WrM p l bs H n) (hv : I64v v) (hb : bs.length + 20 + v.text.length ≤ 100000000000000)
    (hq : ∀ H' n' l', WExt p l H n l' (bs ++ VM.valB v) H' n' → Q (.tup []) H' n') : za Try.prog 17 [.ptr p 0, .agg v.avs] H n Q := by
  refine zpo _ _ H n _ ?_
  have e1 := w.ext.put (.row 3 v.avs)
  have lt := w.lt
  have ne_0 : n ≠ n + 1 ∧ n + 1 ≠ n ∧ n ≠ p ∧ p ≠ n := ⟨by omega, by omega, by omega, by omega⟩
  simp [zjp, Val.avs]
  refine e1.nums [v.kind] (by simp; omega) (by simpa using hv.1) fun H2 n2 l2 e2 k2 => ?_
  have hn : H2 n = some (.row 3 v.avs) := by rw [k2 n (by omega) (by omega) fun h => (by have := w.ow _ h; omega), Heap.put_at]
  have hp := e2.wr.row
  have o2 := e2.wr.one
  have en : zt [v.kind] = WM.num v.kind := by simp [zt]
  rw [en] at e2
  have nl := zap v.kind
  by_cases h1 : v.kind = 1
  · have eb : bs ++ VM.valB v = bs ++ WM.num v.kind ++ VM.textB v.text := by unfold VM.valB; rw [if_pos h1, List.append_assoc]
    simp [zer, hn, Val.avs, h1, hp]
    refine zj.wtext e2.wr.slot (by rw [List.length_append]; omega) (fun y hy => (e2.wr.ow y hy).2) fun rd D d1 d2 d3 => ?_
    have hp2 : (H2.apply D) p = some (.row 1 [l2]) := by rw [d1 p e2.wr.lt fun h => (by have := e2.wr.ow _ h; omega)]; exact hp
    rw [← eb] at d2 ⊢
    simp [zjr, hp2]
    have er := e2.row (bs2 := bs ++ VM.valB v) ⟨Nat.le_refl n2, Nat.lt_succ_self n2, d2, d1⟩
    rw [List.length_append] at er
    exact zbs (fun g _ => by simp) (hq _ _ _ er)
  · have eb : bs ++ VM.valB v = bs ++ WM.num v.kind ++ zt [v.n] := by unfold VM.valB zt; rw [if_neg h1, List.append_assoc]; simp
    simp [zer, hn, Val.avs, h1]
    refine e2.nums [v.n] (by rw [List.length_append]; simp; omega) (by simpa using hv.2) fun H3 n3 l3 e3 _ => ?_
    rw [← eb] at e3
    simp [zjq]
    exact hq _ _ _ e3
def I64l (l : List Val) : Prop := ∀ v ∈ l, I64v v ∧ v.text.length ≤ 4096
theorem zex {α : Type} {f : α → Str} {k : Nat} {l : List α} (h : ∀ x ∈ l, (f x).length ≤ k) : (l.flatMap f).length ≤ k * l.length := by
  induction l with
  | nil => simp
  | cons x r ih =>
    have h1 := h x (by simp)
    have h2 := ih fun y hy => h y (by simp [hy])
    simp only [List.flatMap_cons, List.length_append, List.length_cons, Nat.mul_add]
    omega
theorem zau {α : Type} {f : α → Str} {l : List α} {i : Nat} {x : α} (h : l[i]? = some x) : (l.take (i + 1)).flatMap f = (l.take i).flatMap f ++ f x := by
  rw [List.take_add_one, h]; simp
theorem zat {α : Type} {f : α → Str} {k i : Nat} {l : List α} (h : ∀ x ∈ l, (f x).length ≤ k) (hi : i ≤ l.length) : ((l.take i).flatMap f).length ≤ k * i := by
  have := zex (l := l.take i) (k := k) (f := f) fun x hx => h x (List.mem_of_mem_take hx)
  rw [List.length_take, Nat.min_eq_left hi] at this
  exact this
set_option maxRecDepth 20000 in
set_option maxHeartbeats 1000000 in
theorem zacl {p n : Nat} {l : AV} {bs : Str} {vs : List Val} {H : Heap} {Q : AV → Heap → Nat → Prop} (w : WrM p l bs H n) (hv : I64l vs) (hl : vs.length ≤ 1000000) (hb : bs.length ≤ 50000000000000)
    (hq : ∀ H' n' l', WExt p l H n l' (bs ++ VM.valsB vs) H' n' → Q (.tup []) H' n') : za Try.prog 16 [.ptr p 0, .ro (vs.map Val.avs)] H n Q := by
  refine zod _ _ H n _ ?_
  simp [zik]
  refine w.ext.nums [(vs.length : Int)] (by simp; omega) (by simp; omega) fun H2 n2 l2 e2 _ => ?_
  have en : zt [(vs.length : Int)] = WM.num vs.length := by simp [zt]
  rw [en] at e2
  have nl := zap vs.length
  have hk : ∀ v ∈ vs, (VM.valB v).length ≤ 4116 := fun v h => by have := zjj v; have := (hv v h).2; omega
  simp [zil]
  refine LP.mk (fun k xs H' n' => ∃ (i : Nat) (l' : AV), k = vs.length - i ∧ i ≤ vs.length ∧ xs = [.ptr p 0, .ro (vs.map Val.avs), .int .i64 vs.length, .int .i64 i] ∧ WExt p l H n l' (bs ++ WM.num vs.length ++ (vs.take i).flatMap VM.valB) H' n') vs.length ⟨0, l2, rfl, by omega, rfl, by simpa using e2⟩ ?_
  rintro k xs H' n' ⟨i, l', rfl, hil, rfl, ext⟩
  by_cases hlt : i < vs.length
  · have hadd : IntKind.i64.wrap ((i : Int) + 1) = ((i + 1 : Nat) : Int) := by rw [i64w (by omega)]; rfl
    have hm : vs[i]? = some vs[i] := List.getElem?_eq_getElem hlt
    have hmi := hv _ (List.getElem_mem hlt)
    have hft := zat hk hil
    generalize hmm : vs[i] = m at hm hmi
    have hsn := zau (f := VM.valB) hm
    simp [zeh, hlt, hmm, Val.avs]
    refine zzr (ext.put (.row 3 m.avs)).wr hmi.1 (by rw [List.length_append, List.length_append]; omega) fun H3 n3 l3 e3 => ?_
    have er := (ext.put (.row 3 m.avs)).trans e3
    rw [List.append_assoc _ _ (VM.valB m), ← hsn] at er
    simp [zim, hadd]
    exact ⟨vs.length - (i + 1), by omega, i + 1, rfl, by omega, rfl, _, by simpa using er⟩
  · obtain rfl : i = vs.length := by omega
    rw [List.take_length, List.append_assoc] at ext
    simp [zeh]
    exact hq _ _ _ ext
end Go.Proofs.Ytpbnaaoilgohkaa
set_option maxRecDepth 8000
namespace Go.Proofs.Ytpbnaaoilgohkaa
open Go Go.RowKit
structure zadt (H : Heap) (lo n : Nat) (fs : List Frm) (ss : List (AV × AV)) (fa : AV) (h : List Cl) (ha : AV) : Prop where
  frs : zx H fs ss
  row : Slot H 4 fs.length (frow fs ss) fa
  hp : Slot H 6 h.length (rowC h) ha
  nd : (own fa ++ (own ha ++ owns ss)).Nodup
  bd : ∀ g ∈ own fa ++ (own ha ++ owns ss), lo ≤ g ∧ g < n
structure zit (H : Heap) (lo n : Nat) (fs : List Frm) (ss : List (AV × AV)) (fa : AV) : Prop where
  frs : zx H fs ss
  row : Slot H 4 fs.length (frow fs ss) fa
  nd : (own fa ++ owns ss).Nodup
  bd : ∀ g ∈ own fa ++ owns ss, lo ≤ g ∧ g < n
theorem zit.snoc {H X : Heap} {lo n N m : Nat} {fs : List Frm} {ss : List (AV × AV)} {fa : AV} {f : Frm} {va sa : AV} (h : zit H lo n fs ss fa) (hn : n ≤ N) (hN : N ≤ m) (hlo : lo ≤ N) (hlen : (fs.length + 1) * 64 ≤ 140737488355328)
    (old : ∀ g, g < n → X g = H g) (hv : Slot X 3 f.vars.length (rowV f.vars) va) (hs : Slot X 3 f.stack.length (rowV f.stack) sa) (nd : (own va ++ own sa).Nodup) (bd : ∀ g ∈ own va ++ own sa, N ≤ g ∧ g < m)
    {t : Nat} (ht : X t = some (.row 4 [.int .i64 f.fn, .int .i64 f.at_, va, sa])) {kk : AV → Heap → Nat → Prop}
    (hk : ∀ H' a', (∀ g, g < lo → H' g = X g) → zit H' lo (m + 1) (fs ++ [f]) (ss ++ [(va, sa)]) a' → kk a' H' (m + 1)) : APP 4 64 fa (.slc t 0 1) X m kk := by
  have hbf : ∀ g ∈ own fa, lo ≤ g ∧ g < n := fun g hg => h.bd g (List.mem_append_left _ hg)
  have hbs : ∀ g ∈ owns ss, lo ≤ g ∧ g < n := fun g hg => h.bd g (List.mem_append_right _ hg)
  obtain ⟨nd1, nd2, nd3⟩ := List.nodup_append.1 h.nd
  have hx := (h.row.keep (H' := X) fun g hg => old g (hbf g hg).2)
  refine Slot.app (bytes := 64) (nx := m) (new := [.int .i64 f.fn, .int .i64 f.at_, va, sa]) hx (zmd h.frs.1) ht rfl (by simp [hv.one, hs.one]) hlen fun H' h1 h2 => ?_
  have keep : ∀ g, g ∈ owns ss → H' g = H g := fun g hg => by
    have := hbs g hg
    rw [h2 g (fun hx => nd3 g hx g hg rfl) (by omega)]; exact old g this.2
  have keep2 : ∀ g, g ∈ own va ++ own sa → H' g = X g := fun g hg => by
    have := bd g hg
    exact h2 g (fun hx => by have := hbf g hx; omega) (by omega)
  refine hk H' _ (fun g hg => h2 g (fun hx => by have := hbf g hx; omega) (by omega)) ⟨(h.frs.keep keep).snoc (hv.keep fun g hg => keep2 g (List.mem_append_left _ hg)) (hs.keep fun g hg => keep2 g (List.mem_append_right _ hg)), ?_, ?_, ?_⟩
  · refine .inr ⟨m, _, by simp, h1, ?_, ?_⟩
    · rw [zxm h.frs.1]; exact List.take_of_length_le (by simp [zmd h.frs.1]; omega)
    · simp [zmd h.frs.1]; omega
  · rw [zxh]
    have e0 : own (AV.slc m 0 (fs.length + 1)) = [m] := rfl
    simp only [List.length_append, List.length_singleton, e0]
    refine List.nodup_append.2 ⟨by simp, List.nodup_append.2 ⟨nd2, nd, fun a ha b hb e => ?_⟩, fun a ha b hb e => ?_⟩
    · have := hbs a ha; have := bd b hb; omega
    · simp at ha; subst ha; subst e
      rcases List.mem_append.1 hb with hb | hb
      · have := hbs _ hb; omega
      · have := bd _ hb; omega
  · intro g hg
    rw [zxh] at hg
    have e0 : own (AV.slc m 0 (fs.length + 1)) = [m] := rfl
    rcases List.mem_append.1 hg with hg | hg
    · simp [own] at hg; omega
    · rcases List.mem_append.1 hg with hg | hg
      · have := hbs g hg; omega
      · have := bd g hg; omega
set_option maxHeartbeats 2000000 in
theorem zaih {fs : List Frm} {csv wv : AV} {id trip fuel room hops : Int} {h : List Cl} {H1 : Heap} {p mid : Nat} {Q : AV → Heap → Nat → Prop} (hl : fs.length * 64 ≤ 140737488355328) (hh : h.length * 64 ≤ 140737488355328) (hfl : ∀ f ∈ fs, f.vars.length * 32 ≤ 140737488355328 ∧ f.stack.length * 32 ≤ 140737488355328) (hp : p + 2 ≤ mid)
    (r1 : H1 p = some (.row 9 [.int .i64 id, .int .i64 trip, csv, wv, .ro (fs.map Frm.avs), .ro (h.map Cl.avs), .int .i64 fuel, .int .i64 room, .int .i64 hops])) (r2 : ∃ z, H1 (p + 1) = some (.row 9 z) ∧ z.length = 9)
    (c1 : csv.cells = [csv] ∧ csv.one = true ∧ csv.sure = true) (w1 : wv.cells = [wv] ∧ wv.one = true ∧ wv.sure = true)
    (hq : ∀ H' n' ss fa ha, mid ≤ n' → (∀ g, g < mid → g ≠ p → g ≠ p + 1 → H' g = H1 g) → zadt H' mid n' fs ss fa h ha → Q (.agg [.int .i64 id, .int .i64 trip, csv, wv, fa, ha, .int .i64 fuel, .int .i64 room, .int .i64 hops]) H' n') :
    LP (zrm Q) [.ptr p 0, .ptr (p + 1) 0, .nils, .ro (fs.map Frm.avs), .int .i64 fs.length, .int .i64 0] H1 mid := by
  refine LP.mk (fun k xs H' n' => ∃ (i : Nat) (ss : List (AV × AV)) (fa : AV), k = fs.length - i ∧ i ≤ fs.length ∧ mid ≤ n' ∧ xs = [.ptr p 0, .ptr (p + 1) 0, fa, .ro (fs.map Frm.avs), .int .i64 fs.length, .int .i64 i] ∧ (∀ g, g < mid → H' g = H1 g) ∧
    zit H' mid n' (fs.take i) ss fa) fs.length ⟨0, [], .nils, rfl, by omega, Nat.le_refl _, rfl, fun _ _ => rfl, ⟨⟨rfl, fun k f s hf => by simp at hf⟩, .inl ⟨by simp, .inl rfl⟩, by simp [own, owns], by simp [own, owns]⟩⟩ ?_
  rintro k xs H' n' ⟨i, ss, fa, rfl, hi, hn', rfl, hkeep, st⟩
  have p0 : p ≠ n' := by omega
  have p1 : p + 1 ≠ n' := by omega
  by_cases hil : i < fs.length
  · have hmem : fs[i] ∈ fs := List.getElem_mem hil
    obtain ⟨hv, hs⟩ := hfl _ hmem
    have htk : fs.take (i + 1) = fs.take i ++ [fs[i]] := (List.take_append_getElem hil).symm
    have tl : (fs.take i).length = i := by simp; omega
    have lv : (Frm.avs fs[i]).length = 4 := rfl
    have fin : ∀ {X : Heap} {N : Nat} {va sa : AV} {kk : AV → Heap → Nat → Prop}, n' + 1 ≤ N → (∀ g, g < n' → X g = H' g) → Slot X 3 fs[i].vars.length (rowV fs[i].vars) va → Slot X 3 fs[i].stack.length (rowV fs[i].stack) sa → (own va ++ own sa).Nodup → (∀ g ∈ own va ++ own sa, n' + 1 ≤ g ∧ g < N) →
        (∀ a' H3 m', mid ≤ m' → (∀ g, g < mid → H3 g = H1 g) → zit H3 mid m' (fs.take (i + 1)) (ss ++ [(va, sa)]) a' → kk a' H3 m') →
        APP 4 64 fa (.slc N 0 1) (X.put N (some (.row 4 [.int .i64 fs[i].fn, .int .i64 fs[i].at_, va, sa]))) (N + 1) kk := by
      intro X N va sa kk hN hold h1 h2 h3 h4 hkk
      refine st.snoc (f := fs[i]) (va := va) (sa := sa) (N := n' + 1) (by omega) (by omega) (by omega) (by rw [tl]; omega) (fun g hg => ?_) (h1.keep fun g hg => ?_) (h2.keep fun g hg => ?_) h3 (fun g hg => by have := h4 g hg; omega) (Heap.put_at _ _ _) fun H3 a' q1 q2 => ?_
      · rw [Heap.put_ne _ _ (by omega)]; exact hold g hg
      · exact Heap.put_ne _ _ (by have := h4 g (List.mem_append_left _ hg); omega)
      · exact Heap.put_ne _ _ (by have := h4 g (List.mem_append_right _ hg); omega)
      · exact hkk _ _ _ (by omega) (fun g hg => by rw [q1 g hg, Heap.put_ne _ _ (by omega), hold g (by omega)]; exact hkeep g hg) (by rw [htk]; exact q2)
    have nn : n' ≠ n' + 1 + 1 := by omega
    have fin2 : ∀ {v64 : AV} {H65 : Heap} {nx66 : Nat} {ss' : List (AV × AV)}, mid ≤ nx66 → (∀ g, g < mid → H65 g = H1 g) → zit H65 mid nx66 (fs.take (i + 1)) ss' v64 →
        ∃ m, m < fs.length - i ∧ ∃ i_1, m = fs.length - i_1 ∧ i_1 ≤ fs.length ∧ mid ≤ nx66 ∧ ∃ x x_1, (v64 = x_1 ∧ IntKind.i64.wrap ((i : Int) + 1) = (i_1 : Int)) ∧ (∀ (g : Nat), g < mid → H65 g = H1 g) ∧ zit H65 mid nx66 (List.take i_1 fs) x x_1 :=
      fun h1 h2 h3 => ⟨fs.length - (i + 1), by omega, i + 1, rfl, by omega, h1, _, _, ⟨rfl, i64w (by omega)⟩, h2, h3⟩
    have nil : ∀ {l : List Val} {X : Heap}, l = [] → Slot X 3 l.length (rowV l) .zs := fun h => .inl ⟨by simp [h], .inr rfl⟩
    have row : ∀ {l : List Val} {X : Heap} {g : Nat}, X g = some (.row 3 (rowV l)) → Slot X 3 l.length (rowV l) (.slc g 0 l.length) := fun h => .inr ⟨_, _, rfl, h, List.take_of_length_le (by simp), by simp⟩
    simp [zrm, hil, Frm.avs]
    refine zj.cloneV hv (fun ve => ?_) (fun vne => ?_)
    · simp [zwp]
      refine zj.cloneV hs (fun se => ?_) (fun sne => ?_)
      · simp [zmo]
        exact fin (by omega) (fun g hg => Heap.put_ne _ _ (by omega)) (nil ve) (nil se) (by simp [own]) (by simp [own]) fun a' H3 m' h1 h2 h3 => fin2 h1 h2 h3
      · simp [zmo]
        exact fin (by omega) (fun g hg => by rw [Heap.put_ne _ _ (by omega), Heap.put_ne _ _ (by omega), Heap.put_ne _ _ (by omega)]) (nil ve) (row (by rw [Heap.put_ne _ _ (by omega), Heap.put_at])) (by simp [own]) (by simp [own]) fun a' H3 m' h1 h2 h3 => fin2 h1 h2 h3
    · simp [zwp]
      refine zj.cloneV hs (fun se => ?_) (fun sne => ?_)
      · simp [zmo]
        exact fin (by omega) (fun g hg => by rw [Heap.put_ne _ _ (by omega), Heap.put_ne _ _ (by omega), Heap.put_ne _ _ (by omega)]) (row (by rw [Heap.put_ne _ _ (by omega), Heap.put_at])) (nil se) (by simp [own]) (by simp [own]) fun a' H3 m' h1 h2 h3 => fin2 h1 h2 h3
      · simp [zmo, nn]
        exact fin (by omega) (fun g hg => by rw [Heap.put_ne _ _ (by omega), Heap.put_ne _ _ (by omega), Heap.put_ne _ _ (by omega), Heap.put_ne _ _ (by omega)]) (row (by rw [Heap.put_ne _ _ (by omega), Heap.put_ne _ _ (by omega), Heap.put_at])) (row (by rw [Heap.put_ne _ _ (by omega), Heap.put_at])) (by simp [own]) (by simp [own]) fun a' H3 m' h1 h2 h3 => fin2 h1 h2 h3
  · obtain rfl : i = fs.length := by omega
    obtain ⟨z, r2, z9⟩ := r2
    rw [← hkeep p (by omega)] at r1
    rw [← hkeep (p + 1) (by omega)] at r2
    simp [zrm, r1]
    refine (zalc hh .ro).mono fun hv H5 n5 ⟨hn5, k5, hc⟩ => ?_
    have e1 : H5 p = _ := (k5 p (by omega)).trans r1
    have e2 : H5 (p + 1) = _ := (k5 (p + 1) (by omega)).trans r2
    obtain ⟨s1, s2⟩ := hc.slot (zfh h)
    simp [zacj, e1, e2, z9, st.row.one.1, st.row.one.2, hc.one.1, hc.one.2, c1.1, c1.2, w1.1, w1.2]
    rw [List.take_length] at st
    obtain ⟨f1, f2, f3, f4⟩ := st
    have same : ∀ {X : Heap}, (∀ g, g ≠ p → g ≠ p + 1 → X g = H5 g) → ∀ g, mid ≤ g → g < n' → X g = H' g := fun hX g h1 h2 => by rw [hX g (by omega) (by omega)]; exact k5 g h2
    have s1' : Slot H5 6 h.length (rowC h) hv := by simpa [rowC] using s1
    refine hq _ _ ss fa hv (by omega) (fun g h1 h2 h3 => ?_) ⟨f1.keep fun g hg => ?_, f2.keep fun g hg => ?_, s1'.keep fun g hg => ?_, ?_, fun g hg => ?_⟩
    · rw [Heap.put_ne _ _ h3, Heap.put_ne _ _ h2, k5 g (by omega)]; exact hkeep g h1
    · have := f4 g (List.mem_append_right _ hg)
      exact same (fun g h1 h2 => by rw [Heap.put_ne _ _ h2, Heap.put_ne _ _ h1]) g this.1 this.2
    · have := f4 g (List.mem_append_left _ hg)
      exact same (fun g h1 h2 => by rw [Heap.put_ne _ _ h2, Heap.put_ne _ _ h1]) g this.1 this.2
    · have := s2 g hg
      rw [Heap.put_ne _ _ (by omega), Heap.put_ne _ _ (by omega)]
    · obtain ⟨d1, d2, d3⟩ := List.nodup_append.1 f3
      refine List.nodup_append.2 ⟨d1, List.nodup_append.2 ⟨zakc _, d2, fun a ha b hb e => ?_⟩, fun a ha b hb e => ?_⟩
      · have := s2 a ha; have := f4 b (List.mem_append_right _ hb); omega
      · rcases List.mem_append.1 hb with hb | hb
        · have := s2 b hb; have := f4 a (List.mem_append_left _ ha); omega
        · exact d3 a ha b hb e
    · rcases List.mem_append.1 hg with hg | hg
      · have := f4 g (List.mem_append_left _ hg); omega
      · rcases List.mem_append.1 hg with hg | hg
        · have := s2 g hg; omega
        · have := f4 g (List.mem_append_right _ hg); omega
end Go.Proofs.Ytpbnaaoilgohkaa
set_option maxRecDepth 8000
namespace Go.Proofs.Ytpbnaaoilgohkaa
open Go Go.RowKit
set_option maxHeartbeats 2000000 in
theorem zakd {a : Agt} {H1 : Heap} {p : Nat} {Q : AV → Heap → Nat → Prop} (b1 : a.prog.codes.length * 40 ≤ 140737488355328) (b2 : ∀ c ∈ a.prog.codes, c.ins.length * 24 ≤ 140737488355328) (b3 : a.prog.words.length * 16 ≤ 140737488355328)
    (b4 : a.frames.length * 64 ≤ 140737488355328) (b5 : a.heap.length * 64 ≤ 140737488355328) (b6 : ∀ f ∈ a.frames, f.vars.length * 32 ≤ 140737488355328 ∧ f.stack.length * 32 ≤ 140737488355328)
    (r1 : H1 p = some (.row 9 a.avs)) (r2 : ∃ z, H1 (p + 1) = some (.row 9 z) ∧ z.length = 9)
    (hq : ∀ H' n' mid ss fa ha cv wv, p + 2 ≤ mid → mid ≤ n' → (∀ g, g < p → H' g = H1 g) → FrzP H' (fun g => p + 2 ≤ g ∧ g < mid) cv (.ro (a.prog.codes.map Cod.avs)) → FrzP H' (fun g => p + 2 ≤ g ∧ g < mid) wv (.ro (a.prog.words.map fun w => [.str w])) →
      zadt H' mid n' a.frames ss fa a.heap ha → Q (.agg [.int .i64 a.id, .int .i64 a.trip, cv, wv, fa, ha, .int .i64 a.permit.fuel, .int .i64 a.permit.room, .int .i64 a.permit.hops]) H' n') :
    LP (zrl Q) [.ptr p 0, .ptr (p + 1) 0, .nils, .ro (a.prog.codes.map Cod.avs), .int .i64 a.prog.codes.length, .int .i64 0] H1 (p + 2) := by
  refine LP.mk (fun k xs H' n' => ∃ (i : Nat) (cv : AV) (cells : List AV), k = a.prog.codes.length - i ∧ i ≤ a.prog.codes.length ∧ p + 2 ≤ n' ∧ xs = [.ptr p 0, .ptr (p + 1) 0, cv, .ro (a.prog.codes.map Cod.avs), .int .i64 a.prog.codes.length, .int .i64 i] ∧ (∀ g, g < p + 2 → H' g = H1 g) ∧
    zfq H' (fun g => p + 2 ≤ g ∧ g < n' ∧ g ∉ own cv) (a.prog.codes.take i) cells ∧ Slot H' 3 i cells cv ∧ ∀ g ∈ own cv, p + 2 ≤ g ∧ g < n') a.prog.codes.length ⟨0, .nils, [], rfl, by omega, Nat.le_refl _, rfl, fun _ _ => rfl, ⟨rfl, fun k c hc => by simp at hc⟩, .inl ⟨rfl, .inl rfl⟩, by simp [own]⟩ ?_
  rintro k xs H' n' ⟨i, cv, cells, rfl, hi, hn', rfl, hkeep, hc, hs, ho⟩
  have p0 : p ≠ n' := by omega
  have p1 : p + 1 ≠ n' := by omega
  by_cases hil : i < a.prog.codes.length
  · have hmem : a.prog.codes[i] ∈ a.prog.codes := List.getElem_mem hil
    have hb := b2 _ hmem
    have htk : a.prog.codes.take (i + 1) = a.prog.codes.take i ++ [a.prog.codes[i]] := (List.take_append_getElem hil).symm
    have tl : (a.prog.codes.take i).length = i := by simp; omega
    simp [zrl, hil, Cod.avs]
    refine (zalb hb .ro).mono fun v H5 n5 ⟨hn5, k5, hv⟩ => ?_
    have e1 : H5 n' = _ := (k5 n' (by omega)).trans (Heap.put_at _ _ _)
    have nn : n' ≠ n5 := by omega
    simp [zack, e1, hv.one.1, hv.one.2]
    refine Slot.app (bytes := 40) (nx := n5 + 1) (new := [.int .i64 a.prog.codes[i].params, .int .i64 a.prog.codes[i].vars, v]) (hs.keep fun g hg => ?_) (by rw [hc.1, tl]) (Heap.put_at _ _ _) rfl (by simp [hv.one.2]) (by omega) fun H3 q1 q2 => ?_
    · have := ho g hg
      rw [Heap.put_ne _ _ (by omega), Heap.put_ne _ _ (by omega), k5 g (by omega), Heap.put_ne _ _ (by omega)]
    · have old : ∀ g, g < n' → g ∉ own cv → H3 g = H' g := fun g h1 h2 => by
        rw [q2 g h2 (by omega), Heap.put_ne _ _ (by omega), Heap.put_ne _ _ (by omega), k5 g (by omega), Heap.put_ne _ _ (by omega)]
      rw [i64w (by omega)]
      refine ⟨a.prog.codes.length - (i + 1), by omega, i + 1, rfl, by omega, by omega, _, ⟨rfl, by simp⟩, fun g hg => ?_, cells ++ [.int .i64 a.prog.codes[i].params, .int .i64 a.prog.codes[i].vars, v], ?_, ?_, ?_⟩
      · rw [old g (by omega) (fun h => by have := ho g h; omega)]; exact hkeep g hg
      · rw [htk]
        refine zfq.snoc (hc.more fun g ⟨h1, h2, h3⟩ => ⟨⟨h1, by omega, by simp [own]; omega⟩, old g h2 h3⟩) (hv.more fun g ⟨h1, h2⟩ => ⟨⟨by omega, by omega, by simp [own]; omega⟩, ?_⟩)
        rw [q2 g (fun h => by have := ho g h; omega) (by omega), Heap.put_ne _ _ (by omega), Heap.put_ne _ _ (by omega)]
      · refine .inr ⟨n5 + 1, _, rfl, q1, List.take_of_length_le ?_, ?_⟩
        · simp [hc.1, tl]; omega
        · simp [hc.1, tl]; omega
      · intro g hg
        simp [own] at hg; omega
  · obtain rfl : i = a.prog.codes.length := by omega
    rw [List.take_length] at hc
    obtain ⟨z, r2, z9⟩ := r2
    rw [← hkeep p (by omega)] at r1
    rw [← hkeep (p + 1) (by omega)] at r2
    simp [zrl, r1, Agt.avs]
    refine (zala b3 .ro).mono fun wv H5 n5 ⟨hn5, k5, hw⟩ => ?_
    have e1 : H5 p = _ := (k5 p (by omega)).trans r1
    have e2 : H5 (p + 1) = _ := (k5 (p + 1) (by omega)).trans r2
    simp [zaci, e1, Agt.avs, hs.one.1, hs.one.2, hw.one.1, hw.one.2]
    have pp : p + 1 ≠ p := by omega
    have fz1 : FrzP H5 (fun g => p + 2 ≤ g ∧ g < n5) cv (.ro (a.prog.codes.map Cod.avs)) := by
      refine (hc.frz (G := fun g => p + 2 ≤ g ∧ g < n') (fun g ⟨h1, h2, _⟩ => ⟨h1, h2⟩) hs ho).keep (fun g ⟨h1, h2⟩ => k5 g h2) |>.wide fun g ⟨h1, h2⟩ => ⟨h1, by omega⟩
    have fz2 : FrzP H5 (fun g => p + 2 ≤ g ∧ g < n5) wv (.ro (a.prog.words.map fun w => [.str w])) := hw.frz (fun g ⟨h1, h2⟩ => ⟨by omega, h2⟩) (zaam _)
    refine zaih b4 b5 b6 (by omega) (Heap.put_at _ _ _) ⟨z, by rw [Heap.put_ne _ _ pp]; exact e2, z9⟩ hs.one hw.one fun H6 n6 ss fa ha hn6 k6 ow => ?_
    have same : ∀ g, p + 2 ≤ g → g < n5 → H6 g = H5 g := fun g h1 h2 => by rw [k6 g h2 (by omega) (by omega), Heap.put_ne _ _ (by omega)]
    refine hq H6 n6 n5 ss fa ha cv wv (by omega) hn6 (fun g hg => ?_) (fz1.keep fun g ⟨h1, h2⟩ => same g h1 h2) (fz2.keep fun g ⟨h1, h2⟩ => same g h1 h2) ow
    rw [k6 g (by omega) (by omega) (by omega), Heap.put_ne _ _ (by omega), k5 g (by omega), hkeep g (by omega)]
structure zadr (a : Agt) : Prop where
  b1 : a.prog.codes.length * 40 ≤ 140737488355328
  b2 : ∀ c ∈ a.prog.codes, c.ins.length * 24 ≤ 140737488355328
  b3 : a.prog.words.length * 16 ≤ 140737488355328
  b4 : a.frames.length * 64 ≤ 140737488355328
  b5 : a.heap.length * 64 ≤ 140737488355328
  b6 : ∀ f ∈ a.frames, f.vars.length * 32 ≤ 140737488355328 ∧ f.stack.length * 32 ≤ 140737488355328
def zaj (id trip : Int) (p : Prg) (fa ha : AV) (m : Pmt) : List AV := [.int .i64 id, .int .i64 trip, .ro (p.codes.map Cod.avs), .ro (p.words.map fun w => [.str w]), fa, ha, .int .i64 m.fuel, .int .i64 m.room, .int .i64 m.hops]
theorem zapq {a : Agt} (sz : zadr a) {H : Heap} {n : Nat} {Q : AV → Heap → Nat → Prop}
    (hq : ∀ H' n' ss fa ha, n ≤ n' → Keep n H' H → zadt H' n n' a.frames ss fa a.heap ha → Q (.agg (zaj a.id a.trip a.prog fa ha a.permit)) H' n') : za Try.prog 41 [.agg a.avs] H n Q := by
  have raw : za Try.prog 41 [.agg a.avs] H n fun v H' n' => ∃ mid ss fa ha cv wv, v = .agg [.int .i64 a.id, .int .i64 a.trip, cv, wv, fa, ha, .int .i64 a.permit.fuel, .int .i64 a.permit.room, .int .i64 a.permit.hops] ∧ n + 2 ≤ mid ∧ mid ≤ n' ∧ Keep n H' H ∧
      FrzP H' (fun g => n + 2 ≤ g ∧ g < mid) cv (.ro (a.prog.codes.map Cod.avs)) ∧ FrzP H' (fun g => n + 2 ≤ g ∧ g < mid) wv (.ro (a.prog.words.map fun w => [.str w])) ∧ zadt H' mid n' a.frames ss fa a.heap ha := by
    refine zadw _ H n _ ?_
    have av : (AV.agg a.avs).cells = a.avs := by simp
    have al : a.avs.length = 9 := rfl
    have nn : n ≠ n + 1 := by omega
    have h2 : a.avs[2]? = some (.ro (a.prog.codes.map Cod.avs)) := rfl
    have hsu : (AV.agg a.avs).sure = true := by simp [Agt.avs]
    unfold zach
    rw [av, al]
    refine ⟨hsu, ?_⟩
    simp [nn, h2]
    refine zakd sz.b1 sz.b2 sz.b3 sz.b4 sz.b5 sz.b6 (by rw [Heap.put_ne _ _ nn, Heap.put_at]) ⟨_, Heap.put_at _ _ _, rfl⟩ fun H' n' mid ss fa ha cv wv q1 q2 q3 q4 q5 q6 => ?_
    exact ⟨mid, ss, fa, ha, cv, wv, rfl, q1, q2, fun g hg => by rw [q3 g hg, Heap.put_ne _ _ (by omega), Heap.put_ne _ _ (by omega)], q4, q5, q6⟩
  refine za.tidy fun hlive => raw.freeze fun v H' n' ⟨mid, ss, fa, ha, cv, wv, hv, q1, q2, q3, q4, q5, q6⟩ => ?_
  subst hv
  let H2 : Heap := fun g => if n ≤ g ∧ g < mid then none else H' g
  have h2 : ∀ g, ¬ (n ≤ g ∧ g < mid) → H2 g = H' g := fun g hg => if_neg hg
  refine ⟨_, H2, fun g => n ≤ g ∧ g < mid, hq H2 n' ss fa ha (by omega) (fun g hg => by rw [h2 g (by omega)]; exact q3 g hg) ⟨q6.frs.keep fun g hg => h2 g ?_, q6.row.keep fun g hg => h2 g ?_, q6.hp.keep fun g hg => h2 g ?_, q6.nd, fun g hg => ?_⟩, ?_, fun g o hg => ?_⟩
  · have := q6.bd g (by simp [hg]); omega
  · have := q6.bd g (by simp [hg]); omega
  · have := q6.bd g (by simp [hg]); omega
  · have := q6.bd g hg; omega
  · refine .agg _ _ rfl fun j v u hv hu => ?_
    match j with
    | 0 => cases hv; cases hu; exact .same _
    | 1 => cases hv; cases hu; exact .same _
    | 2 => cases hv; cases hu; exact q4.wide fun g ⟨h1, h2⟩ => ⟨by omega, h2⟩
    | 3 => cases hv; cases hu; exact q5.wide fun g ⟨h1, h2⟩ => ⟨by omega, h2⟩
    | 4 => cases hv; cases hu; exact .same _
    | 5 => cases hv; cases hu; exact .same _
    | 6 => cases hv; cases hu; exact .same _
    | 7 => cases hv; cases hu; exact .same _
    | 8 => cases hv; cases hu; exact .same _
    | j + 9 => simp at hv
  · by_cases h : n ≤ g ∧ g < mid
    · simp only [H2, if_pos h] at hg; cases hg
    · exact ⟨h, by rw [h2 g h] at hg; exact hg⟩
end Go.Proofs.Ytpbnaaoilgohkaa
set_option maxRecDepth 8000
namespace Go.Proofs.Ytpbnaaoilgohkaa
open Go Go.RowKit
theorem Slot.frzN {H : Heap} {nx sz : Nat} {xs : List (List AV)} {a : AV} (hs : Slot H sz xs.length xs.flatten a) (ho : ∀ g ∈ own a, nx ≤ g) (hsz : ∀ x ∈ xs, x.length = sz) (hb : ∀ x ∈ xs, ∀ c ∈ x, scal c = true) : Frz H nx a (.ro xs) := by
  rcases hs with ⟨h0, rfl | rfl⟩ | ⟨g, cs, rfl, h1, h2, h3⟩
  · rw [List.eq_nil_of_length_eq_zero h0]; exact .nils
  · rw [List.eq_nil_of_length_eq_zero h0]; exact .zs
  · have e : ∀ (i : Nat) (x : List AV) (j : Nat) (v : AV), xs[i]? = some x → x[j]? = some v → cs[0 + i * sz + j]? = some v := fun i x j v hx hv => by
      have hxl : x.length = sz := hsz x (List.mem_of_getElem? hx)
      have hj : j < sz := by have := (List.getElem?_eq_some_iff.1 hv).1; omega
      have hi := (List.getElem?_eq_some_iff.1 hx).1
      have e1 := zme hsz hx
      have e2 := congrArg (·[j]?) e1
      simp only [List.getElem?_take, List.getElem?_drop, hj, if_true] at e2
      rw [← h2, List.getElem?_take, hv] at e2
      have : i * sz + sz ≤ xs.length * sz := by rw [← Nat.succ_mul]; exact Nat.mul_le_mul_right _ hi
      rw [if_pos (by omega)] at e2
      rw [Nat.zero_add]; exact e2
    refine .slc g 0 _ sz cs xs (ho g (by simp [own])) h1 (by omega) rfl hsz (fun i j => (cs[0 + i * sz + j]?).getD .junk) (fun i x j v hx hv => ?_) (fun i x j v hx hv => ?_)
    · rw [e i x j v hx hv]; rfl
    · rw [e i x j v hx hv]; exact .same _ (zbq (hb x (List.mem_of_getElem? hx) v (List.mem_of_getElem? hv)))
theorem Slot.frzV {H : Heap} {nx : Nat} {l : List Val} {a : AV} (hs : Slot H 3 l.length (rowV l) a) (ho : ∀ g ∈ own a, nx ≤ g) : Frz H nx a (.ro (l.map Val.avs)) :=
  Slot.frzN (sz := 3) (by simpa [rowV] using hs) ho (zda l) (zjn l)
theorem zahk : ∀ {fs : List Frm} {ss : List (AV × AV)} {i : Nat} {f : Frm} {s : AV × AV}, fs[i]? = some f → ss[i]? = some s → (frow fs ss)[i * 4]? = some (.int .i64 f.fn) ∧ (frow fs ss)[i * 4 + 1]? = some (.int .i64 f.at_) ∧ (frow fs ss)[i * 4 + 2]? = some s.1 ∧ (frow fs ss)[i * 4 + 3]? = some s.2
  | [], _, i, f, s, h, _ => by simp at h
  | _ :: _, [], i, f, s, _, h => by simp at h
  | g :: fs, t :: ss, 0, f, s, h1, h2 => by simp at h1 h2; subst h1; subst h2; exact ⟨rfl, rfl, rfl, rfl⟩
  | g :: fs, t :: ss, i + 1, f, s, h1, h2 => by
    have := zahk (fs := fs) (ss := ss) (i := i) (f := f) (s := s) (by simpa using h1) (by simpa using h2)
    have e : ∀ k, (frow (g :: fs) (t :: ss))[(i + 1) * 4 + k]? = (frow fs ss)[i * 4 + k]? := fun k => by
      rw [show (i + 1) * 4 + k = i * 4 + k + 1 + 1 + 1 + 1 by omega]
      simp [frow]
    exact ⟨(e 0).trans this.1, (e 1).trans this.2.1, (e 2).trans this.2.2.1, (e 3).trans this.2.2.2⟩
theorem zx.frz {H : Heap} {nx : Nat} {fs : List Frm} {ss : List (AV × AV)} {g k : Nat} {cs : List AV} (h : zx H fs ss) (h1 : H g = some (.row 4 cs)) (h2 : cs.take (fs.length * 4) = frow fs ss) (h3 : fs.length * 4 ≤ cs.length) (hg : nx ≤ g) (ho : ∀ x ∈ owns ss, nx ≤ x) (hk : k = fs.length) : Frz H nx (.slc g 0 k) (.ro (fs.map Frm.avs)) := by
  subst hk
  have key : ∀ (i : Nat) (x : List AV) (j : Nat) (v : AV), (fs.map Frm.avs)[i]? = some x → x[j]? = some v → ∃ u, cs[0 + i * 4 + j]? = some u ∧ Frz H nx u v := fun i x j v hx hv => by
    rw [List.getElem?_map] at hx
    obtain ⟨f, hf, rfl⟩ := Option.map_eq_some_iff.1 hx
    have hi := (List.getElem?_eq_some_iff.1 hf).1
    have hs : ss[i]? = some (ss[i]'(by rw [h.1]; exact hi)) := List.getElem?_eq_getElem _
    obtain ⟨a, b⟩ := h.2 i f _ hf hs
    obtain ⟨q0, q1, q2, q3⟩ := zahk hf hs
    have hm := List.mem_of_getElem? hs
    have up : ∀ (j : Nat) (u : AV), j < 4 → (frow fs ss)[i * 4 + j]? = some u → cs[0 + i * 4 + j]? = some u := fun j u hj hu => by
      rw [← h2, List.getElem?_take, if_pos (by omega)] at hu; rw [Nat.zero_add]; exact hu
    match j, hv with
    | 0, hv => cases hv; exact ⟨_, up 0 _ (by omega) q0, .same _ (.int _ _)⟩
    | 1, hv => cases hv; exact ⟨_, up 1 _ (by omega) q1, .same _ (.int _ _)⟩
    | 2, hv => cases hv; exact ⟨_, up 2 _ (by omega) q2, a.frzV fun x hx => ho x (List.mem_flatMap.2 ⟨_, hm, List.mem_append_left _ hx⟩)⟩
    | 3, hv => cases hv; exact ⟨_, up 3 _ (by omega) q3, b.frzV fun x hx => ho x (List.mem_flatMap.2 ⟨_, hm, List.mem_append_right _ hx⟩)⟩
    | j + 4, hv => simp [Frm.avs] at hv
  refine .slc g 0 _ 4 cs _ hg h1 (by omega) (by simp) (fun x hx => ?_) (fun i j => (cs[0 + i * 4 + j]?).getD .junk) (fun i x j v hx hv => ?_) (fun i x j v hx hv => ?_)
  · obtain ⟨f, _, rfl⟩ := List.mem_map.1 hx; rfl
  · obtain ⟨u, q1, q2⟩ := key i x j v hx hv; rw [q1]; rfl
  · obtain ⟨u, q1, q2⟩ := key i x j v hx hv; rw [q1]; exact q2
theorem zadh (l : List Cod) {A : Nat → Prop} : Bel A (.ro (l.map Cod.avs)) := .ro _ fun i x j v hx hv => by
  rw [List.getElem?_map] at hx
  obtain ⟨c, _, rfl⟩ := Option.map_eq_some_iff.1 hx
  match j, hv with
  | 0, hv => cases hv; exact .int _ _
  | 1, hv => cases hv; exact .int _ _
  | 2, hv => cases hv; exact zgu (zacn _)
  | j + 3, hv => simp [Cod.avs] at hv
theorem zadg (l : List Str) {A : Nat → Prop} : Bel A (.ro (l.map fun w => [.str w])) := zgu (zwy l)
theorem zacv {H : Heap} {nx : Nat} {id trip : Int} {p : Prg} {fs : List Frm} {h : List Cl} {m : Pmt} {fa ha : AV} (h1 : Frz H nx fa (.ro (fs.map Frm.avs))) (h2 : Frz H nx ha (.ro (h.map Cl.avs))) : Frz H nx (.agg (zaj id trip p fa ha m)) (.agg (Agt.avs ⟨id, trip, p, fs, h, m⟩)) := by
  refine .agg _ _ rfl fun j v u hv hu => ?_
  match j with
  | 0 => cases hv; cases hu; exact .same _ (.int _ _)
  | 1 => cases hv; cases hu; exact .same _ (.int _ _)
  | 2 => cases hv; cases hu; exact .same _ (zadh _)
  | 3 => cases hv; cases hu; exact .same _ (zadg _)
  | 4 => cases hv; cases hu; exact h1
  | 5 => cases hv; cases hu; exact h2
  | 6 => cases hv; cases hu; exact .same _ (.int _ _)
  | 7 => cases hv; cases hu; exact .same _ (.int _ _)
  | 8 => cases hv; cases hu; exact .same _ (.int _ _)
  | j + 9 => simp [zaj] at hv
theorem Live.codes {a : Agt} {fs : List Frm} {f : Frm} (l : VM.Live a fs f) : a.prog.codes.length ≤ 5 ∧ a.prog.words.length ≤ 16 ∧ ∀ c ∈ a.prog.codes, c.ins.length ≤ 200 ∧ 0 ≤ c.vars ∧ c.vars ≤ 8 ∧ (∀ x ∈ (VM.heights c.ins).1, -1 ≤ x ∧ x ≤ 16) := by
  obtain ⟨h1, h2, h3⟩ := zch l.prog
  refine ⟨h2, h3, fun c hc => ?_⟩
  obtain ⟨q1, q2, q3⟩ := h1 c hc
  unfold VM.codeRange at q1
  rw [decide_eq_false_iff_not] at q1
  exact ⟨by omega, by omega, by omega, (zfo q2 q3).2⟩
theorem zakh {xs : List (List AV)} {sz : Nat} (hsz : ∀ x ∈ xs, x.length = sz) {i j : Nat} {x : List AV} {v : AV} (hx : xs[i]? = some x) (hv : x[j]? = some v) : xs.flatten[i * sz + j]? = some v := by
  have hxl : x.length = sz := hsz x (List.mem_of_getElem? hx)
  have hj : j < sz := by have := (List.getElem?_eq_some_iff.1 hv).1; omega
  have e2 := congrArg (·[j]?) (zme hsz hx)
  simp only [List.getElem?_take, List.getElem?_drop, hj, if_true] at e2
  rw [e2, hv]
end Go.Proofs.Ytpbnaaoilgohkaa
set_option maxRecDepth 8000
namespace Go.Proofs.Ytpbnaaoilgohkaa
open Go Go.RowKit
def bsR (b : Str) : List (List AV) := b.map fun c => [.int .u8 (c.toNat : Int)]
theorem zad (b : Str) : (bsR b).length = b.length := by simp [bsR]
theorem zvl (b : Str) : (bsR b).flatten = bsV b := by
  induction b with
  | nil => rfl
  | cons c r ih => simp [bsR, bsV] at ih ⊢; exact ih
theorem zmh (b : Str) : ∀ x ∈ bsR b, ∀ c ∈ x, scal c = true := by
  intro x hx c hc
  obtain ⟨u, _, rfl⟩ := List.mem_map.1 hx
  simp at hc; subst hc; rfl
theorem zmi (b : Str) : ∀ x ∈ bsR b, x.length = 1 := by
  intro x hx
  obtain ⟨u, _, rfl⟩ := List.mem_map.1 hx
  rfl
theorem Slot.frzB {H : Heap} {nx : Nat} {b : Str} {a : AV} (hs : Slot H 1 b.length (bsV b) a) (ho : ∀ g ∈ own a, nx ≤ g) : Frz H nx a (.ro (bsR b)) :=
  Slot.frzN (sz := 1) (xs := bsR b) (by rw [zad, zvl]; exact hs) ho (zmi b) (zmh b)
theorem zapn (x : Nat) (hx : x < 4294967296) : QC Try.prog 45 [.int .u32 x, .int .i64 5] (.int .u32 (WM.rot5 x : Nat)) := by
  refine QC.of' fun H nx => ?_
  refine zlw _ _ H nx _ ?_
  have h5 : bits .and .u64 5 31 = 5 := by decide
  have hor : bits BinOp.or IntKind.u32 ((x : Int) * 32 % 4294967296) ((x : Int) / 134217728) = ((WM.rot5 x : Nat) : Int) := by
    have := u32_or_nat (x * 32 % 4294967296) (x / 134217728) (by omega) (by omega)
    rw [show ((x : Int) * 32 % 4294967296) = ((x * 32 % 4294967296 : Nat) : Int) by omega, show ((x : Int) / 134217728) = ((x / 134217728 : Nat) : Int) by omega, this]
    rfl
  have w5 : IntKind.u64.wrap 5 = 5 := by decide
  have w27 : IntKind.u64.wrap 27 = 27 := by decide
  have p5 : (2 : Int) ^ min (5 : Nat) IntKind.u32.bits = 32 := rfl
  have p27 : (2 : Int) ^ min (27 : Nat) IntKind.u32.bits = 134217728 := rfl
  have fd : (x : Int).fdiv 134217728 = (x : Int) / 134217728 := Int.fdiv_eq_ediv_of_nonneg _ (by omega)
  simp [zgj, w5, h5, w27, p5, p27, fd, IntKind.wrap_u32, hor]
theorem zwv (b : WM.Bytes) (s : Nat) (hs : s < 4294967296) : b.foldl WM.sumStep s < 4294967296 := by
  induction b generalizing s with
  | nil => exact hs
  | cons c r ih => exact ih _ (by unfold WM.sumStep; omega)
set_option maxRecDepth 20000 in
set_option maxHeartbeats 1000000 in
theorem zaos (b : Str) (hb : b.length ≤ 4611686018427387904) : QC Try.prog 18 [.ro (bsR b)] (.int .i64 (WM.sum b : Nat)) := by
  refine QC.of' fun H nx => ?_
  refine zabs _ H nx _ ?_
  simp [zyz, zad]
  refine LP.mk (fun k xs H' n' => ∃ (i q : Nat), k = b.length - i ∧ i ≤ b.length ∧ xs = [.int .u32 q, .ro (bsR b), .int .i64 b.length, .int .i64 i] ∧ q < 4294967296 ∧ (b.drop i).foldl WM.sumStep q = WM.sum b ∧ Keep nx H' H) b.length ⟨0, 2166136261, rfl, by omega, rfl, by omega, rfl, fun _ _ => rfl⟩ ?_
  rintro k xs H' n' ⟨i, q, rfl, hil, rfl, hq, hf, hk⟩
  by_cases hlt : i < b.length
  · have hadd : IntKind.i64.wrap ((i : Int) + 1) = ((i + 1 : Nat) : Int) := by rw [i64w (by omega)]; rfl
    have hcd : b.drop i = b[i] :: b.drop (i + 1) := List.drop_eq_getElem_cons hlt
    rw [hcd] at hf
    have hcell : (bsR b)[i]? = some [.int .u8 (b[i].toNat : Int)] := by simp [bsR, hlt]
    generalize b[i] = c at *
    have hc := c.toNat_lt
    have hx := u32_xor_nat q c.toNat hq (by omega)
    have hlx : q ^^^ c.toNat < 4294967296 := Nat.xor_lt_two_pow (n := 32) hq (by omega)
    simp only [List.foldl_cons, WM.sumStep] at hf
    have hw : IntKind.u32.wrap (c.toNat : Int) = (c.toNat : Int) := by rw [IntKind.wrap_u32]; omega
    simp [zsq, hlt, hcell, hw, hx]
    refine ⟨by rw [zad]; exact hlt, QC.call (zapn _ hlx) ?_⟩
    have hm : IntKind.u32.wrap ((WM.rot5 (q ^^^ c.toNat) : Int) * 16777619) = ((WM.rot5 (q ^^^ c.toNat) * 16777619 % 4294967296 : Nat) : Int) := by rw [IntKind.wrap_u32]; omega
    simp [zza, hm, hadd]
    exact ⟨b.length - (i + 1), by omega, i + 1, rfl, by omega, _, ⟨by omega, rfl⟩, by omega, hf, hk⟩
  · obtain rfl : i = b.length := by omega
    rw [List.drop_length] at hf
    have h2 := zwv b 2166136261 (by omega)
    have hw : IntKind.i64.wrap ((q : Nat) : Int) = (q : Int) := i64w (by omega)
    simp [zsq, hw]
    exact ⟨by rw [← hf]; rfl, hk⟩
end Go.Proofs.Ytpbnaaoilgohkaa
set_option maxRecDepth 8000
namespace Go.Proofs.Ytpbnaaoilgohkaa
open Go Go.RowKit
theorem zafj {b : Str} {i : Nat} (h : i < b.length) : (bsR b)[i]? = some [.int .u8 (b[i].toNat : Int)] := by simp [bsR, h]
theorem min7 {i : Nat} (h : i ≤ 9) : min ((7 : Int) * i).toNat IntKind.u64.bits = 7 * i := by
  have : IntKind.u64.bits = 64 := rfl
  omega
theorem zaom (u : Nat) : ((u : Nat) : Int).fdiv 2 = (u : Int) / 2 := Int.fdiv_eq_ediv_of_nonneg _ (by omega)
set_option maxRecDepth 20000 in
set_option maxHeartbeats 2000000 in
theorem zaah (b : Str) (hb : b.length ≤ 4611686018427387904) : QC Try.prog 47 [.ro (bsR b)] (.tup [.int .i64 (WM.getNum b).1, .int .i64 (WM.getNum b).2.1, .int .i64 (WM.getNum b).2.2]) := by
  refine QC.of' fun H nx => ?_
  suffices main : ∀ Q : AV → Heap → Nat → Prop, (∀ H' n', Keep nx H' H → Q (.tup [.int .i64 (WM.getNum b).1, .int .i64 (WM.getNum b).2.1, .int .i64 (WM.getNum b).2.2]) H' n') → za Try.prog 47 [.ro (bsR b)] H nx Q from
    main _ fun H' n' h => ⟨.same _ (.tup _ fun j v hv => by
      match j, hv with
      | 0, hv => cases hv; exact .int _ _
      | 1, hv => cases hv; exact .int _ _
      | 2, hv => cases hv; exact .int _ _
      | j + 3, hv => simp at hv), h⟩
  intro Q hQ
  refine zyu _ H nx _ ?_
  simp [zth, zad]
  refine LP.mk (fun k xs H' n' => ∃ (i u : Nat), k = b.length - i ∧ i ≤ b.length ∧ i ≤ 9 ∧ xs = [.int .u64 u, .ro (bsR b), .int .i64 b.length, .int .i64 i] ∧ u < 2 ^ (7 * i) ∧ WM.getFrom i u (b.drop i) = WM.getNum b ∧ Keep nx H' H) b.length ⟨0, 0, rfl, by omega, by omega, rfl, by simp, rfl, fun _ _ => rfl⟩ ?_
  rintro k xs H' n' ⟨i, u, rfl, hil, hi9, rfl, hu, hf, hk⟩
  suffices key : ∀ K : J3, (∀ (u : Nat), i + 1 ≤ b.length → i + 1 ≤ 9 → u < 2 ^ (7 * (i + 1)) → WM.getFrom (i + 1) u (b.drop (i + 1)) = WM.getNum b → K [.int .u64 u, .ro (bsR b), .int .i64 b.length, .int .i64 (i + 1 : Nat)] H' n') →
      zbi Q K [.int .u64 u, .ro (bsR b), .int .i64 b.length, .int .i64 i] H' n' from
    key _ fun u h1 h2 h3 h4 => ⟨b.length - (i + 1), by omega, i + 1, u, rfl, h1, h2, rfl, h3, h4, hk⟩
  intro K hK
  have fin := hQ H' n' hk
  rw [← hf] at fin
  by_cases hlt : i < b.length
  · have hadd : IntKind.i64.wrap ((i : Int) + 1) = ((i + 1 : Nat) : Int) := by rw [i64w (by omega)]; rfl
    have h7 : IntKind.i64.wrap (7 * (i : Int)) = 7 * i := i64w (by omega)
    have hcell := zafj hlt
    have hcd : b.drop i = b[i] :: b.drop (i + 1) := List.drop_eq_getElem_cons hlt
    rw [hcd] at hf fin
    have hc := b[i].toNat_lt
    generalize b[i] = cc at *
    have hin : i < (bsR b).length := by rw [zad]; exact hlt
    have hs9 : ¬ (9 : Int) < i := by omega
    have hi0 : ¬ 9 < i := by omega
    by_cases hr : i = 9 ∧ 1 < cc.toNat
    · have e : WM.getFrom i u (cc :: b.drop (i + 1)) = (0, 0, 3) := by unfold WM.getFrom; rw [if_pos (.inr hr)]
      rw [e] at fin
      have hr1 : (i : Int) = 9 := by omega
      have hr3 : (1 : Int) < cc.toNat := by omega
      simp [zbi, hlt, hcell, hs9, hr3]
      exact ⟨hin, fun _ => fin, fun h => absurd hr1 h⟩
    have h9 : i = 9 → cc.toNat ≤ 1 := fun h => by
      have : ¬ 1 < cc.toNat := fun h2 => hr ⟨h, h2⟩
      omega
    have st := zamm i u cc.toNat hi9 hu (by omega) h9
    have sl := zzf i u cc.toNat hi9 hu (by omega) h9
    have sn := zvs i u cc.toNat hu
    have e0 : WM.getFrom i u (cc :: b.drop (i + 1)) = if 128 ≤ cc.toNat then WM.getFrom (i + 1) (u + cc.toNat % 128 * 2 ^ (7 * i)) (b.drop (i + 1)) else if cc.toNat = 0 ∧ 0 < i then (0, 0, 2) else (WM.zag (u + cc.toNat % 128 * 2 ^ (7 * i)), (i : Int) + 1, 0) := by
      conv => lhs; unfold WM.getFrom
      rw [if_neg (fun h => h.elim hi0 hr)]
    rw [e0] at fin hf
    generalize hq : u + cc.toNat % 128 * 2 ^ (7 * i) = q at *
    generalize cc.toNat = m at *
    have hm7 := min7 hi9
    by_cases h128 : 128 ≤ m
    · rw [if_pos h128] at hf
      have h128' : (128 : Int) ≤ m := by omega
      have i9 : ¬ i = 9 := fun h => by have := h9 h; omega
      have i9' : ¬ (i : Int) = 9 := by omega
      have hk2 := hK q (by omega) (by omega) sn hf
      have h70 : (0 : Int) ≤ 7 * i := by omega
      have hcast : ((i + 1 : Nat) : Int) = (i : Int) + 1 := by omega
      rw [hcast] at hk2 hadd
      simp [zbi, hlt, hcell, hs9, i9', h128', h7, hm7, st, hadd]
      exact ⟨hin, h70, hk2⟩
    · rw [if_neg h128] at fin
      have h128' : ¬ (128 : Int) ≤ m := by omega
      have h9' : ¬ (1 : Int) < m ∨ ¬ (i : Int) = 9 := by omega
      have h70 : (0 : Int) ≤ 7 * i := by omega
      have p1 : (2 : Int) ^ min (1 : Nat) IntKind.u64.bits = 2 := rfl
      have hw64 : IntKind.i64.wrap ((q : Int) / 2) = wrap64 ((q : Int) / 2) := by rw [IntKind.wrap_i64]; unfold wrap64; rfl
      have hcast : ((i + 1 : Nat) : Int) = (i : Int) + 1 := by omega
      rw [hcast] at hadd
      have sg : IntKind.i64.signed = true := rfl
      by_cases hz : m = 0 ∧ 0 < i
      · rw [if_pos hz] at fin
        obtain ⟨rfl, hz2⟩ := hz
        simp [zbi, hlt, hcell, hs9, h7, h70]
        exact ⟨hin, fun _ => fin, fun h => absurd h (by omega)⟩
      · rw [if_neg hz] at fin
        by_cases hodd : q % 2 = 1
        · have o1 := zaoe q sl hodd
          have o2 := zaor q sl hodd
          simp only [beq_iff_eq] at o1
          simp [zbi, hlt, hcell, hs9, h128', h7, hm7, st, hadd, p1, zaom, hw64, sg, o1, o2, h70]
          exact ⟨hin, fun h => ⟨fun h1 => absurd h1 (by have := h9 (by omega); omega), fun _ => ⟨fun h2 => ⟨fun h3 => absurd ⟨h2, h3⟩ hz, fun _ => fin⟩, fun _ => fin⟩⟩, fun _ => ⟨fun h2 => ⟨fun h3 => absurd ⟨h2, h3⟩ hz, fun _ => fin⟩, fun _ => fin⟩⟩
        · have o1 := zaln q sl hodd
          have o2 := zalp q sl hodd
          have o1' : ¬ bits BinOp.and IntKind.u64 (q : Int) 1 = 1 := by simpa using o1
          simp [zbi, hlt, hcell, hs9, h128', h7, hm7, st, hadd, p1, zaom, hw64, o1', o2, h70]
          exact ⟨hin, fun h => ⟨fun h1 => absurd h1 (by have := h9 (by omega); omega), fun _ => ⟨fun h2 => ⟨fun h3 => absurd ⟨h2, h3⟩ hz, fun _ => fin⟩, fun _ => fin⟩⟩, fun _ => ⟨fun h2 => ⟨fun h3 => absurd ⟨h2, h3⟩ hz, fun _ => fin⟩, fun _ => fin⟩⟩
  · obtain rfl : i = b.length := by omega
    rw [List.drop_length] at fin
    simp [zbi]
    exact fin
end Go.Proofs.Ytpbnaaoilgohkaa
set_option maxRecDepth 8000
namespace Go.Proofs.Ytpbnaaoilgohkaa
open Go Go.RowKit
section
variable {ki kj : IntKind}
theorem zaaq {s : Nat} {xs : List (List AV)} {a b : Int} {H : Heap} {k : AV → Prop} (hs : ∀ x ∈ xs, x.length = s) (h0 : 0 ≤ a) (h1 : a ≤ b) (h2 : b ≤ xs.length) (hk : k (.ro ((xs.take b.toNat).drop a.toNat))) : SL s (.ro xs) (some (.int ki a)) (some (.int kj b)) H k := by
  simp only [SL, zbb, lohi, PURE, qk]
  exact ⟨h0, h1, h2, hs, hk⟩
end
theorem zsz : ∀ s : Str, bytesOf? (bsV s) = some s
  | [] => rfl
  | c :: r => by
    have ih := zsz r
    simp only [bsV] at ih
    simp [bsV, bytesOf?, ih]
theorem zabm {s : Str} {H : Heap} {k : AV → Prop} (hk : k (.str s)) : CBS (.ro (bsR s)) H k := by
  have e : zg 1 H (.ro (bsR s)) = some (s.length, bsV s, []) := by
    simp only [zg, zad, zvl]
    rw [if_pos]
    simpa using zmi s
  simp only [CBS, zeg, e, zsz, qk]
  exact hk
theorem zahq (b : Str) (i j : Nat) : ((bsR b).take j).drop i = bsR ((b.take j).drop i) := by simp [bsR]
theorem zali {A : Nat → Prop} (a : Str) (b c : Int) : Bel A (.tup [.str a, .int .i64 b, .int .i64 c]) := .tup _ fun j v hv => by
  match j, hv with
  | 0, hv => cases hv; exact .str _
  | 1, hv => cases hv; exact .int _ _
  | 2, hv => cases hv; exact .int _ _
  | j + 3, hv => simp at hv
theorem zahh {n nx : Nat} {a : Str} {b c : Int} {H' H : Heap} (h : Keep nx H' H) : Frz H' n (.tup [.str a, .int .i64 b, .int .i64 c]) (.tup [.str a, .int .i64 b, .int .i64 c]) ∧ Keep nx H' H := ⟨.same _ (zali a b c), h⟩
set_option maxRecDepth 20000 in
set_option maxHeartbeats 2000000 in
theorem zafv (b : Str) (most : Int) (hb : b.length ≤ 4611686018427387904) : QC Try.prog 61 [.ro (bsR b), .int .i64 most] (.tup [.str (WM.getText b most).1, .int .i64 (WM.getText b most).2.1, .int .i64 (WM.getText b most).2.2]) := by
  refine QC.of' fun H nx => ?_
  suffices main : ∀ Q : AV → Heap → Nat → Prop, (∀ H' n', Keep nx H' H → Q (.tup [.str (WM.getText b most).1, .int .i64 (WM.getText b most).2.1, .int .i64 (WM.getText b most).2.2]) H' n') → za Try.prog 61 [.ro (bsR b), .int .i64 most] H nx Q from
    main _ fun H' n' h => zahh h
  intro Q hQ
  refine zwo _ _ H nx _ ?_
  unfold zri
  refine QC.call (zaah b hb) ?_
  have fin := hQ H nx fun _ _ => rfl
  unfold WM.getText at fin
  by_cases h1 : (WM.getNum b).2.2 = 0
  case neg =>
    rw [if_pos h1] at fin
    simp [zcv, h1]
    exact fin
  rw [if_neg (fun h => h h1)] at fin
  obtain ⟨k, hk, hk1, hn, _⟩ := WM.getNum_ok b h1
  by_cases h2 : (WM.getNum b).1 < 0
  · rw [if_pos (.inl h2)] at fin
    simp [zcv, h1, h2]
    exact fin
  by_cases h3 : most < (WM.getNum b).1
  · rw [if_pos (.inr h3)] at fin
    simp [zcv, h1, h2, h3]
    exact fin
  rw [if_neg (fun h => h.elim h2 h3)] at fin
  rw [hn] at fin
  generalize (WM.getNum b).1 = n at *
  have hw : IntKind.i64.wrap ((b.length : Int) - k) = (b.length : Int) - k := i64w (by omega)
  by_cases h4 : (b.length : Int) - k < n
  · rw [if_pos h4] at fin
    simp [zcv, h1, hn, h2, h3, zad, hw, h4]
    exact fin
  · rw [if_neg h4] at fin
    have hw2 : IntKind.i64.wrap ((k : Int) + n) = (k : Int) + n := i64w (by omega)
    simp [zcv, h1, hn, h2, h3, zad, hw, h4, hw2]
    refine zaaq (zmi b) (by omega) (by omega) (by rw [zad]; omega) ?_
    rw [zahq]
    refine zabm ?_
    have e : (b.take ((k : Int) + n).toNat).drop ((k : Int)).toNat = (b.drop ((k : Int)).toNat).take n.toNat := by
      rw [List.drop_take]; congr 1; omega
    rw [e]
    exact fin
end Go.Proofs.Ytpbnaaoilgohkaa
set_option maxRecDepth 8000
namespace Go.Proofs.Ytpbnaaoilgohkaa
open Go Go.RowKit
namespace VM
def rdNum (st : St) : Int × St := if st.2 ≠ 0 then (0, st) else if (WM.getNum st.1).2.2 ≠ 0 then (0, (st.1, (WM.getNum st.1).2.2)) else ((WM.getNum st.1).1, (st.1.drop (WM.getNum st.1).2.1.toNat, 0))
def rdText (most : Int) (st : St) : Str × St := if st.2 ≠ 0 then ([], st) else if (WM.getText st.1 most).2.2 ≠ 0 then ([], (st.1, (WM.getText st.1 most).2.2)) else ((WM.getText st.1 most).1, (st.1.drop (WM.getText st.1 most).2.1.toNat, 0))
def rdFail (e : Int) (st : St) : St := if st.2 = 0 then (st.1, e) else st
def rdCount (most : Int) (st : St) : Int × St := if (rdNum st).1 < 0 ∨ most < (rdNum st).1 then (0, rdFail 4 (rdNum st).2) else rdNum st
def refN (most : Int) (st : St) : Int × St := if st.2 ≠ 0 then (0, st) else if (WM.getNum st.1).2.2 ≠ 0 then (0, (st.1, (WM.getNum st.1).2.2)) else if 0 ≤ most ∧ ((WM.getNum st.1).1 < 0 ∨ most < (WM.getNum st.1).1) then (0, (st.1, 4)) else ((WM.getNum st.1).1, (st.1.drop (WM.getNum st.1).2.1.toNat, 0))
theorem refN_num (st : St) : refN (-1) st = rdNum st := by unfold refN rdNum; simp
theorem goes_num (st : St) : Goes rNum st (rdNum st).1 (rdNum st).2 := by
  refine ⟨fun h => by unfold rdNum; rw [if_pos h], fun h x r hr => ?_, fun h e hr => ?_⟩
  · unfold rNum at hr
    unfold rdNum
    rw [if_neg (fun h2 => h2 h)]
    split at hr
    · cases hr
    · rename_i h1; rw [if_neg h1]; cases hr; exact ⟨rfl, rfl⟩
  · unfold rNum at hr
    unfold rdNum
    rw [if_neg (fun h2 => h2 h)]
    split at hr
    · rename_i h1; rw [if_pos h1]; cases hr; exact ⟨h1, rfl⟩
    · cases hr
theorem goes_text (most : Int) (st : St) : Goes (rText most) st (rdText most st).1 (rdText most st).2 := by
  refine ⟨fun h => by unfold rdText; rw [if_pos h], fun h x r hr => ?_, fun h e hr => ?_⟩
  · unfold rText at hr
    unfold rdText
    rw [if_neg (fun h2 => h2 h)]
    split at hr
    · cases hr
    · rename_i h1; rw [if_neg h1]; cases hr; exact ⟨rfl, rfl⟩
  · unfold rText at hr
    unfold rdText
    rw [if_neg (fun h2 => h2 h)]
    split at hr
    · rename_i h1; rw [if_pos h1]; cases hr; exact ⟨h1, rfl⟩
    · cases hr
theorem goes_count (most : Int) (st : St) : Goes (rCount most) st (rdCount most st).1 (rdCount most st).2 := by
  have g := goes_num st
  unfold rdCount
  refine ⟨fun h => ?_, fun h x r hr => ?_, fun h e hr => ?_⟩
  · have h1 := g.stuck h
    split
    · show (rdFail 4 (rdNum st).2).2 = st.2
      unfold rdFail
      rw [if_neg (by rw [h1]; exact h)]; exact h1
    · exact h1
  · unfold rCount at hr
    split at hr
    · rename_i n r' hm
      obtain ⟨e1, e2⟩ := g.good h _ _ hm
      rw [e1, e2]
      split at hr
      · cases hr
      · rename_i h2
        cases hr
        rw [if_neg h2]
        exact ⟨e1, e2⟩
    · cases hr
  · unfold rCount at hr
    split at hr
    · rename_i n r' hm
      obtain ⟨e1, e2⟩ := g.good h _ _ hm
      rw [e1, e2]
      split at hr
      · rename_i h2
        cases hr
        rw [if_pos h2]
        exact ⟨by omega, by unfold rdFail; rw [if_pos rfl]⟩
      · cases hr
    · rename_i e' hm
      cases hr
      obtain ⟨h1, h2⟩ := g.bad h _ hm
      refine ⟨h1, ?_⟩
      split
      · show (rdFail 4 (rdNum st).2).2 = e
        unfold rdFail
        rw [if_neg (by rw [h2]; exact h1)]; exact h2
      · exact h2
theorem goes_refN {most : Int} (hm : 0 ≤ most) (st : St) : Goes (rCount most) st (refN most st).1 (refN most st).2 := by
  unfold refN
  refine ⟨fun h => by rw [if_pos h], fun h x r hr => ?_, fun h e hr => ?_⟩
  · rw [if_neg (fun h2 => h2 h)]
    unfold rCount rNum at hr
    by_cases h1 : (WM.getNum st.1).2.2 ≠ 0
    · rw [if_pos h1] at hr; cases hr
    · rw [if_neg h1] at hr ⊢
      simp only at hr
      split at hr
      · cases hr
      · rename_i h2
        cases hr
        rw [if_neg (fun h3 => h2 h3.2)]
        exact ⟨rfl, rfl⟩
  · rw [if_neg (fun h2 => h2 h)]
    unfold rCount rNum at hr
    by_cases h1 : (WM.getNum st.1).2.2 ≠ 0
    · rw [if_pos h1] at hr ⊢
      cases hr
      exact ⟨h1, rfl⟩
    · rw [if_neg h1] at hr ⊢
      simp only at hr
      split at hr
      · rename_i h2
        cases hr
        rw [if_pos ⟨hm, h2⟩]
        exact ⟨by omega, rfl⟩
      · cases hr
theorem Goes.snoc {α : Type} {m : Rd α} {st st1 st2 : St} {l : List α} {a : α} : ∀ {n : Nat}, Goes (rMany m n) st l st1 → Goes m st1 a st2 → Goes (rMany m (n + 1)) st (l ++ [a]) st2 := by
  have key : ∀ (n : Nat) (b : Str), rMany m (n + 1) b = match rMany m n b with
      | .no e => .no e
      | .ok l r => match m r with
        | .no e => .no e
        | .ok a r => .ok (l ++ [a]) r := by
    have eq : ∀ (k : Nat) (b : Str), rMany m (k + 1) b = match m b with | .ok a r => (match rMany m k r with | .ok l r => .ok (a :: l) r | .no e => .no e) | .no e => .no e := by
      intro k b
      show Rd.bind m (fun a => Rd.bind (rMany m k) fun l => Rd.pure (a :: l)) b = _
      unfold Rd.bind
      cases m b with
      | no e => rfl
      | ok a r =>
        simp only
        cases rMany m k r with
        | no e => rfl
        | ok l r2 => rfl
    intro n
    induction n with
    | zero =>
      intro b
      show Rd.bind m (fun a => Rd.bind (Rd.pure []) fun l => Rd.pure (a :: l)) b = match m b with | .no e => .no e | .ok a r => .ok ([] ++ [a]) r
      unfold Rd.bind
      cases m b with
      | ok a r => rfl
      | no e => rfl
    | succ n ih =>
      intro b
      rw [eq (n + 1) b, eq n b]
      cases m b with
      | no e => rfl
      | ok a r =>
        simp only
        rw [ih r]
        cases rMany m n r with
        | no e => rfl
        | ok l r2 =>
          simp only
          cases m r2 with
          | no e => rfl
          | ok c r3 => rfl
  intro n h h2
  refine ⟨fun he => ?_, fun he x r hr => ?_, fun he e hr => ?_⟩
  · have h1 := h.stuck he
    rw [← h1]; exact h2.stuck (by rw [h1]; exact he)
  · rw [key] at hr
    split at hr
    · cases hr
    · rename_i l' r' hm
      obtain ⟨rfl, rfl⟩ := h.good he _ _ hm
      split at hr
      · cases hr
      · rename_i a' r2 hm2
        obtain ⟨rfl, rfl⟩ := h2.good rfl _ _ hm2
        cases hr
        exact ⟨rfl, rfl⟩
  · rw [key] at hr
    split at hr
    · rename_i e' hm
      cases hr
      obtain ⟨h1, h3⟩ := h.bad he _ hm
      refine ⟨h1, ?_⟩
      rw [← h3]; exact h2.stuck (by rw [h3]; exact h1)
    · rename_i l' r' hm
      obtain ⟨rfl, rfl⟩ := h.good he _ _ hm
      split at hr
      · rename_i e' hm2
        cases hr
        exact h2.bad rfl _ hm2
      · cases hr
end VM
end Go.Proofs.Ytpbnaaoilgohkaa
set_option maxRecDepth 8000
namespace Go.Proofs.Ytpbnaaoilgohkaa
open Go Go.RowKit
def PRd (st : VM.St) : AObj := .row 2 [.ro (bsR st.1), .int .i64 st.2]
theorem zfk {H : Heap} {g : Nat} {o : AObj} (h : H g = some o) : H.put g (some o) = H := by
  funext y
  by_cases hy : y = g
  · subst hy; rw [Heap.put_at, h]
  · rw [Heap.put_ne _ _ hy]
theorem zww {ki : IntKind} {b : Str} {k : Nat} {H : Heap} {kk : AV → Prop} (h : k ≤ b.length) (hk : kk (.ro (bsR (b.drop k)))) : SL 1 (.ro (bsR b)) (some (.int ki (k : Int))) none H kk := by
  simp only [SL, zbb, lohi, PURE, qk, Int.toNat_natCast, List.take_length]
  refine ⟨by omega, by rw [zad]; omega, Int.le_refl _, zmi b, ?_⟩
  have e : (bsR b).drop k = bsR (b.drop k) := by simp [bsR]
  rw [e]; exact hk
theorem zabg {b : Str} {most : Int} (h : (WM.getText b most).2.2 = 0) : ∃ k : Nat, k ≤ b.length ∧ (WM.getText b most).2.1 = (k : Int) := by
  unfold WM.getText at h ⊢
  by_cases h1 : (WM.getNum b).2.2 ≠ 0
  · rw [if_pos h1] at h; exact absurd h h1
  rw [if_neg h1] at h ⊢
  obtain ⟨k, hk, _, hn, _⟩ := WM.getNum_ok b (Classical.not_not.1 h1)
  by_cases h2 : (WM.getNum b).1 < 0 ∨ most < (WM.getNum b).1
  · rw [if_pos h2] at h; simp at h
  rw [if_neg h2] at h ⊢
  by_cases h3 : (b.length : Int) - (WM.getNum b).2.1 < (WM.getNum b).1
  · rw [if_pos h3] at h; simp at h
  rw [if_neg h3]
  exact ⟨k + (WM.getNum b).1.toNat, by omega, by simp only [hn]; omega⟩
section
variable {p n : Nat} {st : VM.St} {H : Heap} {Q : AV → Heap → Nat → Prop}
theorem zjk {e : Int} (hg : H p = some (PRd st)) (hq : Q (.tup []) (H.put p (some (PRd (VM.rdFail e st)))) n) : za Try.prog 30 [.ptr p 0, .int .i64 e] H n Q := by
  refine zqb _ _ H n _ ?_
  have hg' := hg
  unfold PRd at hg'
  unfold VM.rdFail at hq
  by_cases h : st.2 = 0
  · rw [if_pos h] at hq
    simp [zfg, hg', h]
    simpa [PRd] using hq
  · rw [if_neg h, zfk hg] at hq
    simp [zfg, hg', h]
    exact hq
set_option maxHeartbeats 1000000 in
theorem zcf (hg : H p = some (PRd st)) (hb : st.1.length ≤ 4611686018427387904) (hq : Q (.int .i64 (VM.rdNum st).1) (H.put p (some (PRd (VM.rdNum st).2))) n) : za Try.prog 25 [.ptr p 0] H n Q := by
  refine zsv _ H n _ ?_
  have hg' := hg
  unfold PRd at hg'
  unfold VM.rdNum at hq
  by_cases h : st.2 = 0
  case neg =>
    rw [if_pos h, zfk hg] at hq
    simp [zfu, hg', h]
    exact hq
  rw [if_neg (fun h2 => h2 h)] at hq
  simp [zfu, hg', h]
  refine QC.call (zaah st.1 hb) ?_
  by_cases h1 : (WM.getNum st.1).2.2 = 0
  case neg =>
    rw [if_pos h1] at hq
    simp [zfv, h1]
    refine zjk hg ?_
    unfold VM.rdFail
    rw [if_pos h]
    simp [zlm]
    exact hq
  rw [if_neg (fun h2 => h2 h1)] at hq
  obtain ⟨k, hk, hk1, hn, _⟩ := WM.getNum_ok st.1 h1
  rw [hn, Int.toNat_natCast] at hq
  simp [zfv, h1, hg', hn]
  refine zww hk ?_
  simpa [PRd, h] using hq
set_option maxHeartbeats 1000000 in
theorem zaee {most : Int} (hg : H p = some (PRd st)) (hb : st.1.length ≤ 4611686018427387904) (hq : Q (.str (VM.rdText most st).1) (H.put p (some (PRd (VM.rdText most st).2))) n) : za Try.prog 48 [.ptr p 0, .int .i64 most] H n Q := by
  refine zqa _ _ H n _ ?_
  have hg' := hg
  unfold PRd at hg'
  unfold VM.rdText at hq
  by_cases h : st.2 = 0
  case neg =>
    rw [if_pos h, zfk hg] at hq
    simp [zfe, hg', h]
    exact hq
  rw [if_neg (fun h2 => h2 h)] at hq
  simp [zfe, hg', h]
  refine QC.call (zafv st.1 most hb) ?_
  by_cases h1 : (WM.getText st.1 most).2.2 = 0
  case neg =>
    rw [if_pos h1] at hq
    simp [zff, h1]
    refine zjk hg ?_
    unfold VM.rdFail
    rw [if_pos h]
    simp [zla]
    exact hq
  rw [if_neg (fun h2 => h2 h1)] at hq
  obtain ⟨k, hk, hn⟩ := zabg h1
  rw [hn, Int.toNat_natCast] at hq
  simp [zff, h1, hg', hn]
  refine zww hk ?_
  simpa [PRd, h] using hq
set_option maxHeartbeats 1000000 in
theorem zjo {most : Int} (hg : H p = some (PRd st)) (hb : st.1.length ≤ 4611686018427387904) (hq : Q (.int .i64 (VM.rdCount most st).1) (H.put p (some (PRd (VM.rdCount most st).2))) n) : za Try.prog 27 [.ptr p 0, .int .i64 most] H n Q := by
  refine zpq _ _ H n _ ?_
  unfold zjv
  refine zcf hg hb ?_
  unfold VM.rdCount at hq
  have put2 : ∀ x y : Option AObj, (H.put p x).put p y = H.put p y := fun x y => by
    funext g
    by_cases hgp : g = p
    · subst hgp; rw [Heap.put_at, Heap.put_at]
    · rw [Heap.put_ne _ _ hgp, Heap.put_ne _ _ hgp, Heap.put_ne _ _ hgp]
  generalize VM.rdNum st = r at *
  by_cases h1 : r.1 < 0
  · rw [if_pos (.inl h1)] at hq
    simp [zcx, h1]
    refine zjk (st := r.2) (Heap.put_at _ _ _) ?_
    rw [put2]
    simp [zcy]
    exact hq
  by_cases h2 : most < r.1
  · rw [if_pos (.inr h2)] at hq
    simp [zcx, h1, h2]
    refine zjk (st := r.2) (Heap.put_at _ _ _) ?_
    rw [put2]
    simp [zcy]
    exact hq
  · rw [if_neg (fun h => h.elim h1 h2)] at hq
    simp [zcx, h1, h2]
    exact hq
end
end Go.Proofs.Ytpbnaaoilgohkaa
set_option maxRecDepth 8000
namespace Go.Proofs.Ytpbnaaoilgohkaa
open Go Go.RowKit
namespace VM
def rdVal (st : St) : Val × St := if (rdNum st).1 = 1 then (⟨(rdNum st).1, 0, (rdText 60 (rdNum st).2).1⟩, (rdText 60 (rdNum st).2).2) else (⟨(rdNum st).1, (rdNum (rdNum st).2).1, []⟩, (rdNum (rdNum st).2).2)
theorem goes_val (st : St) : Goes rVal st (rdVal st).1 (rdVal st).2 := by
  unfold rVal rdVal
  refine (goes_num st).bind ?_
  by_cases h : (rdNum st).1 = 1
  · rw [if_pos h, if_pos h]
    exact (goes_text 60 _).bind (Goes.pure _ _)
  · rw [if_neg h, if_neg h]
    exact (goes_num _).bind (Goes.pure _ _)
def rdMany {α : Type} (m : St → α × St) : Nat → St → List α × St
  | 0, st => ([], st)
  | n + 1, st => ((rdMany m n st).1 ++ [(m (rdMany m n st).2).1], (m (rdMany m n st).2).2)
theorem goes_many {α : Type} {r : Rd α} {m : St → α × St} (h : ∀ st, Goes r st (m st).1 (m st).2) : ∀ (n : Nat) (st : St), Goes (rMany r n) st (rdMany m n st).1 (rdMany m n st).2
  | 0, _ => Goes.pure _ _
  | n + 1, st => (goes_many h n st).snoc (h _)
theorem rdMany_len {α : Type} (m : St → α × St) : ∀ (n : Nat) (st : St), (rdMany m n st).1.length = n
  | 0, _ => rfl
  | n + 1, _ => by simp [rdMany, rdMany_len m n _]
def rdVals (most : Int) (st : St) : List Val × St := rdMany rdVal (rdCount most st).1.toNat (rdCount most st).2
def Short {α : Type} (m : St → α × St) : Prop := ∀ st, (m st).2.1.length ≤ st.1.length
theorem short_num : Short rdNum := fun st => by
  unfold rdNum
  split
  · exact Nat.le_refl _
  · split
    · exact Nat.le_refl _
    · simp only [List.length_drop]; omega
theorem short_text (most : Int) : Short (rdText most) := fun st => by
  unfold rdText
  split
  · exact Nat.le_refl _
  · split
    · exact Nat.le_refl _
    · simp only [List.length_drop]; omega
theorem short_refN (most : Int) : Short (refN most) := fun st => by
  unfold refN
  split
  · exact Nat.le_refl _
  · split
    · exact Nat.le_refl _
    · split
      · exact Nat.le_refl _
      · simp only [List.length_drop]; omega
theorem short_count (most : Int) : Short (rdCount most) := fun st => by
  unfold rdCount
  have := short_num st
  split
  · show (rdFail 4 (rdNum st).2).1.length ≤ _
    unfold rdFail
    split <;> exact this
  · exact this
theorem short_val : Short rdVal := fun st => by
  unfold rdVal
  have h := short_num st
  split
  · exact Nat.le_trans (short_text 60 _) h
  · exact Nat.le_trans (short_num _) h
theorem short_many {α : Type} {m : St → α × St} (h : Short m) : ∀ n, Short (rdMany m n)
  | 0 => fun _ => Nat.le_refl _
  | n + 1 => fun st => Nat.le_trans (h _) (short_many h n st)
theorem short_vals (most : Int) : Short (rdVals most) := fun st => Nat.le_trans (short_many short_val _ _) (short_count most st)
theorem rdCount_range {most : Int} (h : 0 ≤ most) (st : St) : 0 ≤ (rdCount most st).1 ∧ (rdCount most st).1 ≤ most := by
  unfold rdCount
  split
  · exact ⟨by simp, by simpa using h⟩
  · omega
end VM
section
variable {g : Nat} {st st' : VM.St} {H : Heap} {n : Nat} {Q : QT}
theorem zafl (A : Nat → Prop) : BelO A (PRd st) := by
  intro i y hy
  match i with
  | 0 => simp at hy; subst hy; exact .ro _ fun _ x _ v hx hv => zbq (zmh _ x (List.mem_of_getElem? hx) v (List.mem_of_getElem? hv))
  | 1 => simp at hy; subst hy; exact .int _ _
  | i + 2 => simp at hy
theorem za.rd {P : Program} {f : FuncId} {args : List AV} {r : AV} (hg : H g = some (PRd st)) (hraw : g < n → za P f args H n fun v H' _ => Frz H' n v r ∧ H' g = some (PRd st') ∧ ∀ y, y < n → y ≠ g → H' y = H y) (hq : Q r (H.put g (some (PRd st'))) n) : za P f args H n Q := by
  refine za.tidy fun hlive => ?_
  have hgn := hlive g _ hg
  refine (za.gc (R := fun v H' => v = r ∧ H' = H.put g (some (PRd st'))) (hraw hgn) fun v H' n' ⟨h1, h2, h3⟩ => ⟨r, _, ⟨rfl, rfl⟩, h1, fun y o ho => ?_⟩).mono fun v H' n' ⟨⟨h1, h2⟩, h3⟩ => by subst h1; subst h2; subst h3; exact hq
  by_cases hy : y = g
  · subst hy
    rw [Heap.put_at] at ho
    cases ho
    exact ⟨hgn, h2, .inr (zafl _)⟩
  · rw [Heap.put_ne _ _ hy] at ho
    exact ⟨hlive y o ho, by rw [h3 y (hlive y o ho) hy]; exact ho, .inl ho⟩
theorem LC.rd {f : FuncId} {args : List AV} {r : AV} (hg : H g = some (PRd st)) (hr : ∀ A : Nat → Prop, Bel A r)
    (h : ∀ (H : Heap) (n : Nat) (Q : QT), H g = some (PRd st) → Q r (H.put g (some (PRd st'))) n → za Try.prog f args H n Q) : LC Try.prog f args H [g] [] [(g, some (PRd st'))] r := by
  refine LC.of_calls (fun x hx => ?_) (by simp [domD]) (fun A _ _ => hr A) (fun A _ _ x o hx ho => ?_) fun H' n' ha => ?_
  · simp at hx; subst hx; rw [hg]; rfl
  · simp [domD] at hx; subst hx
    simp at ho
    subst ho
    exact zafl _
  · obtain ⟨a1, a2⟩ := ha g (by simp)
    refine h H' n' _ (a1.trans hg) ⟨rfl, Nat.le_refl _, fun x _ hx => ?_, fun x o hx ho => ?_⟩
    · simp [domD] at hx
      exact Heap.put_ne _ _ hx
    · simp [domD] at hx; subst hx
      simp at ho
      rw [Heap.put_at, ho]
theorem zj.rd {f : FuncId} {args : List AV} {r : AV} {kt : Kt} (hg : H g = some (PRd st)) (hr : ∀ A : Nat → Prop, Bel A r)
    (h : ∀ (H : Heap) (n : Nat) (Q : QT), H g = some (PRd st) → Q r (H.put g (some (PRd st'))) n → za Try.prog f args H n Q) (hk : kt r [g] [] [(g, some (PRd st'))]) : zj Try.prog (.clo f []) args H n kt :=
  ⟨_, [g], [], _, .inl rfl, by rw [List.append_nil]; exact LC.rd hg hr h, hk⟩
end
theorem put_put {H : Heap} {p : Nat} {x y : Option AObj} : (H.put p x).put p y = H.put p y := by
  funext g
  by_cases hgp : g = p
  · subst hgp; rw [Heap.put_at, Heap.put_at]
  · rw [Heap.put_ne _ _ hgp, Heap.put_ne _ _ hgp, Heap.put_ne _ _ hgp]
set_option maxRecDepth 20000 in
set_option maxHeartbeats 2000000 in
theorem zxa {p n : Nat} {st : VM.St} {H : Heap} {Q : QT} (hg : H p = some (PRd st)) (hb : st.1.length ≤ 4611686018427387904) (hq : Q (.agg (VM.rdVal st).1.avs) (H.put p (some (PRd (VM.rdVal st).2))) n) : za Try.prog 29 [.ptr p 0] H n Q := by
  refine za.rd hg (fun hpn => ?_) hq
  refine zpp _ H n _ ?_
  have sn := VM.short_num st
  unfold VM.rdVal
  have ne_0 : p ≠ n ∧ n ≠ p ∧ p ≠ n + 1 ∧ n + 1 ≠ p := ⟨by omega, by omega, by omega, by omega⟩
  simp [zjs]
  refine zcf (st := st) (by rw [Heap.put_ne _ _ (by omega)]; exact hg) hb ?_
  generalize VM.rdNum st = r at *
  by_cases h1 : r.1 = 1
  · have s2 := Nat.le_trans (VM.short_text 60 r.2) sn
    simp [zes, h1]
    generalize hX : Heap.put _ (n + 1) _ = X
    have x0 : X p = some (PRd r.2) := by rw [← hX, Heap.put_ne _ _ (by omega), Heap.put_at]
    have x1 : X n = some (.row 3 [.int .i64 0, .int .i64 0, .str []]) := by rw [← hX, Heap.put_ne _ _ (by omega), Heap.put_ne _ _ (by omega), Heap.put_at]
    have x2 : X (n + 1) = some (.row 3 [.int .i64 1, .int .i64 0, .str []]) := by rw [← hX, Heap.put_at]
    have xk : ∀ y, y < n → y ≠ p → X y = H y := fun y h1 h2 => by rw [← hX, Heap.put_ne _ _ (by omega), Heap.put_ne _ _ h2, Heap.put_ne _ _ (by omega)]
    clear hX
    refine zaee x0 (by omega) ?_
    generalize VM.rdText 60 r.2 = q at *
    simp [zju, x1, x2, ne_0]
    refine ⟨rfl, fun y h2 h3 => ?_⟩
    rw [if_neg (by omega), if_neg (by omega), if_neg h3]
    exact xk y h2 h3
  · have s2 := Nat.le_trans (VM.short_num r.2) sn
    simp [zes, h1]
    generalize hX : Heap.put _ (n + 1) _ = X
    have x0 : X p = some (PRd r.2) := by rw [← hX, Heap.put_ne _ _ (by omega), Heap.put_at]
    have x1 : X n = some (.row 3 [.int .i64 0, .int .i64 0, .str []]) := by rw [← hX, Heap.put_ne _ _ (by omega), Heap.put_ne _ _ (by omega), Heap.put_at]
    have x2 : X (n + 1) = some (.row 3 [.int .i64 r.1, .int .i64 0, .str []]) := by rw [← hX, Heap.put_at]
    have xk : ∀ y, y < n → y ≠ p → X y = H y := fun y h1 h2 => by rw [← hX, Heap.put_ne _ _ (by omega), Heap.put_ne _ _ h2, Heap.put_ne _ _ (by omega)]
    clear hX
    refine zcf x0 (by omega) ?_
    generalize VM.rdNum r.2 = q at *
    simp [zjt, x1, x2, ne_0]
    refine ⟨rfl, fun y h2 h3 => ?_⟩
    rw [if_neg (by omega), if_neg (by omega), if_neg h3]
    exact xk y h2 h3
set_option maxRecDepth 20000 in
set_option maxHeartbeats 2000000 in
theorem zaar {p n : Nat} {st : VM.St} {most : Int} {H : Heap} {Q : QT} (hm : 0 ≤ most ∧ most ≤ 4096) (hg : H p = some (PRd st)) (hb : st.1.length ≤ 4611686018427387904) (hq : Q (.ro ((VM.rdVals most st).1.map Val.avs)) (H.put p (some (PRd (VM.rdVals most st).2))) n) : za Try.prog 28 [.ptr p 0, .int .i64 most] H n Q := by
  refine za.rd hg (fun hpn => ?_) hq
  refine zoe _ _ H n _ ?_
  unfold zin
  refine zjo hg hb ?_
  have sc := VM.short_count most st
  have rg := VM.rdCount_range hm.1 st
  unfold VM.rdVals
  generalize VM.rdCount most st = c at *
  obtain ⟨k, hk⟩ := Int.eq_ofNat_of_zero_le rg.1
  rw [hk, Int.toNat_natCast]
  simp only [zio]
  refine LP.mk (fun m xs H' n' => ∃ (i : Nat) (l : AV), m = k - i ∧ i ≤ k ∧ xs = [.ptr p 0, l, .int .i64 k, .int .i64 i] ∧ n ≤ n' ∧ H' p = some (PRd (VM.rdMany VM.rdVal i c.2).2) ∧ Slot H' 3 i (rowV (VM.rdMany VM.rdVal i c.2).1) l ∧ (∀ y ∈ own l, n ≤ y ∧ y < n') ∧ ∀ y, y < n → y ≠ p → H' y = H y) k ⟨0, .nils, rfl, by omega, rfl, Nat.le_refl _, Heap.put_at _ _ _, .inl ⟨rfl, .inl rfl⟩, by simp [own], fun y _ h2 => Heap.put_ne _ _ h2⟩ ?_
  rintro m xs H' n' ⟨i, l, rfl, hik, rfl, hn, hp, sl, ow, kp⟩
  have sm := Nat.le_trans (VM.short_many VM.short_val i c.2) sc
  by_cases hlt : i < k
  · have hadd : IntKind.i64.wrap ((i : Int) + 1) = ((i + 1 : Nat) : Int) := by rw [i64w (by omega)]; rfl
    have hlt' : (i : Int) < k := by omega
    simp [zei, hlt]
    refine zxa hp (by omega) ?_
    have er : VM.rdMany VM.rdVal (i + 1) c.2 = ((VM.rdMany VM.rdVal i c.2).1 ++ [(VM.rdVal (VM.rdMany VM.rdVal i c.2).2).1], (VM.rdVal (VM.rdMany VM.rdVal i c.2).2).2) := rfl
    have ll := VM.rdMany_len VM.rdVal i c.2
    generalize VM.rdMany VM.rdVal i c.2 = q at *
    generalize hv : VM.rdVal q.2 = v at *
    simp [zip, hadd]
    have lt : ∀ y ∈ own l, y < n' := fun y hy => (ow y hy).2
    have s1 : Slot ((H'.put p (some (PRd v.2))).put n' (some (.row 3 v.1.avs))) 3 i (rowV q.1) l := sl.keep fun y hy => by
      have := ow y hy
      rw [Heap.put_ne _ _ (by omega), Heap.put_ne _ _ (by omega)]
    refine s1.app (new := v.1.avs) (by rw [zlt]; omega) (Heap.put_at _ _ _) rfl (List.all_eq_true.2 fun c hc => zck (zbp _ c hc)) (by omega) fun H2 h1 h2 => ?_
    have e1 : ((i + 1 : Nat) : Int) = (i : Int) + 1 := by omega
    refine ⟨k - (i + 1), by omega, i + 1, rfl, by omega, _, ⟨rfl, e1.symm⟩, by omega, ?_, ?_, fun y hy => ?_, fun y h3 h4 => ?_⟩
    · rw [h2 p (fun h => by have := ow p h; omega) (by omega), Heap.put_ne _ _ (by omega), Heap.put_at, er]
    · rw [er]
      refine Slot.full ?_ ?_
      · rw [h1, zpk]; simp [rowV]
      · rw [zlt]; simp; omega
    · have e : y = n' + 1 := by simpa [own] using hy
      omega
    · rw [h2 y (fun h => by have := ow y h; omega) (by omega), Heap.put_ne _ _ (by omega), Heap.put_ne _ _ h4]
      exact kp y h3 h4
  · obtain rfl : i = k := by omega
    have ll := VM.rdMany_len VM.rdVal i c.2
    generalize VM.rdMany VM.rdVal i c.2 = q at *
    simp [zei]
    refine ⟨?_, hp, kp⟩
    subst ll
    exact sl.frzV fun y hy => (ow y hy).1
end Go.Proofs.Ytpbnaaoilgohkaa
set_option maxRecDepth 8000
namespace Go.Proofs.Ytpbnaaoilgohkaa
open Go Go.RowKit
structure zyb (p : Prg) : Prop where
  words : p.words.length ≤ 4096 ∧ ∀ w ∈ p.words, w.length ≤ 4096
  codes : p.codes.length ≤ 4096 ∧ ∀ c ∈ p.codes, c.ins.length ≤ 4096 ∧ I64 c.params ∧ I64 c.vars ∧ ∀ i ∈ c.ins, I64 i.op ∧ I64 i.a ∧ I64 i.b
theorem zxk (i : Ins) : VM.insB i = zt [i.op, i.a, i.b] := by simp [VM.insB, zt]
theorem zxu (c : Cod) : VM.codB c = zt [c.params, c.vars, (c.ins.length : Int)] ++ c.ins.flatMap VM.insB := by simp [VM.codB, zt]
theorem zzv (i : Ins) : (VM.insB i).length ≤ 30 := by rw [zxk]; exact zbk _
theorem zvk {c : Cod} (h : c.ins.length ≤ 4096) : (VM.codB c).length ≤ 200000 := by
  rw [zxu, List.length_append]
  have h1 := zbk [c.params, c.vars, (c.ins.length : Int)]
  have h2 := zex (l := c.ins) (f := VM.insB) (k := 30) fun i _ => zzv i
  simp only [List.length_cons, List.length_nil] at h1
  omega
set_option maxRecDepth 20000 in
set_option maxHeartbeats 4000000 in
theorem zaft {p g n : Nat} {l : AV} {bs : Str} {pr : Prg} {cs : List AV} {H : Heap} {Q : AV → Heap → Nat → Prop} (w : WrM p l bs H n) (sp : zyb pr) (hg : H g = some (.row 9 cs)) (hgp : g < p) (c2 : cs[2]? = some (.ro (pr.codes.map Cod.avs))) (c3 : cs[3]? = some (.ro (pr.words.map fun w => [.str w]))) (hb : bs.length ≤ 1000000000000)
    (hq : ∀ H' n' l', WExt p l H n l' (bs ++ VM.prgB pr) H' n' → Q (.tup []) H' n') : za Try.prog 15 [.ptr p 0, .ptr g 2] H n Q := by
  refine zne _ _ H n _ ?_
  obtain ⟨⟨w1, w2⟩, c1, c4⟩ := sp
  have lt := w.lt
  have gk : ∀ {H' : Heap} {n' : Nat} {l' : AV} {bs' : Str}, WExt p l H n l' bs' H' n' → H' g = some (.row 9 cs) := fun e => (e.keep g (by omega) (by omega) fun h => by have := w.ow g h; omega).trans hg
  simp [zhc, hg, c3]
  refine w.ext.nums [(pr.words.length : Int)] (by simp; omega) (by simp; omega) fun H2 n2 l2 e2 _ => ?_
  have en : zt [(pr.words.length : Int)] = WM.num pr.words.length := by simp [zt]
  rw [en] at e2
  have nl := zap pr.words.length
  have g2 := gk e2
  simp [zhd, g2, c3]
  have hwl : ∀ s ∈ pr.words, (VM.textB s).length ≤ 4106 := fun s h => by have := zmp s; have := w2 s h; omega
  refine LP.mk (fun k xs H' n' => ∃ (i : Nat) (l' : AV), k = pr.words.length - i ∧ i ≤ pr.words.length ∧ xs = [.ptr p 0, .ptr g 2, .ro (pr.words.map fun w => [.str w]), .int .i64 pr.words.length, .int .i64 i] ∧ WExt p l H n l' (bs ++ WM.num pr.words.length ++ (pr.words.take i).flatMap VM.textB) H' n') pr.words.length ⟨0, l2, rfl, by omega, rfl, by simpa using e2⟩ ?_
  rintro k xs H' n' ⟨i, l', rfl, hil, rfl, ext⟩
  have hft := zat hwl hil
  have hp := ext.wr.row
  by_cases hlt : i < pr.words.length
  · have hadd : IntKind.i64.wrap ((i : Int) + 1) = ((i + 1 : Nat) : Int) := by rw [i64w (by omega)]; rfl
    have hm : pr.words[i]? = some pr.words[i] := List.getElem?_eq_getElem hlt
    have hmi := w2 _ (List.getElem_mem hlt)
    generalize hmm : pr.words[i] = m at hm hmi
    have hsn := zau (f := VM.textB) hm
    simp [zdp, hlt, hmm, hp]
    refine zadv ext.wr.slot (by rw [List.length_append, List.length_append]; omega) (fun y hy => (ext.wr.ow y hy).2) fun H3 n3 g3 b3 => ?_
    have er := ext.row b3
    rw [List.append_assoc _ _ (VM.textB m), ← hsn] at er
    have hp3 : H3 p = some (.row 1 [l']) := by rw [b3.keep p ext.wr.lt fun h => by have := ext.wr.ow p h; omega]; exact hp
    rw [List.append_assoc _ _ (VM.textB m), ← hsn]
    simp [zhh, hp3, hadd]
    exact ⟨pr.words.length - (i + 1), by omega, i + 1, rfl, by omega, rfl, _, by simpa using er⟩
  · obtain rfl : i = pr.words.length := by omega
    rw [List.take_length] at ext hft
    have g3 := gk ext
    simp [zdp, g3, c2]
    refine ext.nums [(pr.codes.length : Int)] (by rw [List.length_append, List.length_append, List.length_singleton]; omega) (by simp; omega) fun H4 n4 l4 e4 _ => ?_
    have en4 : zt [(pr.codes.length : Int)] = WM.num pr.codes.length := by simp [zt]
    rw [en4] at e4
    have nl4 := zap pr.codes.length
    have g4 := gk e4
    simp [zhe, g4, c2]
    generalize hB : bs ++ WM.num pr.words.length ++ pr.words.flatMap VM.textB ++ WM.num pr.codes.length = B at e4
    have hBl : B.length ≤ 1100000000000 := by rw [← hB]; simp only [List.length_append]; omega
    have hcl : ∀ c ∈ pr.codes, (VM.codB c).length ≤ 200000 := fun c h => zvk (c4 c h).1
    refine LP.mk (fun k xs H' n' => ∃ (i : Nat) (l' : AV), k = pr.codes.length - i ∧ i ≤ pr.codes.length ∧ xs = [.ptr p 0, .ro (pr.codes.map Cod.avs), .int .i64 pr.codes.length, .int .i64 i] ∧ WExt p l H n l' (B ++ (pr.codes.take i).flatMap VM.codB) H' n') pr.codes.length ⟨0, l4, rfl, by omega, rfl, by simpa using e4⟩ ?_
    clear e4 g4 ext g3 hp e2 g2
    rintro k xs H' n' ⟨i, l', rfl, hil, rfl, ext⟩
    have hft := zat hcl hil
    suffices key : ∀ K : J3, (∀ H' n' l', i + 1 ≤ pr.codes.length → WExt p l H n l' (B ++ (pr.codes.take (i + 1)).flatMap VM.codB) H' n' → K [.ptr p 0, .ro (pr.codes.map Cod.avs), .int .i64 pr.codes.length, .int .i64 (i + 1 : Nat)] H' n') →
        zci Q K [.ptr p 0, .ro (pr.codes.map Cod.avs), .int .i64 pr.codes.length, .int .i64 i] H' n' from
      key _ fun H' n' l' h1 h2 => ⟨pr.codes.length - (i + 1), by omega, i + 1, l', rfl, h1, rfl, h2⟩
    intro K hK
    by_cases hlt : i < pr.codes.length
    · have hadd : IntKind.i64.wrap ((i : Int) + 1) = ((i + 1 : Nat) : Int) := by rw [i64w (by omega)]; rfl
      have hm : pr.codes[i]? = some pr.codes[i] := List.getElem?_eq_getElem hlt
      obtain ⟨d1, d2, d3, d4⟩ := c4 _ (List.getElem_mem hlt)
      generalize hmm : pr.codes[i] = m at hm d1 d2 d3 d4
      have hsn := zau (f := VM.codB) hm
      simp [zci, hlt, hmm, Cod.avs]
      have ep := ext.put (.row 3 m.avs)
      refine ep.nums [m.params, m.vars, (m.ins.length : Int)] (by rw [List.length_append]; simp only [List.length_cons, List.length_nil]; omega) (by simp; exact ⟨d2, d3, by omega⟩) fun H5 n5 l5 e5 k5 => ?_
      have hrow : H5 n' = some (.row 3 m.avs) := by rw [k5 n' (by omega) (by have := ext.wr.lt; omega) fun h => (by have := ext.wr.ow _ h; omega), Heap.put_at]
      have nl5 := zbk [m.params, m.vars, (m.ins.length : Int)]
      simp only [List.length_cons, List.length_nil] at nl5
      simp [zhf, hrow, Cod.avs]
      generalize hC : B ++ (pr.codes.take i).flatMap VM.codB ++ zt [m.params, m.vars, (m.ins.length : Int)] = C at e5
      have hCl : C.length ≤ 1200000000000 := by rw [← hC]; simp only [List.length_append]; omega
      refine LP.mk (fun k xs H' n' => ∃ (j : Nat) (l' : AV), k = m.ins.length - j ∧ j ≤ m.ins.length ∧ xs = [.ptr p 0, .ro (pr.codes.map Cod.avs), .int .i64 pr.codes.length, .int .i64 i, .ro (m.ins.map Ins.avs), .int .i64 m.ins.length, .int .i64 j] ∧ WExt p l H n l' (C ++ (m.ins.take j).flatMap VM.insB) H' n') m.ins.length ⟨0, l5, rfl, by omega, rfl, by simpa using e5⟩ ?_
      clear e5 k5 hrow ep
      rintro k xs H6 n6 ⟨j, l6, rfl, hjl, rfl, ex6⟩
      have hft6 := zat (l := m.ins) (f := VM.insB) (k := 30) (fun x _ => zzv x) hjl
      by_cases hjt : j < m.ins.length
      · have hadd6 : IntKind.i64.wrap ((j : Int) + 1) = ((j + 1 : Nat) : Int) := by rw [i64w (by omega)]; rfl
        have hmj : m.ins[j]? = some m.ins[j] := List.getElem?_eq_getElem hjt
        obtain ⟨f1, f2, f3⟩ := d4 _ (List.getElem_mem hjt)
        generalize hmi : m.ins[j] = q at hmj f1 f2 f3
        have hsn6 := zau (f := VM.insB) hmj
        simp [zdq, hjt, hmi, Ins.avs]
        have ep6 := ex6.put (.row 3 q.avs)
        refine ep6.nums [q.op, q.a, q.b] (by rw [List.length_append]; simp only [List.length_cons, List.length_nil]; omega) (by simp; exact ⟨f1, f2, f3⟩) fun H7 n7 l7 e7 _ => ?_
        rw [← zxk, List.append_assoc, ← hsn6] at e7
        simp [zhg, hadd6]
        exact ⟨m.ins.length - (j + 1), by omega, j + 1, rfl, by omega, rfl, _, by simpa using e7⟩
      · obtain rfl : j = m.ins.length := by omega
        rw [List.take_length, ← hC, List.append_assoc _ _ (m.ins.flatMap VM.insB), ← zxu, List.append_assoc, ← hsn] at ex6
        simp [zdq, hadd]
        exact hK _ _ _ (by omega) ex6
    · obtain rfl : i = pr.codes.length := by omega
      rw [List.take_length, ← hB] at ext
      simp [zci]
      refine hq _ _ l' ?_
      have e : bs ++ VM.prgB pr = bs ++ WM.num pr.words.length ++ pr.words.flatMap VM.textB ++ WM.num pr.codes.length ++ pr.codes.flatMap VM.codB := by unfold VM.prgB; simp only [List.append_assoc]
      rw [e]; exact ext
end Go.Proofs.Ytpbnaaoilgohkaa
set_option maxRecDepth 8000
namespace Go.Proofs.Ytpbnaaoilgohkaa
open Go Go.RowKit
def zav (H : Heap) (G : Nat → Prop) (xs ys : List AV) : Prop := ys.length = xs.length ∧ ∀ (j : Nat) (v u : AV), xs[j]? = some v → ys[j]? = some u → FrzP H G v u
theorem zav.nil {H : Heap} {G : Nat → Prop} : zav H G [] [] := ⟨rfl, fun j v u h => by simp at h⟩
theorem zav.cons {H : Heap} {G : Nat → Prop} {v u : AV} {xs ys : List AV} (h : FrzP H G v u) (k : zav H G xs ys) : zav H G (v :: xs) (u :: ys) := by
  refine ⟨by simp [k.1], fun j a b ha hb => ?_⟩
  cases j with
  | zero => simp at ha hb; subst ha; subst hb; exact h
  | succ j => exact k.2 j a b (by simpa using ha) (by simpa using hb)
theorem za.thaw {P : Program} {f : FuncId} {args args' : List AV} {H H0 : Heap} {nx : Nat} {G : Nat → Prop} {Q : AV → Heap → Nat → Prop} (h : za P f args H0 nx Q) (hf : zav H G args' args) (h0 : ∀ g o, H0 g = some o → ¬ G g ∧ H g = some o) : za P f args' H nx Q := by
  intro ρ w cargs s ha
  obtain ⟨s0, f0⟩ := s.drop (H' := H0) fun g o ho => (h0 g o ho).2
  refine zw (h ρ w cargs s0 ⟨ha.1.trans hf.1.symm, fun j u c hu hc => ?_⟩) fun cv w' ⟨r', H', nx', ρ', q1, q3, q4, q5⟩ => ⟨r', H', nx', ρ', q1, q3, q4, f0.trans q5⟩
  have hj : j < args'.length := by have := (List.getElem?_eq_some_iff.1 hu).1; rw [hf.1] at this; exact this
  have hv : args'[j]? = some args'[j] := List.getElem?_eq_getElem hj
  exact (hf.2 j _ u hv hu).rel s h0 c (ha.2 j _ c hv hc)
end Go.Proofs.Ytpbnaaoilgohkaa
set_option maxRecDepth 8000
namespace Go.Proofs.Ytpbnaaoilgohkaa
open Go Go.RowKit
theorem zaco {α : Type} {a b : List α} {i : Nat} (h1 : i < a.length) (h2 : i < b.length) : (a.drop i = b.drop i) ↔ (a[i] = b[i] ∧ a.drop (i + 1) = b.drop (i + 1)) := by
  rw [List.drop_eq_getElem_cons h1, List.drop_eq_getElem_cons h2, List.cons.injEq]
set_option maxHeartbeats 1000000 in
theorem zady (a b : List Val) (ha : a.length ≤ 4611686018427387904) : QC Try.prog 38 [.ro (a.map Val.avs), .ro (b.map Val.avs)] (.bool (decide (a = b))) := by
  refine fun H nx => zpw _ _ H nx _ ?_
  by_cases hl : a.length = b.length
  case neg =>
    have : ¬ ((a.length : Int) = b.length) := by omega
    have hab : ¬ a = b := fun h => hl (by rw [h])
    simp [zez, this, hab]
  simp [zez, hl]
  refine LP.mk (fun m xs H' nx' => ∃ i : Nat, i ≤ b.length ∧ m = b.length - i ∧ xs = [.ro (a.map Val.avs), .ro (b.map Val.avs), .int .i64 b.length, .int .i64 i] ∧ H = H' ∧ nx = nx' ∧ (a = b ↔ a.drop i = b.drop i)) b.length ⟨0, by omega, by omega, rfl, rfl, rfl, by simp⟩ ?_
  rintro m xs H' nx' ⟨i, hi, rfl, rfl, rfl, rfl, hd⟩
  by_cases h : i < b.length
  · have h1 : i < a.length := by omega
    have hia : a[i]? = some a[i] := List.getElem?_eq_getElem h1
    have hib : b[i]? = some b[i] := List.getElem?_eq_getElem h
    rw [zaco h1 h] at hd
    generalize a[i] = x at *
    generalize b[i] = y at *
    obtain ⟨_, hia'⟩ := List.getElem?_eq_some_iff.1 hia
    obtain ⟨_, hib'⟩ := List.getElem?_eq_some_iff.1 hib
    clear hia hib
    obtain ⟨kx, nx', sx⟩ := x
    obtain ⟨ky, ny, sy⟩ := y
    simp [zfa, h, h1, hl, hia', hib', Val.avs]
    refine ⟨fun hne => ?_, fun h1 h2 h3 => ?_⟩
    · rw [hd]
      rintro ⟨he, _⟩
      cases he
      simp at hne
    · subst h1 h2 h3
      rw [i64w (by omega)]
      exact ⟨b.length - (i + 1), by omega, i + 1, by omega, rfl, by simp, by rw [hd]; simp⟩
  · simp [zfa, h]
    rw [hd, List.drop_of_length_le (by omega), List.drop_of_length_le (by omega)]
set_option maxHeartbeats 1000000 in
theorem zama (a b : List Cl) (ha : a.length ≤ 4611686018427387904) : QC Try.prog 37 [.ro (a.map Cl.avs), .ro (b.map Cl.avs)] (.bool (decide (a = b))) := by
  refine fun H nx => zsp _ _ H nx _ ?_
  by_cases hl : a.length = b.length
  case neg =>
    have : ¬ ((a.length : Int) = b.length) := by omega
    have hab : ¬ a = b := fun h => hl (by rw [h])
    simp [zfs, this, hab]
  simp [zfs, hl]
  refine LP.mk (fun m xs H' nx' => ∃ i : Nat, i ≤ b.length ∧ m = b.length - i ∧ xs = [.ro (a.map Cl.avs), .ro (b.map Cl.avs), .int .i64 b.length, .int .i64 i] ∧ H = H' ∧ nx = nx' ∧ (a = b ↔ a.drop i = b.drop i)) b.length ⟨0, by omega, by omega, rfl, rfl, rfl, by simp⟩ ?_
  rintro m xs H' nx' ⟨i, hi, rfl, rfl, rfl, rfl, hd⟩
  by_cases h : i < b.length
  · have h1 : i < a.length := by omega
    have hia : a[i]? = some a[i] := List.getElem?_eq_getElem h1
    have hib : b[i]? = some b[i] := List.getElem?_eq_getElem h
    rw [zaco h1 h] at hd
    generalize a[i] = x at *
    generalize b[i] = y at *
    obtain ⟨_, hia'⟩ := List.getElem?_eq_some_iff.1 hia
    obtain ⟨_, hib'⟩ := List.getElem?_eq_some_iff.1 hib
    clear hia hib
    obtain ⟨⟨kx, nx', sx⟩, ⟨kx2, nx2, sx2⟩⟩ := x
    obtain ⟨⟨ky, ny, sy⟩, ⟨ky2, ny2, sy2⟩⟩ := y
    simp [zft, h, h1, hl, hia', hib', Cl.avs, Val.avs]
    refine ⟨fun hne => ?_, fun h1 h2 h3 h4 h5 h6 => ?_⟩
    · rw [hd]
      rintro ⟨he, _⟩
      cases he
      simp at hne
    · subst h1 h2 h3 h4 h5 h6
      rw [i64w (by omega)]
      exact ⟨b.length - (i + 1), by omega, i + 1, by omega, rfl, by simp, by rw [hd]; simp⟩
  · simp [zft, h]
    rw [hd, List.drop_of_length_le (by omega), List.drop_of_length_le (by omega)]
end Go.Proofs.Ytpbnaaoilgohkaa
set_option maxRecDepth 8000
namespace Go.Proofs.Ytpbnaaoilgohkaa
open Go Go.RowKit
theorem zanx (h : List Cl) (l : List Val) (hr : VM.right h l = true) (hs : h.length * 64 ≤ 140737488355328) (hl : l.length * 32 ≤ 140737488355328) : QC Try.prog 42 [.ro (h.map Cl.avs), .ro (l.map Val.avs)] (.tup [.ro ((VM.canonV h l).map Val.avs), .ro ((VM.canonC h l).map Cl.avs)]) :=
  QC.of' fun H nx => zany h l hr hs hl .ro .ro
end Go.Proofs.Ytpbnaaoilgohkaa
