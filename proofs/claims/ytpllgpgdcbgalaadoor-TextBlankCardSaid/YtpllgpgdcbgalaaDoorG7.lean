/- The parser's expressions: one more behind those that are there. The parser's expressions: texts, numbers and names. Rows that are read: by value, or owned. Rows of one's own, by value from now on: cell by cell. The parser's expressions: forms. The parser's expressions: the heads of forms; expressions as a whole. The parser's statements: up to a bracket. The parser's statements: their kinds. The parser's statements: their parts. The parser's statements: their expressions; statements as a whole. The parser's statements, as a whole. The parser's functions: their parameters. The parser: texts as a whole. The parser: what Parse tells. Names that are there: what a program's functions have wrong, as a plain function; lists of names. scope: expressions. scope: expressions. scope: names of one's own. scope: blocks. scope: statements. scope: blocks as a whole. scope: a statement's expressions, and blocks. scope: Check. scope: Check, as a whole. The document's Check: its memory. The document's Check: expressions. The document's Check: expressions, one behind the other. The document's Check: statements. The document's Check: a statement behind its expressions. The document's Check: a statement's expressions, and blocks. The document's Check, as a whole. The document's Check, as a whole. How much there is in what was parsed: no more than the text has bytes; the laws on chapter 4. Reading a text step by step: what each reader does at texts of a known form. What the library's functions on texts answer: strings.Contains, strings.IndexByte. -/
import Derived.Test.YtpllgpgdcbgalaaDoorG6
set_option linter.unusedSimpArgs false
set_option linter.unusedVariables false
set_option maxRecDepth 8000
namespace Go.Proofs.YtpllgpgdcbgalaaDoor
open Go Go.RowKit
namespace VM
theorem left_lt' {α : Type} {m : St → α × St} (hm : Nice m) {st : St} (h : st.2 = 0) : left (m st).2 < left st := by
  unfold left
  rw [if_pos h]
  split
  · rename_i h2
    have := hm.eats st h h2
    omega
  · omega
theorem Flow.left {a b : St} (h : Flow a b) : left b ≤ left a := by
  unfold VM.left
  split
  · rename_i h2
    rw [if_pos (h.2 h2)]; have := h.1; omega
  · omega
end VM
section
variable {g : Nat} {st st' : VM.St} {H : Heap} {n : Nat} {Q : QT}
theorem zrm (A : Nat → Prop) : BelO A (PR st) := by
  intro i y hy
  match i with
  | 0 => simp [PR] at hy; subst hy; exact .str _
  | 1 => simp [PR] at hy; subst hy; exact .int _ _
  | i + 2 => simp [PR] at hy
theorem za.parser {P : Program} {f : FuncId} {args : List AV} {r : AV} (hg : H g = some (PR st)) (hraw : g < n → za P f args H n fun v H' _ => Frz H' n v r ∧ H' g = some (PR st') ∧ ∀ y, y < n → y ≠ g → H' y = H y) (hq : Q r (H.put g (some (PR st'))) n) : za P f args H n Q := by
  refine za.tidy fun hlive => ?_
  have hgn := hlive g _ hg
  refine (za.gc (R := fun v H' => v = r ∧ H' = H.put g (some (PR st'))) (hraw hgn) fun v H' n' ⟨h1, h2, h3⟩ => ⟨r, _, ⟨rfl, rfl⟩, h1, fun y o ho => ?_⟩).mono fun v H' n' ⟨⟨h1, h2⟩, h3⟩ => by subst h1; subst h2; subst h3; exact hq
  by_cases hy : y = g
  · subst hy
    rw [Heap.put_at] at ho
    cases ho
    exact ⟨hgn, h2, .inr (zrm _)⟩
  · rw [Heap.put_ne _ _ hy] at ho
    exact ⟨hlive y o ho, by rw [h3 y (hlive y o ho) hy]; exact ho, .inl ho⟩
end
theorem zec {A : Nat → Prop} {l : List (List AV)} (h : ∀ x ∈ l, ∀ v ∈ x, Bel A v) : Bel A (.ro l) := .ro _ fun _ x _ v hx hv => h x (List.mem_of_getElem? hx) v (List.mem_of_getElem? hv)
mutual
theorem zid (A : Nat → Prop) : ∀ x : Ex, ∀ v ∈ x.avs, Bel A v
  | .mk k n t ar => by
    rw [Ex.avs]
    intro v hv
    simp only [List.mem_cons, List.not_mem_nil, or_false] at hv
    rcases hv with rfl | rfl | rfl | rfl
    · exact .int _ _
    · exact .int _ _
    · exact .str _
    · exact zec (zrk A ar)
theorem zrk (A : Nat → Prop) : ∀ l : List Ex, ∀ x ∈ Ex.avsL l, ∀ v ∈ x, Bel A v
  | [] => by simp [Ex.avsL]
  | x :: r => by
    rw [Ex.avsL]
    intro y hy
    rcases List.mem_cons.1 hy with rfl | h
    · exact zid A x
    · exact zrk A r y h
end
theorem zjv (x : Ex) (A : Nat → Prop) : Bel A (.agg x.avs) := .agg _ fun _ v hv => zid A x v (List.mem_of_getElem? hv)
def zxn (d : Nat) : Prop := ∀ (st : VM.St) (g : Nat) (H : Heap) (n : Nat) (Q : QT), st.1.length ≤ 1500 → H g = some (PR st) → Q (.agg (VM.exprF d st).1.avs) (H.put g (some (PR (VM.exprF d st).2))) n → za Tryd.prog 69 [.ptr g 0, .int .i64 (11 - (d : Int))] H n Q
theorem LC.parser {f : FuncId} {args : List AV} {r : AV} {g : Nat} {st st' : VM.St} {H : Heap} (hg : H g = some (PR st)) (hr : ∀ A : Nat → Prop, Bel A r)
    (h : ∀ (H : Heap) (n : Nat) (Q : QT), H g = some (PR st) → Q r (H.put g (some (PR st'))) n → za Tryd.prog f args H n Q) : LC Tryd.prog f args H [g] [] [(g, some (PR st'))] r := by
  refine LC.of_calls (fun x hx => ?_) (by simp [domD]) (fun A _ _ => hr A) (fun A _ _ x o hx ho => ?_) fun H' n' ha => ?_
  · simp at hx; subst hx; rw [hg]; rfl
  · simp [domD] at hx; subst hx
    simp [Heap.put_at] at ho
    subst ho
    exact zrm _
  · obtain ⟨a1, a2⟩ := ha g (by simp)
    refine h H' n' _ (a1.trans hg) ⟨rfl, Nat.le_refl _, fun x _ hx => ?_, fun x o hx ho => ?_⟩
    · simp [domD] at hx
      exact Heap.put_ne _ _ hx
    · simp [domD] at hx; subst hx
      simp [Heap.put_at] at ho
      rw [Heap.put_at, ho]
theorem zm.expr {d : Nat} (hE : zxn d) {st : VM.St} {g n : Nat} {H : Heap} {z : Int} {kt : Kt} (hz : z = 11 - (d : Int)) (hs : st.1.length ≤ 1500) (hg : H g = some (PR st)) (hk : kt (.agg (VM.exprF d st).1.avs) [g] [] [(g, some (PR (VM.exprF d st).2))]) : zm Tryd.prog (.clo 69 []) [.ptr g 0, .int .i64 z] H n kt := by
  subst hz
  exact ⟨_, [g], [], _, .inl rfl, LC.parser hg (zjv _) fun H n Q h1 h2 => hE st g H n Q hs h1 h2, hk⟩
def rowE (l : List Ex) : List AV := (l.map Ex.avs).flatten
theorem ztz (l : List Ex) : (rowE l).length = l.length * 4 := by
  unfold rowE
  induction l with
  | nil => rfl
  | cons x r ih => rw [List.map_cons, List.flatten_cons, List.length_append, ih, zcn, List.length_cons]; omega
theorem zoj (l : List Ex) (x : Ex) : rowE (l ++ [x]) = rowE l ++ x.avs := by simp [rowE]
inductive ArgS (H : Heap) (lo hi gx : Nat) : List Ex → AV → Prop
  | nil : ArgS H lo hi gx [] .nils
  | row {l : List Ex} {ga : Nat} : lo ≤ ga → ga < hi → ga ≠ gx → H ga = some (.row 4 (rowE l)) → ArgS H lo hi gx l (.slc ga 0 l.length)
structure ExL (H0 : Heap) (b g gx : Nat) (dz : Int) (c0 c1 c2 : AV) (l : List Ex) (st : VM.St) (H : Heap) (n : Nat) : Prop where
  r0 : H b = some (.row 1 [.ptr g 0])
  r1 : H (b + 1) = some (.row 1 [.int .i64 dz])
  r2 : ∃ cs, H (b + 2) = some (.row 4 cs) ∧ cs.length = 4
  rx : ∃ A, H gx = some (.row 4 [c0, c1, c2, A]) ∧ ArgS H (b + 3) n gx l A
  rg : H g = some (PR st)
  gb : g < b
  gx0 : b + 3 ≤ gx
  gx1 : gx < n
  keep : ∀ y, y < b → y ≠ g → H y = H0 y
  few : l.length + VM.left st ≤ 1502
  short : st.1.length ≤ 1500
theorem ArgS.keep {H H' : Heap} {lo hi hi' gx : Nat} {l : List Ex} {A : AV} (h : ArgS H lo hi gx l A) (hh : hi ≤ hi') (hk : ∀ y, lo ≤ y → y < hi → y ≠ gx → H' y = H y) : ArgS H' lo hi' gx l A := by
  cases h with
  | nil => exact .nil
  | row h1 h2 h3 h4 => exact .row h1 (by omega) h3 (by rw [hk _ h1 h2 h3]; exact h4)
theorem ExL.put {H0 H : Heap} {b g gx n : Nat} {dz : Int} {c0 c1 c2 : AV} {l : List Ex} {st st' : VM.St} (h : ExL H0 b g gx dz c0 c1 c2 l st H n) (hf : VM.Flow st st') : ExL H0 b g gx dz c0 c1 c2 l st' (H.put g (some (PR st'))) n := by
  have hb := h.gb
  have hx := h.gx0
  obtain ⟨cs, h2, h3⟩ := h.r2
  obtain ⟨A, h4, h5⟩ := h.rx
  exact ⟨by rw [Heap.put_ne _ _ (by omega)]; exact h.r0, by rw [Heap.put_ne _ _ (by omega)]; exact h.r1, ⟨cs, by rw [Heap.put_ne _ _ (by omega)]; exact h2, h3⟩, ⟨A, by rw [Heap.put_ne _ _ (by omega)]; exact h4, h5.keep (Nat.le_refl _) fun y hy _ _ => Heap.put_ne _ _ (by omega)⟩, Heap.put_at _ _ _, hb, hx, h.gx1, fun y hy hne => by rw [Heap.put_ne _ _ hne]; exact h.keep y hy hne, by have := hf.left; have := h.few; omega, Nat.le_trans hf.1 h.short⟩
theorem zlo (x : Ex) : ∀ v ∈ x.avs, v.one = true := by
  cases x
  rw [zdq]
  intro v hv
  simp only [List.mem_cons, List.not_mem_nil, or_false] at hv
  rcases hv with rfl | rfl | rfl | rfl <;> rfl
theorem ExL.next {H0 H HF : Heap} {b g gx n : Nat} {dz : Int} {c0 c1 c2 : AV} {l : List Ex} {st st' : VM.St} (h : ExL H0 b g gx dz c0 c1 c2 l st H n) (x : Ex) (hl : VM.left st' < VM.left st) (hle : st'.1.length ≤ st.1.length) (f1 : HF g = some (PR st')) (f2 : HF gx = some (.row 4 [c0, c1, c2, .slc (n + 1) 0 (l.length + 1)])) (f3 : HF (n + 1) = some (.row 4 (rowE (l ++ [x]))))
    (f4 : ∀ y, y < b + 3 → y ≠ g → HF y = H y) : ExL H0 b g gx dz c0 c1 c2 (l ++ [x]) st' HF (n + 2) := by
  have hb := h.gb
  have hx0 := h.gx0
  have hx1 := h.gx1
  have hfew := h.few
  have hsh := h.short
  obtain ⟨cs2, r2, r2l⟩ := h.r2
  refine ⟨by rw [f4 b (by omega) (by omega)]; exact h.r0, by rw [f4 _ (by omega) (by omega)]; exact h.r1, ⟨cs2, by rw [f4 _ (by omega) (by omega)]; exact r2, r2l⟩, ⟨_, f2, ?_⟩, f1, hb, hx0, by omega, fun y hy hne => by rw [f4 y (by omega) hne]; exact h.keep y hy hne, by rw [List.length_append]; simp only [List.length_cons, List.length_nil]; omega, by omega⟩
  have := ArgS.row (H := HF) (lo := b + 3) (hi := n + 2) (gx := gx) (l := l ++ [x]) (ga := n + 1) (by omega) (by omega) (by omega) f3
  rw [List.length_append] at this
  exact this
end Go.Proofs.YtpllgpgdcbgalaaDoor
set_option maxRecDepth 8000
namespace Go.Proofs.YtpllgpgdcbgalaaDoor
open Go Go.RowKit
structure ExE (H0 : Heap) (n g : Nat) (dz : Int) (st : VM.St) (H : Heap) : Prop where
  r0 : H n = some (.row 1 [.ptr g 0])
  r1 : H (n + 1) = some (.row 1 [.int .i64 dz])
  r2 : H (n + 2) = some (.row 4 [.int .i64 0, .int .i64 0, .str [], .nils])
  rg : H g = some (PR st)
  gb : g < n
  keep : ∀ y, y < n → y ≠ g → H y = H0 y
def ExQ (H0 : Heap) (n g : Nat) (r : AV) (st' : VM.St) (Q : QT) : Prop := ∀ v H' n', Frz H' n v r → H' g = some (PR st') → (∀ y, y < n → y ≠ g → H' y = H0 y) → Q v H' n'
theorem ExE.put {H0 H : Heap} {n g : Nat} {dz : Int} {st st' : VM.St} (h : ExE H0 n g dz st H) : ExE H0 n g dz st' (H.put g (some (PR st'))) := by
  have hb := h.gb
  exact ⟨by rw [Heap.put_ne _ _ (by omega)]; exact h.r0, by rw [Heap.put_ne _ _ (by omega)]; exact h.r1, by rw [Heap.put_ne _ _ (by omega)]; exact h.r2, Heap.put_at _ _ _, hb, fun y hy hne => by rw [Heap.put_ne _ _ hne]; exact h.keep y hy hne⟩
theorem zuj {H : Heap} {n : Nat} {k z : Int} {t : Str} : Frz H n (.agg [.int .i64 k, .int .i64 z, .str t, .nils]) (.agg (Ex.mk k z t []).avs) := by
  rw [zdq]
  refine .agg _ _ rfl fun j v u hv hu => ?_
  match j with
  | 0 => cases hv; cases hu; exact .same _ (.int _ _)
  | 1 => cases hv; cases hu; exact .same _ (.int _ _)
  | 2 => cases hv; cases hu; exact .same _ (.str _)
  | 3 => cases hv; cases hu; exact .nils
theorem ExE.leaf {H0 H H' : Heap} {n g m : Nat} {dz k z : Int} {t : Str} {st st' : VM.St} {Q : QT} (h : ExE H0 n g dz st H) (hq : ExQ H0 n g (.agg (Ex.mk k z t []).avs) st' Q) (h1 : H' g = some (PR st')) (h2 : ∀ y, y < n → y ≠ g → H' y = H y) : Q (.agg [.int .i64 k, .int .i64 z, .str t, .nils]) H' m :=
  hq _ _ _ zuj h1 fun y hy hne => by rw [h2 y hy hne]; exact h.keep y hy hne
theorem zqy {w : Str} {v : Int} (h : Lib.atoiAll w = .ok v) : -9223372036854775808 ≤ v ∧ v ≤ 9223372036854775807 := by
  unfold Lib.atoiAll at h
  split at h
  · cases h
  · dsimp only at h
    split at h
    · cases h
    · cases h
    · rename_i u _
      split at h
      · cases h
      · split at h
        · cases h
        · cases h
          split <;> omega
end Go.Proofs.YtpllgpgdcbgalaaDoor
namespace Go.Proofs.YtpllgpgdcbgalaaDoor
open Go Go.RowKit
theorem zmu {sz : Nat} : ∀ {xs : List (List AV)}, (∀ x ∈ xs, x.length = sz) → xs.flatten.length = xs.length * sz
  | [], _ => by simp
  | y :: r, hs => by rw [List.flatten_cons, List.length_append, zmu fun z hz => hs z (by simp [hz]), hs y (by simp), List.length_cons, Nat.succ_mul, Nat.add_comm]
theorem znx {sz : Nat} : ∀ {xs : List (List AV)}, (∀ x ∈ xs, x.length = sz) → ∀ {i : Nat} {x : List AV}, xs[i]? = some x → (xs.flatten.drop (i * sz)).take sz = x
  | [], _, i, x, hx => by simp at hx
  | y :: r, hs, 0, x, hx => by
    simp at hx; subst hx
    rw [Nat.zero_mul, List.drop_zero, List.flatten_cons, List.take_append_of_le_length (by rw [hs y (by simp)]; omega), List.take_of_length_le (by rw [hs y (by simp)]; omega)]
  | y :: r, hs, i + 1, x, hx => by
    have hy : y.length = sz := hs y (by simp)
    rw [List.flatten_cons, Nat.succ_mul, List.drop_append, List.drop_of_length_le (by omega), List.nil_append, show i * sz + sz - y.length = i * sz by omega]
    exact znx (fun z hz => hs z (by simp [hz])) (by simpa using hx)
inductive zay (H : Heap) (nx sz : Nat) (xs : List (List AV)) : AV → Prop
  | ro : zay H nx sz xs (.ro xs)
  | slc (g : Nat) : g < nx → H g = some (.row sz xs.flatten) → zay H nx sz xs (.slc g 0 xs.length)
  | nils : xs = [] → zay H nx sz xs .nils
theorem zay.keep {H H' : Heap} {nx nx' sz : Nat} {xs : List (List AV)} {a : AV} (h : zay H nx sz xs a) (hk : ∀ g, g < nx → H' g = H g) (hn : nx ≤ nx') : zay H' nx' sz xs a := by
  cases h with
  | ro => exact .ro
  | slc g h1 h2 => exact .slc g (by omega) (by rw [hk g h1]; exact h2)
  | nils h => exact .nils h
theorem zay.len {H : Heap} {nx sz : Nat} {xs : List (List AV)} {a : AV} (h : zay H nx sz xs a) {k : AV → Prop} : LNL a k = k (.int .i64 xs.length) := by
  cases h with
  | ro => simp
  | slc g h1 h2 => simp
  | nils h => subst h; simp
theorem zay.ld {H : Heap} {nx sz : Nat} {xs : List (List AV)} {a : AV} (h : zay H nx sz xs a) (hs : ∀ x ∈ xs, x.length = sz) {ki : IntKind} {i : Nat} {x : List AV} (hx : xs[i]? = some x) {k : AV → Prop} (hk : k (.agg x)) : IA sz a (.int ki i) fun p => LD true sz p H k := by
  obtain ⟨hi, hx'⟩ := List.getElem?_eq_some_iff.1 hx
  have hxl : x.length = sz := hs x (List.mem_of_getElem? hx)
  cases h with
  | ro =>
    rw [zvj]
    have e : xs.getD i [] = x := by simp [List.getD_eq_getElem?_getD, hx]
    simp only [Int.toNat_natCast, e, zry]
    refine ⟨by omega, by omega, hxl, by omega, ?_⟩
    rw [List.drop_zero, List.take_of_length_le (by omega)]
    exact hk
  | slc g h1 h2 =>
    rw [zwi]
    simp only [Int.toNat_natCast, zue, h2, rowk]
    refine ⟨by omega, by omega, ?_, ?_⟩
    · rw [zmu hs]
      have : (i + 1) * sz ≤ xs.length * sz := Nat.mul_le_mul_right _ hi
      rw [Nat.succ_mul] at this; omega
    · rw [Nat.zero_add, znx hs hx]; exact hk
  | nils h => subst h; simp at hx
theorem zay.frz {H : Heap} {nx sz : Nat} {xs : List (List AV)} {a : AV} (h : zay H nx sz xs a) (hs : ∀ x ∈ xs, x.length = sz) (hf : ∀ x ∈ xs, ∀ v ∈ x, flat v = true ∧ Bel (fun _ => False) v) (hro : Bel (fun _ => False) (.ro xs)) : Frz H 0 a (.ro xs) := by
  have hb : ∀ c ∈ xs.flatten, Bel (fun x => x < 0) c := by
    intro c hc
    obtain ⟨x, hx, hcx⟩ := List.mem_flatten.1 hc
    exact (hf x hx c hcx).2.mono fun _ h => h.elim
  cases h with
  | ro => exact .same _ (hro.mono fun _ h => h.elim)
  | slc g h1 h2 => exact Frz.row (Nat.zero_le _) h2 rfl hs rfl hb
  | nils h => subst h; exact .nils
end Go.Proofs.YtpllgpgdcbgalaaDoor
namespace Go.Proofs.YtpllgpgdcbgalaaDoor
open Go Go.RowKit
inductive FL (H : Heap) (nx : Nat) : List AV → List AV → Prop
  | nil : FL H nx [] []
  | cons {u v : AV} {us vs : List AV} : Frz H nx u v → FL H nx us vs → FL H nx (u :: us) (v :: vs)
section
variable {H : Heap} {nx : Nat}
theorem FL.append : ∀ {us vs us' vs' : List AV}, FL H nx us vs → FL H nx us' vs' → FL H nx (us ++ us') (vs ++ vs')
  | _, _, _, _, .nil, k => k
  | _, _, _, _, .cons a b, k => .cons a (b.append k)
theorem FL.same : ∀ {l : List AV}, (∀ c ∈ l, Bel (· < nx) c) → FL H nx l l
  | [], _ => .nil
  | c :: r, h => .cons (.same _ (h c (by simp))) (FL.same fun x hx => h x (by simp [hx]))
theorem FL.get : ∀ {us vs : List AV}, FL H nx us vs → ∀ {j : Nat} {v : AV}, vs[j]? = some v → ∃ u, us[j]? = some u ∧ Frz H nx u v
  | _, _, .nil, j, v, h => by simp at h
  | _, _, .cons a b, 0, v, h => by simp at h; subst h; exact ⟨_, rfl, a⟩
  | _, _, .cons a b, j + 1, v, h => by simpa using b.get (j := j) (by simpa using h)
theorem FL.len : ∀ {us vs : List AV}, FL H nx us vs → us.length = vs.length
  | _, _, .nil => rfl
  | _, _, .cons a b => by simp [b.len]
theorem Frz.rowL {g off len sz : Nat} {cells : List AV} {xs : List (List AV)} (hg : nx ≤ g) (hH : H g = some (.row sz cells)) (hl : xs.length = len) (hs : ∀ x ∈ xs, x.length = sz) (hb : off + len * sz ≤ cells.length) (hc : FL H nx ((cells.drop off).take (len * sz)) xs.flatten) :
    Frz H nx (.slc g off len) (.ro xs) := by
  have key : ∀ (i : Nat) (x : List AV) (j : Nat) (v : AV), xs[i]? = some x → x[j]? = some v → ∃ u, cells[off + i * sz + j]? = some u ∧ Frz H nx u v := fun i x j v hx hv => by
    have e1 := znx hs hx
    have hj : j < sz := by rw [← hs x (List.mem_of_getElem? hx)]; exact (List.getElem?_eq_some_iff.1 hv).1
    have hv2 : xs.flatten[i * sz + j]? = some v := by
      have e2 := congrArg (·[j]?) e1
      simp only [List.getElem?_take, List.getElem?_drop, hj, if_true] at e2
      rw [e2]; exact hv
    obtain ⟨u, q1, q2⟩ := hc.get hv2
    refine ⟨u, ?_, q2⟩
    rw [List.getElem?_take] at q1
    split at q1
    · rw [List.getElem?_drop] at q1; rw [Nat.add_assoc]; exact q1
    · cases q1
  refine .slc g off _ sz cells _ hg hH hb hl hs (fun i j => (cells[off + i * sz + j]?).getD .junk) (fun i x j v hx hv => ?_) (fun i x j v hx hv => ?_)
  · obtain ⟨u, q1, q2⟩ := key i x j v hx hv; rw [q1]; rfl
  · obtain ⟨u, q1, q2⟩ := key i x j v hx hv; rw [q1]; exact q2
theorem Frz.rowW {g len sz : Nat} {cells : List AV} {xs : List (List AV)} (hg : nx ≤ g) (hH : H g = some (.row sz cells)) (hl : xs.length = len) (hs : ∀ x ∈ xs, x.length = sz) (hc : FL H nx cells xs.flatten) : Frz H nx (.slc g 0 len) (.ro xs) := by
  have e : cells.length = len * sz := by rw [hc.len, zmu hs, hl]
  refine .rowL hg hH hl hs (by omega) ?_
  rw [List.drop_zero, List.take_of_length_le (by omega)]; exact hc
theorem FL.agg {us vs : List AV} (h : FL H nx us vs) : Frz H nx (.agg us) (.agg vs) := by
  refine .agg _ _ h.len.symm fun j v u hv hu => ?_
  obtain ⟨w, q1, q2⟩ := h.get hu
  rw [hv] at q1; cases q1; exact q2
theorem FL.tup {us vs : List AV} (h : FL H nx us vs) : Frz H nx (.tup us) (.tup vs) := by
  refine .tup _ _ h.len.symm fun j v u hv hu => ?_
  obtain ⟨w, q1, q2⟩ := h.get hu
  rw [hv] at q1; cases q1; exact q2
end
end Go.Proofs.YtpllgpgdcbgalaaDoor
set_option maxRecDepth 8000
namespace Go.Proofs.YtpllgpgdcbgalaaDoor
open Go Go.RowKit
theorem zps {H H' : Heap} {lo hi gx N : Nat} {l : List Ex} {A : AV} (h : ArgS H lo hi gx l A) (hN : N ≤ lo) (hk : ∀ y, lo ≤ y → y ≠ gx → H' y = H y) : Frz H' N A (.ro (l.map Ex.avs)) := by
  cases h with
  | nil => exact .nils
  | @row l ga h1 h2 h3 h4 =>
    refine Frz.rowW (cells := rowE l) (sz := 4) (by omega) (by rw [hk _ h1 h3]; exact h4) (by simp) (fun x hx => ?_) (FL.same fun c hc => ?_)
    · obtain ⟨y, _, rfl⟩ := List.mem_map.1 hx; exact zcn y
    · unfold rowE at hc
      obtain ⟨x, hx, hc⟩ := List.mem_flatten.1 hc
      obtain ⟨y, _, rfl⟩ := List.mem_map.1 hx
      exact zid _ y c hc
def fits (want : Int) (k : Nat) : Prop := if 0 ≤ want then (k : Int) = want else k ≤ 4
instance (want : Int) (k : Nat) : Decidable (fits want k) := by unfold fits; exact inferInstance
theorem ExL.done {H0 H : Heap} {n g gx m : Nat} {dz k z : Int} {t : Str} {l : List Ex} {st : VM.St} {A : AV} {Q : QT} (h : ExL H0 n g gx dz (.int .i64 k) (.int .i64 z) (.str t) l st H m) (hA : H gx = some (.row 4 [.int .i64 k, .int .i64 z, .str t, A])) (hq : ExQ H0 n g (.agg (Ex.mk k z t l).avs) st Q) (o : Option AObj) (m' : Nat) : Q (.agg [.int .i64 k, .int .i64 z, .str t, A]) (H.put (n + 2) o) m' := by
  have hb := h.gb
  obtain ⟨A', h1, h2⟩ := h.rx
  rw [hA] at h1
  cases h1
  refine hq _ _ _ ?_ (by rw [Heap.put_ne _ _ (by omega)]; exact h.rg) fun y hy hne => by rw [Heap.put_ne _ _ (by omega)]; exact h.keep y hy hne
  rw [zdq]
  exact FL.agg (.cons (.same _ (.int _ _)) (.cons (.same _ (.int _ _)) (.cons (.same _ (.str _)) (.cons (zps h2 (by omega) fun y hy _ => Heap.put_ne _ _ (by omega)) .nil))))
theorem zqc {H : Heap} {lo hi gx : Nat} {l : List Ex} {A : AV} (h : ArgS H lo hi gx l A) : A.one = true := by
  cases h <;> rfl
def ops5 : List Str := [[43], [45], [42], [60], [61]]
def ops6 : List Str := [[99, 101, 108, 108], [108, 101, 102, 116], [114, 105, 103, 104, 116], [97, 115, 107], [104, 101, 114, 101], [103, 111]]
def zmy : List Int := [2, 1, 1, 1, 0, 1]
structure Hd where
  k : Int
  z : Int
  t : Str
  want : Int
def Hd.avs (h : Hd) : List AV := [.int .i64 h.k, .int .i64 h.z, .str h.t, .nils]
structure FmH (H0 : Heap) (n g gx : Nat) (dz : Int) (st : VM.St) (p : Hd) (H : Heap) : Prop where
  r0 : H n = some (.row 1 [.ptr g 0])
  r1 : H (n + 1) = some (.row 1 [.int .i64 dz])
  r2 : H (n + 2) = some (.row 4 [.int .i64 0, .int .i64 0, .str [], .nils])
  rg : H g = some (PR st)
  rx : H gx = some (.row 4 p.avs)
  gb : g < n
  gx0 : n + 3 ≤ gx
  keep : ∀ y, y < n → y ≠ g → H y = H0 y
theorem FmH.put {H0 H : Heap} {n g gx x : Nat} {dz : Int} {st : VM.St} {p : Hd} {o : Option AObj} (h : FmH H0 n g gx dz st p H) (hx : gx < x) : FmH H0 n g gx dz st p (H.put x o) := by
  have h1 := h.gb
  have h2 := h.gx0
  exact ⟨by rw [Heap.put_ne _ _ (by omega)]; exact h.r0, by rw [Heap.put_ne _ _ (by omega)]; exact h.r1, by rw [Heap.put_ne _ _ (by omega)]; exact h.r2, by rw [Heap.put_ne _ _ (by omega)]; exact h.rg, by rw [Heap.put_ne _ _ (by omega)]; exact h.rx, h1, h2, fun y hy hne => by rw [Heap.put_ne _ _ (by omega)]; exact h.keep y hy hne⟩
theorem FmH.head {H0 H : Heap} {n g gx : Nat} {dz : Int} {st : VM.St} {p q : Hd} (h : FmH H0 n g gx dz st p H) : FmH H0 n g gx dz st q (H.put gx (some (.row 4 q.avs))) := by
  have h1 := h.gb
  have h2 := h.gx0
  exact ⟨by rw [Heap.put_ne _ _ (by omega)]; exact h.r0, by rw [Heap.put_ne _ _ (by omega)]; exact h.r1, by rw [Heap.put_ne _ _ (by omega)]; exact h.r2, by rw [Heap.put_ne _ _ (by omega)]; exact h.rg, Heap.put_at _ _ _, h1, h2, fun y hy hne => by rw [Heap.put_ne _ _ (by omega)]; exact h.keep y hy hne⟩
theorem FmH.state {H0 H : Heap} {n g gx : Nat} {dz : Int} {st st' : VM.St} {p : Hd} (h : FmH H0 n g gx dz st p H) : FmH H0 n g gx dz st' p (H.put g (some (PR st'))) := by
  have h1 := h.gb
  have h2 := h.gx0
  exact ⟨by rw [Heap.put_ne _ _ (by omega)]; exact h.r0, by rw [Heap.put_ne _ _ (by omega)]; exact h.r1, by rw [Heap.put_ne _ _ (by omega)]; exact h.r2, Heap.put_at _ _ _, by rw [Heap.put_ne _ _ (by omega)]; exact h.rx, h1, h2, fun y hy hne => by rw [Heap.put_ne _ _ hne]; exact h.keep y hy hne⟩
end Go.Proofs.YtpllgpgdcbgalaaDoor
set_option maxRecDepth 8000
namespace Go.Proofs.YtpllgpgdcbgalaaDoor
open Go Go.RowKit
end Go.Proofs.YtpllgpgdcbgalaaDoor
set_option maxRecDepth 8000
namespace Go.Proofs.YtpllgpgdcbgalaaDoor
open Go Go.RowKit
mutual
theorem zju (A : Nat → Prop) : ∀ x : Sm, ∀ v ∈ x.avs, Bel A v
  | .mk k nm ar t e => by
    rw [Sm.avs]
    intro v hv
    simp only [List.mem_cons, List.not_mem_nil, or_false] at hv
    rcases hv with rfl | rfl | rfl | rfl | rfl
    · exact .int _ _
    · exact .str _
    · exact zec fun x hx v hv => by obtain ⟨y, _, rfl⟩ := List.mem_map.1 hx; exact zid A y v hv
    · exact zec (znz A t)
    · exact zec (znz A e)
theorem znz (A : Nat → Prop) : ∀ l : List Sm, ∀ x ∈ Sm.avsL l, ∀ v ∈ x, Bel A v
  | [] => by simp [Sm.avsL]
  | x :: r => by
    rw [Sm.avsL]
    intro y hy
    rcases List.mem_cons.1 hy with rfl | h
    · exact zju A x
    · exact znz A r y h
end
theorem zwb (x : Sm) (A : Nat → Prop) : Bel A (.agg x.avs) := .agg _ fun _ v hv => zju A x v (List.mem_of_getElem? hv)
theorem zst (x : Sm) : ∀ v ∈ x.avs, v.one = true := by
  cases x
  rw [zgm]
  intro v hv
  simp only [List.mem_cons, List.not_mem_nil, or_false] at hv
  rcases hv with rfl | rfl | rfl | rfl | rfl <;> rfl
inductive RowS {α : Type} (f : α → List AV) (sz : Nat) (H : Heap) (lo hi : Nat) : List α → AV → Prop
  | nil : RowS f sz H lo hi [] .nils
  | row {l : List α} {ga : Nat} : lo ≤ ga → ga < hi → H ga = some (.row sz (l.map f).flatten) → RowS f sz H lo hi l (.slc ga 0 l.length)
section
variable {α : Type} {f : α → List AV} {sz : Nat}
theorem RowS.keep {H H' : Heap} {lo hi hi' : Nat} {l : List α} {A : AV} (h : RowS f sz H lo hi l A) (hh : hi ≤ hi') (hk : ∀ y, lo ≤ y → y < hi → H' y = H y) : RowS f sz H' lo hi' l A := by
  cases h with
  | nil => exact .nil
  | row h1 h2 h4 => exact .row h1 (by omega) (by rw [hk _ h1 h2]; exact h4)
theorem zki (hf : ∀ x, (f x).length = sz) (l : List α) : ((l.map f).flatten).length = l.length * sz := by
  induction l with
  | nil => simp
  | cons x r ih => rw [List.map_cons, List.flatten_cons, List.length_append, ih, hf, List.length_cons, Nat.succ_mul]; omega
theorem zis (l : List α) (x : α) : ((l ++ [x]).map f).flatten = (l.map f).flatten ++ f x := by simp
theorem RowS.frz {H H' : Heap} {lo hi N : Nat} {l : List α} {A : AV} (h : RowS f sz H lo hi l A) (hf : ∀ x, (f x).length = sz) (hb : ∀ (A : Nat → Prop) x, ∀ v ∈ f x, Bel A v) (hN : N ≤ lo) (hk : ∀ y, lo ≤ y → y < hi → H' y = H y) : Frz H' N A (.ro (l.map f)) := by
  cases h with
  | nil => exact .nils
  | @row l ga h1 h2 h4 =>
    refine Frz.rowW (cells := (l.map f).flatten) (sz := sz) (by omega) (by rw [hk _ h1 h2]; exact h4) (by simp) (fun x hx => ?_) (FL.same fun c hc => ?_)
    · obtain ⟨y, _, rfl⟩ := List.mem_map.1 hx; exact hf y
    · obtain ⟨x, hx, hc⟩ := List.mem_flatten.1 hc
      obtain ⟨y, _, rfl⟩ := List.mem_map.1 hx
      exact hb _ y c hc
theorem RowS.one {H : Heap} {lo hi : Nat} {l : List α} {A : AV} (h : RowS f sz H lo hi l A) : A.one = true := by
  cases h <;> rfl
end
def zxm (d : Nat) : Prop := ∀ (st : VM.St) (g : Nat) (H : Heap) (n : Nat) (Q : QT), st.1.length ≤ 1500 → H g = some (PR st) → Q (.agg (VM.stmtF d st).1.avs) (H.put g (some (PR (VM.stmtF d st).2))) n → za Tryd.prog 51 [.ptr g 0, .int .i64 (11 - (d : Int))] H n Q
theorem zm.stmt {d : Nat} (hE : zxm d) {st : VM.St} {g n : Nat} {H : Heap} {kt : Kt} (hs : st.1.length ≤ 1500) (hg : H g = some (PR st)) (hk : kt (.agg (VM.stmtF d st).1.avs) [g] [] [(g, some (PR (VM.stmtF d st).2))]) : zm Tryd.prog (.clo 51 []) [.ptr g 0, .int .i64 (11 - (d : Int))] H n kt :=
  ⟨_, [g], [], _, .inl rfl, LC.parser hg (zwb _) fun H n Q h1 h2 => hE st g H n Q hs h1 h2, hk⟩
structure StL (H0 : Heap) (b g : Nat) (dz : Int) (l : List Sm) (st : VM.St) (H : Heap) (n : Nat) : Prop where
  r0 : H b = some (.row 1 [.ptr g 0])
  r1 : H (b + 1) = some (.row 1 [.int .i64 dz])
  rx : ∃ A, H (b + 2) = some (.row 1 [A]) ∧ RowS Sm.avs 5 H (b + 3) n l A
  rg : H g = some (PR st)
  gb : g < b
  bn : b + 3 ≤ n
  keep : ∀ y, y < b → y ≠ g → H y = H0 y
  few : l.length + VM.left st ≤ 1502
  short : st.1.length ≤ 1500
theorem StL.put {H0 H : Heap} {b g n : Nat} {dz : Int} {l : List Sm} {st st' : VM.St} (h : StL H0 b g dz l st H n) (hf : VM.Flow st st') : StL H0 b g dz l st' (H.put g (some (PR st'))) n := by
  have hb := h.gb
  obtain ⟨A, h4, h5⟩ := h.rx
  exact ⟨by rw [Heap.put_ne _ _ (by omega)]; exact h.r0, by rw [Heap.put_ne _ _ (by omega)]; exact h.r1, ⟨A, by rw [Heap.put_ne _ _ (by omega)]; exact h4, h5.keep (Nat.le_refl _) fun y hy _ => Heap.put_ne _ _ (by omega)⟩, Heap.put_at _ _ _, hb, h.bn, fun y hy hne => by rw [Heap.put_ne _ _ hne]; exact h.keep y hy hne, by have := hf.left; have := h.few; omega, Nat.le_trans hf.1 h.short⟩
theorem StL.next {H0 H HF : Heap} {b g n : Nat} {dz : Int} {l : List Sm} {st st' : VM.St} (h : StL H0 b g dz l st H n) (x : Sm) (hl : VM.left st' < VM.left st) (hle : st'.1.length ≤ st.1.length) (f1 : HF g = some (PR st')) (f2 : HF (b + 2) = some (.row 1 [.slc (n + 1) 0 (l.length + 1)])) (f3 : HF (n + 1) = some (.row 5 ((l ++ [x]).map Sm.avs).flatten))
    (f4 : ∀ y, y < b + 2 → y ≠ g → HF y = H y) : StL H0 b g dz (l ++ [x]) st' HF (n + 2) := by
  have hb := h.gb
  have hx0 := h.bn
  have hfew := h.few
  have hsh := h.short
  refine ⟨by rw [f4 b (by omega) (by omega)]; exact h.r0, by rw [f4 _ (by omega) (by omega)]; exact h.r1, ⟨_, f2, ?_⟩, f1, hb, by omega, fun y hy hne => by rw [f4 y (by omega) hne]; exact h.keep y hy hne, by rw [List.length_append]; simp only [List.length_cons, List.length_nil]; omega, by omega⟩
  have := RowS.row (f := Sm.avs) (sz := 5) (H := HF) (lo := b + 3) (hi := n + 2) (l := l ++ [x]) (ga := n + 1) (by omega) (by omega) f3
  rw [List.length_append] at this
  exact this
end Go.Proofs.YtpllgpgdcbgalaaDoor
set_option maxRecDepth 8000
namespace Go.Proofs.YtpllgpgdcbgalaaDoor
open Go Go.RowKit
def zpe : List (Str × Int) := [([108, 101, 116], 1), ([115, 101, 116], 2), ([105, 102], 3), ([119, 104, 105, 108, 101], 4), ([115, 97, 121], 5), ([114, 101, 116, 117, 114, 110], 6), ([112, 117, 116, 108], 7), ([112, 117, 116, 114], 8), ([100, 111], 9)]
end Go.Proofs.YtpllgpgdcbgalaaDoor
set_option maxRecDepth 8000
namespace Go.Proofs.YtpllgpgdcbgalaaDoor
open Go Go.RowKit
namespace VM
end VM
inductive Lst : List Sm → AV → Prop
  | nils : Lst [] .nils
  | ro (l : List Sm) : Lst l (.ro (l.map Sm.avs))
theorem Lst.frz {H : Heap} {n : Nat} {l : List Sm} {A : AV} (h : Lst l A) : Frz H n A (.ro (l.map Sm.avs)) := by
  cases h with
  | nils => exact .nils
  | ro => exact .same _ (zec fun x hx v hv => by obtain ⟨y, _, rfl⟩ := List.mem_map.1 hx; exact zju _ y v hv)
theorem Lst.one {l : List Sm} {A : AV} (h : Lst l A) : A.one = true := by cases h <;> rfl
theorem Lst.sure {l : List Sm} {A : AV} (h : Lst l A) : A.sure = true := by cases h <;> rfl
structure SmE (H0 : Heap) (n g : Nat) (k : Int) (nm : Str) (ar : List Ex) (A2 A3 : AV) (st : VM.St) (H : Heap) (m : Nat) : Prop where
  rb : ∃ cs, H n = some (.row 5 cs) ∧ cs.length = 5
  rx : ∃ A, H (n + 2) = some (.row 5 [.int .i64 k, .str nm, A, A2, A3]) ∧ RowS Ex.avs 4 H (n + 3) m ar A
  rg : H g = some (PR st)
  gb : g < n
  bm : n + 3 ≤ m
  keep : ∀ y, y < n → y ≠ g → H y = H0 y
  short : st.1.length ≤ 1500
section
variable {H0 H : Heap} {n g m : Nat} {k : Int} {nm : Str} {ar : List Ex} {A2 A3 : AV} {st st' : VM.St} {Q : QT}
theorem SmE.state (h : SmE H0 n g k nm ar A2 A3 st H m) (hf : VM.Flow st st') : SmE H0 n g k nm ar A2 A3 st' (H.put g (some (PR st'))) m := by
  have hb := h.gb
  obtain ⟨A, h4, h5⟩ := h.rx
  obtain ⟨cs, h6, h7⟩ := h.rb
  exact ⟨⟨cs, by rw [Heap.put_ne _ _ (by omega)]; exact h6, h7⟩, ⟨A, by rw [Heap.put_ne _ _ (by omega)]; exact h4, h5.keep (Nat.le_refl _) fun y hy _ => Heap.put_ne _ _ (by omega)⟩, Heap.put_at _ _ _, hb, h.bm, fun y hy hne => by rw [Heap.put_ne _ _ hne]; exact h.keep y hy hne, Nat.le_trans hf.1 h.short⟩
theorem SmE.cells {k' : Int} {nm' : Str} {B2 B3 : AV} {A : AV} (h : SmE H0 n g k nm ar A2 A3 st H m) (hA : H (n + 2) = some (.row 5 [.int .i64 k, .str nm, A, A2, A3])) : SmE H0 n g k' nm' ar B2 B3 st (H.put (n + 2) (some (.row 5 [.int .i64 k', .str nm', A, B2, B3]))) m := by
  have hb := h.gb
  obtain ⟨A', h4, h5⟩ := h.rx
  rw [hA] at h4
  cases h4
  obtain ⟨cs, h6, h7⟩ := h.rb
  exact ⟨⟨cs, by rw [Heap.put_ne _ _ (by omega)]; exact h6, h7⟩, ⟨A, Heap.put_at _ _ _, h5.keep (Nat.le_refl _) fun y hy _ => Heap.put_ne _ _ (by omega)⟩, by rw [Heap.put_ne _ _ (by omega)]; exact h.rg, hb, h.bm, fun y hy hne => by rw [Heap.put_ne _ _ (by omega)]; exact h.keep y hy hne, h.short⟩
theorem SmE.done {t e : List Sm} {A : AV} (h : SmE H0 n g k nm ar A2 A3 st H m) (hA : H (n + 2) = some (.row 5 [.int .i64 k, .str nm, A, A2, A3])) (h2 : Lst t A2) (h3 : Lst e A3) (hq : ExQ H0 n g (.agg (Sm.mk k nm ar t e).avs) st Q) (o : Option AObj) (m' : Nat) : Q (.agg [.int .i64 k, .str nm, A, A2, A3]) (H.put n o) m' := by
  have hb := h.gb
  obtain ⟨A', q1, q2⟩ := h.rx
  rw [hA] at q1
  cases q1
  refine hq _ _ _ ?_ (by rw [Heap.put_ne _ _ (by omega)]; exact h.rg) fun y hy hne => by rw [Heap.put_ne _ _ (by omega)]; exact h.keep y hy hne
  rw [zgm]
  exact FL.agg (.cons (.same _ (.int _ _)) (.cons (.same _ (.str _)) (.cons (q2.frz zcn zid (by omega) fun y hy _ => Heap.put_ne _ _ (by omega)) (.cons h2.frz (.cons h3.frz .nil)))))
end
end Go.Proofs.YtpllgpgdcbgalaaDoor
set_option maxRecDepth 8000
namespace Go.Proofs.YtpllgpgdcbgalaaDoor
open Go Go.RowKit
theorem SmE.next {H0 H HF : Heap} {n g m : Nat} {k : Int} {nm : Str} {ar : List Ex} {A2 A3 : AV} {st st' : VM.St} (h : SmE H0 n g k nm ar A2 A3 st H m) (x : Ex) (hle : st'.1.length ≤ st.1.length) (f1 : HF g = some (PR st')) (f2 : HF (n + 2) = some (.row 5 [.int .i64 k, .str nm, .slc (m + 1) 0 (ar.length + 1), A2, A3])) (f3 : HF (m + 1) = some (.row 4 ((ar ++ [x]).map Ex.avs).flatten))
    (f4 : ∀ y, y < n + 2 → y ≠ g → HF y = H y) : SmE H0 n g k nm (ar ++ [x]) A2 A3 st' HF (m + 2) := by
  have hb := h.gb
  have hbm := h.bm
  have hsh := h.short
  obtain ⟨cs, h6, h7⟩ := h.rb
  refine ⟨⟨cs, by rw [f4 _ (by omega) (by omega)]; exact h6, h7⟩, ⟨_, f2, ?_⟩, f1, hb, by omega, fun y hy hne => by rw [f4 y (by omega) hne]; exact h.keep y hy hne, by omega⟩
  have := RowS.row (f := Ex.avs) (sz := 4) (H := HF) (lo := n + 3) (hi := m + 2) (l := ar ++ [x]) (ga := m + 1) (by omega) (by omega) f3
  rw [List.length_append] at this
  exact this
theorem SmE.old {H0 H : Heap} {n g m m' x : Nat} {k : Int} {nm : Str} {ar : List Ex} {A2 A3 : AV} {st : VM.St} {o : Option AObj} (h : SmE H0 n g k nm ar A2 A3 st H m) (hx : m ≤ x) (hm : m ≤ m') : SmE H0 n g k nm ar A2 A3 st (H.put x o) m' := by
  have hb := h.gb
  have hbm := h.bm
  obtain ⟨A, h4, h5⟩ := h.rx
  obtain ⟨cs, h6, h7⟩ := h.rb
  exact ⟨⟨cs, by rw [Heap.put_ne _ _ (by omega)]; exact h6, h7⟩, ⟨A, by rw [Heap.put_ne _ _ (by omega)]; exact h4, h5.keep hm fun y hy _ => Heap.put_ne _ _ (by omega)⟩, by rw [Heap.put_ne _ _ (by omega)]; exact h.rg, hb, by omega, fun y hy hne => by rw [Heap.put_ne _ _ (by omega)]; exact h.keep y hy hne, h.short⟩
end Go.Proofs.YtpllgpgdcbgalaaDoor
set_option maxRecDepth 8000
namespace Go.Proofs.YtpllgpgdcbgalaaDoor
open Go Go.RowKit
end Go.Proofs.YtpllgpgdcbgalaaDoor
set_option maxRecDepth 8000
namespace Go.Proofs.YtpllgpgdcbgalaaDoor
open Go Go.RowKit
def strC (w : Str) : List AV := [.str w]
theorem zm.n {st : VM.St} {g n : Nat} {H : Heap} {kt : Kt} (hs : st.1.length ≤ 1500) (hg : H g = some (PR st)) (hk : kt (.str (VM.nF st).1) [g] [] [(g, some (PR (VM.nF st).2))]) : zm Tryd.prog (.clo 29 []) [.ptr g 0] H n kt :=
  ⟨_, [g], [], _, .inl rfl, LC.parser hg (fun _ => .str _) fun H n Q h1 h2 => zwu hs h1 h2, hk⟩
structure PmL (H1 : Heap) (n f0 : Nat) (nm : Str) (ps : List Str) (st : VM.St) (H : Heap) (m : Nat) : Prop where
  rf : ∃ A, H f0 = some (.row 3 [.str nm, A, .nils]) ∧ RowS strC 1 H (f0 + 1) m ps A
  rg : H n = some (PR st)
  r1 : H (n + 1) = some (.row 1 [.ptr n 0])
  nf : n + 2 ≤ f0
  fm : f0 < m
  keep : ∀ y, y < f0 → y ≠ n → H y = H1 y
  few : ps.length + VM.left st ≤ 1502
  short : st.1.length ≤ 1500
theorem PmL.put {H1 H : Heap} {n f0 m : Nat} {nm : Str} {ps : List Str} {st st' : VM.St} (h : PmL H1 n f0 nm ps st H m) (hf : VM.Flow st st') : PmL H1 n f0 nm ps st' (H.put n (some (PR st'))) m := by
  have hb := h.nf
  obtain ⟨A, h4, h5⟩ := h.rf
  exact ⟨⟨A, by rw [Heap.put_ne _ _ (by omega)]; exact h4, h5.keep (Nat.le_refl _) fun y hy _ => Heap.put_ne _ _ (by omega)⟩, Heap.put_at _ _ _, by rw [Heap.put_ne _ _ (by omega)]; exact h.r1, hb, h.fm, fun y hy hne => by rw [Heap.put_ne _ _ hne]; exact h.keep y hy hne, by have := hf.left; have := h.few; omega, Nat.le_trans hf.1 h.short⟩
theorem PmL.next {H1 H HF : Heap} {n f0 m : Nat} {nm : Str} {ps : List Str} {st st' : VM.St} (h : PmL H1 n f0 nm ps st H m) (x : Str) (hl : VM.left st' < VM.left st) (hle : st'.1.length ≤ st.1.length) (f1 : HF n = some (PR st')) (f2 : HF f0 = some (.row 3 [.str nm, .slc (m + 1) 0 (ps.length + 1), .nils])) (f3 : HF (m + 1) = some (.row 1 ((ps ++ [x]).map strC).flatten))
    (f4 : ∀ y, y < f0 → y ≠ n → HF y = H y) : PmL H1 n f0 nm (ps ++ [x]) st' HF (m + 2) := by
  have hb := h.nf
  have hx0 := h.fm
  have hfew := h.few
  have hsh := h.short
  refine ⟨⟨_, f2, ?_⟩, f1, by rw [f4 _ (by omega) (by omega)]; exact h.r1, hb, by omega, fun y hy hne => by rw [f4 y hy hne]; exact h.keep y hy hne, by rw [List.length_append]; simp only [List.length_cons, List.length_nil]; omega, by omega⟩
  have := RowS.row (f := strC) (sz := 1) (H := HF) (lo := f0 + 1) (hi := m + 2) (l := ps ++ [x]) (ga := m + 1) (by omega) (by omega) f3
  rw [List.length_append] at this
  exact this
end Go.Proofs.YtpllgpgdcbgalaaDoor
set_option maxRecDepth 8000
namespace Go.Proofs.YtpllgpgdcbgalaaDoor
open Go Go.RowKit
inductive PsS (H : Heap) (lo hi gx : Nat) : List Str → AV → Prop
  | nil : PsS H lo hi gx [] .nils
  | row {l : List Str} {ga : Nat} : lo ≤ ga → ga < hi → ga ≠ gx → H ga = some (.row 1 (l.map strC).flatten) → PsS H lo hi gx l (.slc ga 0 l.length)
def rawF (p : Fnc × AV) : List AV := [.str p.1.name, p.2, .ro (p.1.body.map Sm.avs)]
inductive OutS (H : Heap) (lo hi : Nat) : List (Fnc × AV) → AV → Prop
  | nil : OutS H lo hi [] .nils
  | row {l : List (Fnc × AV)} {ga : Nat} : lo ≤ ga → ga < hi → H ga = some (.row 3 (l.map rawF).flatten) → (∀ p ∈ l, PsS H lo hi ga p.1.params p.2) → OutS H lo hi l (.slc ga 0 l.length)
theorem PsS.keep {H H' : Heap} {lo hi hi' gx gy : Nat} {l : List Str} {A : AV} (h : PsS H lo hi gx l A) (hh : hi ≤ hi') (hy : gy = gx ∨ hi ≤ gy) (hk : ∀ y, lo ≤ y → y < hi → y ≠ gx → H' y = H y) : PsS H' lo hi' gy l A := by
  cases h with
  | nil => exact .nil
  | row h1 h2 h3 h4 => exact .row h1 (by omega) (by omega) (by rw [hk _ h1 h2 h3]; exact h4)
theorem OutS.keep {H H' : Heap} {lo hi hi' : Nat} {l : List (Fnc × AV)} {A : AV} (h : OutS H lo hi l A) (hh : hi ≤ hi') (hk : ∀ y, lo ≤ y → y < hi → H' y = H y) : OutS H' lo hi' l A := by
  cases h with
  | nil => exact .nil
  | row h1 h2 h4 h5 => exact .row h1 (by omega) (by rw [hk _ h1 h2]; exact h4) fun p hp => (h5 p hp).keep hh (.inl rfl) fun y h1 h2 _ => hk y h1 h2
theorem zua (p : Fnc × AV) : (rawF p).length = 3 := rfl
theorem PsS.frz {H : Heap} {lo hi gx N : Nat} {l : List Str} {A : AV} (h : PsS H lo hi gx l A) (hN : N ≤ lo) : Frz H N A (.ro (l.map strC)) := by
  cases h with
  | nil => exact .nils
  | @row l ga h1 h2 h3 h4 =>
    refine Frz.rowW (cells := (l.map strC).flatten) (sz := 1) (by omega) h4 (by simp) (fun x hx => ?_) (FL.same fun c hc => ?_)
    · obtain ⟨y, _, rfl⟩ := List.mem_map.1 hx; rfl
    · obtain ⟨x, hx, hc⟩ := List.mem_flatten.1 hc
      obtain ⟨y, _, rfl⟩ := List.mem_map.1 hx
      rw [List.mem_singleton.1 hc]; exact .str _
theorem zrf {H : Heap} {lo hi ga N : Nat} (hN : N ≤ lo) : ∀ {l : List (Fnc × AV)}, (∀ p ∈ l, PsS H lo hi ga p.1.params p.2) → FL H N (l.map rawF).flatten (l.map fun p => p.1.avs).flatten
  | [], _ => .nil
  | p :: r, h => by
    rw [List.map_cons, List.flatten_cons, List.map_cons, List.flatten_cons]
    refine FL.append ?_ (zrf hN fun q hq => h q (by simp [hq]))
    refine .cons (.same _ (.str _)) (.cons ((h p (by simp)).frz hN) (.cons (.same _ (zec fun x hx v hv => ?_)) .nil))
    obtain ⟨y, _, rfl⟩ := List.mem_map.1 hx
    exact zju _ y v hv
theorem OutS.frz {H : Heap} {lo hi N : Nat} {l : List (Fnc × AV)} {A : AV} (h : OutS H lo hi l A) (hN : N ≤ lo) : Frz H N A (.ro (l.map fun p => p.1.avs)) := by
  cases h with
  | nil => exact .nils
  | @row l ga h1 h2 h4 h5 =>
    refine Frz.rowW (cells := (l.map rawF).flatten) (sz := 3) (by omega) h4 (by simp) (fun x hx => ?_) (zrf hN h5)
    obtain ⟨y, _, rfl⟩ := List.mem_map.1 hx; rfl
structure PaL (H0 : Heap) (n : Nat) (l : List (Fnc × AV)) (A : AV) (st : VM.St) (H : Heap) (m : Nat) : Prop where
  rg : H n = some (PR st)
  r1 : H (n + 1) = some (.row 1 [.ptr n 0])
  out : OutS H (n + 2) m l A
  bm : n + 2 ≤ m
  keep : ∀ y, y < n → H y = H0 y
  few : l.length + VM.left st ≤ 1502
  short : st.1.length ≤ 1500
theorem PaL.put {H0 H : Heap} {n m : Nat} {l : List (Fnc × AV)} {A : AV} {st st' : VM.St} (h : PaL H0 n l A st H m) (hf : VM.Flow st st') : PaL H0 n l A st' (H.put n (some (PR st'))) m := by
  have hb := h.bm
  exact ⟨Heap.put_at _ _ _, by rw [Heap.put_ne _ _ (by omega)]; exact h.r1, h.out.keep (Nat.le_refl _) fun y hy _ => Heap.put_ne _ _ (by omega), hb, fun y hy => by rw [Heap.put_ne _ _ (by omega)]; exact h.keep y hy, by have := hf.left; have := h.few; omega, Nat.le_trans hf.1 h.short⟩
theorem RowS.ps {H H' : Heap} {lo lo' hi hi' gx : Nat} {l : List Str} {A : AV} (h : RowS strC 1 H lo hi l A) (hl : lo' ≤ lo) (hh : hi ≤ hi') (hg : hi ≤ gx) (hk : ∀ y, lo ≤ y → y < hi → H' y = H y) : PsS H' lo' hi' gx l A := by
  cases h with
  | nil => exact .nil
  | row h1 h2 h3 => exact .row (by omega) (by omega) (by omega) (by rw [hk _ h1 h2]; exact h3)
end Go.Proofs.YtpllgpgdcbgalaaDoor
set_option maxRecDepth 8000
namespace Go.Proofs.YtpllgpgdcbgalaaDoor
open Go Go.RowKit
end Go.Proofs.YtpllgpgdcbgalaaDoor
set_option maxRecDepth 8000
namespace Go.Proofs.YtpllgpgdcbgalaaDoor
open Go Go.RowKit
namespace VM
end VM
end Go.Proofs.YtpllgpgdcbgalaaDoor
set_option maxRecDepth 8000
namespace Go.Proofs.YtpllgpgdcbgalaaDoor
open Go Go.RowKit
def owns : AV → List Nat
  | .slc g _ _ => [g]
  | _ => []
structure LkM (gk gm : Nat) (fns : List (Str × Nat)) (vars : Int) (ws : List Str) (A : AV) (H : Heap) (m : Nat) : Prop where
  row : H gk = some (.row 3 [.amap gm, .int .i64 vars, A])
  wr : RowS strC 1 H (gk + 1) m ws A
  map : H gm = some (.mp (fns.map fun p => (.str p.1, .int .i64 p.2)))
  gg : gm < gk
  gn : gk < m
structure Ext (gk : Nat) (A : AV) (H : Heap) (m : Nat) (A' : AV) (H' : Heap) (m' : Nat) : Prop where
  le : m ≤ m'
  keep : ∀ y, y < m → y ≠ gk → y ∉ owns A → H' y = H y
  own : ∀ y ∈ owns A', y ∈ owns A ∨ m ≤ y
theorem Ext.refl (gk : Nat) (A : AV) (H : Heap) (m : Nat) : Ext gk A H m A H m := ⟨Nat.le_refl _, fun _ _ _ _ => rfl, fun _ h => .inl h⟩
theorem Ext.trans {gk m1 m2 m3 : Nat} {A1 A2 A3 : AV} {H1 H2 H3 : Heap} (h : Ext gk A1 H1 m1 A2 H2 m2) (k : Ext gk A2 H2 m2 A3 H3 m3) : Ext gk A1 H1 m1 A3 H3 m3 := by
  have h1 := h.le
  have h2 := k.le
  refine ⟨by omega, fun y hy hne hno => ?_, fun y hy => ?_⟩
  · rw [k.keep y (by omega) hne fun hy2 => (h.own y hy2).elim hno (by omega)]
    exact h.keep y hy hne hno
  · rcases k.own y hy with h3 | h3
    · exact h.own y h3
    · exact .inr (by omega)
structure NmA (gk : Nat) (A : AV) (names : List Str) (H : Heap) (m : Nat) (a : AV) : Prop where
  arg : zay H m 1 (names.map strC) a
  far : ∀ y ∈ owns a, y ≠ gk ∧ y ∉ owns A
theorem NmA.ext {gk m m' : Nat} {A A' : AV} {H H' : Heap} {names : List Str} {a : AV} (h : NmA gk A names H m a) (e : Ext gk A H m A' H' m') : NmA gk A' names H' m' a := by
  have hle := e.le
  obtain ⟨h1, h2⟩ := h
  cases h1 with
  | ro => exact ⟨.ro, fun y hy => by simp [owns] at hy⟩
  | nils h => exact ⟨.nils h, fun y hy => by simp [owns] at hy⟩
  | slc g q1 q2 =>
    have hg := h2 g (by simp [owns])
    refine ⟨.slc g (by omega) (by rw [e.keep g q1 hg.1 hg.2]; exact q2), fun y hy => ?_⟩
    simp [owns] at hy
    subst hy
    exact ⟨hg.1, fun hy2 => (e.own _ hy2).elim hg.2 (by omega)⟩
end Go.Proofs.YtpllgpgdcbgalaaDoor
set_option maxRecDepth 8000
namespace Go.Proofs.YtpllgpgdcbgalaaDoor
open Go Go.RowKit
namespace VM
mutual
def exW : Ex → Nat
  | .mk _ _ _ ar => 1 + exWL ar
def exWL : List Ex → Nat
  | [] => 0
  | x :: r => exW x + exWL r
end
theorem exW_pos : ∀ x : Ex, 1 ≤ exW x
  | .mk _ _ _ _ => by unfold exW; omega
theorem len_exWL : ∀ l : List Ex, l.length ≤ exWL l
  | [] => by simp
  | x :: r => by have := exW_pos x; have := len_exWL r; unfold exWL; rw [List.length_cons]; omega
end VM
end Go.Proofs.YtpllgpgdcbgalaaDoor
set_option maxRecDepth 8000
namespace Go.Proofs.YtpllgpgdcbgalaaDoor
open Go Go.RowKit
theorem RowS.arg {H : Heap} {lo m : Nat} {names : List Str} {a : AV} (h : RowS strC 1 H lo m names a) : zay H m 1 (names.map strC) a := by
  cases h with
  | nil => exact .nils rfl
  | row h1 h2 h3 => have := zay.slc (xs := names.map strC) (sz := 1) _ h2 h3; rw [List.length_map] at this; exact this
structure OwN (gk : Nat) (A : AV) (lo : Nat) (names : List Str) (H : Heap) (m : Nat) (a : AV) : Prop where
  row : RowS strC 1 H lo m names a
  far : ∀ y ∈ owns a, y ≠ gk ∧ y ∉ owns A
theorem OwN.ext {gk lo m m' : Nat} {A A' a : AV} {H H' : Heap} {names : List Str} (h : OwN gk A lo names H m a) (e : Ext gk A H m A' H' m') : OwN gk A' lo names H' m' a := by
  have hle := e.le
  obtain ⟨h1, h2⟩ := h
  cases h1 with
  | nil => exact ⟨.nil, fun y hy => by simp [owns] at hy⟩
  | row q0 q1 q2 =>
    rename_i ga
    have hg := h2 ga (by simp [owns])
    refine ⟨.row q0 (by omega) (by rw [e.keep _ q1 hg.1 hg.2]; exact q2), fun y hy => ?_⟩
    simp [owns] at hy
    subst hy
    exact ⟨hg.1, fun hy2 => (e.own _ hy2).elim hg.2 (by omega)⟩
theorem LkM.old {gk gm m m' : Nat} {fns : List (Str × Nat)} {vars : Int} {ws : List Str} {A : AV} {H H' : Heap} (h : LkM gk gm fns vars ws A H m) (hm : m ≤ m') (hk : ∀ y, y < m → H' y = H y) : LkM gk gm fns vars ws A H' m' := by
  have h1 := h.gg
  have h2 := h.gn
  exact ⟨by rw [hk _ h2]; exact h.row, h.wr.keep hm fun y _ hy => hk y hy, by rw [hk _ (by omega)]; exact h.map, h1, by omega⟩
end Go.Proofs.YtpllgpgdcbgalaaDoor
set_option maxRecDepth 8000
namespace Go.Proofs.YtpllgpgdcbgalaaDoor
open Go Go.RowKit
namespace VM
mutual
def smW : Sm → Nat
  | .mk _ _ ar t e => 1 + exWL ar + smWL t + smWL e
def smWL : List Sm → Nat
  | [] => 0
  | x :: r => smW x + smWL r
end
end VM
end Go.Proofs.YtpllgpgdcbgalaaDoor
set_option maxRecDepth 8000
namespace Go.Proofs.YtpllgpgdcbgalaaDoor
open Go Go.RowKit
namespace VM
end VM
theorem Ext.old {gk m0 m m' : Nat} {A0 A : AV} {H0 H H' : Heap} (h : Ext gk A0 H0 m0 A H m) (hm : m ≤ m') (hk : ∀ y, y < m0 → y ≠ gk → H' y = H y) : Ext gk A0 H0 m0 A H' m' := by
  have h1 := h.le
  exact ⟨by omega, fun y hy hne hno => by rw [hk y hy hne]; exact h.keep y hy hne hno, h.own⟩
end Go.Proofs.YtpllgpgdcbgalaaDoor
set_option maxRecDepth 8000
namespace Go.Proofs.YtpllgpgdcbgalaaDoor
open Go Go.RowKit
namespace VM
end VM
end Go.Proofs.YtpllgpgdcbgalaaDoor
set_option maxRecDepth 8000
namespace Go.Proofs.YtpllgpgdcbgalaaDoor
open Go Go.RowKit
theorem zvn : ∀ x : Sm, 1 ≤ VM.smW x
  | .mk _ _ _ _ _ => by unfold VM.smW; omega
theorem zpq : ∀ l : List Sm, l.length ≤ VM.smWL l
  | [] => by simp
  | x :: r => by have := zvn x; have := zpq r; unfold VM.smWL; rw [List.length_cons]; omega
end Go.Proofs.YtpllgpgdcbgalaaDoor
set_option maxRecDepth 8000
namespace Go.Proofs.YtpllgpgdcbgalaaDoor
open Go Go.RowKit
def zeq : List Fnc → Nat
  | [] => 0
  | f :: r => f.params.length + VM.smWL f.body + zeq r
end Go.Proofs.YtpllgpgdcbgalaaDoor
set_option maxRecDepth 8000
namespace Go.Proofs.YtpllgpgdcbgalaaDoor
open Go Go.RowKit
end Go.Proofs.YtpllgpgdcbgalaaDoor
set_option maxRecDepth 8000
namespace Go.Proofs.YtpllgpgdcbgalaaDoor
open Go Go.RowKit
def wRow (ws : List Str) : List (AV × AV) := ws.map fun w => (AV.str w, AV.bool true)
structure RfM (gk gf gw : Nat) (fns : List (Str × Nat)) (vars : Int) (ws : List Str) (H : Heap) (m : Nat) : Prop where
  row : H gk = some (.row 3 [.amap gf, .int .i64 vars, .amap gw])
  map : H gf = some (.mp (fns.map fun p => (.str p.1, .int .i64 p.2)))
  wds : H gw = some (.mp (wRow ws))
  gf0 : gf < gw
  gw0 : gw < gk
  gn : gk < m
end Go.Proofs.YtpllgpgdcbgalaaDoor
set_option maxRecDepth 8000
namespace Go.Proofs.YtpllgpgdcbgalaaDoor
open Go Go.RowKit
structure RExt (gk gw : Nat) (H : Heap) (m : Nat) (H' : Heap) (m' : Nat) : Prop where
  le : m ≤ m'
  keep : ∀ y, y < m → y ≠ gk → y ≠ gw → H' y = H y
theorem RExt.refl (gk gw : Nat) (H : Heap) (m : Nat) : RExt gk gw H m H m := ⟨Nat.le_refl _, fun _ _ _ _ => rfl⟩
theorem RExt.trans {gk gw m1 m2 m3 : Nat} {H1 H2 H3 : Heap} (h : RExt gk gw H1 m1 H2 m2) (k : RExt gk gw H2 m2 H3 m3) : RExt gk gw H1 m1 H3 m3 := by
  have h1 := h.le
  have h2 := k.le
  exact ⟨by omega, fun y hy a b => by rw [k.keep y (by omega) a b]; exact h.keep y hy a b⟩
structure RNm (gk gw : Nat) (names : List Str) (H : Heap) (m : Nat) (a : AV) : Prop where
  arg : zay H m 1 (names.map strC) a
  far : ∀ y ∈ owns a, y ≠ gk ∧ y ≠ gw
theorem RNm.ext {gk gw m m' : Nat} {H H' : Heap} {names : List Str} {a : AV} (h : RNm gk gw names H m a) (e : RExt gk gw H m H' m') : RNm gk gw names H' m' a := by
  have hle := e.le
  obtain ⟨h1, h2⟩ := h
  cases h1 with
  | ro => exact ⟨.ro, h2⟩
  | nils h => exact ⟨.nils h, h2⟩
  | slc g q1 q2 =>
    have hg := h2 g (by simp [owns])
    exact ⟨.slc g (by omega) (by rw [e.keep g q1 hg.1 hg.2]; exact q2), h2⟩
end Go.Proofs.YtpllgpgdcbgalaaDoor
set_option maxRecDepth 8000
namespace Go.Proofs.YtpllgpgdcbgalaaDoor
open Go Go.RowKit
end Go.Proofs.YtpllgpgdcbgalaaDoor
set_option maxRecDepth 8000
namespace Go.Proofs.YtpllgpgdcbgalaaDoor
open Go Go.RowKit
structure RbS (gk gf gw : Nat) (fns : List (Str × Nat)) (H0 : Heap) (m0 : Nat) (names : List Str) (vars : Int) (ws : List Str) (a : AV) (H : Heap) (m : Nat) : Prop where
  rf : RfM gk gf gw fns vars ws H m
  nm : RNm gk gw names H m a
  ext : RExt gk gw H0 m0 H m
  v0 : 0 ≤ vars
  v8 : vars ≤ 8
theorem RbS.ext' {gk gf gw : Nat} {fns : List (Str × Nat)} {H0 H H' : Heap} {m0 m m' : Nat} {names : List Str} {vars vars' : Int} {ws ws' : List Str} {a : AV} (h : RbS gk gf gw fns H0 m0 names vars ws a H m) (e : RExt gk gw H m H' m') (r : RfM gk gf gw fns vars' ws' H' m') (h0 : 0 ≤ vars') (h8 : vars' ≤ 8) : RbS gk gf gw fns H0 m0 names vars' ws' a H' m' :=
  ⟨r, h.nm.ext e, h.ext.trans e, h0, h8⟩
end Go.Proofs.YtpllgpgdcbgalaaDoor
set_option maxRecDepth 8000
namespace Go.Proofs.YtpllgpgdcbgalaaDoor
open Go Go.RowKit
theorem RfM.old {gk gf gw m m' : Nat} {fns : List (Str × Nat)} {vars : Int} {ws : List Str} {H H' : Heap} (h : RfM gk gf gw fns vars ws H m) (hm : m ≤ m') (hk : ∀ y, y < m → H' y = H y) : RfM gk gf gw fns vars ws H' m' := by
  have h1 := h.gf0
  have h2 := h.gw0
  have h3 := h.gn
  exact ⟨by rw [hk _ h3]; exact h.row, by rw [hk _ (by omega)]; exact h.map, by rw [hk _ (by omega)]; exact h.wds, h1, h2, by omega⟩
theorem RExt.old {gk gw m m' : Nat} {H H' : Heap} (hm : m ≤ m') (hk : ∀ y, y < m → H' y = H y) : RExt gk gw H m H' m' := ⟨hm, fun y hy _ _ => hk y hy⟩
theorem RExt.gk {gk gw m m' : Nat} {H H' : Heap} (hm : m ≤ m') (hk : ∀ y, y < m → y ≠ gk → H' y = H y) : RExt gk gw H m H' m' := ⟨hm, fun y hy h _ => hk y hy h⟩
end Go.Proofs.YtpllgpgdcbgalaaDoor
set_option maxRecDepth 8000
namespace Go.Proofs.YtpllgpgdcbgalaaDoor
open Go Go.RowKit
end Go.Proofs.YtpllgpgdcbgalaaDoor
set_option maxRecDepth 8000
namespace Go.Proofs.YtpllgpgdcbgalaaDoor
open Go Go.RowKit
@[simp ↓] theorem zaev {g : Nat} {H : Heap} {k : AV → Prop} : LNM (.amap g) H k = MAPK (H g) fun es => k (.int .i64 (es.length : Int)) := by
  simp only [LNM, LENM, MAPK]
  cases hg : H g with
  | none => simp
  | some o => cases o <;> simp [qk]
end Go.Proofs.YtpllgpgdcbgalaaDoor
set_option maxRecDepth 8000
namespace Go.Proofs.YtpllgpgdcbgalaaDoor
open Go Go.RowKit
end Go.Proofs.YtpllgpgdcbgalaaDoor
set_option maxRecDepth 8000
namespace Go.Proofs.YtpllgpgdcbgalaaDoor
open Go Go.RowKit
namespace VM
theorem exWL_sum : ∀ l : List Ex, exWL l = (l.map exW).sum
  | [] => by simp [exWL]
  | x :: r => by simp [exWL, exWL_sum r]
theorem smWL_sum : ∀ l : List Sm, smWL l = (l.map smW).sum
  | [] => by simp [smWL]
  | x :: r => by simp [smWL, smWL_sum r]
def Fits {α : Type} (m : St → α × St) (w : α → Nat) : Prop := ∀ st, (m st).2.2 = 0 → w (m st).1 + (m st).2.1.length ≤ st.1.length
theorem until_zero {α : Type} {m : St → α × St} : ∀ (k : Nat) (st : St), (untilF m k st).2.2 = 0 → st.2 = 0
  | 0, st, h => h
  | k + 1, st, h => by
    unfold untilF at h
    split at h
    · rename_i hc; exact hc.1
    · exact not_zero must_stuck h
theorem Fits.until {α : Type} {m : St → α × St} {w : α → Nat} (hf : Fits m w) : ∀ (k : Nat) (st : St), (untilF m k st).2.2 = 0 → ((untilF m k st).1.map w).sum + (untilF m k st).2.1.length ≤ st.1.length
  | 0, st, _ => by simp [untilF]
  | k + 1, st, h => by
    unfold untilF at h ⊢
    split
    · rename_i hc
      rw [if_pos hc] at h
      have h1 := hf.until k _ h
      have h2 := hf (trim st.1, 0) (until_zero k _ h)
      have h3 := trim_le st.1
      simp only [List.map_cons, List.sum_cons] at *
      omega
    · have := must_le 41 st
      simp only [List.map_nil, List.sum_nil]
      omega
theorem Fits.many {α : Type} {m : St → α × St} {w : α → Nat} (hf : Fits m w) : Fits (manyF m) (fun l => (l.map w).sum) := fun st h => hf.until _ st h
theorem fits_one {α : Type} {m : St → α × St} (hm : Nice m) : Fits m (fun _ => 1) := fun st h => by
  have := hm.eats st (not_zero (hm.stuck st) h) h
  show 1 + _ ≤ _
  omega
theorem Fits.times {α : Type} {m : St → α × St} {w : α → Nat} (hm : Nice m) (hf : Fits m w) : ∀ (k : Nat), Fits (timesF m k) (fun l => (l.map w).sum)
  | 0 => fun st _ => by simp [timesF]
  | k + 1 => fun st h => by
    unfold timesF at h ⊢
    have h1 := Fits.times hm hf k _ h
    have h2 := hf st ((flow_times hm k _).2 h)
    simp only [List.map_cons, List.sum_cons] at *
    omega
theorem fits_form {m : St → Ex × St} (hm : Nice m) (hf : Fits m exW) (w : Str) (st : St) (h : (formF m w st).2.2 = 0) : exW (formF m w st).1 + (formF m w st).2.1.length ≤ st.1.length + 1 := by
  have key : ∀ s : St, (manyF m s).2.2 = 0 → exWL (manyF m s).1 + (manyF m s).2.1.length ≤ s.1.length := fun s h => by rw [exWL_sum]; exact hf.many s h
  unfold formF at *
  cases hw : headOf w with
  | some p =>
    obtain ⟨k, n, want⟩ := p
    rw [hw] at h
    dsimp only at *
    split at h
    · rename_i hc; rw [if_pos hc]; have := key _ h; unfold exW; omega
    · exact absurd h (bad_err (by decide))
  | none =>
    rw [hw] at h
    dsimp only at *
    have hs : (if name w then st else badF 7 st).1.length = st.1.length := by split <;> rfl
    generalize (if name w = true then st else badF 7 st) = s at *
    split at h
    · rename_i hc; rw [if_pos hc]; have := key _ h; unfold exW; omega
    · exact absurd h (bad_err (by decide))
theorem leaf_quoted (t : Str) (e : Int) : exW (quotedF t e).1 = 1 := by
  unfold quotedF
  split <;> simp [exW, exWL]
theorem leaf_plain (st : St) : exW (plainF st).1 = 1 := by
  unfold plainF
  split <;> simp [exW, exWL]
theorem fits_expr : ∀ d, Fits (exprF d) exW
  | 0 => fun st h => absurd h (bad_err (by decide))
  | d + 1 => fun st h => by
    have ih := fits_expr d
    have eats := (nice_expr (d + 1)).eats st (not_zero ((nice_expr (d + 1)).stuck st) h) h
    have ht := trim_le st.1
    unfold exprF at *
    split at h
    · rename_i hc; exact absurd h hc
    · rename_i hc
      rw [if_neg hc] at *
      split at h
      · rename_i h2
        rw [if_pos h2] at *
        rw [leaf_quoted]; omega
      · rename_i h2
        rw [if_neg h2] at *
        split at h
        · rename_i h3
          rw [if_pos h3] at *
          rw [leaf_plain]; omega
        · rename_i h3
          rw [if_neg h3] at *
          have h4 := fits_form (nice_expr d) ih _ _ h
          have h5 := w_eats (form_zero (nice_expr d) h)
          simp only [List.length_drop] at h5
          have h6 : nxt st.1 = 40 := by simpa using h3
          have h7 : nxt st.1 ≠ 0 := by rw [h6]; decide
          have : 0 < (trim st.1).length := by
            obtain ⟨c, r, hc⟩ := zhn h7
            rw [hc]; simp
          omega
theorem fits_stmt : ∀ d, Fits (stmtF d) smW
  | 0 => fun st h => absurd h (bad_err (by decide))
  | d + 1 => fun st h => by
    have ih := fits_stmt d
    have hM : ∀ s : St, (manyF (stmtF d) s).2.2 = 0 → smWL (manyF (stmtF d) s).1 + (manyF (stmtF d) s).2.1.length ≤ s.1.length := fun s h => by rw [smWL_sum]; exact ih.many s h
    have fM : ∀ s : St, Flow s (manyF (stmtF d) s).2 := fun s => (nice_many (nice_stmt d)).flow s
    by_cases hc : st.2 ≠ 0
    · unfold stmtF at h; rw [if_pos hc] at h; exact absurd h hc
    · simp only [stmtF] at h ⊢
      rw [if_neg hc] at h ⊢
      have f1 := flow_w (mustF 40 st)
      have w1 := w_eats (st := mustF 40 st)
      have m1 := must_le 40 st
      generalize wF (mustF 40 st) = w at *
      have f2 : Flow w.2 (if stKind w.1 = 0 then badF 1 w.2 else w.2) := by
        split
        · exact flow_bad 1 _
        · exact .refl _
      generalize (if stKind w.1 = 0 then badF 1 w.2 else w.2) = s1 at *
      have f3 := flow_nm (stKind w.1) s1
      generalize nmF (stKind w.1) s1 = nm at *
      have f4 := flow_times (nice_expr d) (argsOf (stKind w.1)) nm.2
      have e4 := (fits_expr d).times (nice_expr d) (argsOf (stKind w.1)) nm.2
      generalize timesF (exprF d) (argsOf (stKind w.1)) nm.2 = a at *
      have f5 := (f2.trans f3).trans f4
      simp only [← exWL_sum] at e4
      have fin : a.2.2 = 0 → 1 + exWL a.1 + a.2.1.length ≤ st.1.length := fun ha => by
        have h1 := e4 ha
        have h2 := w1 (f5.2 ha)
        have h3 := (f2.trans f3).1
        omega
      by_cases h3 : stKind w.1 = 3
      · rw [if_pos h3] at h ⊢
        simp only [smW]
        have g1 := (flow_must 41 _).2 h
        have g2 := hM _ g1
        have g3 := (flow_must 40 _).2 ((fM _).2 g1)
        have g4 := hM _ g3
        have g5 := (flow_must 40 _).2 ((fM _).2 g3)
        have g6 := fin g5
        have q1 := must_le 41 (manyF (stmtF d) (mustF 40 (manyF (stmtF d) (mustF 40 a.2)).2)).2
        have q2 := must_le 40 (manyF (stmtF d) (mustF 40 a.2)).2
        have q3 := must_le 40 a.2
        omega
      · rw [if_neg h3] at h ⊢
        by_cases h4 : stKind w.1 = 4
        · rw [if_pos h4] at h ⊢
          simp only [smW, smWL]
          have g1 := hM _ h
          have g2 := fin ((fM _).2 h)
          omega
        · rw [if_neg h4] at h ⊢
          simp only [smW, smWL]
          have g2 := fin ((flow_must 41 _).2 h)
          have q1 := must_le 41 a.2
          omega
def fncW (f : Fnc) : Nat := f.params.length + smWL f.body
theorem sum_one {α : Type} (l : List α) : (l.map fun _ => 1).sum = l.length := by
  induction l with
  | nil => rfl
  | cons x r ih => simp [ih]; omega
theorem fits_fn : Fits fnF fncW := fun st h => by
  unfold fnF at *
  simp only [fncW] at *
  have b1 := (fits_stmt 11).many _ h
  have b2 := (fits_one nice_n).many _ ((nice_many (nice_stmt 11)).flow _ |>.2 h)
  have b3 := must_le 40 (nF (mustF 40 st)).2
  have b4 := (zvh (mustF 40 st)).2
  have b5 := must_le 40 st
  simp only [← smWL_sum] at b1
  simp only [sum_one] at b2
  omega
theorem fits_fns : ∀ (k : Nat) (st : St), (fnsF k st).2.2 = 0 → zeq (fnsF k st).1 + (fnsF k st).2.1.length ≤ st.1.length
  | 0, st, _ => by simp [fnsF, zeq]
  | k + 1, st, h => by
    unfold fnsF at h ⊢
    have zero : ∀ (k : Nat) (st : St), (fnsF k st).2.2 = 0 → st.2 = 0 := fun k st h => by
      cases k with
      | zero => exact h
      | succ k =>
        unfold fnsF at h
        split at h
        · rename_i hc; exact hc.1
        · exact h
    split
    · rename_i hc
      rw [if_pos hc] at h
      have h1 := fits_fns k _ h
      have h2 := fits_fn (trim st.1, 0) (zero k _ h)
      have h3 := trim_le st.1
      simp only [zeq, fncW] at *
      omega
    · have h3 := trim_le st.1
      simp only [zeq]
      split <;> (try simp only) <;> omega
theorem parse_fits (s : Str) (h : (parseF s).2 = 0) : zeq (parseF s).1 ≤ 1500 := by
  unfold parseF at *
  split at h
  · cases h
  · rename_i h1
    rw [if_neg h1] at *
    split at h
    · rename_i h2; exact absurd h h2
    · rename_i h2
      rw [if_neg h2]
      have := fits_fns (s.length + 2) (s, 0) (by simpa using h2)
      simp only at *
      omega
end VM
end Go.Proofs.YtpllgpgdcbgalaaDoor
set_option maxRecDepth 8000
namespace Go.Proofs.YtpllgpgdcbgalaaDoor
open Go Go.RowKit
namespace VM
theorem trim_nb {c : UInt8} (r : Str) (h : blank c = false) : trim (c :: r) = c :: r := by simp [trim, h]
theorem trim_sp (r : Str) : trim (32 :: r) = trim r := by simp [trim, blank]
theorem trim_nl (r : Str) : trim (10 :: r) = trim r := by simp [trim, blank]
theorem must_hit {k : Int} {t : Str} (h : nxt t = k) (e : Int) : mustF k (t, e) = ((trim t).drop 1, e) := by
  unfold mustF; simp only; rw [if_pos h]
theorem many_eq {α : Type} {m : St → α × St} (hm : Nice m) (st : St) : manyF m st = if st.2 = 0 ∧ nxt st.1 ≠ 41 then ((m (trim st.1, 0)).1 :: (manyF m (m (trim st.1, 0)).2).1, (manyF m (m (trim st.1, 0)).2).2) else ([], mustF 41 st) := by
  have h := left_le st
  have e1 : manyF m st = untilF m (st.1.length + 1 + 1) st := rfl
  rw [e1]
  rw [show untilF m (st.1.length + 1 + 1) st = if st.2 = 0 ∧ nxt st.1 ≠ 41 then ((m (trim st.1, 0)).1 :: (untilF m (st.1.length + 1) (m (trim st.1, 0)).2).1, (untilF m (st.1.length + 1) (m (trim st.1, 0)).2).2) else ([], mustF 41 st) from rfl]
  split
  · rename_i hc
    have hl := left_lt hm (st := st) hc.1
    rw [many_cons hm (st.1.length + 1) _ _ (by omega) (left_le _)]
    rfl
  · rfl
end VM
end Go.Proofs.YtpllgpgdcbgalaaDoor
set_option maxRecDepth 8000
namespace Go.Proofs.YtpllgpgdcbgalaaDoor
open Go Go.RowKit
theorem zqs : Tryd.prog.globalNamed "internal/bytealg.MaxLen" = some 0 := by kernel_rfl
theorem LayM.cell {w : World} (h : LayM "internal/bytealg.MaxLen" (fun b => w.heap[b]?)) : ∃ m, w.cell? ⟨0, 0, none⟩ = some (.int .i64 m) := by
  obtain ⟨c, e, x, m, h1, h2⟩ := h _ zqs
  refine ⟨m, ?_⟩
  have h1' : w.heap[(0 : Nat)]? = _ := h1
  simp only [World.cell?, h1']
  simpa using h2
theorem zph {K : ze} {ρ : Nat → Loc} {A : Nat → Prop} {s t : List UInt8} {cargs : Array Value} (ha : LRel K ρ A [.str s, .str t] cargs.toList) : cargs = #[.string ⟨s.toArray⟩, .string ⟨t.toArray⟩] := by
  obtain ⟨hlen, hg⟩ := ha
  have hlen' : cargs.toList.length = 2 := hlen
  match he : cargs.toList, hlen' with
  | [v, u], _ =>
    have h0 := hg 0 (.str s) v rfl (by rw [he]; rfl)
    have h1 := hg 1 (.str t) u rfl (by rw [he]; rfl)
    cases h0
    cases h1
    exact Array.ext' (by rw [he])
theorem zqb (s t : List UInt8) (h : s.length < 4294967281) : QC Tryd.prog 47 [.str s, .str t] (.bool (Lib.contains s t)) := by
  refine QC.of_calls (c := zj Tryd.f47) Tryd.func47 (by kernel_rfl) (by kernel_rfl) fun K ρ A w cargs hl ha => ?_
  obtain rfl := zph ha
  obtain ⟨m, hm⟩ := hl.2.2.2.cell
  have hs : (ByteArray.mk s.toArray).size = s.length := by show s.toArray.size = _; simp
  have hd : (ByteArray.mk s.toArray).data.toList = s := by simp
  have ht : (ByteArray.mk t.toArray).data.toList = t := by simp
  refine (Tryd.strings_Contains ⟨s.toArray⟩ ⟨t.toArray⟩ m w (by omega) hm).mono fun e w' ⟨he, hw⟩ => ?_
  rw [hd, ht] at he
  subst hw
  exact ⟨⟨_, he, fun _ _ _ => .bool _⟩, .refl _ _⟩
theorem zlq (s : List UInt8) (c : UInt8) : QC Tryd.prog 47 [.str s, .str [c]] (.bool (decide (0 ≤ Lib.indexByte s c))) := by
  refine QC.of_calls (c := zj Tryd.f47) Tryd.func47 (by kernel_rfl) (by kernel_rfl) fun K ρ A w cargs hl ha => ?_
  obtain rfl := zph ha
  have hd : (ByteArray.mk s.toArray).data.toList = s := by simp
  refine (Tryd.strings_Contains_one ⟨s.toArray⟩ c w).mono fun e w' ⟨he, hw⟩ => ?_
  rw [hd] at he
  subst hw
  exact ⟨⟨_, he, fun _ _ _ => .bool _⟩, .refl _ _⟩
theorem zpr (s : List UInt8) (c : Int) : QC Tryd.prog 96 [.str s, .int .u8 c] (.int .i64 (Lib.indexByte s c.toNat.toUInt8)) := by
  refine QC.of_calls (c := zj Tryd.f96) Tryd.func96 (by kernel_rfl) (by kernel_rfl) fun K ρ A w cargs hl ha => ?_
  have hc : cargs = #[.string ⟨s.toArray⟩, .int .u8 c] := by
    obtain ⟨hlen, hg⟩ := ha
    have hlen' : cargs.toList.length = 2 := hlen
    match he : cargs.toList, hlen' with
    | [v, u], _ =>
      have h0 := hg 0 (.str s) v rfl (by rw [he]; rfl)
      have h1 := hg 1 (.int .u8 c) u rfl (by rw [he]; rfl)
      cases h0
      cases h1
      exact Array.ext' (by rw [he])
  subst hc
  have hd : (ByteArray.mk s.toArray).data.toList = s := by simp
  refine (Tryd.strings_IndexByte ⟨s.toArray⟩ c w).mono fun e w' ⟨he, hw⟩ => ?_
  rw [hd] at he
  subst hw
  exact ⟨⟨_, he, fun _ _ _ => .int _ _⟩, .refl _ _⟩
end Go.Proofs.YtpllgpgdcbgalaaDoor
