/- The program's parser: lists of expressions. The program's parser: expressions. The program's parser: forms; expressions as a whole. The program's parser: a statement's expressions. The program's parser: statements. The program's parser: statements, as a whole. Blanks around brackets are no matter: the plain law. What is read of a text is read of a longer one. One text behind the other. Blanks around brackets are no matter: the plain law, for texts as a whole. -/
import Derived.Test.YtpllgpgdcbgalaaDoorG7
import Derived.Test.YtpllgpgdcbgalaaDoorG8
set_option linter.unusedSimpArgs false
set_option linter.unusedVariables false
set_option maxRecDepth 8000
namespace Go.Proofs.YtpllgpgdcbgalaaDoor
open Go Go.RowKit
theorem zrl (A : Nat → Prop) (s : Str) (st : VM.St) : BelO A (PT s st) := by
  intro i y hy
  match i with
  | 0 => simp at hy; subst hy; exact .str _
  | 1 => simp at hy; subst hy; exact .int _ _
  | 2 => simp at hy; subst hy; exact .int _ _
  | i + 3 => simp at hy
theorem za.tparser {P : Program} {f : FuncId} {args : List AV} {r : AV} {s : Str} {st st' : VM.St} {g n : Nat} {H : Heap} {Q : QT} (hg : H g = some (PT s st)) (hraw : g < n → za P f args H n fun v H' _ => Frz H' n v r ∧ H' g = some (PT s st') ∧ ∀ y, y < n → y ≠ g → H' y = H y) (hq : Q r (H.put g (some (PT s st'))) n) : za P f args H n Q := by
  refine za.tidy fun hlive => ?_
  have hgn := hlive g _ hg
  refine (za.gc (R := fun v H' => v = r ∧ H' = H.put g (some (PT s st'))) (hraw hgn) fun v H' n' ⟨h1, h2, h3⟩ => ⟨r, _, ⟨rfl, rfl⟩, h1, fun y o ho => ?_⟩).mono fun v H' n' ⟨⟨h1, h2⟩, h3⟩ => by subst h1; subst h2; subst h3; exact hq
  by_cases hy : y = g
  · subst hy
    rw [Heap.put_at] at ho
    cases ho
    exact ⟨hgn, h2, .inr (zrl _ _ _)⟩
  · rw [Heap.put_ne _ _ hy] at ho
    exact ⟨hlive y o ho, by rw [h3 y (hlive y o ho) hy]; exact ho, .inl ho⟩
theorem LC.tparser {f : FuncId} {args : List AV} {r : AV} {s : Str} {g : Nat} {st st' : VM.St} {H : Heap} (hg : H g = some (PT s st)) (hr : ∀ A : Nat → Prop, Bel A r)
    (h : ∀ (H : Heap) (n : Nat) (Q : QT), H g = some (PT s st) → Q r (H.put g (some (PT s st'))) n → za Tryd.prog f args H n Q) : LC Tryd.prog f args H [g] [] [(g, some (PT s st'))] r := by
  refine LC.of_calls (fun x hx => ?_) (by simp [domD]) (fun A _ _ => hr A) (fun A _ _ x o hx ho => ?_) fun H' n' ha => ?_
  · simp at hx; subst hx; rw [hg]; rfl
  · simp [domD] at hx; subst hx
    simp at ho
    subst ho
    exact zrl _ _ _
  · obtain ⟨a1, a2⟩ := ha g (by simp)
    refine h H' n' _ (a1.trans hg) ⟨rfl, Nat.le_refl _, fun x _ hx => ?_, fun x o hx ho => ?_⟩
    · simp [domD] at hx
      exact Heap.put_ne _ _ hx
    · simp [domD] at hx; subst hx
      simp at ho
      rw [Heap.put_at, ho]
structure ElS {α : Type} (f : α → List AV) (sz : Nat) (H0 : Heap) (b g : Nat) (s : Str) (l : List α) (A : AV) (st : VM.St) (H : Heap) (n : Nat) : Prop where
  rg : H g = some (PT s st)
  row : RowS f sz H b n l A
  suf : st.1 <:+ s
  gb : g < b
  bn : b ≤ n
  keep : ∀ y, y < b → y ≠ g → H y = H0 y
  few : l.length + VM.left st ≤ 1502
theorem ElS.put {α : Type} {f : α → List AV} {sz : Nat} {H0 H : Heap} {b g n : Nat} {s : Str} {l : List α} {A : AV} {st st' : VM.St} (h : ElS f sz H0 b g s l A st H n) (hf : VM.Flow st st') (hs : st'.1 <:+ s) : ElS f sz H0 b g s l A st' (H.put g (some (PT s st'))) n := by
  have h1 := h.gb
  have h2 := h.few
  have h3 := hf.left
  exact ⟨Heap.put_at _ _ _, h.row.keep (Nat.le_refl _) fun y hy _ => Heap.put_ne _ _ (by omega), hs, h1, h.bn, fun y hy hne => by rw [Heap.put_ne _ _ hne]; exact h.keep y hy hne, by omega⟩
theorem zoh {α : Type} {m : VM.St → α × VM.St} {s : Str} (hm : ∀ st : VM.St, st.1 <:+ s → (m st).2.1 <:+ s) : ∀ (k : Nat) (st : VM.St), st.1 <:+ s → (VM.untilF m k st).2.1 <:+ s
  | 0, st, h => h
  | k + 1, st, h => by
    unfold VM.untilF
    split
    · exact zoh hm k _ (hm _ (zaw h))
    · exact zy h
theorem zdb {α : Type} {m : VM.St → α × VM.St} {s : Str} (hm : ∀ st : VM.St, st.1 <:+ s → (m st).2.1 <:+ s) (st : VM.St) (h : st.1 <:+ s) : (VM.manyF m st).2.1 <:+ s := zoh hm _ st h
theorem zfy {s t : Str} (k : Nat) (h : t <:+ s) : t.drop k <:+ s := (List.drop_suffix k t).trans h
theorem zdc {s : Str} : ∀ (d : Nat) (st : VM.St), st.1 <:+ s → (VM.exprF d st).2.1 <:+ s
  | 0, st, h => h
  | d + 1, st, h => by
    have ht := zaw h
    unfold VM.exprF
    split
    · exact h
    · split
      · unfold VM.quotedF
        have h1 := zfy 1 ht
        have h2 : (((VM.trim st.1).drop 1).dropWhile (· != 39)).drop 1 <:+ s := zfy 1 ((List.dropWhile_suffix _).trans h1)
        split
        · dsimp only
          split
          · exact h2
          · exact h2
        · exact h1
      · split
        · have h3 := zke (s := s) (st := (VM.trim st.1, st.2)) ht
          unfold VM.plainF
          split <;> dsimp only <;> split <;> exact h3
        · have h3 := zke (s := s) (st := ((VM.trim st.1).drop 1, st.2)) (zfy 1 ht)
          generalize VM.wF ((VM.trim st.1).drop 1, st.2) = w at h3 ⊢
          unfold VM.formF
          have key : ∀ q : VM.St, q.1 <:+ s → (VM.manyF (VM.exprF d) q).2.1 <:+ s := fun q hq => zdb (zdc d) q hq
          split
          · dsimp only
            split <;> exact key _ h3
          · dsimp only
            have hk : (if VM.name w.1 then w.2 else VM.badF 7 w.2).1 <:+ s := by split <;> exact h3
            generalize (if VM.name w.1 = true then w.2 else VM.badF 7 w.2) = q at hk ⊢
            split <;> exact key _ hk
def zbm (s : Str) (d : Nat) : Prop := ∀ (st : VM.St) (g : Nat) (H : Heap) (n : Nat) (Q : QT), st.1 <:+ s → H g = some (PT s st) → Q (.agg (VM.exprF d st).1.avs) (H.put g (some (PT s (VM.exprF d st).2))) n → za Tryd.prog 76 [.ptr g 0, .int .i64 (11 - (d : Int))] H n Q
set_option maxHeartbeats 1000000 in
theorem zqm {d : Nat} {s : Str} (hE : zbm s d) (hl : s.length ≤ 1500) {H0 H : Heap} {b g n : Nat} {st : VM.St} {Q : QT} (h : ElS Ex.avs 4 H0 b g s [] .nils st H n)
    (hq : ∀ A H' n', ElS Ex.avs 4 H0 b g s (VM.manyF (VM.exprF d) st).1 A (VM.manyF (VM.exprF d) st).2 H' n' → Q A H' n') : LP (zbc Q) [.ptr g 0, .int .i64 (11 - (d : Int)), .nils] H n := by
  have nice := VM.nice_expr d
  refine LP.mk (fun k xs H' n' => ∃ l A st1, xs = [.ptr g 0, .int .i64 (11 - (d : Int)), A] ∧ ElS Ex.avs 4 H0 b g s l A st1 H' n' ∧ VM.left st1 < k ∧ VM.manyF (VM.exprF d) st = (l ++ (VM.untilF (VM.exprF d) k st1).1, (VM.untilF (VM.exprF d) k st1).2)) (st.1.length + 2) ⟨[], .nils, st, rfl, h, VM.left_le st, rfl⟩ ?_
  rintro k xs H' n' ⟨l, A, st1, rfl, h, hle, hgo⟩
  generalize hJ : (fun (xs : List AV) (H' : Heap) (n' : Nat) => ∃ j, j < k ∧ ∃ l A st1, xs = [.ptr g 0, .int .i64 (11 - (d : Int)), A] ∧ ElS Ex.avs 4 H0 b g s l A st1 H' n' ∧ VM.left st1 < j ∧ VM.manyF (VM.exprF d) st = (l ++ (VM.untilF (VM.exprF d) j st1).1, (VM.untilF (VM.exprF d) j st1).2)) = J
  obtain ⟨k, rfl⟩ : ∃ j, k = j + 1 := ⟨k - 1, by omega⟩
  have hg' : H' g = some (.row 3 [.str s, .int .i64 ((s.length - st1.1.length : Nat) : Int), .int .i64 st1.2]) := h.rg
  have stop : VM.manyF (VM.exprF d) st = (l, VM.mustF 41 st1) → ∀ st2, VM.mustF 41 st2 = VM.mustF 41 st1 → ∀ H2 n2, ElS Ex.avs 4 H0 b g s l A st2 H2 n2 → za Tryd.prog 43 [.ptr g 0, .int .u8 41] H2 n2 (zbd Q [.ptr g 0, .int .i64 (11 - (d : Int)), A]) := by
    intro e st2 e2 H2 n2 h2
    refine zda (by decide) hl h2.suf h2.rg ?_
    have h3 := h2.put (VM.flow_must 41 st2) (zy h2.suf)
    rw [e2] at h3 ⊢
    rw [e] at hq
    simp [zbd]
    exact hq _ _ _ h3
  by_cases he : st1.2 = 0
  · simp [zbc, hg', he]
    refine zfx hl h.suf h.rg ?_
    have h1 := h.put (st' := (VM.trim st1.1, st1.2)) ⟨VM.trim_le _, id⟩ (zaw h.suf)
    generalize H'.put g _ = HX at h1 ⊢
    by_cases hn : VM.nxt st1.1 = 41
    · simp [zci, hn]
      refine stop ?_ (VM.trim st1.1, st1.2) (VM.must_trim _ _ _) _ _ h1
      rw [hgo]
      simp only [VM.untilF, hn, ne_eq, not_true_eq_false, and_false, if_false, List.append_nil]
    · simp [zci, hn]
      rw [he] at h1
      refine hE (VM.trim st1.1, 0) g _ _ _ h1.suf h1.rg ?_
      have hl1 := VM.left_lt' nice (st := (VM.trim st1.1, 0)) rfl
      have hl2 := VM.left_lt nice (st := st1) he
      have h2 := h1.put (nice.flow _) (zdc d _ h1.suf)
      have xl := zcn (VM.exprF d (VM.trim st1.1, 0)).1
      have xo := zlo (VM.exprF d (VM.trim st1.1, 0)).1
      have hfew := h1.few
      have hgo2 : VM.manyF (VM.exprF d) st = (l ++ [(VM.exprF d (VM.trim st1.1, 0)).1] ++ (VM.untilF (VM.exprF d) k (VM.exprF d (VM.trim st1.1, 0)).2).1, (VM.untilF (VM.exprF d) k (VM.exprF d (VM.trim st1.1, 0)).2).2) := by
        rw [hgo]
        simp only [VM.untilF, he, hn, ne_eq, not_false_eq_true, and_true, if_true, List.append_assoc, List.singleton_append]
      generalize HX.put g _ = HY at h2 ⊢
      generalize VM.exprF d (VM.trim st1.1, 0) = xr at *
      obtain ⟨x, st2⟩ := xr
      simp only at *
      have xt : x.avs.take 4 = x.avs := List.take_of_length_le (by omega)
      have hgb := h2.gb
      have hbn := h2.bn
      have snoc := zis (f := Ex.avs) l x
      have rl := zki (f := Ex.avs) (sz := 4) zcn l
      have hra := h2.row
      have fin : ∀ HZ, HZ (n' + 1) = some (.row 4 ((l ++ [x]).map Ex.avs).flatten) → (∀ y, y < n' → y ∉ owns A → HZ y = HY y) → J [.ptr g 0, .int .i64 (11 - (d : Int)), .slc (n' + 1) 0 (l.length + 1)] HZ (n' + 2) := by
        intro HZ z1 z2
        rw [← hJ]
        have hA : ∀ y ∈ owns A, b ≤ y := fun y hy => by
          cases hra with
          | nil => simp [owns] at hy
          | row q1 q2 q3 => simp [owns] at hy; omega
        refine ⟨k, by omega, l ++ [x], _, st2, rfl, ⟨?_, ?_, h2.suf, hgb, by omega, fun y hy hne => ?_, by rw [List.length_append]; simp only [List.length_cons, List.length_nil]; omega⟩, by omega, hgo2⟩
        · rw [z2 g (by omega) fun hy => by have := hA g hy; omega]; exact h2.rg
        · have := RowS.row (f := Ex.avs) (sz := 4) (H := HZ) (lo := b) (hi := n' + 2) (l := l ++ [x]) (ga := n' + 1) (by omega) (by omega) z1
          rw [List.length_append] at this
          exact this
        · rw [z2 y (by omega) fun hy2 => by have := hA y hy2; omega]; exact h2.keep y hy hne
      cases hra with
      | nil =>
        simp [zcj, xl, xt]
        refine ⟨xo, ?_⟩
        have := fin ((HY.put n' (some (.row 4 x.avs))).put (n' + 1) (some (.row 4 x.avs))) (by rw [Heap.put_at]; simp) fun y hy _ => by rw [Heap.put_ne _ _ (by omega), Heap.put_ne _ _ (by omega)]
        exact this
      | @row l ga q1 q2 q3 =>
        have h1 : (l.length + 1) * 56 ≤ 140737488355328 := by omega
        generalize hrr : (l.map Ex.avs).flatten = rr at *
        have h3 : rr.take (l.length * 4) = rr := List.take_of_length_le (by omega)
        have ne_0 : ga ≠ n' ∧ n' ≠ ga ∧ ga ≠ n' + 1 ∧ n' + 1 ≠ ga := ⟨by omega, by omega, by omega, by omega⟩
        simp [zcj, xl, xt, q3, rl, h1, h3, ne_0]
        refine ⟨xo, ?_⟩
        have := fin (((HY.put n' (some (.row 4 x.avs))).put ga none).put (n' + 1) (some (.row 4 (rr ++ x.avs)))) (by rw [Heap.put_at, snoc]) fun y hy hno => by
          simp [owns] at hno
          rw [Heap.put_ne _ _ (by omega), Heap.put_ne _ _ hno, Heap.put_ne _ _ (by omega)]
        exact this
  · simp [zbc, hg', he]
    refine stop ?_ st1 rfl _ _ h
    rw [hgo]
    simp only [VM.untilF, he, false_and, if_false, List.append_nil]
theorem zlf {d : Nat} {s : Str} (hE : zbm s d) (hl : s.length ≤ 1500) {H : Heap} {g n : Nat} {st : VM.St} {Q : QT} (hs : st.1 <:+ s) (hg : H g = some (PT s st))
    (hq : Q (.ro ((VM.manyF (VM.exprF d) st).1.map Ex.avs)) (H.put g (some (PT s (VM.manyF (VM.exprF d) st).2))) n) : za Tryd.prog 88 [.ptr g 0, .int .i64 (11 - (d : Int))] H n Q := by
  refine za.tparser (st' := (VM.manyF (VM.exprF d) st).2) hg (fun hgn => ?_) hq
  refine zii _ _ _ _ _ ?_
  unfold zeg
  have hle := hs.length_le
  refine zqm hE hl (b := n) (H0 := H) ⟨hg, .nil, hs, hgn, Nat.le_refl _, fun _ _ _ => rfl, by have := VM.left_le st; simp only [List.length_nil]; omega⟩ fun A H' n' h => ?_
  exact ⟨h.row.frz zcn (fun A x v hv => zid A x v hv) (Nat.le_refl _) fun _ _ _ => rfl, h.rg, h.keep⟩
end Go.Proofs.YtpllgpgdcbgalaaDoor
set_option maxRecDepth 8000
namespace Go.Proofs.YtpllgpgdcbgalaaDoor
open Go Go.RowKit
section
variable {g : Nat} {s : Str} {st : VM.St} {H : Heap} {n : Nat} {Q : QT}
theorem zoe {k z want : Int} {t : Str} {l : List Ex} (hg : H g = some (PT s st)) (hq : Q (.agg (Ex.mk k z t l).avs) (H.put g (some (PT s (if (l.length : Int) = want then st else VM.badF 5 st)))) n) : za Tryd.prog 87 [.ptr g 0, .agg [.int .i64 k, .int .i64 z, .str t, .ro (l.map Ex.avs)], .int .i64 want] H n Q := by
  refine za.tparser (st' := if (l.length : Int) = want then st else VM.badF 5 st) hg (fun hgn => ?_) hq
  refine zij _ _ _ _ _ _ ?_
  have hf : ∀ H' : Heap, Frz H' n (.agg [.int .i64 k, .int .i64 z, .str t, .ro (l.map Ex.avs)]) (.agg (Ex.mk k z t l).avs) := fun H' => by
    rw [zdq]
    have := zjv (.mk k z t l) (· < n)
    rw [zdq] at this
    exact .same _ this
  have ne_0 : g ≠ n ∧ n ≠ g ∧ g ≠ n + 1 ∧ n + 1 ≠ g := ⟨by omega, by omega, by omega, by omega⟩
  by_cases h : (l.length : Int) = want
  · simp [zcl, h, hg, ne_0]
    refine ⟨hf _, fun y hy _ => ?_⟩
    have h1 : ¬ y = n + 1 := by omega
    have h2 : ¬ y = n := by omega
    simp [h1, h2]
  · simp [zcl, h]
    have hg1 : ((H.put n (some (.row 4 [.int .i64 k, .int .i64 z, .str t, .ro (l.map Ex.avs)]))).put (n + 1) (some (.row 4 [.int .i64 0, .int .i64 0, .str [], .nils]))) g = some (PT s st) := by rw [Heap.put_ne _ _ (by omega), Heap.put_ne _ _ (by omega)]; exact hg
    refine zaq hg1 ?_
    simp [zek, ne_0]
    refine ⟨hf _, fun y hy hne => ?_⟩
    have h1 : ¬ y = n + 1 := by omega
    have h2 : ¬ y = n := by omega
    simp [h1, h2, hne]
theorem zm.texprs {d : Nat} (hE : zbm s d) (hl : s.length ≤ 1500) {z : Int} {kt : Kt} (hz : z = 11 - (d : Int)) (hs : st.1 <:+ s) (hg : H g = some (PT s st))
    (hk : kt (.ro ((VM.manyF (VM.exprF d) st).1.map Ex.avs)) [g] [] [(g, some (PT s (VM.manyF (VM.exprF d) st).2))]) : zm Tryd.prog (.clo 88 []) [.ptr g 0, .int .i64 z] H n kt := by
  subst hz
  refine ⟨_, [g], [], _, .inl rfl, LC.tparser hg (fun A => zec fun x hx v hv => ?_) fun _ _ _ h1 h2 => zlf hE hl hs h1 h2, hk⟩
  obtain ⟨y, _, rfl⟩ := List.mem_map.1 hx
  exact zid A y v hv
theorem zm.tcount {k z want : Int} {t : Str} {l : List Ex} {kt : Kt} (hg : H g = some (PT s st))
    (hk : kt (.agg (Ex.mk k z t l).avs) [g] [] [(g, some (PT s (if (l.length : Int) = want then st else VM.badF 5 st)))]) : zm Tryd.prog (.clo 87 []) [.ptr g 0, .agg [.int .i64 k, .int .i64 z, .str t, .ro (l.map Ex.avs)], .int .i64 want] H n kt :=
  ⟨_, [g], [], _, .inl rfl, LC.tparser hg (zjv _) fun _ _ _ h1 h2 => zoe h1 h2, hk⟩
end
structure TxE (s : Str) (H0 : Heap) (n g : Nat) (st : VM.St) (H : Heap) (m : Nat) : Prop where
  rg : H g = some (PT s st)
  rx : ∃ cs, H n = some (.row 4 cs) ∧ cs.length = 4
  suf : st.1 <:+ s
  gn : g < n
  nm : n < m
  keep : ∀ y, y < n → y ≠ g → H y = H0 y
def TxQ (s : Str) (H0 : Heap) (n g : Nat) (x : Ex) (st : VM.St) (Q : QT) : Prop := ∀ v H' n', Frz H' n v (.agg x.avs) → H' g = some (PT s st) → (∀ y, y < n → y ≠ g → H' y = H0 y) → Q v H' n'
section
variable {s : Str} {H0 H : Heap} {n g m : Nat} {st st' : VM.St} {Q : QT}
theorem TxE.put (h : TxE s H0 n g st H m) (hs : st'.1 <:+ s) : TxE s H0 n g st' (H.put g (some (PT s st'))) m := by
  have h1 := h.gn
  obtain ⟨cs, h2, h3⟩ := h.rx
  exact ⟨Heap.put_at _ _ _, ⟨cs, by rw [Heap.put_ne _ _ (by omega)]; exact h2, h3⟩, hs, h1, h.nm, fun y hy hne => by rw [Heap.put_ne _ _ hne]; exact h.keep y hy hne⟩
theorem TxE.new {m' y : Nat} {o : Option AObj} (h : TxE s H0 n g st H m) (hy : m ≤ y) (hm : m ≤ m') : TxE s H0 n g st (H.put y o) m' := by
  have h1 := h.gn
  have h0 := h.nm
  obtain ⟨cs, h2, h3⟩ := h.rx
  exact ⟨by rw [Heap.put_ne _ _ (by omega)]; exact h.rg, ⟨cs, by rw [Heap.put_ne _ _ (by omega)]; exact h2, h3⟩, h.suf, h1, by omega, fun z hz hne => by rw [Heap.put_ne _ _ (by omega)]; exact h.keep z hz hne⟩
theorem TxE.leaf {k z : Int} {t : Str} {o : Option AObj} (h : TxE s H0 n g st H m) (hq : TxQ s H0 n g (.mk k z t []) st Q) (m' : Nat) : Q (.agg [.int .i64 k, .int .i64 z, .str t, .nils]) (H.put n o) m' := by
  have h1 := h.gn
  refine hq _ _ _ ?_ (by rw [Heap.put_ne _ _ (by omega)]; exact h.rg) fun y hy hne => by rw [Heap.put_ne _ _ (by omega)]; exact h.keep y hy hne
  rw [zdq]
  exact FL.agg (.cons (.same _ (.int _ _)) (.cons (.same _ (.int _ _)) (.cons (.same _ (.str _)) (.cons .nils .nil))))
theorem TxE.form {x : Ex} {o : Option AObj} (h : TxE s H0 n g st H m) (hq : TxQ s H0 n g x st Q) (m' : Nat) : Q (.agg x.avs) (H.put n o) m' := by
  have h1 := h.gn
  exact hq _ _ _ (.same _ (zjv x _)) (by rw [Heap.put_ne _ _ (by omega)]; exact h.rg) fun y hy hne => by rw [Heap.put_ne _ _ (by omega)]; exact h.keep y hy hne
theorem zsp (hl : s.length ≤ 1500) (h : TxE s H0 n g st H m) (hq : TxQ s H0 n g (VM.plainF st).1 (VM.plainF st).2 Q) : za Tryd.prog 64 [.ptr g 0] H m (zck (.ptr g 0) n Q) := by
  have hle := h.suf.length_le
  have hwl := zir st
  refine zka hl h.suf h.rg ?_
  have h1 := h.put (zke h.suf)
  generalize H.put g _ = HX at h1 ⊢
  unfold VM.plainF at hq
  generalize VM.wF st = ws at *
  obtain ⟨w, s1⟩ := ws
  simp only at *
  obtain ⟨cs, r2, r2l⟩ := h1.rx
  have gn := h1.gn
  unfold zck
  have names : VM.numOf w = none → ∀ v, v = AV.str w → za Tryd.prog 23 [v] HX m (zag (.ptr g 0) v n Q) := by
    rintro hn v rfl
    rw [hn] at hq
    simp only at hq
    refine (zhx w (by unfold maxLen; omega)).call ?_
    by_cases hnm : VM.name w = true
    · rw [if_pos hnm] at hq
      simp [zag, hnm, r2, r2l]
      exact ⟨by rintro _ ((rfl | rfl) | rfl | rfl) <;> rfl, h1.leaf hq _⟩
    · rw [if_neg hnm] at hq
      have hnm' : VM.name w = false := by simpa using hnm
      simp [zag, hnm']
      refine zaq h1.rg ?_
      have h2 := h1.put (st' := VM.badF 7 s1) h1.suf
      obtain ⟨cs, r2, r2l⟩ := h2.rx
      generalize HX.put g _ = HY at h2 r2 ⊢
      simp [zeh, r2, r2l]
      exact ⟨by rintro _ ((rfl | rfl) | rfl | rfl) <;> rfl, h2.leaf hq _⟩
  refine (zwc w (by omega)).call ?_
  unfold zsl
  cases ha : Lib.atoiAll w with
  | ok v =>
    have hb := zqy ha
    simp [zbg]
    refine (zvx v hb.1 hb.2).call ?_
    by_cases he : Lib.itoa v = w
    · have hn : VM.numOf w = some v := by unfold VM.numOf; rw [ha]; simp [he]
      rw [hn] at hq
      simp only at hq
      have bad : za Tryd.prog 63 [.ptr g 0, .int .i64 3] HX m (zbh (.int .i64 v) n Q) ∨ ¬ (v < -1073741824 ∨ 1073741824 < v) := by
        by_cases hr : v < -1073741824 ∨ 1073741824 < v
        · left
          rw [if_pos hr] at hq
          refine zaq h1.rg ?_
          have h2 := h1.put (st' := VM.badF 3 s1) h1.suf
          obtain ⟨cs, r2, r2l⟩ := h2.rx
          generalize HX.put g _ = HY at h2 r2 ⊢
          simp [zbh, r2, r2l]
          exact h2.leaf hq _
        · exact .inr hr
      by_cases hv1 : v < -1073741824
      · have := bad.resolve_right (by simp [hv1])
        simp [zaf, he, hv1]
        exact this
      · by_cases hv2 : 1073741824 < v
        · have := bad.resolve_right (by simp [hv2])
          simp [zaf, he, hv1, hv2]
          exact this
        · rw [if_neg (by omega)] at hq
          simp [zaf, he, hv1, hv2, r2, r2l]
          exact h1.leaf hq _
    · have hn : VM.numOf w = none := by unfold VM.numOf; rw [ha]; simp [he]
      simp [zaf, he]
      exact names hn _ rfl
  | range =>
    have hn : VM.numOf w = none := by unfold VM.numOf; rw [ha]
    simp [zbg]
    exact names hn _ rfl
  | _ =>
    have hn : VM.numOf w = none := by unfold VM.numOf; rw [ha]
    simp [zbg]
    exact names hn _ rfl
end
end Go.Proofs.YtpllgpgdcbgalaaDoor
set_option maxRecDepth 8000
namespace Go.Proofs.YtpllgpgdcbgalaaDoor
open Go Go.RowKit
theorem zxc : ∀ i, i < 5 → VM.headOf (ops5.getD i []) = some (4, (i : Int) + 1, 2) := by decide
theorem zxb : ∀ i, i < 6 → VM.headOf (ops6.getD i []) = some (5 + (i : Int), 0, (zmy.getD i 0).toNat) := by decide
theorem zsz {w : Str} (h5 : ∀ j, j < 5 → w ≠ ops5.getD j []) (h6 : ∀ j, j < 6 → w ≠ ops6.getD j []) : VM.headOf w = none := by
  have a0 := h5 0 (by omega)
  have a1 := h5 1 (by omega)
  have a2 := h5 2 (by omega)
  have a3 := h5 3 (by omega)
  have a4 := h5 4 (by omega)
  have b0 := h6 0 (by omega)
  have b1 := h6 1 (by omega)
  have b2 := h6 2 (by omega)
  have b3 := h6 3 (by omega)
  have b4 := h6 4 (by omega)
  have b5 := h6 5 (by omega)
  simp [ops5, ops6] at a0 a1 a2 a3 a4 b0 b1 b2 b3 b4 b5
  simp [VM.headOf, a0, a1, a2, a3, a4, b0, b1, b2, b3, b4, b5]
def zhz : List AV := [AV.str [99, 101, 108, 108], AV.int IntKind.i64 5, AV.int IntKind.i64 2, AV.str [108, 101, 102, 116], AV.int IntKind.i64 6, AV.int IntKind.i64 1, AV.str [114, 105, 103, 104, 116], AV.int IntKind.i64 7, AV.int IntKind.i64 1, AV.str [97, 115, 107], AV.int IntKind.i64 8, AV.int IntKind.i64 1, AV.str [104, 101, 114, 101], AV.int IntKind.i64 9, AV.int IntKind.i64 0, AV.str [103, 111], AV.int IntKind.i64 10, AV.int IntKind.i64 1]
theorem zvv : ∀ i, i < 6 → (zhz.drop (i * 3)).take 3 = [AV.str (ops6.getD i []), .int .i64 (5 + (i : Int)), .int .i64 (zmy.getD i 0)] := by
  intro i hi
  have : i = 0 ∨ i = 1 ∨ i = 2 ∨ i = 3 ∨ i = 4 ∨ i = 5 := by omega
  rcases this with rfl | rfl | rfl | rfl | rfl | rfl <;> rfl
section
variable {s : Str} {H0 : Heap} {n g d : Nat} {Q : QT}
theorem ztv (hE : zbm s d) (hl : s.length ≤ 1500) (hd : d ≤ 11) {H : Heap} {m : Nat} {st : VM.St} {w : Str} {a4 a5 a6 : AV} (h : TxE s H0 n g st H m) (hw : VM.headOf w = none) (hwl : w.length ≤ 1500)
    (hq : TxQ s H0 n g (VM.formF (VM.exprF d) w st).1 (VM.formF (VM.exprF d) w st).2 Q) :
    za Tryd.prog 23 [.str w] H m (zbt [.ptr g 0, .int .i64 (10 - (d : Int)), .ptr n 0, .str w, a4, a5, a6] Q) := by
  unfold VM.formF at hq
  rw [hw] at hq
  simp only at hq
  have hwr : IntKind.i64.wrap (10 - (d : Int) + 1) = 11 - (d : Int) := by rw [i64w (by omega)]; omega
  have go : ∀ st1 H1, TxE s H0 n g st1 H1 m → st1 = (if VM.name w then st else VM.badF 7 st) → za Tryd.prog 88 [.ptr g 0, .int .i64 (11 - (d : Int))] H1 m (zan [.ptr g 0, .int .i64 (10 - (d : Int)), .ptr n 0, .str w, a4, a5, a6] Q) := by
    intro st1 H1 h1 e1
    rw [← e1] at hq
    refine zlf hE hl h1.suf h1.rg ?_
    have h2 := h1.put (zdb (zdc d) st1 h1.suf)
    generalize H1.put g _ = H2 at h2 ⊢
    generalize VM.manyF (VM.exprF d) st1 = r at *
    obtain ⟨l, st2⟩ := r
    simp only at *
    have gn := h2.gn
    have nm := h2.nm
    have h3 : TxE s H0 n g st2 (H2.put m (some (.row 4 [.int .i64 11, .int .i64 0, .str w, .ro (l.map Ex.avs)]))) (m + 1) := h2.new (Nat.le_refl _) (by omega)
    have hexl : Ex.avs (.mk 11 0 w l) = [.int .i64 11, .int .i64 0, .str w, .ro (l.map Ex.avs)] := zdq _ _ _ _
    have ne_0 : n ≠ m ∧ m ≠ n := ⟨by omega, by omega⟩
    by_cases h4 : l.length ≤ 4
    · have h4' : ¬ (4 : Int) < l.length := by omega
      rw [if_pos h4] at hq
      obtain ⟨cs, r2, r2l⟩ := h3.rx
      rw [Heap.put_ne _ _ (by omega)] at r2
      simp [zan, h4', r2, r2l, ne_0]
      have := h3.form hq (o := some (.row 4 ((Ex.mk 11 0 w l).avs ++ cs.drop 4))) (m + 1)
      rw [hexl] at this
      exact ⟨by rintro _ ((rfl | rfl | rfl) | rfl) <;> rfl, this⟩
    · have h4' : (4 : Int) < l.length := by omega
      rw [if_neg h4] at hq
      simp [zan, h4']
      refine ⟨by rintro _ ((rfl | rfl | rfl) | rfl) <;> rfl, ?_⟩
      refine zaq h3.rg ?_
      have h5 := h3.put (st' := VM.badF 5 st2) h3.suf
      have hm : ((H2.put m (some (.row 4 [.int .i64 11, .int .i64 0, .str w, .ro (l.map Ex.avs)]))).put g (some (PT s (VM.badF 5 st2)))) m = some (.row 4 [.int .i64 11, .int .i64 0, .str w, .ro (l.map Ex.avs)]) := by rw [Heap.put_ne _ _ (by omega), Heap.put_at]
      obtain ⟨cs, r2, r2l⟩ := h5.rx
      generalize Heap.put (H2.put m _) g _ = H5 at h5 hm r2 ⊢
      simp [zfq, hm, r2, r2l]
      have := h5.form hq (o := some (.row 4 ((Ex.mk 11 0 w l).avs ++ cs.drop 4))) (m + 1)
      rw [hexl] at this
      exact this
  refine (zhx w (by unfold maxLen; omega)).call ?_
  by_cases hnm : VM.name w = true
  · have := go st H h (by rw [if_pos hnm])
    simp [zbt, hnm, hwr]
    exact this
  · have hnm' : VM.name w = false := by simpa using hnm
    simp [zbt, hnm']
    refine zaq h.rg ?_
    have := go (VM.badF 7 st) _ (h.put (st' := VM.badF 7 st) h.suf) (by rw [if_neg hnm])
    simp [zfp, hwr]
    exact this
set_option maxHeartbeats 1000000 in
theorem ztt (hE : zbm s d) (hl : s.length ≤ 1500) (hd : d ≤ 11) {H : Heap} {m gk : Nat} {st : VM.St} {w : Str} (h : TxE s H0 n g st H m) (hkm : gk < m) (hk : H gk = some (.row 3 zhz)) (h5 : ∀ j, j < 5 → w ≠ ops5.getD j []) (hwl : w.length ≤ 1500)
    (hq : TxQ s H0 n g (VM.formF (VM.exprF d) w st).1 (VM.formF (VM.exprF d) w st).2 Q) :
    LP (zbs Q) [.ptr g 0, .int .i64 (10 - (d : Int)), .ptr n 0, .str w, .slc gk 0 6, .int .i64 6, .int .i64 0] H m := by
  refine LP.mk (fun k xs H' m' => ∃ i : Nat, i + k = 6 ∧ xs = [.ptr g 0, .int .i64 (10 - (d : Int)), .ptr n 0, .str w, .slc gk 0 6, .int .i64 6, .int .i64 i] ∧ TxE s H0 n g st H' m' ∧ gk < m' ∧ H' gk = some (.row 3 zhz) ∧ ∀ j, j < i → w ≠ ops6.getD j []) 6 ⟨0, by omega, rfl, h, hkm, hk, by omega⟩ ?_
  rintro k xs H' m' ⟨i, hik, rfl, h, hkm, hk, hno⟩
  generalize hJ : (fun (xs : List AV) (H' : Heap) (m' : Nat) => ∃ k', k' < k ∧ ∃ i : Nat, i + k' = 6 ∧ xs = [.ptr g 0, .int .i64 (10 - (d : Int)), .ptr n 0, .str w, .slc gk 0 6, .int .i64 6, .int .i64 i] ∧ TxE s H0 n g st H' m' ∧ gk < m' ∧ H' gk = some (.row 3 zhz) ∧ ∀ j, j < i → w ≠ ops6.getD j []) = J
  cases k with
  | zero =>
    obtain rfl : i = 6 := by omega
    simp [zbs]
    exact ztv hE hl hd h (zsz h5 hno) hwl hq
  | succ k =>
    have hlt : i < 6 := by omega
    have hi' : (i : Int) < 6 := by omega
    have hi0 : (0 : Int) ≤ i := by omega
    have hat := zvv i hlt
    have hwr : IntKind.i64.wrap ((i : Int) + 1) = (i : Int) + 1 := i64w (by omega)
    have hwd : IntKind.i64.wrap (10 - (d : Int) + 1) = 11 - (d : Int) := by rw [i64w (by omega)]; omega
    have hle : i * 3 + 3 ≤ zhz.length := by show i * 3 + 3 ≤ 18; omega
    have gn := h.gn
    have nm := h.nm
    have h6 := zxb i hlt
    have hwt0 : 0 ≤ zmy.getD i 0 := by
      have : i = 0 ∨ i = 1 ∨ i = 2 ∨ i = 3 ∨ i = 4 ∨ i = 5 := by omega
      rcases this with rfl | rfl | rfl | rfl | rfl | rfl <;> decide
    have hone : ops6.getD i [] = w → ∀ j, j < i → w ≠ ops6.getD j [] := fun _ => hno
    generalize hop : ops6.getD i [] = op at *
    generalize hwt : zmy.getD i 0 = wt at *
    have h1 : TxE s H0 n g st (H'.put m' (some (.row 3 [.str op, .int .i64 (5 + (i : Int)), .int .i64 wt]))) (m' + 1) := h.new (Nat.le_refl _) (by omega)
    have hk1 : (H'.put m' (some (.row 3 [.str op, .int .i64 (5 + (i : Int)), .int .i64 wt]))) gk = some (.row 3 zhz) := by rw [Heap.put_ne _ _ (by omega)]; exact hk
    simp [zbs, hi', hi0, hk, hle, hat]
    refine ⟨fun he => ?_, fun hne => ?_⟩
    · subst he
      unfold VM.formF at hq
      rw [h6] at hq
      simp only at hq
      refine zm.texprs hE hl hwd h1.suf h1.rg ?_
      have h2 := h1.put (zdb (zdc d) st h1.suf)
      have hm2 : ((H'.put m' (some (.row 3 [.str w, .int .i64 (5 + (i : Int)), .int .i64 wt]))).put g (some (PT s (VM.manyF (VM.exprF d) st).2))) m' = some (.row 3 [.str w, .int .i64 (5 + (i : Int)), .int .i64 wt]) := by rw [Heap.put_ne _ _ (by omega), Heap.put_at]
      have hm1 : (H'.put m' (some (.row 3 [.str w, .int .i64 (5 + (i : Int)), .int .i64 wt]))) m' = some (.row 3 [.str w, .int .i64 (5 + (i : Int)), .int .i64 wt]) := Heap.put_at _ _ _
      generalize VM.manyF (VM.exprF d) st = r at *
      obtain ⟨l, st2⟩ := r
      simp only at *
      have hst : (if (l.length : Int) = wt then st2 else VM.badF 5 st2) = (if l.length = wt.toNat then st2 else VM.badF 5 st2) := by
        by_cases hl : l.length = wt.toNat
        · rw [if_pos hl, if_pos (by omega)]
        · rw [if_neg hl, if_neg (by omega)]
      have hexl : Ex.avs (.mk (5 + (i : Int)) 0 [] l) = [.int .i64 (5 + (i : Int)), .int .i64 0, .str [], .ro (l.map Ex.avs)] := zdq _ _ _ _
      have hq' : TxQ s H0 n g (.mk (5 + (i : Int)) 0 [] l) (if (l.length : Int) = wt then st2 else VM.badF 5 st2) Q := by
        rw [hst]
        by_cases hl : l.length = wt.toNat
        · rw [if_pos hl] at hq ⊢; exact hq
        · rw [if_neg hl] at hq ⊢; exact hq
      have h3 := h2.put (st' := if (l.length : Int) = wt then st2 else VM.badF 5 st2) (by split <;> exact h2.suf)
      have ne_1 : n ≠ g ∧ g ≠ n ∧ n ≠ m' ∧ m' ≠ n ∧ g ≠ m' ∧ m' ≠ g := ⟨by omega, by omega, by omega, by omega, by omega, by omega⟩
      simp [zfr, Heap.apply, ne_1]
      refine zm.tcount (s := s) (st := st2) (by simp) ?_
      generalize hst4 : (if (l.length : Int) = wt then st2 else VM.badF 5 st2) = st4 at *
      obtain ⟨cs, r2, r2l⟩ := h3.rx
      rw [Heap.put_put] at r2 h3
      rw [Heap.put_ne _ _ (by omega), Heap.put_ne _ _ (by omega)] at r2
      have xl := zcn (.mk (5 + (i : Int)) 0 [] l)
      have xo := zlo (.mk (5 + (i : Int)) 0 [] l)
      have fin := fun o => h3.form hq' (o := o) (m' + 1)
      generalize (Ex.mk (5 + (i : Int)) 0 [] l).avs = xa at *
      have xt : (xa ++ cs.drop 4).take 4 = xa := by rw [List.take_append, List.take_of_length_le (by omega), xl]; simp
      simp [zfs, Heap.apply, r2, r2l, xl, xt, ne_1]
      exact ⟨xo, fin _⟩
    · simp only [hwr]
      rw [← hJ]
      exact ⟨k, by omega, i + 1, by omega, rfl, h1, by omega, hk1, fun j hj => by
        by_cases hji : j = i
        · subst hji; rw [hop]; exact hne
        · exact hno j (by omega)⟩
set_option maxHeartbeats 1000000 in
theorem zts (hE : zbm s d) (hl : s.length ≤ 1500) (hd : d ≤ 11) {H : Heap} {m gk : Nat} {st : VM.St} {w : Str} (h : TxE s H0 n g st H m) (hk : H gk = some (.row 1 (ops5.map AV.str))) (hwl : w.length ≤ 1500)
    (hq : TxQ s H0 n g (VM.formF (VM.exprF d) w st).1 (VM.formF (VM.exprF d) w st).2 Q) :
    LP (zam Q) [.ptr g 0, .int .i64 (10 - (d : Int)), .ptr n 0, .str w, .slc gk 0 5, .int .i64 5, .int .i64 0] H m := by
  refine LP.mk (fun k xs H' m' => ∃ i : Nat, i + k = 5 ∧ xs = [.ptr g 0, .int .i64 (10 - (d : Int)), .ptr n 0, .str w, .slc gk 0 5, .int .i64 5, .int .i64 i] ∧ TxE s H0 n g st H' m' ∧ H' gk = some (.row 1 (ops5.map AV.str)) ∧ ∀ j, j < i → w ≠ ops5.getD j []) 5 ⟨0, by omega, rfl, h, hk, by omega⟩ ?_
  rintro k xs H' m' ⟨i, hik, rfl, h, hk, hno⟩
  generalize hJ : (fun (xs : List AV) (H' : Heap) (m' : Nat) => ∃ k', k' < k ∧ ∃ i : Nat, i + k' = 5 ∧ xs = [.ptr g 0, .int .i64 (10 - (d : Int)), .ptr n 0, .str w, .slc gk 0 5, .int .i64 5, .int .i64 i] ∧ TxE s H0 n g st H' m' ∧ H' gk = some (.row 1 (ops5.map AV.str)) ∧ ∀ j, j < i → w ≠ ops5.getD j []) = J
  have gn := h.gn
  have nm := h.nm
  cases k with
  | zero =>
    obtain rfl : i = 5 := by omega
    have hkr : AObj.row 3 zhz = AObj.row 3 [AV.str [99, 101, 108, 108], AV.int IntKind.i64 5, AV.int IntKind.i64 2, AV.str [108, 101, 102, 116], AV.int IntKind.i64 6, AV.int IntKind.i64 1, AV.str [114, 105, 103, 104, 116], AV.int IntKind.i64 7, AV.int IntKind.i64 1, AV.str [97, 115, 107], AV.int IntKind.i64 8, AV.int IntKind.i64 1, AV.str [104, 101, 114, 101], AV.int IntKind.i64 9, AV.int IntKind.i64 0, AV.str [103, 111], AV.int IntKind.i64 10, AV.int IntKind.i64 1] := rfl
    simp only [zam, ← hkr]
    simp
    exact ztt hE hl hd (h.new (Nat.le_refl _) (by omega)) (by omega) (Heap.put_at _ _ _) hno hwl hq
  | succ k =>
    have hlt : i < 5 := by omega
    have hi' : (i : Int) < 5 := by omega
    have hi0 : (0 : Int) ≤ i := by omega
    have hx : (ops5.map AV.str)[i]? = some (.str (ops5.getD i [])) := by
      have : i = 0 ∨ i = 1 ∨ i = 2 ∨ i = 3 ∨ i = 4 := by omega
      rcases this with rfl | rfl | rfl | rfl | rfl <;> rfl
    have hwr : IntKind.i64.wrap ((i : Int) + 1) = (i : Int) + 1 := i64w (by omega)
    have hwd : IntKind.i64.wrap (10 - (d : Int) + 1) = 11 - (d : Int) := by rw [i64w (by omega)]; omega
    have h5 := zxc i hlt
    generalize hop : ops5.getD i [] = op at *
    by_cases he : w = op
    · subst he
      unfold VM.formF at hq
      rw [h5] at hq
      simp only at hq
      simp [zam, hi', hi0, hk, hx, hwr, hwd]
      refine zlf hE hl h.suf h.rg ?_
      have h2 := h.put (zdb (zdc d) st h.suf)
      generalize VM.manyF (VM.exprF d) st = r at *
      obtain ⟨l, st2⟩ := r
      simp only at *
      have hst : (if (l.length : Int) = 2 then st2 else VM.badF 5 st2) = (if l.length = 2 then st2 else VM.badF 5 st2) := by
        by_cases hl : l.length = 2
        · rw [if_pos hl, if_pos (by omega)]
        · rw [if_neg hl, if_neg (by omega)]
      have hq' : TxQ s H0 n g (.mk 4 ((i : Int) + 1) [] l) (if (l.length : Int) = 2 then st2 else VM.badF 5 st2) Q := by
        rw [hst]
        by_cases hl : l.length = 2
        · rw [if_pos hl] at hq ⊢; exact hq
        · rw [if_neg hl] at hq ⊢; exact hq
      generalize H'.put g _ = H2 at h2 ⊢
      have h3 := h2.put (st' := if (l.length : Int) = 2 then st2 else VM.badF 5 st2) (by split <;> exact h2.suf)
      simp [zft]
      refine zoe h2.rg ?_
      generalize hst4 : (if (l.length : Int) = 2 then st2 else VM.badF 5 st2) = st4 at *
      obtain ⟨cs, r2, r2l⟩ := h3.rx
      generalize H2.put g _ = H3 at h3 r2 ⊢
      have xl := zcn (.mk 4 ((i : Int) + 1) [] l)
      have xo := zlo (.mk 4 ((i : Int) + 1) [] l)
      have fin := fun o => h3.form hq' (o := o) m'
      generalize (Ex.mk 4 ((i : Int) + 1) [] l).avs = xa at *
      have xt : (xa ++ cs.drop 4).take 4 = xa := by rw [List.take_append, List.take_of_length_le (by omega), xl]; simp
      simp [zfu, r2, r2l, xl, xt]
      exact ⟨xo, fin _⟩
    · simp [zam, hi', hi0, hk, hx, he, hwr]
      rw [← hJ]
      exact ⟨k, by omega, i + 1, by omega, rfl, h, hk, fun j hj => by
        by_cases hji : j = i
        · subst hji; rw [hop]; exact he
        · exact hno j (by omega)⟩
set_option maxHeartbeats 1000000 in
theorem ztu (hl : s.length ≤ 1500) : ∀ d, d ≤ 11 → zbm s d := by
  intro d
  induction d with
  | zero =>
    intro _ st g H n Q hs hg hq
    refine za.tparser (st' := (VM.exprF 0 st).2) hg (fun hgn => ?_) hq
    suffices main : ∀ Q : QT, TxQ s H n g (VM.exprF 0 st).1 (VM.exprF 0 st).2 Q → za Tryd.prog 76 [.ptr g 0, .int .i64 (11 - ((0 : Nat) : Int))] H n Q from main _ fun v H' n' a b c => ⟨a, b, c⟩
    intro Q hq
    refine zdn _ _ _ _ _ ?_
    simp [zcw]
    have h0 : TxE s H n g st (H.put n (some (.row 4 [.int .i64 0, .int .i64 0, .str [], .nils]))) (n + 1) :=
      ⟨by rw [Heap.put_ne _ _ (by omega)]; exact hg, ⟨_, Heap.put_at _ _ _, rfl⟩, hs, hgn, by omega, fun y hy _ => Heap.put_ne _ _ (by omega)⟩
    generalize H.put n _ = H1 at h0 ⊢
    refine zkc h0.rg ?_
    rw [if_neg (by omega)]
    have h1 := h0.put (st' := VM.badF 9 st) h0.suf
    obtain ⟨cs, r2, r2l⟩ := h1.rx
    generalize H1.put g _ = H2 at h1 r2 ⊢
    simp [zbe, r2, r2l]
    exact h1.leaf hq _
  | succ d ih =>
    intro hd st g H n Q hs hg hq
    have hE := ih (by omega)
    refine za.tparser (st' := (VM.exprF (d + 1) st).2) hg (fun hgn => ?_) hq
    suffices main : ∀ Q : QT, TxQ s H n g (VM.exprF (d + 1) st).1 (VM.exprF (d + 1) st).2 Q → za Tryd.prog 76 [.ptr g 0, .int .i64 (11 - ((d + 1 : Nat) : Int))] H n Q from main _ fun v H' n' a b c => ⟨a, b, c⟩
    intro Q hq
    have hz : (11 : Int) - ((d + 1 : Nat) : Int) = 10 - (d : Int) := by omega
    rw [hz]
    refine zdn _ _ _ _ _ ?_
    simp [zcw]
    have h0 : TxE s H n g st (H.put n (some (.row 4 [.int .i64 0, .int .i64 0, .str [], .nils]))) (n + 1) :=
      ⟨by rw [Heap.put_ne _ _ (by omega)]; exact hg, ⟨_, Heap.put_at _ _ _, rfl⟩, hs, hgn, by omega, fun y hy _ => Heap.put_ne _ _ (by omega)⟩
    generalize H.put n _ = H1 at h0 ⊢
    refine zkc h0.rg ?_
    rw [if_pos (show (10 : Int) - (d : Int) ≤ 10 by omega), Heap.put_same h0.rg]
    have hd10 : (10 : Int) - (d : Int) ≤ 10 := by omega
    unfold VM.exprF at hq
    by_cases he : st.2 = 0
    · rw [if_neg (by simpa using he)] at hq
      have hd11 : ¬ (10 : Int) < 10 - (d : Int) := by omega
      simp [zbe, he, hd10]
      refine zfx hl h0.suf h0.rg ?_
      have h1 := h0.put (st' := (VM.trim st.1, st.2)) (zaw h0.suf)
      generalize H1.put g _ = H2 at h1 ⊢
      by_cases h39 : VM.nxt st.1 = 39
      · rw [if_pos h39] at hq
        obtain ⟨c, r, hc⟩ := zhn (b := st.1) (by rw [h39]; decide)
        have hc39 : c = 39 := by
          have e := h39
          unfold VM.nxt at e
          rw [hc] at e
          simp only at e
          split at e
          · cases e
          · exact UInt8.toNat_inj.1 (by show c.toNat = 39; omega)
        subst hc39
        rw [hc] at hq h1
        simp [zbf, h39]
        refine zrn hl h1.suf h1.rg fun w st' e => ?_
        rw [e] at hq
        have hs' : st'.1 <:+ s := by
          have := zdc (s := s) 1 (39 :: r, 0) h1.suf
          unfold VM.quotedF at e
          have h2 : (((39 :: r : Str).drop 1).dropWhile (· != 39)).drop 1 <:+ s := zfy 1 ((List.dropWhile_suffix _).trans (zfy 1 h1.suf))
          split at e
          · cases e
            split
            · exact h2
            · exact h2
          · cases e
            exact zfy 1 h1.suf
        have h3 := h1.put (st' := st') hs'
        obtain ⟨cs, r2, r2l⟩ := h3.rx
        generalize H2.put g _ = H3 at h3 r2 ⊢
        simp [zfv, r2, r2l]
        exact ⟨by rintro _ ((rfl | rfl) | rfl | rfl) <;> rfl, h3.leaf hq _⟩
      · rw [if_neg h39] at hq
        by_cases h40 : VM.nxt st.1 = 40
        · rw [if_neg (by simpa using h40)] at hq
          obtain ⟨c, r, hc⟩ := zhn (b := st.1) (by rw [h40]; decide)
          rw [hc] at hq h1
          obtain ⟨p, hp⟩ := h1.suf
          have hg2 : H2 g = some (.row 3 [.str s, .int .i64 (p.length : Int), .int .i64 st.2]) := by
            rw [h1.rg, ← hp, zgh]
          have hpl : p.length ≤ 1500 := by rw [← hp, List.length_append] at hl; omega
          have hwp : IntKind.i64.wrap ((p.length : Int) + 1) = (p.length : Int) + 1 := i64w (by omega)
          have e1 : PT s (r, st.2) = .row 3 [.str s, .int .i64 ((p.length : Int) + 1), .int .i64 st.2] := by
            have := zgh (p ++ [c]) r st.2
            rw [List.append_assoc] at this
            simp only [List.cons_append, List.nil_append, List.length_append, List.length_cons, List.length_nil] at this
            rw [hp] at this
            rw [this]
            simp
          have hsr : r <:+ s := ⟨p ++ [c], by simpa using hp⟩
          simp [zbf, h40, hg2, hwp]
          rw [← e1]
          have h3 := h1.put (st' := (r, st.2)) hsr
          generalize H2.put g _ = H3 at h3 ⊢
          refine zka hl h3.suf h3.rg ?_
          have hwl := zir (r, st.2)
          have hrl := hsr.length_le
          have h4 := h3.put (zke h3.suf)
          generalize H3.put g _ = H4 at h4 ⊢
          rw [show (c :: r).drop 1 = r from rfl] at hq
          generalize VM.wF (r, st.2) = ws at *
          obtain ⟨w, s1⟩ := ws
          simp only at *
          unfold zei
          refine zmq _ _ _ ?_
          have hk5 : AObj.row 1 (ops5.map AV.str) = AObj.row 1 [AV.str [43], AV.str [45], AV.str [42], AV.str [60], AV.str [61]] := rfl
          simp only [zkv, ← hk5]
          simp [zej]
          exact zts hE hl (by omega) (h4.new (Nat.le_refl _) (by omega)) (Heap.put_at _ _ _) (by omega) hq
        · rw [if_pos h40] at hq
          simp [zbf, h39, h40]
          exact zsp hl h1 hq
    · rw [if_pos he] at hq
      obtain ⟨cs, r2, r2l⟩ := h0.rx
      simp [zbe, he, r2, r2l]
      exact h0.leaf hq _
end
end Go.Proofs.YtpllgpgdcbgalaaDoor
set_option maxRecDepth 8000
namespace Go.Proofs.YtpllgpgdcbgalaaDoor
open Go Go.RowKit
structure TxS (s : Str) (H0 : Heap) (n g gx : Nat) (dz k : Int) (nm : Str) (l : List Ex) (T E : AV) (st : VM.St) (H : Heap) (m : Nat) : Prop where
  r0 : H n = some (.row 1 [.ptr g 0])
  r1 : H (n + 1) = some (.row 1 [.int .i64 dz])
  r2 : ∃ cs, H (n + 2) = some (.row 5 cs) ∧ cs.length = 5
  rx : ∃ A, H gx = some (.row 5 [.int .i64 k, .str nm, A, T, E]) ∧ ArgS H (n + 3) m gx l A
  rg : H g = some (PT s st)
  suf : st.1 <:+ s
  gn : g < n
  gx0 : n + 3 ≤ gx
  gx1 : gx < m
  keep : ∀ y, y < n → y ≠ g → H y = H0 y
section
variable {s : Str} {H0 H : Heap} {n g gx m : Nat} {dz k : Int} {nm : Str} {l : List Ex} {T E : AV} {st st' : VM.St}
theorem TxS.put (h : TxS s H0 n g gx dz k nm l T E st H m) (hs : st'.1 <:+ s) : TxS s H0 n g gx dz k nm l T E st' (H.put g (some (PT s st'))) m := by
  have hb := h.gn
  have hx := h.gx0
  obtain ⟨cs, h2, h3⟩ := h.r2
  obtain ⟨A, h4, h5⟩ := h.rx
  exact ⟨by rw [Heap.put_ne _ _ (by omega)]; exact h.r0, by rw [Heap.put_ne _ _ (by omega)]; exact h.r1, ⟨cs, by rw [Heap.put_ne _ _ (by omega)]; exact h2, h3⟩, ⟨A, by rw [Heap.put_ne _ _ (by omega)]; exact h4, h5.keep (Nat.le_refl _) fun y hy _ _ => Heap.put_ne _ _ (by omega)⟩, Heap.put_at _ _ _, hs, hb, hx, h.gx1, fun y hy hne => by rw [Heap.put_ne _ _ hne]; exact h.keep y hy hne⟩
theorem TxS.set {k' : Int} {nm' : Str} {T' E' A : AV} (h : TxS s H0 n g gx dz k nm l T E st H m) (hA : H gx = some (.row 5 [.int .i64 k, .str nm, A, T, E])) : TxS s H0 n g gx dz k' nm' l T' E' st (H.put gx (some (.row 5 [.int .i64 k', .str nm', A, T', E']))) m := by
  have hb := h.gn
  have hx := h.gx0
  obtain ⟨cs, h2, h3⟩ := h.r2
  obtain ⟨A', h4, h5⟩ := h.rx
  rw [hA] at h4
  cases h4
  exact ⟨by rw [Heap.put_ne _ _ (by omega)]; exact h.r0, by rw [Heap.put_ne _ _ (by omega)]; exact h.r1, ⟨cs, by rw [Heap.put_ne _ _ (by omega)]; exact h2, h3⟩, ⟨A, Heap.put_at _ _ _, h5.keep (Nat.le_refl _) fun y _ _ hne => Heap.put_ne _ _ hne⟩, by rw [Heap.put_ne _ _ (by omega)]; exact h.rg, h.suf, hb, hx, h.gx1, fun y hy hne => by rw [Heap.put_ne _ _ (by omega)]; exact h.keep y hy hne⟩
theorem TxS.new {y : Nat} {o : Option AObj} {m' : Nat} (h : TxS s H0 n g gx dz k nm l T E st H m) (hy : m ≤ y) (hm : m ≤ m') : TxS s H0 n g gx dz k nm l T E st (H.put y o) m' := by
  have hb := h.gn
  have hx := h.gx0
  have hx1 := h.gx1
  obtain ⟨cs, h2, h3⟩ := h.r2
  obtain ⟨A, h4, h5⟩ := h.rx
  exact ⟨by rw [Heap.put_ne _ _ (by omega)]; exact h.r0, by rw [Heap.put_ne _ _ (by omega)]; exact h.r1, ⟨cs, by rw [Heap.put_ne _ _ (by omega)]; exact h2, h3⟩, ⟨A, by rw [Heap.put_ne _ _ (by omega)]; exact h4, h5.keep hm fun z _ hz _ => Heap.put_ne _ _ (by omega)⟩, by rw [Heap.put_ne _ _ (by omega)]; exact h.rg, h.suf, hb, hx, by omega, fun z hz hne => by rw [Heap.put_ne _ _ (by omega)]; exact h.keep z hz hne⟩
theorem TxS.next {HF : Heap} (h : TxS s H0 n g gx dz k nm l T E st H m) (x : Ex) (hs : st'.1 <:+ s) (f1 : HF g = some (PT s st')) (f2 : HF gx = some (.row 5 [.int .i64 k, .str nm, .slc (m + 1) 0 (l.length + 1), T, E])) (f3 : HF (m + 1) = some (.row 4 (rowE (l ++ [x]))))
    (f4 : ∀ y, y < n + 3 → y ≠ g → HF y = H y) : TxS s H0 n g gx dz k nm (l ++ [x]) T E st' HF (m + 2) := by
  have hb := h.gn
  have hx0 := h.gx0
  have hx1 := h.gx1
  obtain ⟨cs2, r2, r2l⟩ := h.r2
  refine ⟨by rw [f4 n (by omega) (by omega)]; exact h.r0, by rw [f4 _ (by omega) (by omega)]; exact h.r1, ⟨cs2, by rw [f4 _ (by omega) (by omega)]; exact r2, r2l⟩, ⟨_, f2, ?_⟩, f1, hs, hb, hx0, by omega, fun y hy hne => by rw [f4 y (by omega) hne]; exact h.keep y hy hne⟩
  have := ArgS.row (H := HF) (lo := n + 3) (hi := m + 2) (gx := gx) (l := l ++ [x]) (ga := m + 1) (by omega) (by omega) (by omega) f3
  rw [List.length_append] at this
  exact this
end
theorem zm.texpr {s : Str} {d : Nat} (hE : zbm s d) {st : VM.St} {g n : Nat} {H : Heap} {z : Int} {kt : Kt} (hz : z = 11 - (d : Int)) (hs : st.1 <:+ s) (hg : H g = some (PT s st)) (hk : kt (.agg (VM.exprF d st).1.avs) [g] [] [(g, some (PT s (VM.exprF d st).2))]) : zm Tryd.prog (.clo 76 []) [.ptr g 0, .int .i64 z] H n kt := by
  subst hz
  exact ⟨_, [g], [], _, .inl rfl, LC.tparser hg (zjv _) fun H n Q h1 h2 => hE st g H n Q hs h1 h2, hk⟩
set_option maxHeartbeats 1000000 in
theorem zjo {s : Str} {d : Nat} (hE : zbm s d) {H0 H : Heap} {n g gx m : Nat} {k : Int} {nm : Str} {l : List Ex} {T E : AV} {st : VM.St} {K : QT} (h : TxS s H0 n g gx (10 - (d : Int)) k nm l T E st H m) (hd : d ≤ 11) (hll : l.length ≤ 100)
    (hk : ∀ H' m', TxS s H0 n g gx (10 - (d : Int)) k nm (l ++ [(VM.exprF d st).1]) T E (VM.exprF d st).2 H' m' → K (.tup []) H' m') : za Tryd.prog 75 [.ptr gx 0, .ptr n 0, .ptr (n + 1) 0] H m K := by
  refine zhp _ _ _ _ _ _ ?_
  have hb := h.gn
  have hx0 := h.gx0
  have hx1 := h.gx1
  obtain ⟨A, rx, ra⟩ := h.rx
  have r0 := h.r0
  have r1 := h.r1
  have hw : IntKind.i64.wrap (10 - (d : Int) + 1) = 10 - (d : Int) + 1 := i64w (by omega)
  have hsf := zdc d st h.suf
  cases ra with
  | nil =>
    simp [zbx, rx, r0, r1, hw]
    refine zm.texpr hE (by omega) h.suf h.rg ?_
    have xl := zcn (VM.exprF d st).1
    have xo := zlo (VM.exprF d st).1
    generalize hxa : (VM.exprF d st).1.avs = xa at xl xo
    have ne_0 : g ≠ n ∧ n ≠ g ∧ g ≠ n + 1 ∧ n + 1 ≠ g ∧ g ≠ gx ∧ gx ≠ g ∧ n ≠ n + 1 ∧ n + 1 ≠ n ∧ n ≠ gx ∧ gx ≠ n ∧ n + 1 ≠ gx ∧ gx ≠ n + 1 ∧ g ≠ m ∧ m ≠ g ∧ g ≠ m + 1 ∧ m + 1 ≠ g ∧ n ≠ m ∧ m ≠ n ∧ n ≠ m + 1 ∧ m + 1 ≠ n ∧ n + 1 ≠ m ∧ m ≠ n + 1 ∧ n + 1 ≠ m + 1 ∧ m + 1 ≠ n + 1 ∧ gx ≠ m ∧ m ≠ gx ∧ gx ≠ m + 1 ∧ m + 1 ≠ gx := ⟨by omega, by omega, by omega, by omega, by omega, by omega, by omega, by omega, by omega, by omega, by omega, by omega, by omega, by omega, by omega, by omega, by omega, by omega, by omega, by omega, by omega, by omega, by omega, by omega, by omega, by omega, by omega, by omega⟩
    simp [zby, rx, xl, ne_0]
    refine ⟨xo, hk _ _ (h.next _ hsf ?_ ?_ ?_ fun y hy hne => ?_)⟩
    · rw [Heap.put_ne _ _ (by omega), Heap.put_ne _ _ (by omega), Heap.put_ne _ _ (by omega), Heap.put_at]
    · rw [Heap.put_at]; rfl
    · rw [Heap.put_ne _ _ (by omega), Heap.put_at, zoj, hxa]; rfl
    · rw [Heap.put_ne _ _ (by omega), Heap.put_ne _ _ (by omega), Heap.put_ne _ _ (by omega), Heap.put_ne _ _ hne]
  | @row l ga a1 a2 a3 a4 =>
    simp [zbx, rx, r0, r1, hw]
    refine zm.texpr hE (by omega) h.suf h.rg ?_
    have xl := zcn (VM.exprF d st).1
    have xo := zlo (VM.exprF d st).1
    generalize hxa : (VM.exprF d st).1.avs = xa at xl xo
    have rl := ztz l
    have h1 : (l.length + 1) * 56 ≤ 140737488355328 := by omega
    have h2 : (l.length : Int) < l.length + 1 := by omega
    have h3 : (rowE l).take (l.length * 4) = rowE l := List.take_of_length_le (by omega)
    have ne_1 : g ≠ n ∧ n ≠ g ∧ g ≠ n + 1 ∧ n + 1 ≠ g ∧ g ≠ gx ∧ gx ≠ g ∧ g ≠ ga ∧ ga ≠ g ∧ n ≠ n + 1 ∧ n + 1 ≠ n ∧ n ≠ gx ∧ gx ≠ n ∧ n ≠ ga ∧ ga ≠ n ∧ n + 1 ≠ gx ∧ gx ≠ n + 1 ∧ n + 1 ≠ ga ∧ ga ≠ n + 1 ∧ gx ≠ ga ∧ ga ≠ gx ∧ g ≠ m ∧ m ≠ g ∧ g ≠ m + 1 ∧ m + 1 ≠ g ∧ n ≠ m ∧ m ≠ n ∧ n ≠ m + 1 ∧ m + 1 ≠ n ∧ n + 1 ≠ m ∧ m ≠ n + 1 ∧ n + 1 ≠ m + 1 ∧ m + 1 ≠ n + 1 ∧ gx ≠ m ∧ m ≠ gx ∧ gx ≠ m + 1 ∧ m + 1 ≠ gx ∧ ga ≠ m ∧ m ≠ ga ∧ ga ≠ m + 1 ∧ m + 1 ≠ ga := ⟨by omega, by omega, by omega, by omega, by omega, by omega, by omega, by omega, by omega, by omega, by omega, by omega, by omega, by omega, by omega, by omega, by omega, by omega, by omega, by omega, by omega, by omega, by omega, by omega, by omega, by omega, by omega, by omega, by omega, by omega, by omega, by omega, by omega, by omega, by omega, by omega, by omega, by omega, by omega, by omega⟩
    simp [zby, rx, a4, rl, h1, h2, h3, xl, ne_1]
    have h4 : (rowE l ++ [AV.int .i64 0, .int .i64 0, .str [], .nils]).drop (l.length * 4 + 4) = [] := List.drop_of_length_le (by rw [List.length_append, rl]; simp)
    rw [h4]
    refine ⟨xo, hk _ _ (h.next _ hsf ?_ ?_ ?_ fun y hy hne => ?_)⟩
    · rw [Heap.put_ne _ _ (by omega), Heap.put_ne _ _ (by omega), Heap.put_ne _ _ (by omega), Heap.put_ne _ _ (by omega), Heap.put_at]
    · rw [Heap.put_at]
    · rw [Heap.put_ne _ _ (by omega), Heap.put_at, zoj, hxa, List.append_nil]
    · rw [Heap.put_ne _ _ (by omega), Heap.put_ne _ _ (by omega), Heap.put_ne _ _ (by omega), Heap.put_ne _ _ (by omega), Heap.put_ne _ _ hne]
end Go.Proofs.YtpllgpgdcbgalaaDoor
set_option maxRecDepth 8000
namespace Go.Proofs.YtpllgpgdcbgalaaDoor
open Go Go.RowKit
theorem zoi {s : Str} (d : Nat) : ∀ (k : Nat) (st : VM.St), st.1 <:+ s → (VM.timesF (VM.exprF d) k st).2.1 <:+ s
  | 0, st, h => h
  | k + 1, st, h => by unfold VM.timesF; exact zoi d k _ (zdc d st h)
theorem zht {s : Str} : ∀ (d : Nat) (st : VM.St), st.1 <:+ s → (VM.stmtF d st).2.1 <:+ s
  | 0, st, h => h
  | d + 1, st, h => by
    have key : ∀ q : VM.St, q.1 <:+ s → (VM.manyF (VM.stmtF d) q).2.1 <:+ s := fun q hq => zdb (zht d) q hq
    by_cases hc : st.2 ≠ 0
    · unfold VM.stmtF; rw [if_pos hc]; exact h
    · simp only [VM.stmtF]
      rw [if_neg hc]
      have h1 := zke (zy (c := 40) h)
      generalize VM.wF (VM.mustF 40 st) = w at h1 ⊢
      have h2 : (if VM.stKind w.1 = 0 then VM.badF 1 w.2 else w.2).1 <:+ s := by split <;> exact h1
      generalize (if VM.stKind w.1 = 0 then VM.badF 1 w.2 else w.2) = s1 at h2 ⊢
      have h3 : (VM.nmF (VM.stKind w.1) s1).2.1 <:+ s := by
        unfold VM.nmF
        split
        · exact zpc h2
        · exact h2
      generalize VM.nmF (VM.stKind w.1) s1 = nm at h3 ⊢
      have h4 := zoi d (VM.argsOf (VM.stKind w.1)) nm.2 h3
      generalize VM.timesF (VM.exprF d) (VM.argsOf (VM.stKind w.1)) nm.2 = a at h4 ⊢
      split
      · exact zy (key _ (zy (key _ (zy h4))))
      · split
        · exact key _ h4
        · exact zy h4
def zie (s : Str) (d : Nat) : Prop := ∀ (st : VM.St) (g : Nat) (H : Heap) (n : Nat) (Q : QT), st.1 <:+ s → H g = some (PT s st) → Q (.agg (VM.stmtF d st).1.avs) (H.put g (some (PT s (VM.stmtF d st).2))) n → za Tryd.prog 65 [.ptr g 0, .int .i64 (11 - (d : Int))] H n Q
set_option maxHeartbeats 1000000 in
theorem zqk {d : Nat} {s : Str} (hE : zie s d) (hl : s.length ≤ 1500) {H0 H : Heap} {b g n : Nat} {st : VM.St} {Q : QT} (h : ElS Sm.avs 5 H0 b g s [] .nils st H n)
    (hq : ∀ A H' n', ElS Sm.avs 5 H0 b g s (VM.manyF (VM.stmtF d) st).1 A (VM.manyF (VM.stmtF d) st).2 H' n' → Q A H' n') : LP (zaz Q) [.ptr g 0, .int .i64 (11 - (d : Int)), .nils] H n := by
  have nice := VM.nice_stmt d
  refine LP.mk (fun k xs H' n' => ∃ l A st1, xs = [.ptr g 0, .int .i64 (11 - (d : Int)), A] ∧ ElS Sm.avs 5 H0 b g s l A st1 H' n' ∧ VM.left st1 < k ∧ VM.manyF (VM.stmtF d) st = (l ++ (VM.untilF (VM.stmtF d) k st1).1, (VM.untilF (VM.stmtF d) k st1).2)) (st.1.length + 2) ⟨[], .nils, st, rfl, h, VM.left_le st, rfl⟩ ?_
  rintro k xs H' n' ⟨l, A, st1, rfl, h, hle, hgo⟩
  generalize hJ : (fun (xs : List AV) (H' : Heap) (n' : Nat) => ∃ j, j < k ∧ ∃ l A st1, xs = [.ptr g 0, .int .i64 (11 - (d : Int)), A] ∧ ElS Sm.avs 5 H0 b g s l A st1 H' n' ∧ VM.left st1 < j ∧ VM.manyF (VM.stmtF d) st = (l ++ (VM.untilF (VM.stmtF d) j st1).1, (VM.untilF (VM.stmtF d) j st1).2)) = J
  obtain ⟨k, rfl⟩ : ∃ j, k = j + 1 := ⟨k - 1, by omega⟩
  have hg' : H' g = some (.row 3 [.str s, .int .i64 ((s.length - st1.1.length : Nat) : Int), .int .i64 st1.2]) := h.rg
  have stop : VM.manyF (VM.stmtF d) st = (l, VM.mustF 41 st1) → ∀ st2, VM.mustF 41 st2 = VM.mustF 41 st1 → ∀ H2 n2, ElS Sm.avs 5 H0 b g s l A st2 H2 n2 → za Tryd.prog 43 [.ptr g 0, .int .u8 41] H2 n2 (zba Q [.ptr g 0, .int .i64 (11 - (d : Int)), A]) := by
    intro e st2 e2 H2 n2 h2
    refine zda (by decide) hl h2.suf h2.rg ?_
    have h3 := h2.put (VM.flow_must 41 st2) (zy h2.suf)
    rw [e2] at h3 ⊢
    rw [e] at hq
    simp [zba]
    exact hq _ _ _ h3
  by_cases he : st1.2 = 0
  · simp [zaz, hg', he]
    refine zfx hl h.suf h.rg ?_
    have h1 := h.put (st' := (VM.trim st1.1, st1.2)) ⟨VM.trim_le _, id⟩ (zaw h.suf)
    generalize H'.put g _ = HX at h1 ⊢
    by_cases hn : VM.nxt st1.1 = 41
    · simp [zcg, hn]
      refine stop ?_ (VM.trim st1.1, st1.2) (VM.must_trim _ _ _) _ _ h1
      rw [hgo]
      simp only [VM.untilF, hn, ne_eq, not_true_eq_false, and_false, if_false, List.append_nil]
    · simp [zcg, hn]
      rw [he] at h1
      refine hE (VM.trim st1.1, 0) g _ _ _ h1.suf h1.rg ?_
      have hl1 := VM.left_lt' nice (st := (VM.trim st1.1, 0)) rfl
      have hl2 := VM.left_lt nice (st := st1) he
      have h2 := h1.put (nice.flow _) (zht d _ h1.suf)
      have xl := zne (VM.stmtF d (VM.trim st1.1, 0)).1
      have xo := zst (VM.stmtF d (VM.trim st1.1, 0)).1
      have hfew := h1.few
      have hgo2 : VM.manyF (VM.stmtF d) st = (l ++ [(VM.stmtF d (VM.trim st1.1, 0)).1] ++ (VM.untilF (VM.stmtF d) k (VM.stmtF d (VM.trim st1.1, 0)).2).1, (VM.untilF (VM.stmtF d) k (VM.stmtF d (VM.trim st1.1, 0)).2).2) := by
        rw [hgo]
        simp only [VM.untilF, he, hn, ne_eq, not_false_eq_true, and_true, if_true, List.append_assoc, List.singleton_append]
      generalize HX.put g _ = HY at h2 ⊢
      generalize VM.stmtF d (VM.trim st1.1, 0) = xr at *
      obtain ⟨x, st2⟩ := xr
      simp only at *
      have xt : x.avs.take 5 = x.avs := List.take_of_length_le (by omega)
      have hgb := h2.gb
      have hbn := h2.bn
      have snoc := zis (f := Sm.avs) l x
      have rl := zki (f := Sm.avs) (sz := 5) zne l
      have hra := h2.row
      have fin : ∀ HZ, HZ (n' + 1) = some (.row 5 ((l ++ [x]).map Sm.avs).flatten) → (∀ y, y < n' → y ∉ owns A → HZ y = HY y) → J [.ptr g 0, .int .i64 (11 - (d : Int)), .slc (n' + 1) 0 (l.length + 1)] HZ (n' + 2) := by
        intro HZ z1 z2
        rw [← hJ]
        have hA : ∀ y ∈ owns A, b ≤ y := fun y hy => by
          cases hra with
          | nil => simp [owns] at hy
          | row q1 q2 q3 => simp [owns] at hy; omega
        refine ⟨k, by omega, l ++ [x], _, st2, rfl, ⟨?_, ?_, h2.suf, hgb, by omega, fun y hy hne => ?_, by rw [List.length_append]; simp only [List.length_cons, List.length_nil]; omega⟩, by omega, hgo2⟩
        · rw [z2 g (by omega) fun hy => by have := hA g hy; omega]; exact h2.rg
        · have := RowS.row (f := Sm.avs) (sz := 5) (H := HZ) (lo := b) (hi := n' + 2) (l := l ++ [x]) (ga := n' + 1) (by omega) (by omega) z1
          rw [List.length_append] at this
          exact this
        · rw [z2 y (by omega) fun hy2 => by have := hA y hy2; omega]; exact h2.keep y hy hne
      cases hra with
      | nil =>
        simp [zch, xl, xt]
        refine ⟨xo, ?_⟩
        have := fin ((HY.put n' (some (.row 5 x.avs))).put (n' + 1) (some (.row 5 x.avs))) (by rw [Heap.put_at]; simp) fun y hy _ => by rw [Heap.put_ne _ _ (by omega), Heap.put_ne _ _ (by omega)]
        exact this
      | @row l ga q1 q2 q3 =>
        have h1 : (l.length + 1) * 96 ≤ 140737488355328 := by omega
        generalize hrr : (l.map Sm.avs).flatten = rr at *
        have h3 : rr.take (l.length * 5) = rr := List.take_of_length_le (by omega)
        have ne_0 : ga ≠ n' ∧ n' ≠ ga ∧ ga ≠ n' + 1 ∧ n' + 1 ≠ ga := ⟨by omega, by omega, by omega, by omega⟩
        simp [zch, xl, xt, q3, rl, h1, h3, ne_0]
        refine ⟨xo, ?_⟩
        have := fin (((HY.put n' (some (.row 5 x.avs))).put ga none).put (n' + 1) (some (.row 5 (rr ++ x.avs)))) (by rw [Heap.put_at, snoc]) fun y hy hno => by
          simp [owns] at hno
          rw [Heap.put_ne _ _ (by omega), Heap.put_ne _ _ hno, Heap.put_ne _ _ (by omega)]
        exact this
  · simp [zaz, hg', he]
    refine stop ?_ st1 rfl _ _ h
    rw [hgo]
    simp only [VM.untilF, he, false_and, if_false, List.append_nil]
theorem zlc {d : Nat} {s : Str} (hE : zie s d) (hl : s.length ≤ 1500) {H : Heap} {g n : Nat} {st : VM.St} {Q : QT} (hs : st.1 <:+ s) (hg : H g = some (PT s st))
    (hq : Q (.ro ((VM.manyF (VM.stmtF d) st).1.map Sm.avs)) (H.put g (some (PT s (VM.manyF (VM.stmtF d) st).2))) n) : za Tryd.prog 45 [.ptr g 0, .int .i64 (11 - (d : Int))] H n Q := by
  refine za.tparser (st' := (VM.manyF (VM.stmtF d) st).2) hg (fun hgn => ?_) hq
  refine zih _ _ _ _ _ ?_
  unfold zee
  have hle := hs.length_le
  refine zqk hE hl (b := n) (H0 := H) ⟨hg, .nil, hs, hgn, Nat.le_refl _, fun _ _ _ => rfl, by have := VM.left_le st; simp only [List.length_nil]; omega⟩ fun A H' n' h => ?_
  exact ⟨h.row.frz zne (fun A x v hv => zju A x v hv) (Nat.le_refl _) fun _ _ _ => rfl, h.rg, h.keep⟩
theorem zof {d : Nat} {s : Str} (hE : zie s d) (hl : s.length ≤ 1500) {H : Heap} {g n : Nat} {st : VM.St} {Q : QT} (hs : st.1 <:+ s) (hg : H g = some (PT s st))
    (hq : Q (.ro ((VM.manyF (VM.stmtF d) (VM.mustF 40 st)).1.map Sm.avs)) (H.put g (some (PT s (VM.manyF (VM.stmtF d) (VM.mustF 40 st)).2))) n) : za Tryd.prog 77 [.ptr g 0, .int .i64 (11 - (d : Int))] H n Q := by
  refine zik _ _ _ _ _ ?_
  unfold zel
  refine zda (by decide) hl hs hg ?_
  unfold zem
  refine zlc hE hl (zy hs) (Heap.put_at _ _ _) ?_
  rw [Heap.put_put]
  exact hq
def TsQ (s : Str) (H0 : Heap) (n g : Nat) (x : Sm) (st : VM.St) (Q : QT) : Prop := ∀ v H' n', Frz H' n v (.agg x.avs) → H' g = some (PT s st) → (∀ y, y < n → y ≠ g → H' y = H0 y) → Q v H' n'
def BlA (T : AV) (t : List Sm) : Prop := (T = .nils ∧ t = []) ∨ T = .ro (t.map Sm.avs)
theorem BlA.frz {T : AV} {t : List Sm} (h : BlA T t) (H : Heap) (N : Nat) : Frz H N T (.ro (t.map Sm.avs)) := by
  rcases h with ⟨rfl, rfl⟩ | rfl
  · exact .nils
  · refine .same _ (zec fun x hx v hv => ?_)
    obtain ⟨y, _, rfl⟩ := List.mem_map.1 hx
    exact zju _ y v hv
theorem BlA.one {T : AV} {t : List Sm} (h : BlA T t) : T.one = true := by
  rcases h with ⟨rfl, _⟩ | rfl <;> rfl
section
variable {s : Str} {H0 H : Heap} {n g gx m : Nat} {dz k : Int} {nm : Str} {l : List Ex} {T E : AV} {t e : List Sm} {st : VM.St} {Q : QT}
theorem TxS.done (h : TxS s H0 n g gx dz k nm l T E st H m) (hT : BlA T t) (hE : BlA E e) {A : AV} (hA : H gx = some (.row 5 [.int .i64 k, .str nm, A, T, E])) (hq : TsQ s H0 n g (.mk k nm l t e) st Q) (o : Option AObj) (m' : Nat) : Q (.agg [.int .i64 k, .str nm, A, T, E]) (H.put (n + 2) o) m' := by
  have hb := h.gn
  have hx := h.gx0
  obtain ⟨A', h1, h2⟩ := h.rx
  rw [hA] at h1
  cases h1
  refine hq _ _ _ ?_ (by rw [Heap.put_ne _ _ (by omega)]; exact h.rg) fun y hy hne => by rw [Heap.put_ne _ _ (by omega)]; exact h.keep y hy hne
  rw [zgm]
  exact FL.agg (.cons (.same _ (.int _ _)) (.cons (.same _ (.str _)) (.cons (zps h2 (by omega) fun y hy _ => Heap.put_ne _ _ (by omega)) (.cons (hT.frz _ _) (.cons (hE.frz _ _) .nil)))))
theorem zre (hl : s.length ≤ 1500) (h : TxS s H0 n g gx dz k nm l T E st H m) (hT : BlA T t) (hE : BlA E e) (hq : TsQ s H0 n g (.mk k nm l t e) (VM.mustF 41 st) Q) : za Tryd.prog 43 [.ptr g 0, .int .u8 41] H m (zbq gx n Q) := by
  refine zda (by decide) hl h.suf h.rg ?_
  have h1 := h.put (zy (c := 41) h.suf)
  generalize H.put g _ = H1 at h1 ⊢
  obtain ⟨A, rx, ra⟩ := h1.rx
  obtain ⟨cs, r2, r2l⟩ := h1.r2
  have hx := h1.gx0
  have ho := zqc ra
  have hTo := hT.one
  have hEo := hE.one
  simp [zbq, rx, r2, r2l]
  exact ⟨⟨ho, hTo, hEo⟩, h1.done hT hE rx hq _ _⟩
end
end Go.Proofs.YtpllgpgdcbgalaaDoor
set_option maxRecDepth 8000
namespace Go.Proofs.YtpllgpgdcbgalaaDoor
open Go Go.RowKit
namespace VM
def stF (d : Nat) (w : Str) (s1 : St) : Sm × St :=
  let nm := nmF (stKind w) (if stKind w = 0 then badF 1 s1 else s1)
  let a := timesF (exprF d) (argsOf (stKind w)) nm.2
  if stKind w = 3 then
    let t := manyF (stmtF d) (mustF 40 a.2)
    let e := manyF (stmtF d) (mustF 40 t.2)
    (.mk (stKind w) nm.1 a.1 t.1 e.1, mustF 41 e.2)
  else if stKind w = 4 then
    let t := manyF (stmtF d) a.2
    (.mk (stKind w) nm.1 a.1 t.1 [], t.2)
  else (.mk (stKind w) nm.1 a.1 [] [], mustF 41 a.2)
theorem stmtF_succ {d : Nat} {st : St} (h : st.2 = 0) : stmtF (d + 1) st = stF d (wF (mustF 40 st)).1 (wF (mustF 40 st)).2 := by
  simp only [stmtF, stF]
  rw [if_neg (by simpa using h)]
theorem stF_nm {d : Nat} {w : Str} {s1 : St} (h : stKind w = 1 ∨ stKind w = 2) : stF d w s1 = (.mk (stKind w) (nF s1).1 [(exprF d (nF s1).2).1] [] [], mustF 41 (exprF d (nF s1).2).2) := by
  unfold stF
  rcases h with h | h <;> simp [h, nmF, argsOf, timesF]
theorem stF_one {d : Nat} {w : Str} {s1 : St} (h : stKind w = 5 ∨ stKind w = 6 ∨ stKind w = 9) : stF d w s1 = (.mk (stKind w) [] [(exprF d s1).1] [] [], mustF 41 (exprF d s1).2) := by
  unfold stF
  rcases h with h | h | h <;> simp [h, nmF, argsOf, timesF]
theorem stF_two {d : Nat} {w : Str} {s1 : St} (h : stKind w = 7 ∨ stKind w = 8) : stF d w s1 = (.mk (stKind w) [] [(exprF d s1).1, (exprF d (exprF d s1).2).1] [] [], mustF 41 (exprF d (exprF d s1).2).2) := by
  unfold stF
  rcases h with h | h <;> simp [h, nmF, argsOf, timesF]
theorem stF_bad {d : Nat} {w : Str} {s1 : St} (h : stKind w = 0) : stF d w s1 = (.mk 0 [] [] [] [], mustF 41 (badF 1 s1)) := by
  unfold stF
  simp [h, nmF, argsOf, timesF]
theorem stF_if {d : Nat} {w : Str} {s1 : St} (h : stKind w = 3) : stF d w s1 = (.mk 3 [] [(exprF d s1).1] (manyF (stmtF d) (mustF 40 (exprF d s1).2)).1 (manyF (stmtF d) (mustF 40 (manyF (stmtF d) (mustF 40 (exprF d s1).2)).2)).1, mustF 41 (manyF (stmtF d) (mustF 40 (manyF (stmtF d) (mustF 40 (exprF d s1).2)).2)).2) := by
  unfold stF
  simp [h, nmF, argsOf, timesF]
theorem stF_while {d : Nat} {w : Str} {s1 : St} (h : stKind w = 4) : stF d w s1 = (.mk 4 [] [(exprF d s1).1] (manyF (stmtF d) (exprF d s1).2).1 [], (manyF (stmtF d) (exprF d s1).2).2) := by
  unfold stF
  simp [h, nmF, argsOf, timesF]
end VM
theorem bl0 : BlA .nils [] := .inl ⟨rfl, rfl⟩
section
variable {s : Str} {d : Nat} {H0 H : Heap} {n g gx m : Nat} {k : Int} {nm : Str} {l : List Ex} {T E : AV} {st : VM.St} {Q : QT}
theorem tk2 (hl : s.length ≤ 1500) (v : AV) (h : TxS s H0 n g gx (10 - (d : Int)) k nm l .nils .nils st H m) (hq : TsQ s H0 n g (.mk k nm l [] []) (VM.mustF 41 st) Q) : zl n gx Q v H m := by
  have r0 := h.r0
  simp [zl, r0]
  exact zre hl h bl0 bl0 hq
theorem zrd (hE : zbm s d) (hl : s.length ≤ 1500) (hd : d ≤ 11) (h : TxS s H0 n g gx (10 - (d : Int)) k nm [] .nils .nils st H m) (hq : TsQ s H0 n g (.mk k nm [(VM.exprF d st).1] [] []) (VM.mustF 41 (VM.exprF d st).2) Q) : za Tryd.prog 75 [.ptr gx 0, .ptr n 0, .ptr (n + 1) 0] H m (zl n gx Q) :=
  zjo hE h hd (by simp) fun _ _ h1 => tk2 hl _ h1 hq
theorem zrc (hE : zbm s d) (hl : s.length ≤ 1500) (hd : d ≤ 11) (h : TxS s H0 n g gx (10 - (d : Int)) k nm [] .nils .nils st H m) (hq : TsQ s H0 n g (.mk k nm [(VM.exprF d st).1, (VM.exprF d (VM.exprF d st).2).1] [] []) (VM.mustF 41 (VM.exprF d (VM.exprF d st).2).2) Q) : za Tryd.prog 75 [.ptr gx 0, .ptr n 0, .ptr (n + 1) 0] H m (zaa gx n Q) :=
  zjo hE h hd (by simp) fun _ _ h1 => by
    unfold zaa
    exact zjo hE h1 hd (by simp) fun _ _ h2 => tk2 hl _ h2 hq
set_option maxHeartbeats 1000000 in
theorem zwd (hE : zbm s d) (hS : zie s d) (hl : s.length ≤ 1500) (hd : d ≤ 11) (h : TxS s H0 n g gx (10 - (d : Int)) 3 [] [] .nils .nils st H m)
    (hq : TsQ s H0 n g (.mk 3 [] [(VM.exprF d st).1] (VM.manyF (VM.stmtF d) (VM.mustF 40 (VM.exprF d st).2)).1 (VM.manyF (VM.stmtF d) (VM.mustF 40 (VM.manyF (VM.stmtF d) (VM.mustF 40 (VM.exprF d st).2)).2)).1) (VM.mustF 41 (VM.manyF (VM.stmtF d) (VM.mustF 40 (VM.manyF (VM.stmtF d) (VM.mustF 40 (VM.exprF d st).2)).2)).2) Q) :
    za Tryd.prog 75 [.ptr gx 0, .ptr n 0, .ptr (n + 1) 0] H m (zct n gx Q) := by
  refine zjo hE h hd (by simp) fun H1 m1 h1 => ?_
  have hw : IntKind.i64.wrap (10 - (d : Int) + 1) = 11 - (d : Int) := by rw [i64w (by omega)]; omega
  have km : ∀ q : VM.St, q.1 <:+ s → (VM.manyF (VM.stmtF d) q).2.1 <:+ s := fun q hq => zdb (zht d) q hq
  have r0 := h1.r0
  have r1 := h1.r1
  simp [zct, r0, r1, hw]
  generalize VM.exprF d st = xe at *
  refine zof hS hl h1.suf h1.rg ?_
  have h2 := h1.put (km _ (zy (c := 40) h1.suf))
  generalize H1.put g _ = H2 at h2 ⊢
  generalize VM.manyF (VM.stmtF d) (VM.mustF 40 xe.2) = te at *
  obtain ⟨A, rx, ra⟩ := h2.rx
  have h3 := h2.set (k' := 3) (nm' := []) (T' := .ro (te.1.map Sm.avs)) (E' := .nils) rx
  have hgx := h2.gx0
  have r0 := h2.r0
  have r1 := h2.r1
  have ne_0 : gx ≠ n ∧ n ≠ gx ∧ gx ≠ n + 1 ∧ n + 1 ≠ gx ∧ n ≠ n + 1 ∧ n + 1 ≠ n := ⟨by omega, by omega, by omega, by omega, by omega, by omega⟩
  simp [zfj, rx, r0, r1, hw, ne_0]
  generalize H2.put gx _ = H3 at h3 ⊢
  refine zof hS hl h3.suf h3.rg ?_
  have h4 := h3.put (km _ (zy (c := 40) h3.suf))
  generalize H3.put g _ = H4 at h4 ⊢
  generalize VM.manyF (VM.stmtF d) (VM.mustF 40 te.2) = ee at *
  obtain ⟨A, rx, ra⟩ := h4.rx
  have h5 := h4.set (k' := 3) (nm' := []) (T' := .ro (te.1.map Sm.avs)) (E' := .ro (ee.1.map Sm.avs)) rx
  have r0 := h4.r0
  simp [zfk, rx, r0, ne_0]
  generalize H4.put gx _ = H5 at h5 ⊢
  exact zre hl h5 (.inr rfl) (.inr rfl) hq
set_option maxHeartbeats 1000000 in
theorem zso (hE : zbm s d) (hS : zie s d) (hl : s.length ≤ 1500) (hd : d ≤ 11) (h : TxS s H0 n g gx (10 - (d : Int)) 4 [] [] .nils .nils st H m)
    (hq : TsQ s H0 n g (.mk 4 [] [(VM.exprF d st).1] (VM.manyF (VM.stmtF d) (VM.exprF d st).2).1 []) (VM.manyF (VM.stmtF d) (VM.exprF d st).2).2 Q) :
    za Tryd.prog 75 [.ptr gx 0, .ptr n 0, .ptr (n + 1) 0] H m (zcs n gx Q) := by
  refine zjo hE h hd (by simp) fun H1 m1 h1 => ?_
  have hw : IntKind.i64.wrap (10 - (d : Int) + 1) = 11 - (d : Int) := by rw [i64w (by omega)]; omega
  have km : ∀ q : VM.St, q.1 <:+ s → (VM.manyF (VM.stmtF d) q).2.1 <:+ s := fun q hq => zdb (zht d) q hq
  have r0 := h1.r0
  have r1 := h1.r1
  simp [zcs, r0, r1, hw]
  generalize VM.exprF d st = xe at *
  refine zlc hS hl h1.suf h1.rg ?_
  have h2 := h1.put (km _ h1.suf)
  generalize H1.put g _ = H2 at h2 ⊢
  generalize VM.manyF (VM.stmtF d) xe.2 = te at *
  obtain ⟨A, rx, ra⟩ := h2.rx
  have h3 := h2.set (k' := 4) (nm' := []) (T' := .ro (te.1.map Sm.avs)) (E' := .nils) rx
  have hgx := h2.gx0
  obtain ⟨cs, r2, r2l⟩ := h2.r2
  have ho := zqc ra
  have ne_1 : gx ≠ n ∧ n ≠ gx ∧ gx ≠ n + 1 ∧ n + 1 ≠ gx ∧ gx ≠ n + 2 ∧ n + 2 ≠ gx ∧ n ≠ n + 1 ∧ n + 1 ≠ n ∧ n ≠ n + 2 ∧ n + 2 ≠ n ∧ n + 1 ≠ n + 2 ∧ n + 2 ≠ n + 1 := ⟨by omega, by omega, by omega, by omega, by omega, by omega, by omega, by omega, by omega, by omega, by omega, by omega⟩
  simp [zfi, rx, r2, r2l, ne_1]
  exact ⟨by simpa using ho, h3.done (.inr rfl) bl0 (Heap.put_at _ _ _) hq _ _⟩
end
end Go.Proofs.YtpllgpgdcbgalaaDoor
set_option maxRecDepth 8000
namespace Go.Proofs.YtpllgpgdcbgalaaDoor
open Go Go.RowKit
namespace VM
def phi : Str → Str
  | [] => []
  | c :: r => if c = 40 ∨ c = 41 then 10 :: c :: 32 :: phi r else c :: phi r
structure Rb (b b' : Str) : Prop where
  q : 39 ∉ b
  t : trim b' = trim (phi b)
theorem trim_phi (b : Str) : trim (phi b) = trim (phi (trim b)) := by
  induction b with
  | nil => rfl
  | cons c r ih =>
    rw [zbj]
    by_cases hb : blank c = true
    · rw [if_pos hb, ← ih]
      have hc : ¬ (c = 40 ∨ c = 41) := by rintro (rfl | rfl) <;> exact absurd hb (by decide)
      simp only [phi]
      rw [if_neg hc, zbj, if_pos hb]
    · rw [if_neg hb]
theorem Rb.trim {b b' : Str} (h : Rb b b') : Rb (VM.trim b) (VM.trim b') :=
  ⟨fun hm => h.q ((List.dropWhile_sublist _).subset hm), by rw [trim_trim, h.t, trim_phi]⟩
theorem head_phi {c : UInt8} {r : Str} (hb : blank c = false) : VM.trim (phi (c :: r)) = if c = 40 ∨ c = 41 then c :: 32 :: phi r else c :: phi r := by
  simp only [phi]
  by_cases hc : c = 40 ∨ c = 41
  · rw [if_pos hc, if_pos hc, trim_nl, trim_nb _ hb]
  · rw [if_neg hc, if_neg hc, trim_nb _ hb]
theorem trim_head {b : Str} {c : UInt8} {r : Str} (h : trim b = c :: r) : blank c = false := by
  induction b with
  | nil => cases h
  | cons x q ih =>
    rw [zbj] at h
    split at h
    · exact ih h
    · rename_i hx; cases h; simpa using hx
theorem Rb.cases {b b' : Str} (h : Rb b b') : (VM.trim b = [] ∧ VM.trim b' = []) ∨ ∃ c r, VM.trim b = c :: r ∧ blank c = false ∧ 39 ∉ c :: r ∧ VM.trim b' = if c = 40 ∨ c = 41 then c :: 32 :: phi r else c :: phi r := by
  have ht := h.t
  rw [trim_phi] at ht
  have hq := h.trim.q
  cases hb : VM.trim b with
  | nil => left; rw [hb] at ht; exact ⟨rfl, by rw [ht]; rfl⟩
  | cons c r =>
    right
    have hc := trim_head hb
    rw [hb] at ht hq
    rw [head_phi hc] at ht
    exact ⟨c, r, rfl, hc, hq, ht⟩
theorem Rb.nxt {b b' : Str} (h : Rb b b') : VM.nxt b' = VM.nxt b := by
  unfold VM.nxt
  rcases h.cases with ⟨h1, h2⟩ | ⟨c, r, h1, _, _, h2⟩
  · rw [h1, h2]
  · by_cases hc : c = 40 ∨ c = 41
    · rw [if_pos hc] at h2; rw [h1, h2]
    · rw [if_neg hc] at h2; rw [h1, h2]
theorem rb_phi {r : Str} (h : 39 ∉ r) : Rb r (phi r) := ⟨h, rfl⟩
theorem rb_sp {r : Str} (h : 39 ∉ r) : Rb r (32 :: phi r) := ⟨h, trim_sp _⟩
def SR (a b : St) : Prop := a.2 = b.2 ∧ (a.2 = 0 → Rb a.1 b.1)
def Sim {α : Type} (m : St → α × St) : Prop := ∀ a b, SR a b → SR (m a).2 (m b).2 ∧ ((m a).2.2 = 0 → (m a).1 = (m b).1)
theorem sr_bad {e : Int} (he : e ≠ 0) {a b : St} (h : SR a b) : SR (badF e a) (badF e b) := by
  unfold badF
  obtain ⟨h1, h2⟩ := h
  refine ⟨by simp only; rw [h1], fun hz => ?_⟩
  simp only at hz
  split at hz
  · exact absurd hz he
  · rename_i hn; exact absurd hz hn
theorem keep_bad {e : Int} {a : St} (h : a.2 ≠ 0) : (badF e a).2 = a.2 := by unfold badF; simp [h]
theorem sr_err {a b : St} (h1 : a.2 = b.2) (h2 : a.2 ≠ 0) : SR a b := ⟨h1, fun h => absurd h h2⟩
theorem sim_must {k : Int} (hk : k = 40 ∨ k = 41) {a b : St} (h : SR a b) : SR (mustF k a) (mustF k b) := by
  by_cases ha : a.2 = 0
  · have r := h.2 ha
    have hb : b.2 = 0 := h.1 ▸ ha
    have en := r.nxt
    unfold mustF
    rw [en]
    by_cases hn : nxt a.1 = k
    · rw [if_pos hn, if_pos hn]
      refine ⟨h.1, fun _ => ?_⟩
      simp only
      rcases r.cases with ⟨h1, h2⟩ | ⟨c, q, h1, _, h3, h2⟩
      · have : nxt a.1 = 0 := by unfold nxt; rw [h1]
        rw [this] at hn; omega
      · have hc : c = 40 ∨ c = 41 := by
          unfold nxt at hn
          rw [h1] at hn
          simp only at hn
          split at hn
          · omega
          · rcases hk with rfl | rfl
            · left; exact UInt8.toNat_inj.1 (by show c.toNat = 40; omega)
            · right; exact UInt8.toNat_inj.1 (by show c.toNat = 41; omega)
        rw [if_pos hc] at h2
        rw [h1, h2]
        exact rb_sp fun hm => h3 (List.mem_cons_of_mem _ hm)
    · rw [if_neg hn, if_neg hn]
      refine sr_bad (by split <;> decide) ⟨h.1, fun _ => r.trim⟩
  · have hb : b.2 ≠ 0 := h.1 ▸ ha
    exact sr_err (by rw [must_err k a ha, must_err k b hb]; exact h.1) (by rw [must_err k a ha]; exact ha)
theorem word_phi : ∀ (r : Str), (phi r).takeWhile wordC = r.takeWhile wordC ∧ (phi r).dropWhile wordC = phi (r.dropWhile wordC)
  | [] => ⟨rfl, rfl⟩
  | c :: r => by
    obtain ⟨h1, h2⟩ := word_phi r
    simp only [phi]
    by_cases hc : c = 40 ∨ c = 41
    · rw [if_pos hc]
      have hw : wordC c = false := by rcases hc with rfl | rfl <;> decide
      have hn : wordC 10 = false := by decide
      simp [hw, hn, phi, hc]
    · rw [if_neg hc]
      by_cases hw : wordC c = true
      · simp [hw, h1, h2]
      · have hw' : wordC c = false := by simpa using hw
        simp [hw', phi, hc]
theorem keep_w {a : St} (h : a.2 ≠ 0) : (wF a).2.2 = a.2 := by
  unfold wF
  simp only
  split
  · exact keep_bad h
  · rfl
theorem sim_w : Sim wF := by
  intro a b h
  by_cases ha : a.2 = 0
  · have r := h.2 ha
    have hb : b.2 = 0 := h.1 ▸ ha
    have key : (trim b.1).takeWhile wordC = (trim a.1).takeWhile wordC ∧ (trim b.1 = [] ↔ trim a.1 = []) ∧ ((trim a.1).takeWhile wordC ≠ [] → Rb ((trim a.1).dropWhile wordC) ((trim b.1).dropWhile wordC)) := by
      rcases r.cases with ⟨h1, h2⟩ | ⟨c, q, h1, _, h3, h2⟩
      · rw [h1, h2]; exact ⟨rfl, Iff.rfl, fun h => absurd rfl h⟩
      · rw [h1, h2]
        by_cases hc : c = 40 ∨ c = 41
        · rw [if_pos hc]
          have hw : wordC c = false := by rcases hc with rfl | rfl <;> decide
          refine ⟨by simp [hw], by simp, fun h => absurd (by simp [hw]) h⟩
        · rw [if_neg hc]
          obtain ⟨w1, w2⟩ := word_phi q
          by_cases hw : wordC c = true
          · simp only [List.takeWhile_cons, List.dropWhile_cons, hw, if_true, w1, w2]
            exact ⟨trivial, by simp, fun _ => rb_phi fun hm => h3 (List.mem_cons_of_mem _ ((List.dropWhile_sublist _).subset hm))⟩
          · have hw' : wordC c = false := by simpa using hw
            refine ⟨by simp [hw'], by simp, fun h => absurd (by simp [hw']) h⟩
    obtain ⟨k1, k2, k3⟩ := key
    unfold wF
    simp only
    rw [k1]
    refine ⟨?_, fun _ => rfl⟩
    by_cases hw : (trim a.1).takeWhile wordC = []
    · rw [if_pos hw, if_pos hw]
      have : (if trim b.1 = [] then (8 : Int) else 2) = if trim a.1 = [] then 8 else 2 := by
        by_cases ht : trim a.1 = []
        · rw [if_pos ht, if_pos (k2.2 ht)]
        · rw [if_neg ht, if_neg fun h => ht (k2.1 h)]
      rw [this]
      exact sr_bad (by split <;> decide) ⟨h.1, fun _ => r.trim⟩
    · rw [if_neg hw, if_neg hw]
      exact ⟨h.1, fun _ => k3 hw⟩
  · have hb : b.2 ≠ 0 := h.1 ▸ ha
    refine ⟨sr_err (by rw [keep_w ha, keep_w hb]; exact h.1) (by rw [keep_w ha]; exact ha), fun hz => absurd ((keep_w ha).symm.trans hz) ha⟩
theorem keep_n {a : St} (h : a.2 ≠ 0) : (nF a).2.2 = a.2 := by
  unfold nF
  simp only
  have := keep_w h
  split
  · exact this
  · rw [keep_bad (by rw [this]; exact h), this]
theorem sim_n : Sim nF := by
  intro a b h
  obtain ⟨w1, w2⟩ := sim_w a b h
  unfold nF
  simp only
  by_cases hz : (wF a).2.2 = 0
  · rw [← w2 hz]
    split
    · exact ⟨w1, fun _ => rfl⟩
    · exact ⟨sr_bad (by decide) w1, fun _ => rfl⟩
  · have hb : (wF b).2.2 ≠ 0 := w1.1 ▸ hz
    have e1 : (if name (wF a).1 then (wF a).2 else badF 7 (wF a).2).2 = (wF a).2.2 := by
      split
      · rfl
      · exact keep_bad hz
    have e2 : (if name (wF b).1 then (wF b).2 else badF 7 (wF b).2).2 = (wF b).2.2 := by
      split
      · rfl
      · exact keep_bad hb
    exact ⟨sr_err (by rw [e1, e2]; exact w1.1) (by rw [e1]; exact hz), fun h0 => absurd (e1.symm.trans h0) hz⟩
def Keeps {α : Type} (m : St → α × St) : Prop := ∀ a, a.2 ≠ 0 → (m a).2.2 = a.2
theorem keep_many {α : Type} {m : St → α × St} (hm : Nice m) : Keeps (manyF m) := fun a h => by
  rw [many_eq hm, if_neg fun hc => h hc.1]
  exact must_err 41 a h
theorem sim_many {α : Type} {m : St → α × St} (hm : Nice m) (hs : Sim m) : Sim (manyF m) := by
  intro a
  generalize hn : a.1.length = n
  induction n using Nat.strongRecOn generalizing a with
  | _ n ih =>
    intro b h
    by_cases ha : a.2 = 0
    · have r := h.2 ha
      have hb : b.2 = 0 := h.1 ▸ ha
      rw [many_eq hm, many_eq hm b]
      rw [r.nxt]
      by_cases h41 : nxt a.1 ≠ 41
      · rw [if_pos ⟨ha, h41⟩, if_pos ⟨hb, h41⟩]
        obtain ⟨s1, s2⟩ := hs (trim a.1, 0) (trim b.1, 0) ⟨rfl, fun _ => r.trim⟩
        simp only
        have htl := trim_le a.1
        by_cases hz : (m (trim a.1, 0)).2.2 = 0
        · have hea := hm.eats (trim a.1, 0) rfl hz
          simp only at hea
          obtain ⟨i1, i2⟩ := ih (m (trim a.1, 0)).2.1.length (by omega) _ rfl _ s1
          exact ⟨i1, fun h0 => by rw [s2 hz, i2 h0]⟩
        · have hz' : (m (trim b.1, 0)).2.2 ≠ 0 := s1.1 ▸ hz
          have k1 := keep_many hm _ hz
          have k2 := keep_many hm _ hz'
          exact ⟨sr_err (by rw [k1, k2]; exact s1.1) (by rw [k1]; exact hz), fun h0 => absurd (k1.symm.trans h0) hz⟩
      · rw [if_neg fun hc => h41 hc.2, if_neg fun hc => h41 hc.2]
        exact ⟨sim_must (.inr rfl) h, fun _ => rfl⟩
    · have hb : b.2 ≠ 0 := h.1 ▸ ha
      have k1 := keep_many hm _ ha
      have k2 := keep_many hm _ hb
      exact ⟨sr_err (by rw [k1, k2]; exact h.1) (by rw [k1]; exact ha), fun h0 => absurd (k1.symm.trans h0) ha⟩
end VM
end Go.Proofs.YtpllgpgdcbgalaaDoor
set_option maxRecDepth 8000
namespace Go.Proofs.YtpllgpgdcbgalaaDoor
open Go Go.RowKit
namespace VM
end VM
end Go.Proofs.YtpllgpgdcbgalaaDoor
set_option maxRecDepth 8000
namespace Go.Proofs.YtpllgpgdcbgalaaDoor
open Go Go.RowKit
namespace VM
def fnsA (st : St) : List Fnc × St := fnsF (st.1.length + 2) st
theorem fns_fuel : ∀ (k j : Nat) (st : St), left st < k → left st < j → fnsF k st = fnsF j st
  | 0, _, _, h, _ => absurd h (by omega)
  | _, 0, _, _, h => absurd h (by omega)
  | k + 1, j + 1, st, h1, h2 => by
    simp only [fnsF]
    split
    · rename_i h
      have hl := left_lt nice_fn (st := st) h.1
      rw [fns_fuel k j _ (by omega) (by omega)]
    · rfl
theorem fns_eq (st : St) : fnsA st = if st.2 = 0 ∧ nxt st.1 ≠ 0 then ((fnF (trim st.1, 0)).1 :: (fnsA (fnF (trim st.1, 0)).2).1, (fnsA (fnF (trim st.1, 0)).2).2) else ([], (if st.2 = 0 then trim st.1 else st.1, st.2)) := by
  have h := left_le st
  have e1 : fnsA st = fnsF (st.1.length + 1 + 1) st := rfl
  rw [e1]
  rw [show fnsF (st.1.length + 1 + 1) st = if st.2 = 0 ∧ nxt st.1 ≠ 0 then ((fnF (trim st.1, 0)).1 :: (fnsF (st.1.length + 1) (fnF (trim st.1, 0)).2).1, (fnsF (st.1.length + 1) (fnF (trim st.1, 0)).2).2) else ([], (if st.2 = 0 then trim st.1 else st.1, st.2)) from rfl]
  split
  · rename_i hc
    have hl := left_lt nice_fn (st := st) hc.1
    rw [fns_fuel (st.1.length + 1) _ _ (by omega) (left_le _)]
    rfl
  · rfl
end VM
end Go.Proofs.YtpllgpgdcbgalaaDoor
set_option maxRecDepth 8000
namespace Go.Proofs.YtpllgpgdcbgalaaDoor
open Go Go.RowKit
namespace VM
theorem sim_stuck {α : Type} {m : St → α × St} (hk : Keeps m) {a b : St} (h : SR a b) (ha : a.2 ≠ 0) : SR (m a).2 (m b).2 ∧ ((m a).2.2 = 0 → (m a).1 = (m b).1) := by
  have hb : b.2 ≠ 0 := h.1 ▸ ha
  have k1 := hk _ ha
  have k2 := hk _ hb
  exact ⟨sr_err (by rw [k1, k2]; exact h.1) (by rw [k1]; exact ha), fun h0 => absurd (k1.symm.trans h0) ha⟩
theorem keep_form {m : St → Ex × St} (hm : Nice m) (w : Str) : Keeps (formF m w) := by
  intro a ha
  have km := keep_many hm
  unfold formF
  split
  · simp only
    have := km a ha
    split
    · exact this
    · rw [keep_bad (by rw [this]; exact ha), this]
  · simp only
    have hb : (if name w then a else badF 7 a).2 = a.2 := by
      split
      · rfl
      · exact keep_bad ha
    generalize (if name w = true then a else badF 7 a) = q at hb
    have := km q (by rw [hb]; exact ha)
    split
    · rw [this, hb]
    · rw [keep_bad (by rw [this, hb]; exact ha), this, hb]
theorem sim_form {m : St → Ex × St} (hm : Nice m) (hs : Sim m) (w : Str) : Sim (formF m w) := by
  intro a b h
  by_cases ha : a.2 ≠ 0
  · exact sim_stuck (keep_form hm w) h ha
  have sm := sim_many hm hs
  unfold formF
  cases hw : headOf w with
  | some p =>
    obtain ⟨k, n, want⟩ := p
    simp only
    obtain ⟨s1, s2⟩ := sm a b h
    by_cases hz : (manyF m a).2.2 = 0
    · rw [← s2 hz]
      split
      · exact ⟨s1, fun _ => rfl⟩
      · exact ⟨sr_bad (by decide) s1, fun _ => rfl⟩
    · have hz' : (manyF m b).2.2 ≠ 0 := s1.1 ▸ hz
      have e1 : (if (manyF m a).1.length = want then (manyF m a).2 else badF 5 (manyF m a).2).2 = (manyF m a).2.2 := by
        split
        · rfl
        · exact keep_bad hz
      have e2 : (if (manyF m b).1.length = want then (manyF m b).2 else badF 5 (manyF m b).2).2 = (manyF m b).2.2 := by
        split
        · rfl
        · exact keep_bad hz'
      exact ⟨sr_err (by rw [e1, e2]; exact s1.1) (by rw [e1]; exact hz), fun h0 => absurd (e1.symm.trans h0) hz⟩
  | none =>
    simp only
    have hq : SR (if name w then a else badF 7 a) (if name w then b else badF 7 b) := by
      split
      · exact h
      · exact sr_bad (by decide) h
    generalize (if name w = true then a else badF 7 a) = q at hq
    generalize (if name w = true then b else badF 7 b) = q' at hq
    obtain ⟨s1, s2⟩ := sm q q' hq
    by_cases hz : (manyF m q).2.2 = 0
    · rw [← s2 hz]
      split
      · exact ⟨s1, fun _ => rfl⟩
      · exact ⟨sr_bad (by decide) s1, fun _ => rfl⟩
    · have hz' : (manyF m q').2.2 ≠ 0 := s1.1 ▸ hz
      have e1 : (if (manyF m q).1.length ≤ 4 then (manyF m q).2 else badF 5 (manyF m q).2).2 = (manyF m q).2.2 := by
        split
        · rfl
        · exact keep_bad hz
      have e2 : (if (manyF m q').1.length ≤ 4 then (manyF m q').2 else badF 5 (manyF m q').2).2 = (manyF m q').2.2 := by
        split
        · rfl
        · exact keep_bad hz'
      exact ⟨sr_err (by rw [e1, e2]; exact s1.1) (by rw [e1]; exact hz), fun h0 => absurd (e1.symm.trans h0) hz⟩
theorem keep_plain : Keeps plainF := by
  intro a ha
  have := keep_w ha
  unfold plainF
  split <;> simp only <;> split
  · rw [keep_bad (by rw [this]; exact ha), this]
  · exact this
  · exact this
  · rw [keep_bad (by rw [this]; exact ha), this]
theorem sim_plain : Sim plainF := by
  intro a b h
  by_cases ha : a.2 ≠ 0
  · exact sim_stuck keep_plain h ha
  obtain ⟨s1, s2⟩ := sim_w a b h
  by_cases hz : (wF a).2.2 = 0
  · have e := s2 hz
    unfold plainF
    rw [← e]
    cases numOf (wF a).1 with
    | some n =>
      simp only
      split
      · exact ⟨sr_bad (by decide) s1, fun _ => trivial⟩
      · exact ⟨s1, fun _ => trivial⟩
    | none =>
      simp only
      split
      · exact ⟨s1, fun _ => trivial⟩
      · exact ⟨sr_bad (by decide) s1, fun _ => trivial⟩
  · have hz' : (wF b).2.2 ≠ 0 := s1.1 ▸ hz
    have key : ∀ q : St, (wF q).2.2 ≠ 0 → (plainF q).2.2 = (wF q).2.2 := fun q hq => by
      unfold plainF
      split <;> simp only <;> split
      · exact keep_bad hq
      · rfl
      · rfl
      · exact keep_bad hq
    exact ⟨sr_err (by rw [key a hz, key b hz']; exact s1.1) (by rw [key a hz]; exact hz), fun h0 => absurd ((key a hz).symm.trans h0) hz⟩
theorem keep_expr : ∀ d, Keeps (exprF d)
  | 0 => fun a ha => keep_bad ha
  | d + 1 => fun a ha => by unfold exprF; rw [if_pos ha]
theorem sim_expr : ∀ d, Sim (exprF d)
  | 0 => fun a b h => ⟨sr_bad (by decide) h, fun _ => rfl⟩
  | d + 1 => fun a b h => by
    by_cases ha : a.2 ≠ 0
    · exact sim_stuck (keep_expr (d + 1)) h ha
    have ha0 : a.2 = 0 := by simpa using ha
    have hb0 : b.2 = 0 := h.1 ▸ ha0
    have r := h.2 ha0
    have en := r.nxt
    have n39 : nxt a.1 ≠ 39 := fun e => by
      rcases r.cases with ⟨h1, _⟩ | ⟨c, q, h1, _, h3, _⟩
      · unfold nxt at e; rw [h1] at e; exact absurd e (by decide)
      · unfold nxt at e
        rw [h1] at e
        simp only at e
        split at e
        · exact absurd e (by decide)
        · have : c = 39 := UInt8.toNat_inj.1 (by show c.toNat = 39; omega)
          exact h3 (by rw [this]; simp)
    unfold exprF
    have hb : ¬ b.2 ≠ 0 := by simpa using hb0
    rw [if_neg ha, if_neg hb, en, if_neg n39, if_neg n39]
    by_cases h40 : nxt a.1 ≠ 40
    · rw [if_pos h40, if_pos h40]
      exact sim_plain _ _ ⟨h.1, fun _ => r.trim⟩
    · rw [if_neg h40, if_neg h40]
      have h40' : nxt a.1 = 40 := by simpa using h40
      have rd : Rb ((trim a.1).drop 1) ((trim b.1).drop 1) := by
        have := (sim_must (k := 40) (.inl rfl) (a := (a.1, 0)) (b := (b.1, 0)) ⟨rfl, fun _ => r⟩).2
        rw [must_hit h40', must_hit (by rw [en]; exact h40')] at this
        exact this rfl
      obtain ⟨s1, s2⟩ := sim_w ((trim a.1).drop 1, a.2) ((trim b.1).drop 1, b.2) ⟨h.1, fun _ => rd⟩
      by_cases hz : (wF ((trim a.1).drop 1, a.2)).2.2 = 0
      · rw [← s2 hz]
        exact sim_form (nice_expr d) (sim_expr d) _ _ _ s1
      · have hz' : (wF ((trim b.1).drop 1, b.2)).2.2 ≠ 0 := s1.1 ▸ hz
        have k1 := keep_form (nice_expr d) (wF ((trim a.1).drop 1, a.2)).1 _ hz
        have k2 := keep_form (nice_expr d) (wF ((trim b.1).drop 1, b.2)).1 _ hz'
        exact ⟨sr_err (by rw [k1, k2]; exact s1.1) (by rw [k1]; exact hz), fun h0 => absurd (k1.symm.trans h0) hz⟩
theorem sim_times {m : St → Ex × St} (hk : Keeps m) (hs : Sim m) : ∀ k, Sim (timesF m k) ∧ Keeps (timesF m k)
  | 0 => ⟨fun a b h => ⟨h, fun _ => rfl⟩, fun a _ => rfl⟩
  | k + 1 => by
    obtain ⟨i1, i2⟩ := sim_times hk hs k
    have kk : Keeps (timesF m (k + 1)) := fun a ha => by
      unfold timesF
      have := hk a ha
      simp only
      rw [i2 _ (by rw [this]; exact ha), this]
    refine ⟨fun a b h => ?_, kk⟩
    obtain ⟨s1, s2⟩ := hs a b h
    obtain ⟨t1, t2⟩ := i1 _ _ s1
    unfold timesF
    simp only
    refine ⟨t1, fun h0 => ?_⟩
    have hz : (m a).2.2 = 0 := Classical.byContradiction fun hz => hz ((i2 _ hz).symm.trans h0)
    rw [s2 hz, t2 h0]
theorem sim_nm (k : Int) : Sim (nmF k) := by
  intro a b h
  unfold nmF
  split
  · exact sim_n a b h
  · exact ⟨h, fun _ => rfl⟩
theorem keep_nm (k : Int) : Keeps (nmF k) := fun a ha => by
  unfold nmF
  split
  · exact keep_n ha
  · rfl
theorem keep_stF (d : Nat) (w : Str) : Keeps (stF d w) := by
  intro a ha
  have kb : (if stKind w = 0 then badF 1 a else a).2 = a.2 := by
    split
    · exact keep_bad ha
    · rfl
  have kn := keep_nm (stKind w) (if stKind w = 0 then badF 1 a else a) (by rw [kb]; exact ha)
  have kt := (sim_times (keep_expr d) (sim_expr d) (argsOf (stKind w))).2 _ (by rw [kn, kb]; exact ha)
  have km := keep_many (nice_stmt d)
  have mk : ∀ (k : Int) (q : St), q.2 = a.2 → (mustF k q).2 = a.2 := fun k q hq => by rw [must_err k q (by rw [hq]; exact ha)]; exact hq
  have mm : ∀ q : St, q.2 = a.2 → (manyF (stmtF d) q).2.2 = a.2 := fun q hq => by rw [km q (by rw [hq]; exact ha)]; exact hq
  have e : (timesF (exprF d) (argsOf (stKind w)) (nmF (stKind w) (if stKind w = 0 then badF 1 a else a)).2).2.2 = a.2 := by rw [kt, kn, kb]
  unfold stF
  simp only
  split
  · exact mk _ _ (mm _ (mk _ _ (mm _ (mk _ _ e))))
  · split
    · exact mm _ e
    · exact mk _ _ e
theorem sim_stF (d : Nat) (hs : Sim (stmtF d)) (w : Str) : Sim (stF d w) := by
  intro a b h
  have sm := sim_many (nice_stmt d) hs
  have hq : SR (if stKind w = 0 then badF 1 a else a) (if stKind w = 0 then badF 1 b else b) := by
    split
    · exact sr_bad (by decide) h
    · exact h
  unfold stF
  simp only
  generalize (if stKind w = 0 then badF 1 a else a) = q at *
  generalize (if stKind w = 0 then badF 1 b else b) = q' at *
  obtain ⟨n1, n2⟩ := sim_nm (stKind w) q q' hq
  have kt := (sim_times (keep_expr d) (sim_expr d) (argsOf (stKind w))).2 (nmF (stKind w) q).2
  obtain ⟨t1, t2⟩ := (sim_times (keep_expr d) (sim_expr d) (argsOf (stKind w))).1 _ _ n1
  have n3 : (timesF (exprF d) (argsOf (stKind w)) (nmF (stKind w) q).2).2.2 = 0 → (nmF (stKind w) q).1 = (nmF (stKind w) q').1 := fun h0 => n2 (Classical.byContradiction fun hz => hz ((kt hz).symm.trans h0))
  generalize timesF (exprF d) (argsOf (stKind w)) (nmF (stKind w) q).2 = ta at *
  generalize timesF (exprF d) (argsOf (stKind w)) (nmF (stKind w) q').2 = tb at *
  have m40 := fun {x y : St} (h : SR x y) => sim_must (k := 40) (.inl rfl) h
  have m41 := fun {x y : St} (h : SR x y) => sim_must (k := 41) (.inr rfl) h
  by_cases h3 : stKind w = 3
  · rw [if_pos h3, if_pos h3]
    obtain ⟨a1, a2⟩ := sm _ _ (m40 t1)
    obtain ⟨b1, b2⟩ := sm _ _ (m40 a1)
    refine ⟨m41 b1, fun h0 => ?_⟩
    have z3 := not_zero must_stuck h0
    have z2 := not_zero must_stuck (not_zero ((nice_many (nice_stmt d)).stuck _) z3)
    have z1 := not_zero must_stuck (not_zero ((nice_many (nice_stmt d)).stuck _) z2)
    rw [n3 z1, t2 z1, a2 z2, b2 z3]
  · rw [if_neg h3, if_neg h3]
    by_cases h4 : stKind w = 4
    · rw [if_pos h4, if_pos h4]
      obtain ⟨a1, a2⟩ := sm _ _ t1
      refine ⟨a1, fun h0 => ?_⟩
      have z1 := not_zero ((nice_many (nice_stmt d)).stuck _) h0
      rw [n3 z1, t2 z1, a2 h0]
    · rw [if_neg h4, if_neg h4]
      refine ⟨m41 t1, fun h0 => ?_⟩
      have z1 := not_zero must_stuck h0
      rw [n3 z1, t2 z1]
theorem keep_stmt : ∀ d, Keeps (stmtF d)
  | 0 => fun a ha => keep_bad ha
  | d + 1 => fun a ha => by unfold stmtF; rw [if_pos ha]
theorem sim_stmt : ∀ d, Sim (stmtF d)
  | 0 => fun a b h => ⟨sr_bad (by decide) h, fun _ => rfl⟩
  | d + 1 => fun a b h => by
    by_cases ha : a.2 ≠ 0
    · exact sim_stuck (keep_stmt (d + 1)) h ha
    have ha0 : a.2 = 0 := by simpa using ha
    have hb0 : b.2 = 0 := h.1 ▸ ha0
    rw [stmtF_succ ha0, stmtF_succ hb0]
    obtain ⟨s1, s2⟩ := sim_w _ _ (sim_must (k := 40) (.inl rfl) h)
    by_cases hz : (wF (mustF 40 a)).2.2 = 0
    · rw [← s2 hz]
      exact sim_stF d (sim_stmt d) _ _ _ s1
    · have hz' : (wF (mustF 40 b)).2.2 ≠ 0 := s1.1 ▸ hz
      have k1 := keep_stF d (wF (mustF 40 a)).1 _ hz
      have k2 := keep_stF d (wF (mustF 40 b)).1 _ hz'
      exact ⟨sr_err (by rw [k1, k2]; exact s1.1) (by rw [k1]; exact hz), fun h0 => absurd (k1.symm.trans h0) hz⟩
theorem sim_fn : Sim fnF := by
  intro a b h
  have m40 := fun {x y : St} (h : SR x y) => sim_must (k := 40) (.inl rfl) h
  obtain ⟨n1, n2⟩ := sim_n _ _ (m40 h)
  obtain ⟨p1, p2⟩ := sim_many nice_n sim_n _ _ (m40 n1)
  obtain ⟨b1, b2⟩ := sim_many (nice_stmt 11) (sim_stmt 11) _ _ p1
  unfold fnF
  simp only
  refine ⟨b1, fun h0 => ?_⟩
  have z2 := not_zero ((nice_many (nice_stmt 11)).stuck _) h0
  have z1 := not_zero must_stuck (not_zero ((nice_many nice_n).stuck _) z2)
  rw [n2 z1, p2 z2, b2 h0]
theorem sim_fns : ∀ (n : Nat) (a b : St), a.1.length = n → SR a b → (fnsA a).2.2 = (fnsA b).2.2 ∧ ((fnsA a).2.2 = 0 → (fnsA a).1 = (fnsA b).1) := by
  intro n
  induction n using Nat.strongRecOn with
  | _ n ih =>
    rintro a b rfl h
    rw [fns_eq, fns_eq b]
    by_cases ha : a.2 = 0
    · have r := h.2 ha
      have hb : b.2 = 0 := h.1 ▸ ha
      rw [r.nxt]
      by_cases h0 : nxt a.1 ≠ 0
      · rw [if_pos ⟨ha, h0⟩, if_pos ⟨hb, h0⟩]
        obtain ⟨s1, s2⟩ := sim_fn (trim a.1, 0) (trim b.1, 0) ⟨rfl, fun _ => r.trim⟩
        simp only
        have htl := trim_le a.1
        have stuck : ∀ q : St, q.2 ≠ 0 → (fnsA q).2.2 = q.2 := fun q hq => by
          rw [fns_eq, if_neg fun hc => hq hc.1]
        by_cases hz : (fnF (trim a.1, 0)).2.2 = 0
        · have hea := nice_fn.eats (trim a.1, 0) rfl hz
          simp only at hea
          obtain ⟨i1, i2⟩ := ih (fnF (trim a.1, 0)).2.1.length (by omega) _ _ rfl s1
          exact ⟨i1, fun h0 => by rw [s2 hz, i2 h0]⟩
        · have hz' : (fnF (trim b.1, 0)).2.2 ≠ 0 := s1.1 ▸ hz
          rw [stuck _ hz, stuck _ hz']
          exact ⟨s1.1, fun h0 => absurd h0 hz⟩
      · rw [if_neg (show ¬ (a.2 = 0 ∧ nxt a.1 ≠ 0) from fun hc => h0 hc.2), if_neg (show ¬ (b.2 = 0 ∧ nxt a.1 ≠ 0) from fun hc => h0 hc.2)]
        exact ⟨h.1, fun _ => rfl⟩
    · have hb : ¬ b.2 = 0 := h.1 ▸ ha
      rw [if_neg (show ¬ (a.2 = 0 ∧ nxt a.1 ≠ 0) from fun hc => ha hc.1), if_neg (show ¬ (b.2 = 0 ∧ nxt b.1 ≠ 0) from fun hc => hb hc.1)]
      exact ⟨h.1, fun _ => rfl⟩
theorem parse_phi {s : Str} (h : 39 ∉ s) (hs : s.length ≤ 1500) (hl : (phi s).length ≤ 1500) : parseF (phi s) = parseF s := by
  obtain ⟨a, b⟩ := sim_fns _ (s, 0) (phi s, 0) rfl ⟨rfl, fun _ => rb_phi h⟩
  have key : ∀ u : Str, u.length ≤ 1500 → parseF u = if (fnsA (u, 0)).2.2 ≠ 0 then ([], (fnsA (u, 0)).2.2) else ((fnsA (u, 0)).1, 0) := fun u hu => by
    unfold parseF
    rw [if_neg (by omega)]
    rfl
  rw [key _ hl, key _ hs, ← a]
  by_cases hz : (fnsA (s, 0)).2.2 = 0
  · rw [if_neg (by simpa using hz), if_neg (by simpa using hz), b hz]
  · rw [if_pos hz, if_pos hz]
end VM
end Go.Proofs.YtpllgpgdcbgalaaDoor
