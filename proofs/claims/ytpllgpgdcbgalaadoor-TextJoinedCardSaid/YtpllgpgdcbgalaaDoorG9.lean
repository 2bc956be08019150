/- The program's parser: lists of expressions. The program's parser: expressions. The program's parser: forms; expressions as a whole. The program's parser: a statement's expressions. The program's parser: statements. The program's parser: statements, as a whole. One text behind the other. The program's parser: statements, as a whole. -/
import Derived.Test.YtpllgpgdcbgalaaDoorG7
import Derived.Test.YtpllgpgdcbgalaaDoorG8
set_option linter.unusedSimpArgs false
set_option linter.unusedVariables false
set_option maxRecDepth 8000
namespace Go.Proofs.YtpllgpgdcbgalaaDoor
open Go Go.RowKit
theorem zro (A : Nat → Prop) (s : Str) (st : VM.St) : BelO A (PT s st) := by
  intro i y hy
  match i with
  | 0 => simp at hy; subst hy; exact .str _
  | 1 => simp at hy; subst hy; exact .int _ _
  | 2 => simp at hy; subst hy; exact .int _ _
  | i + 3 => simp at hy
theorem za.tparser {P : Program} {f : FuncId} {args : List AV} {r : AV} {s : Str} {st st' : VM.St} {g n : Nat} {H : Heap} {Q : QT} (hg : H g = some (PT s st)) (hraw : g < n → za P f args H n fun v H' _ => Frz H' n v r ∧ H' g = some (PT s st') ∧ ∀ y, y < n → y ≠ g → H' y = H y) (hq : Q r (H.put g (some (PT s st'))) n) : za P f args H n Q := by
  refine za.tidy fun hlive => ?_
  have hgn := hlive g _ hg
  refine (za.gc (R := fun v H' => v = r ∧ H' = H.put g (some (PT s st'))) (hraw hgn) fun v H' n' ⟨h1, h2, h3⟩ => ⟨r, _, ⟨rfl, rfl⟩, h1, fun y o ho => ?_⟩).mono fun v H' n' ⟨⟨h1, h2⟩, h3⟩ => by subst h1; subst h2; subst h3; exact hq
  by_cases hy : y = g
  · subst hy
    rw [Heap.put_at] at ho
    cases ho
    exact ⟨hgn, h2, .inr (zro _ _ _)⟩
  · rw [Heap.put_ne _ _ hy] at ho
    exact ⟨hlive y o ho, by rw [h3 y (hlive y o ho) hy]; exact ho, .inl ho⟩
theorem LC.tparser {f : FuncId} {args : List AV} {r : AV} {s : Str} {g : Nat} {st st' : VM.St} {H : Heap} (hg : H g = some (PT s st)) (hr : ∀ A : Nat → Prop, Bel A r)
    (h : ∀ (H : Heap) (n : Nat) (Q : QT), H g = some (PT s st) → Q r (H.put g (some (PT s st'))) n → za Tryd.prog f args H n Q) : LC Tryd.prog f args H [g] [] [(g, some (PT s st'))] r := by
  refine LC.of_calls (fun x hx => ?_) (by simp [domD]) (fun A _ _ => hr A) (fun A _ _ x o hx ho => ?_) fun H' n' ha => ?_
  · simp at hx; subst hx; rw [hg]; rfl
  · simp [domD] at hx; subst hx
    simp at ho
    subst ho
    exact zro _ _ _
  · obtain ⟨a1, a2⟩ := ha g (by simp)
    refine h H' n' _ (a1.trans hg) ⟨rfl, Nat.le_refl _, fun x _ hx => ?_, fun x o hx ho => ?_⟩
    · simp [domD] at hx
      exact Heap.put_ne _ _ hx
    · simp [domD] at hx; subst hx
      simp at ho
      rw [Heap.put_at, ho]
structure ElS {α : Type} (f : α → List AV) (sz : Nat) (H0 : Heap) (b g : Nat) (s : Str) (l : List α) (A : AV) (st : VM.St) (H : Heap) (n : Nat) : Prop where
  rg : H g = some (PT s st)
  row : RowS f sz H b n l A
  suf : st.1 <:+ s
  gb : g < b
  bn : b ≤ n
  keep : ∀ y, y < b → y ≠ g → H y = H0 y
  few : l.length + VM.left st ≤ 1502
theorem ElS.put {α : Type} {f : α → List AV} {sz : Nat} {H0 H : Heap} {b g n : Nat} {s : Str} {l : List α} {A : AV} {st st' : VM.St} (h : ElS f sz H0 b g s l A st H n) (hf : VM.Flow st st') (hs : st'.1 <:+ s) : ElS f sz H0 b g s l A st' (H.put g (some (PT s st'))) n := by
  have h1 := h.gb
  have h2 := h.few
  have h3 := hf.left
  exact ⟨Heap.put_at _ _ _, h.row.keep (Nat.le_refl _) fun y hy _ => Heap.put_ne _ _ (by omega), hs, h1, h.bn, fun y hy hne => by rw [Heap.put_ne _ _ hne]; exact h.keep y hy hne, by omega⟩
theorem zoh {α : Type} {m : VM.St → α × VM.St} {s : Str} (hm : ∀ st : VM.St, st.1 <:+ s → (m st).2.1 <:+ s) : ∀ (k : Nat) (st : VM.St), st.1 <:+ s → (VM.untilF m k st).2.1 <:+ s
  | 0, st, h => h
  | k + 1, st, h => by
    unfold VM.untilF
    split
    · exact zoh hm k _ (hm _ (zax h))
    · exact zy h
theorem zdd {α : Type} {m : VM.St → α × VM.St} {s : Str} (hm : ∀ st : VM.St, st.1 <:+ s → (m st).2.1 <:+ s) (st : VM.St) (h : st.1 <:+ s) : (VM.manyF m st).2.1 <:+ s := zoh hm _ st h
theorem zfz {s t : Str} (k : Nat) (h : t <:+ s) : t.drop k <:+ s := (List.drop_suffix k t).trans h
theorem zde {s : Str} : ∀ (d : Nat) (st : VM.St), st.1 <:+ s → (VM.exprF d st).2.1 <:+ s
  | 0, st, h => h
  | d + 1, st, h => by
    have ht := zax h
    unfold VM.exprF
    split
    · exact h
    · split
      · unfold VM.quotedF
        have h1 := zfz 1 ht
        have h2 : (((VM.trim st.1).drop 1).dropWhile (· != 39)).drop 1 <:+ s := zfz 1 ((List.dropWhile_suffix _).trans h1)
        split
        · dsimp only
          split
          · exact h2
          · exact h2
        · exact h1
      · split
        · have h3 := zkg (s := s) (st := (VM.trim st.1, st.2)) ht
          unfold VM.plainF
          split <;> dsimp only <;> split <;> exact h3
        · have h3 := zkg (s := s) (st := ((VM.trim st.1).drop 1, st.2)) (zfz 1 ht)
          generalize VM.wF ((VM.trim st.1).drop 1, st.2) = w at h3 ⊢
          unfold VM.formF
          have key : ∀ q : VM.St, q.1 <:+ s → (VM.manyF (VM.exprF d) q).2.1 <:+ s := fun q hq => zdd (zde d) q hq
          split
          · dsimp only
            split <;> exact key _ h3
          · dsimp only
            have hk : (if VM.name w.1 then w.2 else VM.badF 7 w.2).1 <:+ s := by split <;> exact h3
            generalize (if VM.name w.1 = true then w.2 else VM.badF 7 w.2) = q at hk ⊢
            split <;> exact key _ hk
def zbm (s : Str) (d : Nat) : Prop := ∀ (st : VM.St) (g : Nat) (H : Heap) (n : Nat) (Q : QT), st.1 <:+ s → H g = some (PT s st) → Q (.agg (VM.exprF d st).1.avs) (H.put g (some (PT s (VM.exprF d st).2))) n → za Tryd.prog 76 [.ptr g 0, .int .i64 (11 - (d : Int))] H n Q
set_option maxHeartbeats 1000000 in
theorem zqn {d : Nat} {s : Str} (hE : zbm s d) (hl : s.length ≤ 1500) {H0 H : Heap} {b g n : Nat} {st : VM.St} {Q : QT} (h : ElS Ex.avs 4 H0 b g s [] .nils st H n)
    (hq : ∀ A H' n', ElS Ex.avs 4 H0 b g s (VM.manyF (VM.exprF d) st).1 A (VM.manyF (VM.exprF d) st).2 H' n' → Q A H' n') : LP (zbd Q) [.ptr g 0, .int .i64 (11 - (d : Int)), .nils] H n := by
  have nice := VM.nice_expr d
  refine LP.mk (fun k xs H' n' => ∃ l A st1, xs = [.ptr g 0, .int .i64 (11 - (d : Int)), A] ∧ ElS Ex.avs 4 H0 b g s l A st1 H' n' ∧ VM.left st1 < k ∧ VM.manyF (VM.exprF d) st = (l ++ (VM.untilF (VM.exprF d) k st1).1, (VM.untilF (VM.exprF d) k st1).2)) (st.1.length + 2) ⟨[], .nils, st, rfl, h, VM.left_le st, rfl⟩ ?_
  rintro k xs H' n' ⟨l, A, st1, rfl, h, hle, hgo⟩
  generalize hJ : (fun (xs : List AV) (H' : Heap) (n' : Nat) => ∃ j, j < k ∧ ∃ l A st1, xs = [.ptr g 0, .int .i64 (11 - (d : Int)), A] ∧ ElS Ex.avs 4 H0 b g s l A st1 H' n' ∧ VM.left st1 < j ∧ VM.manyF (VM.exprF d) st = (l ++ (VM.untilF (VM.exprF d) j st1).1, (VM.untilF (VM.exprF d) j st1).2)) = J
  obtain ⟨k, rfl⟩ : ∃ j, k = j + 1 := ⟨k - 1, by omega⟩
  have hg' : H' g = some (.row 3 [.str s, .int .i64 ((s.length - st1.1.length : Nat) : Int), .int .i64 st1.2]) := h.rg
  have stop : VM.manyF (VM.exprF d) st = (l, VM.mustF 41 st1) → ∀ st2, VM.mustF 41 st2 = VM.mustF 41 st1 → ∀ H2 n2, ElS Ex.avs 4 H0 b g s l A st2 H2 n2 → za Tryd.prog 43 [.ptr g 0, .int .u8 41] H2 n2 (zbe Q [.ptr g 0, .int .i64 (11 - (d : Int)), A]) := by
    intro e st2 e2 H2 n2 h2
    refine zdc (by decide) hl h2.suf h2.rg ?_
    have h3 := h2.put (VM.flow_must 41 st2) (zy h2.suf)
    rw [e2] at h3 ⊢
    rw [e] at hq
    simp [zbe]
    exact hq _ _ _ h3
  by_cases he : st1.2 = 0
  · simp [zbd, hg', he]
    refine zfy hl h.suf h.rg ?_
    have h1 := h.put (st' := (VM.trim st1.1, st1.2)) ⟨VM.trim_le _, id⟩ (zax h.suf)
    generalize H'.put g _ = HX at h1 ⊢
    by_cases hn : VM.nxt st1.1 = 41
    · simp [zck, hn]
      refine stop ?_ (VM.trim st1.1, st1.2) (VM.must_trim _ _ _) _ _ h1
      rw [hgo]
      simp only [VM.untilF, hn, ne_eq, not_true_eq_false, and_false, if_false, List.append_nil]
    · simp [zck, hn]
      rw [he] at h1
      refine hE (VM.trim st1.1, 0) g _ _ _ h1.suf h1.rg ?_
      have hl1 := VM.left_lt' nice (st := (VM.trim st1.1, 0)) rfl
      have hl2 := VM.left_lt nice (st := st1) he
      have h2 := h1.put (nice.flow _) (zde d _ h1.suf)
      have xl := zcp (VM.exprF d (VM.trim st1.1, 0)).1
      have xo := zlo (VM.exprF d (VM.trim st1.1, 0)).1
      have hfew := h1.few
      have hgo2 : VM.manyF (VM.exprF d) st = (l ++ [(VM.exprF d (VM.trim st1.1, 0)).1] ++ (VM.untilF (VM.exprF d) k (VM.exprF d (VM.trim st1.1, 0)).2).1, (VM.untilF (VM.exprF d) k (VM.exprF d (VM.trim st1.1, 0)).2).2) := by
        rw [hgo]
        simp only [VM.untilF, he, hn, ne_eq, not_false_eq_true, and_true, if_true, List.append_assoc, List.singleton_append]
      generalize HX.put g _ = HY at h2 ⊢
      generalize VM.exprF d (VM.trim st1.1, 0) = xr at *
      obtain ⟨x, st2⟩ := xr
      simp only at *
      have xt : x.avs.take 4 = x.avs := List.take_of_length_le (by omega)
      have hgb := h2.gb
      have hbn := h2.bn
      have snoc := ziw (f := Ex.avs) l x
      have rl := zhw (f := Ex.avs) (sz := 4) zcp l
      have hra := h2.row
      have fin : ∀ HZ, HZ (n' + 1) = some (.row 4 ((l ++ [x]).map Ex.avs).flatten) → (∀ y, y < n' → y ∉ owns A → HZ y = HY y) → J [.ptr g 0, .int .i64 (11 - (d : Int)), .slc (n' + 1) 0 (l.length + 1)] HZ (n' + 2) := by
        intro HZ z1 z2
        rw [← hJ]
        have hA : ∀ y ∈ owns A, b ≤ y := fun y hy => by
          cases hra with
          | nil => simp [owns] at hy
          | row q1 q2 q3 => simp [owns] at hy; omega
        refine ⟨k, by omega, l ++ [x], _, st2, rfl, ⟨?_, ?_, h2.suf, hgb, by omega, fun y hy hne => ?_, by rw [List.length_append]; simp only [List.length_cons, List.length_nil]; omega⟩, by omega, hgo2⟩
        · rw [z2 g (by omega) fun hy => by have := hA g hy; omega]; exact h2.rg
        · have := RowS.row (f := Ex.avs) (sz := 4) (H := HZ) (lo := b) (hi := n' + 2) (l := l ++ [x]) (ga := n' + 1) (by omega) (by omega) z1
          rw [List.length_append] at this
          exact this
        · rw [z2 y (by omega) fun hy2 => by have := hA y hy2; omega]; exact h2.keep y hy hne
      cases hra with
      | nil =>
        simp [zcl, xl, xt]
        refine ⟨xo, ?_⟩
        have := fin ((HY.put n' (some (.row 4 x.avs))).put (n' + 1) (some (.row 4 x.avs))) (by rw [Heap.put_at]; simp) fun y hy _ => by rw [Heap.put_ne _ _ (by omega), Heap.put_ne _ _ (by omega)]
        exact this
      | @row l ga q1 q2 q3 =>
        have h1 : (l.length + 1) * 56 ≤ 140737488355328 := by omega
        generalize hrr : (l.map Ex.avs).flatten = rr at *
        have h3 : rr.take (l.length * 4) = rr := List.take_of_length_le (by omega)
        have ne_0 : ga ≠ n' ∧ n' ≠ ga ∧ ga ≠ n' + 1 ∧ n' + 1 ≠ ga := ⟨by omega, by omega, by omega, by omega⟩
        simp [zcl, xl, xt, q3, rl, h1, h3, ne_0]
        refine ⟨xo, ?_⟩
        have := fin (((HY.put n' (some (.row 4 x.avs))).put ga none).put (n' + 1) (some (.row 4 (rr ++ x.avs)))) (by rw [Heap.put_at, snoc]) fun y hy hno => by
          simp [owns] at hno
          rw [Heap.put_ne _ _ (by omega), Heap.put_ne _ _ hno, Heap.put_ne _ _ (by omega)]
        exact this
  · simp [zbd, hg', he]
    refine stop ?_ st1 rfl _ _ h
    rw [hgo]
    simp only [VM.untilF, he, false_and, if_false, List.append_nil]
theorem zlf {d : Nat} {s : Str} (hE : zbm s d) (hl : s.length ≤ 1500) {H : Heap} {g n : Nat} {st : VM.St} {Q : QT} (hs : st.1 <:+ s) (hg : H g = some (PT s st))
    (hq : Q (.ro ((VM.manyF (VM.exprF d) st).1.map Ex.avs)) (H.put g (some (PT s (VM.manyF (VM.exprF d) st).2))) n) : za Tryd.prog 88 [.ptr g 0, .int .i64 (11 - (d : Int))] H n Q := by
  refine za.tparser (st' := (VM.manyF (VM.exprF d) st).2) hg (fun hgn => ?_) hq
  refine zil _ _ _ _ _ ?_
  unfold zem
  have hle := hs.length_le
  refine zqn hE hl (b := n) (H0 := H) ⟨hg, .nil, hs, hgn, Nat.le_refl _, fun _ _ _ => rfl, by have := VM.left_le st; simp only [List.length_nil]; omega⟩ fun A H' n' h => ?_
  exact ⟨h.row.frz zcp (fun A x v hv => zif A x v hv) (Nat.le_refl _) fun _ _ _ => rfl, h.rg, h.keep⟩
end Go.Proofs.YtpllgpgdcbgalaaDoor
set_option maxRecDepth 8000
namespace Go.Proofs.YtpllgpgdcbgalaaDoor
open Go Go.RowKit
section
variable {g : Nat} {s : Str} {st : VM.St} {H : Heap} {n : Nat} {Q : QT}
theorem zoe {k z want : Int} {t : Str} {l : List Ex} (hg : H g = some (PT s st)) (hq : Q (.agg (Ex.mk k z t l).avs) (H.put g (some (PT s (if (l.length : Int) = want then st else VM.badF 5 st)))) n) : za Tryd.prog 87 [.ptr g 0, .agg [.int .i64 k, .int .i64 z, .str t, .ro (l.map Ex.avs)], .int .i64 want] H n Q := by
  refine za.tparser (st' := if (l.length : Int) = want then st else VM.badF 5 st) hg (fun hgn => ?_) hq
  refine zim _ _ _ _ _ _ ?_
  have hf : ∀ H' : Heap, Frz H' n (.agg [.int .i64 k, .int .i64 z, .str t, .ro (l.map Ex.avs)]) (.agg (Ex.mk k z t l).avs) := fun H' => by
    rw [zds]
    have := zjx (.mk k z t l) (· < n)
    rw [zds] at this
    exact .same _ this
  have ne_0 : g ≠ n ∧ n ≠ g ∧ g ≠ n + 1 ∧ n + 1 ≠ g := ⟨by omega, by omega, by omega, by omega⟩
  by_cases h : (l.length : Int) = want
  · simp [zcn, h, hg, ne_0]
    refine ⟨hf _, fun y hy _ => ?_⟩
    have h1 : ¬ y = n + 1 := by omega
    have h2 : ¬ y = n := by omega
    simp [h1, h2]
  · simp [zcn, h]
    have hg1 : ((H.put n (some (.row 4 [.int .i64 k, .int .i64 z, .str t, .ro (l.map Ex.avs)]))).put (n + 1) (some (.row 4 [.int .i64 0, .int .i64 0, .str [], .nils]))) g = some (PT s st) := by rw [Heap.put_ne _ _ (by omega), Heap.put_ne _ _ (by omega)]; exact hg
    refine zar hg1 ?_
    simp [zeq, ne_0]
    refine ⟨hf _, fun y hy hne => ?_⟩
    have h1 : ¬ y = n + 1 := by omega
    have h2 : ¬ y = n := by omega
    simp [h1, h2, hne]
theorem zm.texprs {d : Nat} (hE : zbm s d) (hl : s.length ≤ 1500) {z : Int} {kt : Kt} (hz : z = 11 - (d : Int)) (hs : st.1 <:+ s) (hg : H g = some (PT s st))
    (hk : kt (.ro ((VM.manyF (VM.exprF d) st).1.map Ex.avs)) [g] [] [(g, some (PT s (VM.manyF (VM.exprF d) st).2))]) : zm Tryd.prog (.clo 88 []) [.ptr g 0, .int .i64 z] H n kt := by
  subst hz
  refine ⟨_, [g], [], _, .inl rfl, LC.tparser hg (fun A => zce fun x hx v hv => ?_) fun _ _ _ h1 h2 => zlf hE hl hs h1 h2, hk⟩
  obtain ⟨y, _, rfl⟩ := List.mem_map.1 hx
  exact zif A y v hv
theorem zm.tcount {k z want : Int} {t : Str} {l : List Ex} {kt : Kt} (hg : H g = some (PT s st))
    (hk : kt (.agg (Ex.mk k z t l).avs) [g] [] [(g, some (PT s (if (l.length : Int) = want then st else VM.badF 5 st)))]) : zm Tryd.prog (.clo 87 []) [.ptr g 0, .agg [.int .i64 k, .int .i64 z, .str t, .ro (l.map Ex.avs)], .int .i64 want] H n kt :=
  ⟨_, [g], [], _, .inl rfl, LC.tparser hg (zjx _) fun _ _ _ h1 h2 => zoe h1 h2, hk⟩
end
structure TxE (s : Str) (H0 : Heap) (n g : Nat) (st : VM.St) (H : Heap) (m : Nat) : Prop where
  rg : H g = some (PT s st)
  rx : ∃ cs, H n = some (.row 4 cs) ∧ cs.length = 4
  suf : st.1 <:+ s
  gn : g < n
  nm : n < m
  keep : ∀ y, y < n → y ≠ g → H y = H0 y
def TxQ (s : Str) (H0 : Heap) (n g : Nat) (x : Ex) (st : VM.St) (Q : QT) : Prop := ∀ v H' n', Frz H' n v (.agg x.avs) → H' g = some (PT s st) → (∀ y, y < n → y ≠ g → H' y = H0 y) → Q v H' n'
section
variable {s : Str} {H0 H : Heap} {n g m : Nat} {st st' : VM.St} {Q : QT}
theorem TxE.put (h : TxE s H0 n g st H m) (hs : st'.1 <:+ s) : TxE s H0 n g st' (H.put g (some (PT s st'))) m := by
  have h1 := h.gn
  obtain ⟨cs, h2, h3⟩ := h.rx
  exact ⟨Heap.put_at _ _ _, ⟨cs, by rw [Heap.put_ne _ _ (by omega)]; exact h2, h3⟩, hs, h1, h.nm, fun y hy hne => by rw [Heap.put_ne _ _ hne]; exact h.keep y hy hne⟩
theorem TxE.new {m' y : Nat} {o : Option AObj} (h : TxE s H0 n g st H m) (hy : m ≤ y) (hm : m ≤ m') : TxE s H0 n g st (H.put y o) m' := by
  have h1 := h.gn
  have h0 := h.nm
  obtain ⟨cs, h2, h3⟩ := h.rx
  exact ⟨by rw [Heap.put_ne _ _ (by omega)]; exact h.rg, ⟨cs, by rw [Heap.put_ne _ _ (by omega)]; exact h2, h3⟩, h.suf, h1, by omega, fun z hz hne => by rw [Heap.put_ne _ _ (by omega)]; exact h.keep z hz hne⟩
theorem TxE.leaf {k z : Int} {t : Str} {o : Option AObj} (h : TxE s H0 n g st H m) (hq : TxQ s H0 n g (.mk k z t []) st Q) (m' : Nat) : Q (.agg [.int .i64 k, .int .i64 z, .str t, .nils]) (H.put n o) m' := by
  have h1 := h.gn
  refine hq _ _ _ ?_ (by rw [Heap.put_ne _ _ (by omega)]; exact h.rg) fun y hy hne => by rw [Heap.put_ne _ _ (by omega)]; exact h.keep y hy hne
  rw [zds]
  exact FL.agg (.cons (.same _ (.int _ _)) (.cons (.same _ (.int _ _)) (.cons (.same _ (.str _)) (.cons .nils .nil))))
theorem TxE.form {x : Ex} {o : Option AObj} (h : TxE s H0 n g st H m) (hq : TxQ s H0 n g x st Q) (m' : Nat) : Q (.agg x.avs) (H.put n o) m' := by
  have h1 := h.gn
  exact hq _ _ _ (.same _ (zjx x _)) (by rw [Heap.put_ne _ _ (by omega)]; exact h.rg) fun y hy hne => by rw [Heap.put_ne _ _ (by omega)]; exact h.keep y hy hne
theorem zst (hl : s.length ≤ 1500) (h : TxE s H0 n g st H m) (hq : TxQ s H0 n g (VM.plainF st).1 (VM.plainF st).2 Q) : za Tryd.prog 64 [.ptr g 0] H m (zcm (.ptr g 0) n Q) := by
  have hle := h.suf.length_le
  have hwl := ziu st
  refine zkc hl h.suf h.rg ?_
  have h1 := h.put (zkg h.suf)
  generalize H.put g _ = HX at h1 ⊢
  unfold VM.plainF at hq
  generalize VM.wF st = ws at *
  obtain ⟨w, s1⟩ := ws
  simp only at *
  obtain ⟨cs, r2, r2l⟩ := h1.rx
  have gn := h1.gn
  unfold zcm
  have names : VM.numOf w = none → ∀ v, v = AV.str w → za Tryd.prog 23 [v] HX m (zah (.ptr g 0) v n Q) := by
    rintro hn v rfl
    rw [hn] at hq
    simp only at hq
    refine (zhy w (by unfold maxLen; omega)).call ?_
    by_cases hnm : VM.name w = true
    · rw [if_pos hnm] at hq
      simp [zah, hnm, r2, r2l]
      exact ⟨by rintro _ ((rfl | rfl) | rfl | rfl) <;> rfl, h1.leaf hq _⟩
    · rw [if_neg hnm] at hq
      have hnm' : VM.name w = false := by simpa using hnm
      simp [zah, hnm']
      refine zar h1.rg ?_
      have h2 := h1.put (st' := VM.badF 7 s1) h1.suf
      obtain ⟨cs, r2, r2l⟩ := h2.rx
      generalize HX.put g _ = HY at h2 r2 ⊢
      simp [zen, r2, r2l]
      exact ⟨by rintro _ ((rfl | rfl) | rfl | rfl) <;> rfl, h2.leaf hq _⟩
  refine (zwg w (by omega)).call ?_
  unfold zsp
  cases ha : Lib.atoiAll w with
  | ok v =>
    have hb := zqz ha
    simp [zbh]
    refine (zwb v hb.1 hb.2).call ?_
    by_cases he : Lib.itoa v = w
    · have hn : VM.numOf w = some v := by unfold VM.numOf; rw [ha]; simp [he]
      rw [hn] at hq
      simp only at hq
      have bad : za Tryd.prog 63 [.ptr g 0, .int .i64 3] HX m (zbi (.int .i64 v) n Q) ∨ ¬ (v < -1073741824 ∨ 1073741824 < v) := by
        by_cases hr : v < -1073741824 ∨ 1073741824 < v
        · left
          rw [if_pos hr] at hq
          refine zar h1.rg ?_
          have h2 := h1.put (st' := VM.badF 3 s1) h1.suf
          obtain ⟨cs, r2, r2l⟩ := h2.rx
          generalize HX.put g _ = HY at h2 r2 ⊢
          simp [zbi, r2, r2l]
          exact h2.leaf hq _
        · exact .inr hr
      by_cases hv1 : v < -1073741824
      · have := bad.resolve_right (by simp [hv1])
        simp [zag, he, hv1]
        exact this
      · by_cases hv2 : 1073741824 < v
        · have := bad.resolve_right (by simp [hv2])
          simp [zag, he, hv1, hv2]
          exact this
        · rw [if_neg (by omega)] at hq
          simp [zag, he, hv1, hv2, r2, r2l]
          exact h1.leaf hq _
    · have hn : VM.numOf w = none := by unfold VM.numOf; rw [ha]; simp [he]
      simp [zag, he]
      exact names hn _ rfl
  | range =>
    have hn : VM.numOf w = none := by unfold VM.numOf; rw [ha]
    simp [zbh]
    exact names hn _ rfl
  | _ =>
    have hn : VM.numOf w = none := by unfold VM.numOf; rw [ha]
    simp [zbh]
    exact names hn _ rfl
end
end Go.Proofs.YtpllgpgdcbgalaaDoor
set_option maxRecDepth 8000
namespace Go.Proofs.YtpllgpgdcbgalaaDoor
open Go Go.RowKit
theorem zxg : ∀ i, i < 5 → VM.headOf (ops5.getD i []) = some (4, (i : Int) + 1, 2) := by decide
theorem zxf : ∀ i, i < 6 → VM.headOf (ops6.getD i []) = some (5 + (i : Int), 0, (zmz.getD i 0).toNat) := by decide
theorem ztd {w : Str} (h5 : ∀ j, j < 5 → w ≠ ops5.getD j []) (h6 : ∀ j, j < 6 → w ≠ ops6.getD j []) : VM.headOf w = none := by
  have a0 := h5 0 (by omega)
  have a1 := h5 1 (by omega)
  have a2 := h5 2 (by omega)
  have a3 := h5 3 (by omega)
  have a4 := h5 4 (by omega)
  have b0 := h6 0 (by omega)
  have b1 := h6 1 (by omega)
  have b2 := h6 2 (by omega)
  have b3 := h6 3 (by omega)
  have b4 := h6 4 (by omega)
  have b5 := h6 5 (by omega)
  simp [ops5, ops6] at a0 a1 a2 a3 a4 b0 b1 b2 b3 b4 b5
  simp [VM.headOf, a0, a1, a2, a3, a4, b0, b1, b2, b3, b4, b5]
def zia : List AV := [AV.str [99, 101, 108, 108], AV.int IntKind.i64 5, AV.int IntKind.i64 2, AV.str [108, 101, 102, 116], AV.int IntKind.i64 6, AV.int IntKind.i64 1, AV.str [114, 105, 103, 104, 116], AV.int IntKind.i64 7, AV.int IntKind.i64 1, AV.str [97, 115, 107], AV.int IntKind.i64 8, AV.int IntKind.i64 1, AV.str [104, 101, 114, 101], AV.int IntKind.i64 9, AV.int IntKind.i64 0, AV.str [103, 111], AV.int IntKind.i64 10, AV.int IntKind.i64 1]
theorem zvz : ∀ i, i < 6 → (zia.drop (i * 3)).take 3 = [AV.str (ops6.getD i []), .int .i64 (5 + (i : Int)), .int .i64 (zmz.getD i 0)] := by
  intro i hi
  have : i = 0 ∨ i = 1 ∨ i = 2 ∨ i = 3 ∨ i = 4 ∨ i = 5 := by omega
  rcases this with rfl | rfl | rfl | rfl | rfl | rfl <;> rfl
section
variable {s : Str} {H0 : Heap} {n g d : Nat} {Q : QT}
theorem ztz (hE : zbm s d) (hl : s.length ≤ 1500) (hd : d ≤ 11) {H : Heap} {m : Nat} {st : VM.St} {w : Str} {a4 a5 a6 : AV} (h : TxE s H0 n g st H m) (hw : VM.headOf w = none) (hwl : w.length ≤ 1500)
    (hq : TxQ s H0 n g (VM.formF (VM.exprF d) w st).1 (VM.formF (VM.exprF d) w st).2 Q) :
    za Tryd.prog 23 [.str w] H m (zbt [.ptr g 0, .int .i64 (10 - (d : Int)), .ptr n 0, .str w, a4, a5, a6] Q) := by
  unfold VM.formF at hq
  rw [hw] at hq
  simp only at hq
  have hwr : IntKind.i64.wrap (10 - (d : Int) + 1) = 11 - (d : Int) := by rw [i64w (by omega)]; omega
  have go : ∀ st1 H1, TxE s H0 n g st1 H1 m → st1 = (if VM.name w then st else VM.badF 7 st) → za Tryd.prog 88 [.ptr g 0, .int .i64 (11 - (d : Int))] H1 m (zao [.ptr g 0, .int .i64 (10 - (d : Int)), .ptr n 0, .str w, a4, a5, a6] Q) := by
    intro st1 H1 h1 e1
    rw [← e1] at hq
    refine zlf hE hl h1.suf h1.rg ?_
    have h2 := h1.put (zdd (zde d) st1 h1.suf)
    generalize H1.put g _ = H2 at h2 ⊢
    generalize VM.manyF (VM.exprF d) st1 = r at *
    obtain ⟨l, st2⟩ := r
    simp only at *
    have gn := h2.gn
    have nm := h2.nm
    have h3 : TxE s H0 n g st2 (H2.put m (some (.row 4 [.int .i64 11, .int .i64 0, .str w, .ro (l.map Ex.avs)]))) (m + 1) := h2.new (Nat.le_refl _) (by omega)
    have hexl : Ex.avs (.mk 11 0 w l) = [.int .i64 11, .int .i64 0, .str w, .ro (l.map Ex.avs)] := zds _ _ _ _
    have ne_0 : n ≠ m ∧ m ≠ n := ⟨by omega, by omega⟩
    by_cases h4 : l.length ≤ 4
    · have h4' : ¬ (4 : Int) < l.length := by omega
      rw [if_pos h4] at hq
      obtain ⟨cs, r2, r2l⟩ := h3.rx
      rw [Heap.put_ne _ _ (by omega)] at r2
      simp [zao, h4', r2, r2l, ne_0]
      have := h3.form hq (o := some (.row 4 ((Ex.mk 11 0 w l).avs ++ cs.drop 4))) (m + 1)
      rw [hexl] at this
      exact ⟨by rintro _ ((rfl | rfl | rfl) | rfl) <;> rfl, this⟩
    · have h4' : (4 : Int) < l.length := by omega
      rw [if_neg h4] at hq
      simp [zao, h4']
      refine ⟨by rintro _ ((rfl | rfl | rfl) | rfl) <;> rfl, ?_⟩
      refine zar h3.rg ?_
      have h5 := h3.put (st' := VM.badF 5 st2) h3.suf
      have hm : ((H2.put m (some (.row 4 [.int .i64 11, .int .i64 0, .str w, .ro (l.map Ex.avs)]))).put g (some (PT s (VM.badF 5 st2)))) m = some (.row 4 [.int .i64 11, .int .i64 0, .str w, .ro (l.map Ex.avs)]) := by rw [Heap.put_ne _ _ (by omega), Heap.put_at]
      obtain ⟨cs, r2, r2l⟩ := h5.rx
      generalize Heap.put (H2.put m _) g _ = H5 at h5 hm r2 ⊢
      simp [zfr, hm, r2, r2l]
      have := h5.form hq (o := some (.row 4 ((Ex.mk 11 0 w l).avs ++ cs.drop 4))) (m + 1)
      rw [hexl] at this
      exact this
  refine (zhy w (by unfold maxLen; omega)).call ?_
  by_cases hnm : VM.name w = true
  · have := go st H h (by rw [if_pos hnm])
    simp [zbt, hnm, hwr]
    exact this
  · have hnm' : VM.name w = false := by simpa using hnm
    simp [zbt, hnm']
    refine zar h.rg ?_
    have := go (VM.badF 7 st) _ (h.put (st' := VM.badF 7 st) h.suf) (by rw [if_neg hnm])
    simp [zfq, hwr]
    exact this
set_option maxHeartbeats 1000000 in
theorem ztx (hE : zbm s d) (hl : s.length ≤ 1500) (hd : d ≤ 11) {H : Heap} {m gk : Nat} {st : VM.St} {w : Str} (h : TxE s H0 n g st H m) (hkm : gk < m) (hk : H gk = some (.row 3 zia)) (h5 : ∀ j, j < 5 → w ≠ ops5.getD j []) (hwl : w.length ≤ 1500)
    (hq : TxQ s H0 n g (VM.formF (VM.exprF d) w st).1 (VM.formF (VM.exprF d) w st).2 Q) :
    LP (zbs Q) [.ptr g 0, .int .i64 (10 - (d : Int)), .ptr n 0, .str w, .slc gk 0 6, .int .i64 6, .int .i64 0] H m := by
  refine LP.mk (fun k xs H' m' => ∃ i : Nat, i + k = 6 ∧ xs = [.ptr g 0, .int .i64 (10 - (d : Int)), .ptr n 0, .str w, .slc gk 0 6, .int .i64 6, .int .i64 i] ∧ TxE s H0 n g st H' m' ∧ gk < m' ∧ H' gk = some (.row 3 zia) ∧ ∀ j, j < i → w ≠ ops6.getD j []) 6 ⟨0, by omega, rfl, h, hkm, hk, by omega⟩ ?_
  rintro k xs H' m' ⟨i, hik, rfl, h, hkm, hk, hno⟩
  generalize hJ : (fun (xs : List AV) (H' : Heap) (m' : Nat) => ∃ k', k' < k ∧ ∃ i : Nat, i + k' = 6 ∧ xs = [.ptr g 0, .int .i64 (10 - (d : Int)), .ptr n 0, .str w, .slc gk 0 6, .int .i64 6, .int .i64 i] ∧ TxE s H0 n g st H' m' ∧ gk < m' ∧ H' gk = some (.row 3 zia) ∧ ∀ j, j < i → w ≠ ops6.getD j []) = J
  cases k with
  | zero =>
    obtain rfl : i = 6 := by omega
    simp [zbs]
    exact ztz hE hl hd h (ztd h5 hno) hwl hq
  | succ k =>
    have hlt : i < 6 := by omega
    have hi' : (i : Int) < 6 := by omega
    have hi0 : (0 : Int) ≤ i := by omega
    have hat := zvz i hlt
    have hwr : IntKind.i64.wrap ((i : Int) + 1) = (i : Int) + 1 := i64w (by omega)
    have hwd : IntKind.i64.wrap (10 - (d : Int) + 1) = 11 - (d : Int) := by rw [i64w (by omega)]; omega
    have hle : i * 3 + 3 ≤ zia.length := by show i * 3 + 3 ≤ 18; omega
    have gn := h.gn
    have nm := h.nm
    have h6 := zxf i hlt
    have hwt0 : 0 ≤ zmz.getD i 0 := by
      have : i = 0 ∨ i = 1 ∨ i = 2 ∨ i = 3 ∨ i = 4 ∨ i = 5 := by omega
      rcases this with rfl | rfl | rfl | rfl | rfl | rfl <;> decide
    have hone : ops6.getD i [] = w → ∀ j, j < i → w ≠ ops6.getD j [] := fun _ => hno
    generalize hop : ops6.getD i [] = op at *
    generalize hwt : zmz.getD i 0 = wt at *
    have h1 : TxE s H0 n g st (H'.put m' (some (.row 3 [.str op, .int .i64 (5 + (i : Int)), .int .i64 wt]))) (m' + 1) := h.new (Nat.le_refl _) (by omega)
    have hk1 : (H'.put m' (some (.row 3 [.str op, .int .i64 (5 + (i : Int)), .int .i64 wt]))) gk = some (.row 3 zia) := by rw [Heap.put_ne _ _ (by omega)]; exact hk
    simp [zbs, hi', hi0, hk, hle, hat]
    refine ⟨fun he => ?_, fun hne => ?_⟩
    · subst he
      unfold VM.formF at hq
      rw [h6] at hq
      simp only at hq
      refine zm.texprs hE hl hwd h1.suf h1.rg ?_
      have h2 := h1.put (zdd (zde d) st h1.suf)
      have hm2 : ((H'.put m' (some (.row 3 [.str w, .int .i64 (5 + (i : Int)), .int .i64 wt]))).put g (some (PT s (VM.manyF (VM.exprF d) st).2))) m' = some (.row 3 [.str w, .int .i64 (5 + (i : Int)), .int .i64 wt]) := by rw [Heap.put_ne _ _ (by omega), Heap.put_at]
      have hm1 : (H'.put m' (some (.row 3 [.str w, .int .i64 (5 + (i : Int)), .int .i64 wt]))) m' = some (.row 3 [.str w, .int .i64 (5 + (i : Int)), .int .i64 wt]) := Heap.put_at _ _ _
      generalize VM.manyF (VM.exprF d) st = r at *
      obtain ⟨l, st2⟩ := r
      simp only at *
      have hst : (if (l.length : Int) = wt then st2 else VM.badF 5 st2) = (if l.length = wt.toNat then st2 else VM.badF 5 st2) := by
        by_cases hl : l.length = wt.toNat
        · rw [if_pos hl, if_pos (by omega)]
        · rw [if_neg hl, if_neg (by omega)]
      have hexl : Ex.avs (.mk (5 + (i : Int)) 0 [] l) = [.int .i64 (5 + (i : Int)), .int .i64 0, .str [], .ro (l.map Ex.avs)] := zds _ _ _ _
      have hq' : TxQ s H0 n g (.mk (5 + (i : Int)) 0 [] l) (if (l.length : Int) = wt then st2 else VM.badF 5 st2) Q := by
        rw [hst]
        by_cases hl : l.length = wt.toNat
        · rw [if_pos hl] at hq ⊢; exact hq
        · rw [if_neg hl] at hq ⊢; exact hq
      have h3 := h2.put (st' := if (l.length : Int) = wt then st2 else VM.badF 5 st2) (by split <;> exact h2.suf)
      have ne_1 : n ≠ g ∧ g ≠ n ∧ n ≠ m' ∧ m' ≠ n ∧ g ≠ m' ∧ m' ≠ g := ⟨by omega, by omega, by omega, by omega, by omega, by omega⟩
      simp [zfs, Heap.apply, ne_1]
      refine zm.tcount (s := s) (st := st2) (by simp) ?_
      generalize hst4 : (if (l.length : Int) = wt then st2 else VM.badF 5 st2) = st4 at *
      obtain ⟨cs, r2, r2l⟩ := h3.rx
      rw [Heap.put_put] at r2 h3
      rw [Heap.put_ne _ _ (by omega), Heap.put_ne _ _ (by omega)] at r2
      have xl := zcp (.mk (5 + (i : Int)) 0 [] l)
      have xo := zlo (.mk (5 + (i : Int)) 0 [] l)
      have fin := fun o => h3.form hq' (o := o) (m' + 1)
      generalize (Ex.mk (5 + (i : Int)) 0 [] l).avs = xa at *
      have xt : (xa ++ cs.drop 4).take 4 = xa := by rw [List.take_append, List.take_of_length_le (by omega), xl]; simp
      simp [zft, Heap.apply, r2, r2l, xl, xt, ne_1]
      exact ⟨xo, fin _⟩
    · simp only [hwr]
      rw [← hJ]
      exact ⟨k, by omega, i + 1, by omega, rfl, h1, by omega, hk1, fun j hj => by
        by_cases hji : j = i
        · subst hji; rw [hop]; exact hne
        · exact hno j (by omega)⟩
set_option maxHeartbeats 1000000 in
theorem ztw (hE : zbm s d) (hl : s.length ≤ 1500) (hd : d ≤ 11) {H : Heap} {m gk : Nat} {st : VM.St} {w : Str} (h : TxE s H0 n g st H m) (hk : H gk = some (.row 1 (ops5.map AV.str))) (hwl : w.length ≤ 1500)
    (hq : TxQ s H0 n g (VM.formF (VM.exprF d) w st).1 (VM.formF (VM.exprF d) w st).2 Q) :
    LP (zan Q) [.ptr g 0, .int .i64 (10 - (d : Int)), .ptr n 0, .str w, .slc gk 0 5, .int .i64 5, .int .i64 0] H m := by
  refine LP.mk (fun k xs H' m' => ∃ i : Nat, i + k = 5 ∧ xs = [.ptr g 0, .int .i64 (10 - (d : Int)), .ptr n 0, .str w, .slc gk 0 5, .int .i64 5, .int .i64 i] ∧ TxE s H0 n g st H' m' ∧ H' gk = some (.row 1 (ops5.map AV.str)) ∧ ∀ j, j < i → w ≠ ops5.getD j []) 5 ⟨0, by omega, rfl, h, hk, by omega⟩ ?_
  rintro k xs H' m' ⟨i, hik, rfl, h, hk, hno⟩
  generalize hJ : (fun (xs : List AV) (H' : Heap) (m' : Nat) => ∃ k', k' < k ∧ ∃ i : Nat, i + k' = 5 ∧ xs = [.ptr g 0, .int .i64 (10 - (d : Int)), .ptr n 0, .str w, .slc gk 0 5, .int .i64 5, .int .i64 i] ∧ TxE s H0 n g st H' m' ∧ H' gk = some (.row 1 (ops5.map AV.str)) ∧ ∀ j, j < i → w ≠ ops5.getD j []) = J
  have gn := h.gn
  have nm := h.nm
  cases k with
  | zero =>
    obtain rfl : i = 5 := by omega
    have hkr : AObj.row 3 zia = AObj.row 3 [AV.str [99, 101, 108, 108], AV.int IntKind.i64 5, AV.int IntKind.i64 2, AV.str [108, 101, 102, 116], AV.int IntKind.i64 6, AV.int IntKind.i64 1, AV.str [114, 105, 103, 104, 116], AV.int IntKind.i64 7, AV.int IntKind.i64 1, AV.str [97, 115, 107], AV.int IntKind.i64 8, AV.int IntKind.i64 1, AV.str [104, 101, 114, 101], AV.int IntKind.i64 9, AV.int IntKind.i64 0, AV.str [103, 111], AV.int IntKind.i64 10, AV.int IntKind.i64 1] := rfl
    simp only [zan, ← hkr]
    simp
    exact ztx hE hl hd (h.new (Nat.le_refl _) (by omega)) (by omega) (Heap.put_at _ _ _) hno hwl hq
  | succ k =>
    have hlt : i < 5 := by omega
    have hi' : (i : Int) < 5 := by omega
    have hi0 : (0 : Int) ≤ i := by omega
    have hx : (ops5.map AV.str)[i]? = some (.str (ops5.getD i [])) := by
      have : i = 0 ∨ i = 1 ∨ i = 2 ∨ i = 3 ∨ i = 4 := by omega
      rcases this with rfl | rfl | rfl | rfl | rfl <;> rfl
    have hwr : IntKind.i64.wrap ((i : Int) + 1) = (i : Int) + 1 := i64w (by omega)
    have hwd : IntKind.i64.wrap (10 - (d : Int) + 1) = 11 - (d : Int) := by rw [i64w (by omega)]; omega
    have h5 := zxg i hlt
    generalize hop : ops5.getD i [] = op at *
    by_cases he : w = op
    · subst he
      unfold VM.formF at hq
      rw [h5] at hq
      simp only at hq
      simp [zan, hi', hi0, hk, hx, hwr, hwd]
      refine zlf hE hl h.suf h.rg ?_
      have h2 := h.put (zdd (zde d) st h.suf)
      generalize VM.manyF (VM.exprF d) st = r at *
      obtain ⟨l, st2⟩ := r
      simp only at *
      have hst : (if (l.length : Int) = 2 then st2 else VM.badF 5 st2) = (if l.length = 2 then st2 else VM.badF 5 st2) := by
        by_cases hl : l.length = 2
        · rw [if_pos hl, if_pos (by omega)]
        · rw [if_neg hl, if_neg (by omega)]
      have hq' : TxQ s H0 n g (.mk 4 ((i : Int) + 1) [] l) (if (l.length : Int) = 2 then st2 else VM.badF 5 st2) Q := by
        rw [hst]
        by_cases hl : l.length = 2
        · rw [if_pos hl] at hq ⊢; exact hq
        · rw [if_neg hl] at hq ⊢; exact hq
      generalize H'.put g _ = H2 at h2 ⊢
      have h3 := h2.put (st' := if (l.length : Int) = 2 then st2 else VM.badF 5 st2) (by split <;> exact h2.suf)
      simp [zfu]
      refine zoe h2.rg ?_
      generalize hst4 : (if (l.length : Int) = 2 then st2 else VM.badF 5 st2) = st4 at *
      obtain ⟨cs, r2, r2l⟩ := h3.rx
      generalize H2.put g _ = H3 at h3 r2 ⊢
      have xl := zcp (.mk 4 ((i : Int) + 1) [] l)
      have xo := zlo (.mk 4 ((i : Int) + 1) [] l)
      have fin := fun o => h3.form hq' (o := o) m'
      generalize (Ex.mk 4 ((i : Int) + 1) [] l).avs = xa at *
      have xt : (xa ++ cs.drop 4).take 4 = xa := by rw [List.take_append, List.take_of_length_le (by omega), xl]; simp
      simp [zfv, r2, r2l, xl, xt]
      exact ⟨xo, fin _⟩
    · simp [zan, hi', hi0, hk, hx, he, hwr]
      rw [← hJ]
      exact ⟨k, by omega, i + 1, by omega, rfl, h, hk, fun j hj => by
        by_cases hji : j = i
        · subst hji; rw [hop]; exact he
        · exact hno j (by omega)⟩
set_option maxHeartbeats 1000000 in
theorem zty (hl : s.length ≤ 1500) : ∀ d, d ≤ 11 → zbm s d := by
  intro d
  induction d with
  | zero =>
    intro _ st g H n Q hs hg hq
    refine za.tparser (st' := (VM.exprF 0 st).2) hg (fun hgn => ?_) hq
    suffices main : ∀ Q : QT, TxQ s H n g (VM.exprF 0 st).1 (VM.exprF 0 st).2 Q → za Tryd.prog 76 [.ptr g 0, .int .i64 (11 - ((0 : Nat) : Int))] H n Q from main _ fun v H' n' a b c => ⟨a, b, c⟩
    intro Q hq
    refine zdp _ _ _ _ _ ?_
    simp [zcy]
    have h0 : TxE s H n g st (H.put n (some (.row 4 [.int .i64 0, .int .i64 0, .str [], .nils]))) (n + 1) :=
      ⟨by rw [Heap.put_ne _ _ (by omega)]; exact hg, ⟨_, Heap.put_at _ _ _, rfl⟩, hs, hgn, by omega, fun y hy _ => Heap.put_ne _ _ (by omega)⟩
    generalize H.put n _ = H1 at h0 ⊢
    refine zke h0.rg ?_
    rw [if_neg (by omega)]
    have h1 := h0.put (st' := VM.badF 9 st) h0.suf
    obtain ⟨cs, r2, r2l⟩ := h1.rx
    generalize H1.put g _ = H2 at h1 r2 ⊢
    simp [zbf, r2, r2l]
    exact h1.leaf hq _
  | succ d ih =>
    intro hd st g H n Q hs hg hq
    have hE := ih (by omega)
    refine za.tparser (st' := (VM.exprF (d + 1) st).2) hg (fun hgn => ?_) hq
    suffices main : ∀ Q : QT, TxQ s H n g (VM.exprF (d + 1) st).1 (VM.exprF (d + 1) st).2 Q → za Tryd.prog 76 [.ptr g 0, .int .i64 (11 - ((d + 1 : Nat) : Int))] H n Q from main _ fun v H' n' a b c => ⟨a, b, c⟩
    intro Q hq
    have hz : (11 : Int) - ((d + 1 : Nat) : Int) = 10 - (d : Int) := by omega
    rw [hz]
    refine zdp _ _ _ _ _ ?_
    simp [zcy]
    have h0 : TxE s H n g st (H.put n (some (.row 4 [.int .i64 0, .int .i64 0, .str [], .nils]))) (n + 1) :=
      ⟨by rw [Heap.put_ne _ _ (by omega)]; exact hg, ⟨_, Heap.put_at _ _ _, rfl⟩, hs, hgn, by omega, fun y hy _ => Heap.put_ne _ _ (by omega)⟩
    generalize H.put n _ = H1 at h0 ⊢
    refine zke h0.rg ?_
    rw [if_pos (show (10 : Int) - (d : Int) ≤ 10 by omega), Heap.put_same h0.rg]
    have hd10 : (10 : Int) - (d : Int) ≤ 10 := by omega
    unfold VM.exprF at hq
    by_cases he : st.2 = 0
    · rw [if_neg (by simpa using he)] at hq
      have hd11 : ¬ (10 : Int) < 10 - (d : Int) := by omega
      simp [zbf, he, hd10]
      refine zfy hl h0.suf h0.rg ?_
      have h1 := h0.put (st' := (VM.trim st.1, st.2)) (zax h0.suf)
      generalize H1.put g _ = H2 at h1 ⊢
      by_cases h39 : VM.nxt st.1 = 39
      · rw [if_pos h39] at hq
        obtain ⟨c, r, hc⟩ := zcq (b := st.1) (by rw [h39]; decide)
        have hc39 : c = 39 := by
          have e := h39
          unfold VM.nxt at e
          rw [hc] at e
          simp only at e
          split at e
          · cases e
          · exact UInt8.toNat_inj.1 (by show c.toNat = 39; omega)
        subst hc39
        rw [hc] at hq h1
        simp [zbg, h39]
        refine zrq hl h1.suf h1.rg fun w st' e => ?_
        rw [e] at hq
        have hs' : st'.1 <:+ s := by
          have := zde (s := s) 1 (39 :: r, 0) h1.suf
          unfold VM.quotedF at e
          have h2 : (((39 :: r : Str).drop 1).dropWhile (· != 39)).drop 1 <:+ s := zfz 1 ((List.dropWhile_suffix _).trans (zfz 1 h1.suf))
          split at e
          · cases e
            split
            · exact h2
            · exact h2
          · cases e
            exact zfz 1 h1.suf
        have h3 := h1.put (st' := st') hs'
        obtain ⟨cs, r2, r2l⟩ := h3.rx
        generalize H2.put g _ = H3 at h3 r2 ⊢
        simp [zfw, r2, r2l]
        exact ⟨by rintro _ ((rfl | rfl) | rfl | rfl) <;> rfl, h3.leaf hq _⟩
      · rw [if_neg h39] at hq
        by_cases h40 : VM.nxt st.1 = 40
        · rw [if_neg (by simpa using h40)] at hq
          obtain ⟨c, r, hc⟩ := zcq (b := st.1) (by rw [h40]; decide)
          rw [hc] at hq h1
          obtain ⟨p, hp⟩ := h1.suf
          have hg2 : H2 g = some (.row 3 [.str s, .int .i64 (p.length : Int), .int .i64 st.2]) := by
            rw [h1.rg, ← hp, zgi]
          have hpl : p.length ≤ 1500 := by rw [← hp, List.length_append] at hl; omega
          have hwp : IntKind.i64.wrap ((p.length : Int) + 1) = (p.length : Int) + 1 := i64w (by omega)
          have e1 : PT s (r, st.2) = .row 3 [.str s, .int .i64 ((p.length : Int) + 1), .int .i64 st.2] := by
            have := zgi (p ++ [c]) r st.2
            rw [List.append_assoc] at this
            simp only [List.cons_append, List.nil_append, List.length_append, List.length_cons, List.length_nil] at this
            rw [hp] at this
            rw [this]
            simp
          have hsr : r <:+ s := ⟨p ++ [c], by simpa using hp⟩
          simp [zbg, h40, hg2, hwp]
          rw [← e1]
          have h3 := h1.put (st' := (r, st.2)) hsr
          generalize H2.put g _ = H3 at h3 ⊢
          refine zkc hl h3.suf h3.rg ?_
          have hwl := ziu (r, st.2)
          have hrl := hsr.length_le
          have h4 := h3.put (zkg h3.suf)
          generalize H3.put g _ = H4 at h4 ⊢
          rw [show (c :: r).drop 1 = r from rfl] at hq
          generalize VM.wF (r, st.2) = ws at *
          obtain ⟨w, s1⟩ := ws
          simp only at *
          unfold zeo
          refine zmq _ _ _ ?_
          have hk5 : AObj.row 1 (ops5.map AV.str) = AObj.row 1 [AV.str [43], AV.str [45], AV.str [42], AV.str [60], AV.str [61]] := rfl
          simp only [zkw, ← hk5]
          simp [zep]
          exact ztw hE hl (by omega) (h4.new (Nat.le_refl _) (by omega)) (Heap.put_at _ _ _) (by omega) hq
        · rw [if_pos h40] at hq
          simp [zbg, h39, h40]
          exact zst hl h1 hq
    · rw [if_pos he] at hq
      obtain ⟨cs, r2, r2l⟩ := h0.rx
      simp [zbf, he, r2, r2l]
      exact h0.leaf hq _
end
end Go.Proofs.YtpllgpgdcbgalaaDoor
set_option maxRecDepth 8000
namespace Go.Proofs.YtpllgpgdcbgalaaDoor
open Go Go.RowKit
structure TxS (s : Str) (H0 : Heap) (n g gx : Nat) (dz k : Int) (nm : Str) (l : List Ex) (T E : AV) (st : VM.St) (H : Heap) (m : Nat) : Prop where
  r0 : H n = some (.row 1 [.ptr g 0])
  r1 : H (n + 1) = some (.row 1 [.int .i64 dz])
  r2 : ∃ cs, H (n + 2) = some (.row 5 cs) ∧ cs.length = 5
  rx : ∃ A, H gx = some (.row 5 [.int .i64 k, .str nm, A, T, E]) ∧ ArgS H (n + 3) m gx l A
  rg : H g = some (PT s st)
  suf : st.1 <:+ s
  gn : g < n
  gx0 : n + 3 ≤ gx
  gx1 : gx < m
  keep : ∀ y, y < n → y ≠ g → H y = H0 y
section
variable {s : Str} {H0 H : Heap} {n g gx m : Nat} {dz k : Int} {nm : Str} {l : List Ex} {T E : AV} {st st' : VM.St}
theorem TxS.put (h : TxS s H0 n g gx dz k nm l T E st H m) (hs : st'.1 <:+ s) : TxS s H0 n g gx dz k nm l T E st' (H.put g (some (PT s st'))) m := by
  have hb := h.gn
  have hx := h.gx0
  obtain ⟨cs, h2, h3⟩ := h.r2
  obtain ⟨A, h4, h5⟩ := h.rx
  exact ⟨by rw [Heap.put_ne _ _ (by omega)]; exact h.r0, by rw [Heap.put_ne _ _ (by omega)]; exact h.r1, ⟨cs, by rw [Heap.put_ne _ _ (by omega)]; exact h2, h3⟩, ⟨A, by rw [Heap.put_ne _ _ (by omega)]; exact h4, h5.keep (Nat.le_refl _) fun y hy _ _ => Heap.put_ne _ _ (by omega)⟩, Heap.put_at _ _ _, hs, hb, hx, h.gx1, fun y hy hne => by rw [Heap.put_ne _ _ hne]; exact h.keep y hy hne⟩
theorem TxS.set {k' : Int} {nm' : Str} {T' E' A : AV} (h : TxS s H0 n g gx dz k nm l T E st H m) (hA : H gx = some (.row 5 [.int .i64 k, .str nm, A, T, E])) : TxS s H0 n g gx dz k' nm' l T' E' st (H.put gx (some (.row 5 [.int .i64 k', .str nm', A, T', E']))) m := by
  have hb := h.gn
  have hx := h.gx0
  obtain ⟨cs, h2, h3⟩ := h.r2
  obtain ⟨A', h4, h5⟩ := h.rx
  rw [hA] at h4
  cases h4
  exact ⟨by rw [Heap.put_ne _ _ (by omega)]; exact h.r0, by rw [Heap.put_ne _ _ (by omega)]; exact h.r1, ⟨cs, by rw [Heap.put_ne _ _ (by omega)]; exact h2, h3⟩, ⟨A, Heap.put_at _ _ _, h5.keep (Nat.le_refl _) fun y _ _ hne => Heap.put_ne _ _ hne⟩, by rw [Heap.put_ne _ _ (by omega)]; exact h.rg, h.suf, hb, hx, h.gx1, fun y hy hne => by rw [Heap.put_ne _ _ (by omega)]; exact h.keep y hy hne⟩
theorem TxS.new {y : Nat} {o : Option AObj} {m' : Nat} (h : TxS s H0 n g gx dz k nm l T E st H m) (hy : m ≤ y) (hm : m ≤ m') : TxS s H0 n g gx dz k nm l T E st (H.put y o) m' := by
  have hb := h.gn
  have hx := h.gx0
  have hx1 := h.gx1
  obtain ⟨cs, h2, h3⟩ := h.r2
  obtain ⟨A, h4, h5⟩ := h.rx
  exact ⟨by rw [Heap.put_ne _ _ (by omega)]; exact h.r0, by rw [Heap.put_ne _ _ (by omega)]; exact h.r1, ⟨cs, by rw [Heap.put_ne _ _ (by omega)]; exact h2, h3⟩, ⟨A, by rw [Heap.put_ne _ _ (by omega)]; exact h4, h5.keep hm fun z _ hz _ => Heap.put_ne _ _ (by omega)⟩, by rw [Heap.put_ne _ _ (by omega)]; exact h.rg, h.suf, hb, hx, by omega, fun z hz hne => by rw [Heap.put_ne _ _ (by omega)]; exact h.keep z hz hne⟩
theorem TxS.next {HF : Heap} (h : TxS s H0 n g gx dz k nm l T E st H m) (x : Ex) (hs : st'.1 <:+ s) (f1 : HF g = some (PT s st')) (f2 : HF gx = some (.row 5 [.int .i64 k, .str nm, .slc (m + 1) 0 (l.length + 1), T, E])) (f3 : HF (m + 1) = some (.row 4 (rowE (l ++ [x]))))
    (f4 : ∀ y, y < n + 3 → y ≠ g → HF y = H y) : TxS s H0 n g gx dz k nm (l ++ [x]) T E st' HF (m + 2) := by
  have hb := h.gn
  have hx0 := h.gx0
  have hx1 := h.gx1
  obtain ⟨cs2, r2, r2l⟩ := h.r2
  refine ⟨by rw [f4 n (by omega) (by omega)]; exact h.r0, by rw [f4 _ (by omega) (by omega)]; exact h.r1, ⟨cs2, by rw [f4 _ (by omega) (by omega)]; exact r2, r2l⟩, ⟨_, f2, ?_⟩, f1, hs, hb, hx0, by omega, fun y hy hne => by rw [f4 y (by omega) hne]; exact h.keep y hy hne⟩
  have := ArgS.row (H := HF) (lo := n + 3) (hi := m + 2) (gx := gx) (l := l ++ [x]) (ga := m + 1) (by omega) (by omega) (by omega) f3
  rw [List.length_append] at this
  exact this
end
theorem zm.texpr {s : Str} {d : Nat} (hE : zbm s d) {st : VM.St} {g n : Nat} {H : Heap} {z : Int} {kt : Kt} (hz : z = 11 - (d : Int)) (hs : st.1 <:+ s) (hg : H g = some (PT s st)) (hk : kt (.agg (VM.exprF d st).1.avs) [g] [] [(g, some (PT s (VM.exprF d st).2))]) : zm Tryd.prog (.clo 76 []) [.ptr g 0, .int .i64 z] H n kt := by
  subst hz
  exact ⟨_, [g], [], _, .inl rfl, LC.tparser hg (zjx _) fun H n Q h1 h2 => hE st g H n Q hs h1 h2, hk⟩
set_option maxHeartbeats 1000000 in
theorem zjr {s : Str} {d : Nat} (hE : zbm s d) {H0 H : Heap} {n g gx m : Nat} {k : Int} {nm : Str} {l : List Ex} {T E : AV} {st : VM.St} {K : QT} (h : TxS s H0 n g gx (10 - (d : Int)) k nm l T E st H m) (hd : d ≤ 11) (hll : l.length ≤ 100)
    (hk : ∀ H' m', TxS s H0 n g gx (10 - (d : Int)) k nm (l ++ [(VM.exprF d st).1]) T E (VM.exprF d st).2 H' m' → K (.tup []) H' m') : za Tryd.prog 75 [.ptr gx 0, .ptr n 0, .ptr (n + 1) 0] H m K := by
  refine zhp _ _ _ _ _ _ ?_
  have hb := h.gn
  have hx0 := h.gx0
  have hx1 := h.gx1
  obtain ⟨A, rx, ra⟩ := h.rx
  have r0 := h.r0
  have r1 := h.r1
  have hw : IntKind.i64.wrap (10 - (d : Int) + 1) = 10 - (d : Int) + 1 := i64w (by omega)
  have hsf := zde d st h.suf
  cases ra with
  | nil =>
    simp [zby, rx, r0, r1, hw]
    refine zm.texpr hE (by omega) h.suf h.rg ?_
    have xl := zcp (VM.exprF d st).1
    have xo := zlo (VM.exprF d st).1
    generalize hxa : (VM.exprF d st).1.avs = xa at xl xo
    have ne_0 : g ≠ n ∧ n ≠ g ∧ g ≠ n + 1 ∧ n + 1 ≠ g ∧ g ≠ gx ∧ gx ≠ g ∧ n ≠ n + 1 ∧ n + 1 ≠ n ∧ n ≠ gx ∧ gx ≠ n ∧ n + 1 ≠ gx ∧ gx ≠ n + 1 ∧ g ≠ m ∧ m ≠ g ∧ g ≠ m + 1 ∧ m + 1 ≠ g ∧ n ≠ m ∧ m ≠ n ∧ n ≠ m + 1 ∧ m + 1 ≠ n ∧ n + 1 ≠ m ∧ m ≠ n + 1 ∧ n + 1 ≠ m + 1 ∧ m + 1 ≠ n + 1 ∧ gx ≠ m ∧ m ≠ gx ∧ gx ≠ m + 1 ∧ m + 1 ≠ gx := ⟨by omega, by omega, by omega, by omega, by omega, by omega, by omega, by omega, by omega, by omega, by omega, by omega, by omega, by omega, by omega, by omega, by omega, by omega, by omega, by omega, by omega, by omega, by omega, by omega, by omega, by omega, by omega, by omega⟩
    simp [zbz, rx, xl, ne_0]
    refine ⟨xo, hk _ _ (h.next _ hsf ?_ ?_ ?_ fun y hy hne => ?_)⟩
    · rw [Heap.put_ne _ _ (by omega), Heap.put_ne _ _ (by omega), Heap.put_ne _ _ (by omega), Heap.put_at]
    · rw [Heap.put_at]; rfl
    · rw [Heap.put_ne _ _ (by omega), Heap.put_at, zoj, hxa]; rfl
    · rw [Heap.put_ne _ _ (by omega), Heap.put_ne _ _ (by omega), Heap.put_ne _ _ (by omega), Heap.put_ne _ _ hne]
  | @row l ga a1 a2 a3 a4 =>
    simp [zby, rx, r0, r1, hw]
    refine zm.texpr hE (by omega) h.suf h.rg ?_
    have xl := zcp (VM.exprF d st).1
    have xo := zlo (VM.exprF d st).1
    generalize hxa : (VM.exprF d st).1.avs = xa at xl xo
    have rl := zud l
    have h1 : (l.length + 1) * 56 ≤ 140737488355328 := by omega
    have h2 : (l.length : Int) < l.length + 1 := by omega
    have h3 : (rowE l).take (l.length * 4) = rowE l := List.take_of_length_le (by omega)
    have ne_1 : g ≠ n ∧ n ≠ g ∧ g ≠ n + 1 ∧ n + 1 ≠ g ∧ g ≠ gx ∧ gx ≠ g ∧ g ≠ ga ∧ ga ≠ g ∧ n ≠ n + 1 ∧ n + 1 ≠ n ∧ n ≠ gx ∧ gx ≠ n ∧ n ≠ ga ∧ ga ≠ n ∧ n + 1 ≠ gx ∧ gx ≠ n + 1 ∧ n + 1 ≠ ga ∧ ga ≠ n + 1 ∧ gx ≠ ga ∧ ga ≠ gx ∧ g ≠ m ∧ m ≠ g ∧ g ≠ m + 1 ∧ m + 1 ≠ g ∧ n ≠ m ∧ m ≠ n ∧ n ≠ m + 1 ∧ m + 1 ≠ n ∧ n + 1 ≠ m ∧ m ≠ n + 1 ∧ n + 1 ≠ m + 1 ∧ m + 1 ≠ n + 1 ∧ gx ≠ m ∧ m ≠ gx ∧ gx ≠ m + 1 ∧ m + 1 ≠ gx ∧ ga ≠ m ∧ m ≠ ga ∧ ga ≠ m + 1 ∧ m + 1 ≠ ga := ⟨by omega, by omega, by omega, by omega, by omega, by omega, by omega, by omega, by omega, by omega, by omega, by omega, by omega, by omega, by omega, by omega, by omega, by omega, by omega, by omega, by omega, by omega, by omega, by omega, by omega, by omega, by omega, by omega, by omega, by omega, by omega, by omega, by omega, by omega, by omega, by omega, by omega, by omega, by omega, by omega⟩
    simp [zbz, rx, a4, rl, h1, h2, h3, xl, ne_1]
    have h4 : (rowE l ++ [AV.int .i64 0, .int .i64 0, .str [], .nils]).drop (l.length * 4 + 4) = [] := List.drop_of_length_le (by rw [List.length_append, rl]; simp)
    rw [h4]
    refine ⟨xo, hk _ _ (h.next _ hsf ?_ ?_ ?_ fun y hy hne => ?_)⟩
    · rw [Heap.put_ne _ _ (by omega), Heap.put_ne _ _ (by omega), Heap.put_ne _ _ (by omega), Heap.put_ne _ _ (by omega), Heap.put_at]
    · rw [Heap.put_at]
    · rw [Heap.put_ne _ _ (by omega), Heap.put_at, zoj, hxa, List.append_nil]
    · rw [Heap.put_ne _ _ (by omega), Heap.put_ne _ _ (by omega), Heap.put_ne _ _ (by omega), Heap.put_ne _ _ (by omega), Heap.put_ne _ _ hne]
end Go.Proofs.YtpllgpgdcbgalaaDoor
set_option maxRecDepth 8000
namespace Go.Proofs.YtpllgpgdcbgalaaDoor
open Go Go.RowKit
theorem zoi {s : Str} (d : Nat) : ∀ (k : Nat) (st : VM.St), st.1 <:+ s → (VM.timesF (VM.exprF d) k st).2.1 <:+ s
  | 0, st, h => h
  | k + 1, st, h => by unfold VM.timesF; exact zoi d k _ (zde d st h)
theorem zht {s : Str} : ∀ (d : Nat) (st : VM.St), st.1 <:+ s → (VM.stmtF d st).2.1 <:+ s
  | 0, st, h => h
  | d + 1, st, h => by
    have key : ∀ q : VM.St, q.1 <:+ s → (VM.manyF (VM.stmtF d) q).2.1 <:+ s := fun q hq => zdd (zht d) q hq
    by_cases hc : st.2 ≠ 0
    · unfold VM.stmtF; rw [if_pos hc]; exact h
    · simp only [VM.stmtF]
      rw [if_neg hc]
      have h1 := zkg (zy (c := 40) h)
      generalize VM.wF (VM.mustF 40 st) = w at h1 ⊢
      have h2 : (if VM.stKind w.1 = 0 then VM.badF 1 w.2 else w.2).1 <:+ s := by split <;> exact h1
      generalize (if VM.stKind w.1 = 0 then VM.badF 1 w.2 else w.2) = s1 at h2 ⊢
      have h3 : (VM.nmF (VM.stKind w.1) s1).2.1 <:+ s := by
        unfold VM.nmF
        split
        · exact zpd h2
        · exact h2
      generalize VM.nmF (VM.stKind w.1) s1 = nm at h3 ⊢
      have h4 := zoi d (VM.argsOf (VM.stKind w.1)) nm.2 h3
      generalize VM.timesF (VM.exprF d) (VM.argsOf (VM.stKind w.1)) nm.2 = a at h4 ⊢
      split
      · exact zy (key _ (zy (key _ (zy h4))))
      · split
        · exact key _ h4
        · exact zy h4
def zig (s : Str) (d : Nat) : Prop := ∀ (st : VM.St) (g : Nat) (H : Heap) (n : Nat) (Q : QT), st.1 <:+ s → H g = some (PT s st) → Q (.agg (VM.stmtF d st).1.avs) (H.put g (some (PT s (VM.stmtF d st).2))) n → za Tryd.prog 65 [.ptr g 0, .int .i64 (11 - (d : Int))] H n Q
set_option maxHeartbeats 1000000 in
theorem zql {d : Nat} {s : Str} (hE : zig s d) (hl : s.length ≤ 1500) {H0 H : Heap} {b g n : Nat} {st : VM.St} {Q : QT} (h : ElS Sm.avs 5 H0 b g s [] .nils st H n)
    (hq : ∀ A H' n', ElS Sm.avs 5 H0 b g s (VM.manyF (VM.stmtF d) st).1 A (VM.manyF (VM.stmtF d) st).2 H' n' → Q A H' n') : LP (zba Q) [.ptr g 0, .int .i64 (11 - (d : Int)), .nils] H n := by
  have nice := VM.nice_stmt d
  refine LP.mk (fun k xs H' n' => ∃ l A st1, xs = [.ptr g 0, .int .i64 (11 - (d : Int)), A] ∧ ElS Sm.avs 5 H0 b g s l A st1 H' n' ∧ VM.left st1 < k ∧ VM.manyF (VM.stmtF d) st = (l ++ (VM.untilF (VM.stmtF d) k st1).1, (VM.untilF (VM.stmtF d) k st1).2)) (st.1.length + 2) ⟨[], .nils, st, rfl, h, VM.left_le st, rfl⟩ ?_
  rintro k xs H' n' ⟨l, A, st1, rfl, h, hle, hgo⟩
  generalize hJ : (fun (xs : List AV) (H' : Heap) (n' : Nat) => ∃ j, j < k ∧ ∃ l A st1, xs = [.ptr g 0, .int .i64 (11 - (d : Int)), A] ∧ ElS Sm.avs 5 H0 b g s l A st1 H' n' ∧ VM.left st1 < j ∧ VM.manyF (VM.stmtF d) st = (l ++ (VM.untilF (VM.stmtF d) j st1).1, (VM.untilF (VM.stmtF d) j st1).2)) = J
  obtain ⟨k, rfl⟩ : ∃ j, k = j + 1 := ⟨k - 1, by omega⟩
  have hg' : H' g = some (.row 3 [.str s, .int .i64 ((s.length - st1.1.length : Nat) : Int), .int .i64 st1.2]) := h.rg
  have stop : VM.manyF (VM.stmtF d) st = (l, VM.mustF 41 st1) → ∀ st2, VM.mustF 41 st2 = VM.mustF 41 st1 → ∀ H2 n2, ElS Sm.avs 5 H0 b g s l A st2 H2 n2 → za Tryd.prog 43 [.ptr g 0, .int .u8 41] H2 n2 (zbb Q [.ptr g 0, .int .i64 (11 - (d : Int)), A]) := by
    intro e st2 e2 H2 n2 h2
    refine zdc (by decide) hl h2.suf h2.rg ?_
    have h3 := h2.put (VM.flow_must 41 st2) (zy h2.suf)
    rw [e2] at h3 ⊢
    rw [e] at hq
    simp [zbb]
    exact hq _ _ _ h3
  by_cases he : st1.2 = 0
  · simp [zba, hg', he]
    refine zfy hl h.suf h.rg ?_
    have h1 := h.put (st' := (VM.trim st1.1, st1.2)) ⟨VM.trim_le _, id⟩ (zax h.suf)
    generalize H'.put g _ = HX at h1 ⊢
    by_cases hn : VM.nxt st1.1 = 41
    · simp [zci, hn]
      refine stop ?_ (VM.trim st1.1, st1.2) (VM.must_trim _ _ _) _ _ h1
      rw [hgo]
      simp only [VM.untilF, hn, ne_eq, not_true_eq_false, and_false, if_false, List.append_nil]
    · simp [zci, hn]
      rw [he] at h1
      refine hE (VM.trim st1.1, 0) g _ _ _ h1.suf h1.rg ?_
      have hl1 := VM.left_lt' nice (st := (VM.trim st1.1, 0)) rfl
      have hl2 := VM.left_lt nice (st := st1) he
      have h2 := h1.put (nice.flow _) (zht d _ h1.suf)
      have xl := znf (VM.stmtF d (VM.trim st1.1, 0)).1
      have xo := zsy (VM.stmtF d (VM.trim st1.1, 0)).1
      have hfew := h1.few
      have hgo2 : VM.manyF (VM.stmtF d) st = (l ++ [(VM.stmtF d (VM.trim st1.1, 0)).1] ++ (VM.untilF (VM.stmtF d) k (VM.stmtF d (VM.trim st1.1, 0)).2).1, (VM.untilF (VM.stmtF d) k (VM.stmtF d (VM.trim st1.1, 0)).2).2) := by
        rw [hgo]
        simp only [VM.untilF, he, hn, ne_eq, not_false_eq_true, and_true, if_true, List.append_assoc, List.singleton_append]
      generalize HX.put g _ = HY at h2 ⊢
      generalize VM.stmtF d (VM.trim st1.1, 0) = xr at *
      obtain ⟨x, st2⟩ := xr
      simp only at *
      have xt : x.avs.take 5 = x.avs := List.take_of_length_le (by omega)
      have hgb := h2.gb
      have hbn := h2.bn
      have snoc := ziw (f := Sm.avs) l x
      have rl := zhw (f := Sm.avs) (sz := 5) znf l
      have hra := h2.row
      have fin : ∀ HZ, HZ (n' + 1) = some (.row 5 ((l ++ [x]).map Sm.avs).flatten) → (∀ y, y < n' → y ∉ owns A → HZ y = HY y) → J [.ptr g 0, .int .i64 (11 - (d : Int)), .slc (n' + 1) 0 (l.length + 1)] HZ (n' + 2) := by
        intro HZ z1 z2
        rw [← hJ]
        have hA : ∀ y ∈ owns A, b ≤ y := fun y hy => by
          cases hra with
          | nil => simp [owns] at hy
          | row q1 q2 q3 => simp [owns] at hy; omega
        refine ⟨k, by omega, l ++ [x], _, st2, rfl, ⟨?_, ?_, h2.suf, hgb, by omega, fun y hy hne => ?_, by rw [List.length_append]; simp only [List.length_cons, List.length_nil]; omega⟩, by omega, hgo2⟩
        · rw [z2 g (by omega) fun hy => by have := hA g hy; omega]; exact h2.rg
        · have := RowS.row (f := Sm.avs) (sz := 5) (H := HZ) (lo := b) (hi := n' + 2) (l := l ++ [x]) (ga := n' + 1) (by omega) (by omega) z1
          rw [List.length_append] at this
          exact this
        · rw [z2 y (by omega) fun hy2 => by have := hA y hy2; omega]; exact h2.keep y hy hne
      cases hra with
      | nil =>
        simp [zcj, xl, xt]
        refine ⟨xo, ?_⟩
        have := fin ((HY.put n' (some (.row 5 x.avs))).put (n' + 1) (some (.row 5 x.avs))) (by rw [Heap.put_at]; simp) fun y hy _ => by rw [Heap.put_ne _ _ (by omega), Heap.put_ne _ _ (by omega)]
        exact this
      | @row l ga q1 q2 q3 =>
        have h1 : (l.length + 1) * 96 ≤ 140737488355328 := by omega
        generalize hrr : (l.map Sm.avs).flatten = rr at *
        have h3 : rr.take (l.length * 5) = rr := List.take_of_length_le (by omega)
        have ne_0 : ga ≠ n' ∧ n' ≠ ga ∧ ga ≠ n' + 1 ∧ n' + 1 ≠ ga := ⟨by omega, by omega, by omega, by omega⟩
        simp [zcj, xl, xt, q3, rl, h1, h3, ne_0]
        refine ⟨xo, ?_⟩
        have := fin (((HY.put n' (some (.row 5 x.avs))).put ga none).put (n' + 1) (some (.row 5 (rr ++ x.avs)))) (by rw [Heap.put_at, snoc]) fun y hy hno => by
          simp [owns] at hno
          rw [Heap.put_ne _ _ (by omega), Heap.put_ne _ _ hno, Heap.put_ne _ _ (by omega)]
        exact this
  · simp [zba, hg', he]
    refine stop ?_ st1 rfl _ _ h
    rw [hgo]
    simp only [VM.untilF, he, false_and, if_false, List.append_nil]
theorem zld {d : Nat} {s : Str} (hE : zig s d) (hl : s.length ≤ 1500) {H : Heap} {g n : Nat} {st : VM.St} {Q : QT} (hs : st.1 <:+ s) (hg : H g = some (PT s st))
    (hq : Q (.ro ((VM.manyF (VM.stmtF d) st).1.map Sm.avs)) (H.put g (some (PT s (VM.manyF (VM.stmtF d) st).2))) n) : za Tryd.prog 45 [.ptr g 0, .int .i64 (11 - (d : Int))] H n Q := by
  refine za.tparser (st' := (VM.manyF (VM.stmtF d) st).2) hg (fun hgn => ?_) hq
  refine zik _ _ _ _ _ ?_
  unfold zek
  have hle := hs.length_le
  refine zql hE hl (b := n) (H0 := H) ⟨hg, .nil, hs, hgn, Nat.le_refl _, fun _ _ _ => rfl, by have := VM.left_le st; simp only [List.length_nil]; omega⟩ fun A H' n' h => ?_
  exact ⟨h.row.frz znf (fun A x v hv => zie A x v hv) (Nat.le_refl _) fun _ _ _ => rfl, h.rg, h.keep⟩
theorem zof {d : Nat} {s : Str} (hE : zig s d) (hl : s.length ≤ 1500) {H : Heap} {g n : Nat} {st : VM.St} {Q : QT} (hs : st.1 <:+ s) (hg : H g = some (PT s st))
    (hq : Q (.ro ((VM.manyF (VM.stmtF d) (VM.mustF 40 st)).1.map Sm.avs)) (H.put g (some (PT s (VM.manyF (VM.stmtF d) (VM.mustF 40 st)).2))) n) : za Tryd.prog 77 [.ptr g 0, .int .i64 (11 - (d : Int))] H n Q := by
  refine zin _ _ _ _ _ ?_
  unfold zer
  refine zdc (by decide) hl hs hg ?_
  unfold zes
  refine zld hE hl (zy hs) (Heap.put_at _ _ _) ?_
  rw [Heap.put_put]
  exact hq
def TsQ (s : Str) (H0 : Heap) (n g : Nat) (x : Sm) (st : VM.St) (Q : QT) : Prop := ∀ v H' n', Frz H' n v (.agg x.avs) → H' g = some (PT s st) → (∀ y, y < n → y ≠ g → H' y = H0 y) → Q v H' n'
def BlA (T : AV) (t : List Sm) : Prop := (T = .nils ∧ t = []) ∨ T = .ro (t.map Sm.avs)
theorem BlA.frz {T : AV} {t : List Sm} (h : BlA T t) (H : Heap) (N : Nat) : Frz H N T (.ro (t.map Sm.avs)) := by
  rcases h with ⟨rfl, rfl⟩ | rfl
  · exact .nils
  · refine .same _ (zce fun x hx v hv => ?_)
    obtain ⟨y, _, rfl⟩ := List.mem_map.1 hx
    exact zie _ y v hv
theorem BlA.one {T : AV} {t : List Sm} (h : BlA T t) : T.one = true := by
  rcases h with ⟨rfl, _⟩ | rfl <;> rfl
section
variable {s : Str} {H0 H : Heap} {n g gx m : Nat} {dz k : Int} {nm : Str} {l : List Ex} {T E : AV} {t e : List Sm} {st : VM.St} {Q : QT}
theorem TxS.done (h : TxS s H0 n g gx dz k nm l T E st H m) (hT : BlA T t) (hE : BlA E e) {A : AV} (hA : H gx = some (.row 5 [.int .i64 k, .str nm, A, T, E])) (hq : TsQ s H0 n g (.mk k nm l t e) st Q) (o : Option AObj) (m' : Nat) : Q (.agg [.int .i64 k, .str nm, A, T, E]) (H.put (n + 2) o) m' := by
  have hb := h.gn
  have hx := h.gx0
  obtain ⟨A', h1, h2⟩ := h.rx
  rw [hA] at h1
  cases h1
  refine hq _ _ _ ?_ (by rw [Heap.put_ne _ _ (by omega)]; exact h.rg) fun y hy hne => by rw [Heap.put_ne _ _ (by omega)]; exact h.keep y hy hne
  rw [zgn]
  exact FL.agg (.cons (.same _ (.int _ _)) (.cons (.same _ (.str _)) (.cons (zpr h2 (by omega) fun y hy _ => Heap.put_ne _ _ (by omega)) (.cons (hT.frz _ _) (.cons (hE.frz _ _) .nil)))))
theorem zrf (hl : s.length ≤ 1500) (h : TxS s H0 n g gx dz k nm l T E st H m) (hT : BlA T t) (hE : BlA E e) (hq : TsQ s H0 n g (.mk k nm l t e) (VM.mustF 41 st) Q) : za Tryd.prog 43 [.ptr g 0, .int .u8 41] H m (zbq gx n Q) := by
  refine zdc (by decide) hl h.suf h.rg ?_
  have h1 := h.put (zy (c := 41) h.suf)
  generalize H.put g _ = H1 at h1 ⊢
  obtain ⟨A, rx, ra⟩ := h1.rx
  obtain ⟨cs, r2, r2l⟩ := h1.r2
  have hx := h1.gx0
  have ho := zqd ra
  have hTo := hT.one
  have hEo := hE.one
  simp [zbq, rx, r2, r2l]
  exact ⟨⟨ho, hTo, hEo⟩, h1.done hT hE rx hq _ _⟩
end
end Go.Proofs.YtpllgpgdcbgalaaDoor
set_option maxRecDepth 8000
namespace Go.Proofs.YtpllgpgdcbgalaaDoor
open Go Go.RowKit
namespace VM
def stF (d : Nat) (w : Str) (s1 : St) : Sm × St :=
  let nm := nmF (stKind w) (if stKind w = 0 then badF 1 s1 else s1)
  let a := timesF (exprF d) (argsOf (stKind w)) nm.2
  if stKind w = 3 then
    let t := manyF (stmtF d) (mustF 40 a.2)
    let e := manyF (stmtF d) (mustF 40 t.2)
    (.mk (stKind w) nm.1 a.1 t.1 e.1, mustF 41 e.2)
  else if stKind w = 4 then
    let t := manyF (stmtF d) a.2
    (.mk (stKind w) nm.1 a.1 t.1 [], t.2)
  else (.mk (stKind w) nm.1 a.1 [] [], mustF 41 a.2)
theorem stmtF_succ {d : Nat} {st : St} (h : st.2 = 0) : stmtF (d + 1) st = stF d (wF (mustF 40 st)).1 (wF (mustF 40 st)).2 := by
  simp only [stmtF, stF]
  rw [if_neg (by simpa using h)]
theorem stF_nm {d : Nat} {w : Str} {s1 : St} (h : stKind w = 1 ∨ stKind w = 2) : stF d w s1 = (.mk (stKind w) (nF s1).1 [(exprF d (nF s1).2).1] [] [], mustF 41 (exprF d (nF s1).2).2) := by
  unfold stF
  rcases h with h | h <;> simp [h, nmF, argsOf, timesF]
theorem stF_one {d : Nat} {w : Str} {s1 : St} (h : stKind w = 5 ∨ stKind w = 6 ∨ stKind w = 9) : stF d w s1 = (.mk (stKind w) [] [(exprF d s1).1] [] [], mustF 41 (exprF d s1).2) := by
  unfold stF
  rcases h with h | h | h <;> simp [h, nmF, argsOf, timesF]
theorem stF_two {d : Nat} {w : Str} {s1 : St} (h : stKind w = 7 ∨ stKind w = 8) : stF d w s1 = (.mk (stKind w) [] [(exprF d s1).1, (exprF d (exprF d s1).2).1] [] [], mustF 41 (exprF d (exprF d s1).2).2) := by
  unfold stF
  rcases h with h | h <;> simp [h, nmF, argsOf, timesF]
theorem stF_bad {d : Nat} {w : Str} {s1 : St} (h : stKind w = 0) : stF d w s1 = (.mk 0 [] [] [] [], mustF 41 (badF 1 s1)) := by
  unfold stF
  simp [h, nmF, argsOf, timesF]
theorem stF_if {d : Nat} {w : Str} {s1 : St} (h : stKind w = 3) : stF d w s1 = (.mk 3 [] [(exprF d s1).1] (manyF (stmtF d) (mustF 40 (exprF d s1).2)).1 (manyF (stmtF d) (mustF 40 (manyF (stmtF d) (mustF 40 (exprF d s1).2)).2)).1, mustF 41 (manyF (stmtF d) (mustF 40 (manyF (stmtF d) (mustF 40 (exprF d s1).2)).2)).2) := by
  unfold stF
  simp [h, nmF, argsOf, timesF]
theorem stF_while {d : Nat} {w : Str} {s1 : St} (h : stKind w = 4) : stF d w s1 = (.mk 4 [] [(exprF d s1).1] (manyF (stmtF d) (exprF d s1).2).1 [], (manyF (stmtF d) (exprF d s1).2).2) := by
  unfold stF
  simp [h, nmF, argsOf, timesF]
end VM
theorem bl0 : BlA .nils [] := .inl ⟨rfl, rfl⟩
section
variable {s : Str} {d : Nat} {H0 H : Heap} {n g gx m : Nat} {k : Int} {nm : Str} {l : List Ex} {T E : AV} {st : VM.St} {Q : QT}
theorem tk2 (hl : s.length ≤ 1500) (v : AV) (h : TxS s H0 n g gx (10 - (d : Int)) k nm l .nils .nils st H m) (hq : TsQ s H0 n g (.mk k nm l [] []) (VM.mustF 41 st) Q) : zl n gx Q v H m := by
  have r0 := h.r0
  simp [zl, r0]
  exact zrf hl h bl0 bl0 hq
theorem zre (hE : zbm s d) (hl : s.length ≤ 1500) (hd : d ≤ 11) (h : TxS s H0 n g gx (10 - (d : Int)) k nm [] .nils .nils st H m) (hq : TsQ s H0 n g (.mk k nm [(VM.exprF d st).1] [] []) (VM.mustF 41 (VM.exprF d st).2) Q) : za Tryd.prog 75 [.ptr gx 0, .ptr n 0, .ptr (n + 1) 0] H m (zl n gx Q) :=
  zjr hE h hd (by simp) fun _ _ h1 => tk2 hl _ h1 hq
theorem zrd (hE : zbm s d) (hl : s.length ≤ 1500) (hd : d ≤ 11) (h : TxS s H0 n g gx (10 - (d : Int)) k nm [] .nils .nils st H m) (hq : TsQ s H0 n g (.mk k nm [(VM.exprF d st).1, (VM.exprF d (VM.exprF d st).2).1] [] []) (VM.mustF 41 (VM.exprF d (VM.exprF d st).2).2) Q) : za Tryd.prog 75 [.ptr gx 0, .ptr n 0, .ptr (n + 1) 0] H m (zaa gx n Q) :=
  zjr hE h hd (by simp) fun _ _ h1 => by
    unfold zaa
    exact zjr hE h1 hd (by simp) fun _ _ h2 => tk2 hl _ h2 hq
set_option maxHeartbeats 1000000 in
theorem zwh (hE : zbm s d) (hS : zig s d) (hl : s.length ≤ 1500) (hd : d ≤ 11) (h : TxS s H0 n g gx (10 - (d : Int)) 3 [] [] .nils .nils st H m)
    (hq : TsQ s H0 n g (.mk 3 [] [(VM.exprF d st).1] (VM.manyF (VM.stmtF d) (VM.mustF 40 (VM.exprF d st).2)).1 (VM.manyF (VM.stmtF d) (VM.mustF 40 (VM.manyF (VM.stmtF d) (VM.mustF 40 (VM.exprF d st).2)).2)).1) (VM.mustF 41 (VM.manyF (VM.stmtF d) (VM.mustF 40 (VM.manyF (VM.stmtF d) (VM.mustF 40 (VM.exprF d st).2)).2)).2) Q) :
    za Tryd.prog 75 [.ptr gx 0, .ptr n 0, .ptr (n + 1) 0] H m (zcv n gx Q) := by
  refine zjr hE h hd (by simp) fun H1 m1 h1 => ?_
  have hw : IntKind.i64.wrap (10 - (d : Int) + 1) = 11 - (d : Int) := by rw [i64w (by omega)]; omega
  have km : ∀ q : VM.St, q.1 <:+ s → (VM.manyF (VM.stmtF d) q).2.1 <:+ s := fun q hq => zdd (zht d) q hq
  have r0 := h1.r0
  have r1 := h1.r1
  simp [zcv, r0, r1, hw]
  generalize VM.exprF d st = xe at *
  refine zof hS hl h1.suf h1.rg ?_
  have h2 := h1.put (km _ (zy (c := 40) h1.suf))
  generalize H1.put g _ = H2 at h2 ⊢
  generalize VM.manyF (VM.stmtF d) (VM.mustF 40 xe.2) = te at *
  obtain ⟨A, rx, ra⟩ := h2.rx
  have h3 := h2.set (k' := 3) (nm' := []) (T' := .ro (te.1.map Sm.avs)) (E' := .nils) rx
  have hgx := h2.gx0
  have r0 := h2.r0
  have r1 := h2.r1
  have ne_0 : gx ≠ n ∧ n ≠ gx ∧ gx ≠ n + 1 ∧ n + 1 ≠ gx ∧ n ≠ n + 1 ∧ n + 1 ≠ n := ⟨by omega, by omega, by omega, by omega, by omega, by omega⟩
  simp [zfk, rx, r0, r1, hw, ne_0]
  generalize H2.put gx _ = H3 at h3 ⊢
  refine zof hS hl h3.suf h3.rg ?_
  have h4 := h3.put (km _ (zy (c := 40) h3.suf))
  generalize H3.put g _ = H4 at h4 ⊢
  generalize VM.manyF (VM.stmtF d) (VM.mustF 40 te.2) = ee at *
  obtain ⟨A, rx, ra⟩ := h4.rx
  have h5 := h4.set (k' := 3) (nm' := []) (T' := .ro (te.1.map Sm.avs)) (E' := .ro (ee.1.map Sm.avs)) rx
  have r0 := h4.r0
  simp [zfl, rx, r0, ne_0]
  generalize H4.put gx _ = H5 at h5 ⊢
  exact zrf hl h5 (.inr rfl) (.inr rfl) hq
set_option maxHeartbeats 1000000 in
theorem zss (hE : zbm s d) (hS : zig s d) (hl : s.length ≤ 1500) (hd : d ≤ 11) (h : TxS s H0 n g gx (10 - (d : Int)) 4 [] [] .nils .nils st H m)
    (hq : TsQ s H0 n g (.mk 4 [] [(VM.exprF d st).1] (VM.manyF (VM.stmtF d) (VM.exprF d st).2).1 []) (VM.manyF (VM.stmtF d) (VM.exprF d st).2).2 Q) :
    za Tryd.prog 75 [.ptr gx 0, .ptr n 0, .ptr (n + 1) 0] H m (zcu n gx Q) := by
  refine zjr hE h hd (by simp) fun H1 m1 h1 => ?_
  have hw : IntKind.i64.wrap (10 - (d : Int) + 1) = 11 - (d : Int) := by rw [i64w (by omega)]; omega
  have km : ∀ q : VM.St, q.1 <:+ s → (VM.manyF (VM.stmtF d) q).2.1 <:+ s := fun q hq => zdd (zht d) q hq
  have r0 := h1.r0
  have r1 := h1.r1
  simp [zcu, r0, r1, hw]
  generalize VM.exprF d st = xe at *
  refine zld hS hl h1.suf h1.rg ?_
  have h2 := h1.put (km _ h1.suf)
  generalize H1.put g _ = H2 at h2 ⊢
  generalize VM.manyF (VM.stmtF d) xe.2 = te at *
  obtain ⟨A, rx, ra⟩ := h2.rx
  have h3 := h2.set (k' := 4) (nm' := []) (T' := .ro (te.1.map Sm.avs)) (E' := .nils) rx
  have hgx := h2.gx0
  obtain ⟨cs, r2, r2l⟩ := h2.r2
  have ho := zqd ra
  have ne_1 : gx ≠ n ∧ n ≠ gx ∧ gx ≠ n + 1 ∧ n + 1 ≠ gx ∧ gx ≠ n + 2 ∧ n + 2 ≠ gx ∧ n ≠ n + 1 ∧ n + 1 ≠ n ∧ n ≠ n + 2 ∧ n + 2 ≠ n ∧ n + 1 ≠ n + 2 ∧ n + 2 ≠ n + 1 := ⟨by omega, by omega, by omega, by omega, by omega, by omega, by omega, by omega, by omega, by omega, by omega, by omega⟩
  simp [zfj, rx, r2, r2l, ne_1]
  exact ⟨by simpa using ho, h3.done (.inr rfl) bl0 (Heap.put_at _ _ _) hq _ _⟩
end
end Go.Proofs.YtpllgpgdcbgalaaDoor
set_option maxRecDepth 8000
namespace Go.Proofs.YtpllgpgdcbgalaaDoor
open Go Go.RowKit
namespace VM
theorem ne_of_lt {r b : Str} (h : r.length < b.length) : b ≠ [] := by rintro rfl; simp at h
theorem ext_stF {d : Nat} (ih : ExtC (stmtF d)) {w b r : Str} {x : Sm} (t : Str) (h : stF d w (b, 0) = (x, (r, 0))) (hk : stKind w ≠ 0) : stF d w (b ++ t, 0) = (x, (r ++ t, 0)) := by
  have em := ext_many (nice_stmt d) (fun b x r t h _ => ih b x r t h)
  have ee := ext_expr d
  have cases9 : stKind w = 1 ∨ stKind w = 2 ∨ stKind w = 3 ∨ stKind w = 4 ∨ stKind w = 5 ∨ stKind w = 6 ∨ stKind w = 7 ∨ stKind w = 8 ∨ stKind w = 9 := by
    unfold stKind at hk ⊢
    repeat' split
    all_goals first | omega | (exfalso; simp_all)
  -- a closing bracket, and what it was behind
  have close : ∀ s1 : St, mustF 41 s1 = (r, 0) → s1 = (s1.1, 0) ∧ s1.1 ≠ [] ∧ mustF 41 (s1.1 ++ t, 0) = (r ++ t, 0) := fun s1 hs => by
    have h0 : s1.2 = 0 := not_zero must_stuck (by rw [hs])
    have e : s1 = (s1.1, 0) := Prod.ext rfl h0
    have hs' : mustF 41 (s1.1, 0) = (r, 0) := by rw [← e]; exact hs
    have hne : s1.1 ≠ [] := fun hn => by
      have := (must_ok (by decide) hs').1
      rw [hn] at this
      exact this rfl
    exact ⟨e, hne, ext_must (by decide) t hs'⟩
  have expr1 : ∀ (s0 s1 : St) y, exprF d s0 = (y, s1) → s1 = (s1.1, 0) → s1.1 ≠ [] → s0 = (s0.1, 0) ∧ s0.1 ≠ [] ∧ exprF d (s0.1 ++ t, 0) = (y, (s1.1 ++ t, 0)) := fun s0 s1 y hs h0 hne => by
    have f := (nice_expr d).flow s0
    rw [hs] at f
    have e0 : s0.2 = 0 := f.2 (by simp only; rw [h0])
    have e : s0 = (s0.1, 0) := Prod.ext rfl e0
    refine ⟨e, fun hn => hne (List.eq_nil_of_length_eq_zero (by have := f.1; rw [hn] at this; simpa using this)), ?_⟩
    refine ee s0.1 y s1.1 t ?_ hne
    rw [← e, hs, ← h0]
  rcases cases9 with hk1 | hk1 | hk1 | hk1 | hk1 | hk1 | hk1 | hk1 | hk1
  case inl | inr.inl =>
    have hk2 : stKind w = 1 ∨ stKind w = 2 := by omega
    rw [stF_nm hk2] at h ⊢
    have h1 := congrArg Prod.fst h
    have h2 := congrArg Prod.snd h
    simp only at h1 h2
    obtain ⟨c1, c2, c3⟩ := close _ h2
    obtain ⟨d1, d2, d3⟩ := expr1 _ _ _ (Prod.ext rfl rfl) c1 c2
    have n1 := ext_n b (nF (b, 0)).1 (nF (b, 0)).2.1 t (Prod.ext rfl d1) d2
    rw [n1]
    simp only
    rw [d3]
    simp only
    rw [c3, h1]
  case inr.inr.inr.inr.inl | inr.inr.inr.inr.inr.inl | inr.inr.inr.inr.inr.inr.inr.inr =>
    have hk2 : stKind w = 5 ∨ stKind w = 6 ∨ stKind w = 9 := by omega
    rw [stF_one hk2] at h ⊢
    have h1 := congrArg Prod.fst h
    have h2 := congrArg Prod.snd h
    simp only at h1 h2
    obtain ⟨c1, c2, c3⟩ := close _ h2
    obtain ⟨d1, d2, d3⟩ := expr1 (b, 0) _ _ (Prod.ext rfl rfl) c1 c2
    simp only at d3
    rw [d3]
    simp only
    rw [c3, h1]
  case inr.inr.inr.inr.inr.inr.inl | inr.inr.inr.inr.inr.inr.inr.inl =>
    have hk2 : stKind w = 7 ∨ stKind w = 8 := by omega
    rw [stF_two hk2] at h ⊢
    have h1 := congrArg Prod.fst h
    have h2 := congrArg Prod.snd h
    simp only at h1 h2
    obtain ⟨c1, c2, c3⟩ := close _ h2
    obtain ⟨d1, d2, d3⟩ := expr1 _ _ _ (Prod.ext rfl rfl) c1 c2
    obtain ⟨f1, f2, f3⟩ := expr1 (b, 0) _ _ (Prod.ext rfl rfl) d1 d2
    simp only at f3
    rw [f3]
    simp only
    rw [d3]
    simp only
    rw [c3, h1]
  case inr.inr.inl =>
    rw [stF_if hk1] at h ⊢
    have h1 := congrArg Prod.fst h
    have h2 := congrArg Prod.snd h
    simp only at h1 h2
    have mst : ∀ s1 : St, (manyF (stmtF d) (mustF 40 s1)).2.2 = 0 → ∃ q, s1 = (s1.1, 0) ∧ s1.1 ≠ [] ∧ mustF 40 (s1.1 ++ t, 0) = (q ++ t, 0) ∧ mustF 40 s1 = (q, 0) := fun s1 hz => by
      have z1 := not_zero ((nice_many (nice_stmt d)).stuck _) hz
      have z0 : s1.2 = 0 := not_zero must_stuck z1
      have e : s1 = (s1.1, 0) := Prod.ext rfl z0
      have hs' : mustF 40 (s1.1, 0) = ((mustF 40 s1).1, 0) := by rw [← e]; exact Prod.ext rfl z1
      refine ⟨(mustF 40 s1).1, e, fun hn => ?_, ext_must (by decide) t hs', by rw [e] at hs' ⊢; exact hs'⟩
      have := (must_ok (by decide) hs').1
      rw [hn] at this
      exact this rfl
    obtain ⟨c1, c2, c3⟩ := close _ h2
    generalize hx : exprF d (b, 0) = xe at *
    obtain ⟨x1, s1⟩ := xe
    simp only at *
    generalize hT : manyF (stmtF d) (mustF 40 s1) = te at *
    obtain ⟨tt, s2⟩ := te
    simp only at *
    generalize hE : manyF (stmtF d) (mustF 40 s2) = e2 at *
    obtain ⟨et, s3⟩ := e2
    simp only at *
    obtain ⟨q2, a1, a2, a3, a4⟩ := mst s2 (by rw [hE]; simp only; rw [c1])
    obtain ⟨q1, b1, b2, b3, b4⟩ := mst s1 (by rw [hT]; simp only; rw [a1])
    rw [a4] at hE
    rw [b4] at hT
    have m2 := em q2 et s3.1 t (by rw [hE, ← c1])
    have m1 := em q1 tt s2.1 t (by rw [hT, ← a1])
    have x2 := ee b x1 s1.1 t (by rw [hx, ← b1]) b2
    rw [x2]
    simp only
    rw [b3, m1]
    simp only
    rw [a3, m2]
    simp only
    rw [c3, h1]
  case inr.inr.inr.inl =>
    rw [stF_while hk1] at h ⊢
    have h1 := congrArg Prod.fst h
    have h2 := congrArg Prod.snd h
    simp only at h1 h2
    generalize hx : exprF d (b, 0) = xe at *
    obtain ⟨x1, s1⟩ := xe
    simp only at *
    have z1 : s1.2 = 0 := not_zero ((nice_many (nice_stmt d)).stuck s1) (by rw [h2])
    have e1 : s1 = (s1.1, 0) := Prod.ext rfl z1
    have hne : s1.1 ≠ [] := by
      have := (nice_many (nice_stmt d)).eats s1 z1 (by rw [h2])
      exact ne_of_lt this
    have x2 := ee b x1 s1.1 t (by rw [hx, ← e1]) hne
    have m1 := em s1.1 (manyF (stmtF d) s1).1 r t (by rw [← e1]; exact Prod.ext rfl h2)
    rw [x2]
    simp only
    rw [m1]
    simp only
    rw [h1]
theorem ext_stmt : ∀ d, ExtC (stmtF d)
  | 0 => fun b x r t h => absurd (congrArg (fun p => p.2.2) h) (bad_err (by decide))
  | d + 1 => fun b x r t h => by
    have ih := ext_stmt d
    rw [stmtF_succ rfl] at h ⊢
    have hz : (stF d (wF (mustF 40 (b, 0))).1 (wF (mustF 40 (b, 0))).2).2.2 = 0 := by rw [h]
    have flow : Flow (wF (mustF 40 (b, 0))).2 (stF d (wF (mustF 40 (b, 0))).1 (wF (mustF 40 (b, 0))).2).2 ∧ stKind (wF (mustF 40 (b, 0))).1 ≠ 0 ∧ (wF (mustF 40 (b, 0))).2.1 ≠ [] := by
      generalize wF (mustF 40 (b, 0)) = ws at *
      obtain ⟨w, s1⟩ := ws
      simp only at *
      have f2 : Flow s1 (if stKind w = 0 then badF 1 s1 else s1) := by
        split
        · exact flow_bad 1 _
        · exact .refl _
      have f3 := flow_nm (stKind w) (if stKind w = 0 then badF 1 s1 else s1)
      have f4 := flow_times (nice_expr d) (argsOf (stKind w)) (nmF (stKind w) (if stKind w = 0 then badF 1 s1 else s1)).2
      have f5 := f3.trans f4
      have hb := bad_err (e := 1) (st := s1) (by decide)
      unfold stF at hz ⊢
      simp only at hz ⊢
      generalize timesF (exprF d) (argsOf (stKind w)) (nmF (stKind w) (if stKind w = 0 then badF 1 s1 else s1)).2 = a at *
      have end41 : ∀ q : St, (mustF 41 q).2 = 0 → q.1 ≠ [] := fun q hq hn => by
        have h0 := not_zero must_stuck hq
        have := must_eats (c := 41) (by decide) hq
        rw [hn] at this; simp at this
      have flM := fun q : St => (nice_many (nice_stmt d)).flow q
      have nonemp : ∀ q r : St, Flow q r → r.1 ≠ [] → q.1 ≠ [] := fun q r hf hr hq => hr (List.eq_nil_of_length_eq_zero (by have := hf.1; rw [hq] at this; simpa using this))
      have main : ∀ q : St, Flow a.2 q → q.2 = 0 → stKind w ≠ 0 ∧ (a.2.1 ≠ [] → s1.1 ≠ []) := fun q hq h0 => by
        have hz2 := f5.2 (hq.2 h0)
        refine ⟨fun hk => ?_, nonemp _ _ (f2.trans f5)⟩
        rw [if_pos hk] at hz2
        exact hb hz2
      by_cases h3 : stKind w = 3
      · rw [if_pos h3] at hz ⊢
        have fl := ((((flow_must 40 a.2).trans (flM _)).trans (flow_must 40 _)).trans (flM _)).trans (flow_must 41 _)
        have e1 := end41 _ hz
        obtain ⟨m1, m2⟩ := main _ fl hz
        exact ⟨f2.trans (f5.trans fl), m1, m2 (nonemp _ _ ((((flow_must 40 a.2).trans (flM _)).trans (flow_must 40 _)).trans (flM _)) e1)⟩
      · rw [if_neg h3] at hz ⊢
        by_cases h4 : stKind w = 4
        · rw [if_pos h4] at hz ⊢
          obtain ⟨m1, m2⟩ := main _ (flM a.2) hz
          refine ⟨f2.trans (f5.trans (flM _)), m1, m2 fun hn => ?_⟩
          have := (nice_many (nice_stmt d)).eats a.2 (not_zero ((nice_many (nice_stmt d)).stuck _) hz) hz
          rw [hn] at this; simp at this
        · rw [if_neg h4] at hz ⊢
          obtain ⟨m1, m2⟩ := main _ (flow_must 41 a.2) hz
          exact ⟨f2.trans (f5.trans (flow_must 41 _)), m1, m2 (end41 _ hz)⟩
    obtain ⟨fl, hk, hne⟩ := flow
    have z1 := fl.2 hz
    have z0 := (flow_w (mustF 40 (b, 0))).2 z1
    have e0 : mustF 40 (b, 0) = ((mustF 40 (b, 0)).1, 0) := Prod.ext rfl z0
    have e1 : (wF (mustF 40 (b, 0))).2 = ((wF (mustF 40 (b, 0))).2.1, 0) := Prod.ext rfl z1
    have m1 := ext_must (by decide) t e0
    have w1 := ext_w (mustF 40 (b, 0)).1 (wF (mustF 40 (b, 0))).1 (wF (mustF 40 (b, 0))).2.1 t (by rw [← e0]; exact Prod.ext rfl e1) hne
    rw [m1, w1]
    rw [e1] at h
    exact ext_stF ih t h hk
theorem ext_fn : ExtC fnF := fun b x r t h => by
  unfold fnF at h ⊢
  simp only at h ⊢
  have h1 := congrArg Prod.fst h
  have h2 := congrArg Prod.snd h
  simp only at h1 h2
  have em := ext_many (nice_stmt 11) (fun b x r t h _ => ext_stmt 11 b x r t h)
  have en := ext_many nice_n ext_n
  have hz : (manyF (stmtF 11) (manyF nF (mustF 40 (nF (mustF 40 (b, 0))).2)).2).2.2 = 0 := by rw [h2]
  have z1 := not_zero ((nice_many (nice_stmt 11)).stuck _) hz
  have z2 := not_zero ((nice_many nice_n).stuck _) z1
  have z3 := not_zero must_stuck z2
  have z4 := not_zero (nice_n.stuck _) z3
  have e1 : mustF 40 (b, 0) = ((mustF 40 (b, 0)).1, 0) := Prod.ext rfl z4
  have e2 : nF (mustF 40 (b, 0)) = ((nF (mustF 40 (b, 0))).1, ((nF (mustF 40 (b, 0))).2.1, 0)) := Prod.ext rfl (Prod.ext rfl z3)
  have e3 : mustF 40 (nF (mustF 40 (b, 0))).2 = ((mustF 40 (nF (mustF 40 (b, 0))).2).1, 0) := Prod.ext rfl z2
  have e4 : (manyF nF (mustF 40 (nF (mustF 40 (b, 0))).2)).2 = ((manyF nF (mustF 40 (nF (mustF 40 (b, 0))).2)).2.1, 0) := Prod.ext rfl z1
  have m1 := ext_must (by decide) t e1
  have hne : (nF (mustF 40 (b, 0))).2.1 ≠ [] := fun hn => by
    have := must_eats (c := 40) (by decide) z2
    rw [hn] at this; simp at this
  have n1 := ext_n (mustF 40 (b, 0)).1 (nF (mustF 40 (b, 0))).1 (nF (mustF 40 (b, 0))).2.1 t (by rw [← e1]; exact e2) hne
  have m2 := ext_must (c := 40) (b := (nF (mustF 40 (b, 0))).2.1) (r := (mustF 40 (nF (mustF 40 (b, 0))).2).1) (by decide) t (by
    have : (nF (mustF 40 (b, 0))).2 = ((nF (mustF 40 (b, 0))).2.1, 0) := Prod.ext rfl z3
    rw [← this]; exact e3)
  have p1 := en (mustF 40 (nF (mustF 40 (b, 0))).2).1 (manyF nF (mustF 40 (nF (mustF 40 (b, 0))).2)).1 (manyF nF (mustF 40 (nF (mustF 40 (b, 0))).2)).2.1 t (by rw [← e3]; exact Prod.ext rfl e4)
  have b1 := em (manyF nF (mustF 40 (nF (mustF 40 (b, 0))).2)).2.1 (manyF (stmtF 11) (manyF nF (mustF 40 (nF (mustF 40 (b, 0))).2)).2).1 r t (by rw [← e4]; exact Prod.ext rfl h2)
  rw [m1, n1]
  simp only
  rw [m2, p1]
  simp only
  rw [b1]
  simp only
  rw [h1]
def fnsA (st : St) : List Fnc × St := fnsF (st.1.length + 2) st
theorem fns_fuel : ∀ (k j : Nat) (st : St), left st < k → left st < j → fnsF k st = fnsF j st
  | 0, _, _, h, _ => absurd h (by omega)
  | _, 0, _, _, h => absurd h (by omega)
  | k + 1, j + 1, st, h1, h2 => by
    simp only [fnsF]
    split
    · rename_i h
      have hl := left_lt nice_fn (st := st) h.1
      rw [fns_fuel k j _ (by omega) (by omega)]
    · rfl
theorem fns_eq (st : St) : fnsA st = if st.2 = 0 ∧ nxt st.1 ≠ 0 then ((fnF (trim st.1, 0)).1 :: (fnsA (fnF (trim st.1, 0)).2).1, (fnsA (fnF (trim st.1, 0)).2).2) else ([], (if st.2 = 0 then trim st.1 else st.1, st.2)) := by
  have h := left_le st
  have e1 : fnsA st = fnsF (st.1.length + 1 + 1) st := rfl
  rw [e1]
  rw [show fnsF (st.1.length + 1 + 1) st = if st.2 = 0 ∧ nxt st.1 ≠ 0 then ((fnF (trim st.1, 0)).1 :: (fnsF (st.1.length + 1) (fnF (trim st.1, 0)).2).1, (fnsF (st.1.length + 1) (fnF (trim st.1, 0)).2).2) else ([], (if st.2 = 0 then trim st.1 else st.1, st.2)) from rfl]
  split
  · rename_i hc
    have hl := left_lt nice_fn (st := st) hc.1
    rw [fns_fuel (st.1.length + 1) _ _ (by omega) (left_le _)]
    rfl
  · rfl
theorem nxt_zero {b : Str} (h : nxt b = 0) : trim b = [] := by
  cases hb : trim b with
  | nil => rfl
  | cons c r =>
    unfold nxt at h
    rw [hb] at h
    simp only at h
    split at h
    · cases h
    · rename_i hc
      exact absurd (UInt8.toNat_inj.1 (show c.toNat = (0 : UInt8).toNat by simp; omega)) hc
theorem trim_app_nil {b : Str} (h : trim b = []) (t : Str) : trim (b ++ t) = trim t := by
  induction b with
  | nil => rfl
  | cons c r ih =>
    rw [zbw] at h
    rw [List.cons_append, zbw]
    split at h
    · rename_i hc; rw [if_pos hc]; exact ih h
    · cases h
theorem fns_join (t : Str) : ∀ (n : Nat) (s : Str), s.length = n → (fnsA (s, 0)).2.2 = 0 → fnsA (s ++ t, 0) = ((fnsA (s, 0)).1 ++ (fnsA (t, 0)).1, (fnsA (t, 0)).2) := by
  intro n
  induction n using Nat.strongRecOn with
  | _ n ih =>
    rintro s rfl hz
    by_cases h0 : nxt s ≠ 0
    · have es : fnsA (s, 0) = ((fnF (trim s, 0)).1 :: (fnsA (fnF (trim s, 0)).2).1, (fnsA (fnF (trim s, 0)).2).2) := by rw [fns_eq, if_pos ⟨rfl, h0⟩]
      rw [es] at hz ⊢
      simp only at hz
      have zero : ∀ st : St, (fnsA st).2.2 = 0 → st.2 = 0 := fun st h => by
        rw [fns_eq] at h
        split at h
        · rename_i hc; exact hc.1
        · exact h
      have z1 := zero _ hz
      have hea := nice_fn.eats (trim s, 0) rfl z1
      have htl := trim_le s
      have e1 : fnF (trim s, 0) = ((fnF (trim s, 0)).1, ((fnF (trim s, 0)).2.1, 0)) := Prod.ext rfl (Prod.ext rfl z1)
      have x1 := ext_fn (trim s) _ _ t e1
      have hne : trim s ≠ [] := fun e => by rw [e] at hea; simp at hea
      have e2 : (fnF (trim s, 0)).2 = ((fnF (trim s, 0)).2.1, 0) := Prod.ext rfl z1
      rw [e2] at hz ⊢
      simp only at hea
      have i1 := ih (fnF (trim s, 0)).2.1.length (by omega) _ rfl hz
      rw [fns_eq, if_pos ⟨rfl, by simp only; rw [nxt_app hne]; exact h0⟩]
      simp only
      rw [trim_app hne, x1]
      simp only
      rw [i1]
      rfl
    · have h0' : nxt s = 0 := by simpa using h0
      have ht := nxt_zero h0'
      have es : fnsA (s, 0) = ([], ([], 0)) := by rw [fns_eq, if_neg (by simp [h0'])]; simp [ht]
      have et := trim_app_nil ht t
      have en : nxt (s ++ t) = nxt t := by rw [← nxt_trim, et, nxt_trim]
      rw [es, fns_eq, fns_eq (t, 0)]
      simp only [en, et, List.nil_append]
      split <;> rfl
theorem parse_join {s t : Str} {a b : List Fnc} (h1 : parseF s = (a, 0)) (h2 : parseF t = (b, 0)) (hl : s.length + t.length ≤ 1500) : parseF (s ++ t) = (a ++ b, 0) := by
  have key : ∀ (u : Str) (c : List Fnc), u.length ≤ 1500 → (parseF u = (c, 0) ↔ (fnsA (u, 0)).1 = c ∧ (fnsA (u, 0)).2.2 = 0) := fun u c hu => by
    have e : fnsF (u.length + 2) (u, 0) = fnsA (u, 0) := rfl
    unfold parseF
    rw [if_neg (by omega), e]
    constructor
    · intro h
      split at h
      · rename_i hc; exact absurd (congrArg Prod.snd h) hc
      · rename_i hc; exact ⟨congrArg Prod.fst h, by simpa using hc⟩
    · rintro ⟨q1, q2⟩
      rw [if_neg (by simpa using q2), q1]
  obtain ⟨a1, a2⟩ := (key s a (by omega)).1 h1
  obtain ⟨b1, b2⟩ := (key t b (by omega)).1 h2
  refine (key (s ++ t) (a ++ b) (by rw [List.length_append]; omega)).2 ?_
  rw [fns_join t _ s rfl a2]
  exact ⟨by rw [a1, b1], b2⟩
end VM
end Go.Proofs.YtpllgpgdcbgalaaDoor
set_option maxRecDepth 8000
namespace Go.Proofs.YtpllgpgdcbgalaaDoor
open Go Go.RowKit
structure TxB (s : Str) (H0 : Heap) (n g : Nat) (dz : Int) (st : VM.St) (H : Heap) : Prop where
  r0 : H n = some (.row 1 [.ptr g 0])
  r1 : H (n + 1) = some (.row 1 [.int .i64 dz])
  r2 : ∃ cs, H (n + 2) = some (.row 5 cs) ∧ cs.length = 5
  rg : H g = some (PT s st)
  suf : st.1 <:+ s
  gn : g < n
  keep : ∀ y, y < n → y ≠ g → H y = H0 y
section
variable {s : Str} {d : Nat} {H0 H : Heap} {n g m : Nat} {dz : Int} {st st' : VM.St} {Q : QT}
theorem TxB.put (h : TxB s H0 n g dz st H) (hs : st'.1 <:+ s) : TxB s H0 n g dz st' (H.put g (some (PT s st'))) := by
  have hb := h.gn
  obtain ⟨cs, h2, h3⟩ := h.r2
  exact ⟨by rw [Heap.put_ne _ _ (by omega)]; exact h.r0, by rw [Heap.put_ne _ _ (by omega)]; exact h.r1, ⟨cs, by rw [Heap.put_ne _ _ (by omega)]; exact h2, h3⟩, Heap.put_at _ _ _, hs, hb, fun y hy hne => by rw [Heap.put_ne _ _ hne]; exact h.keep y hy hne⟩
theorem TxB.cell {k : Int} (h : TxB s H0 n g dz st H) (hm : n + 3 ≤ m) : TxS s H0 n g m dz k [] [] .nils .nils st (H.put m (some (.row 5 [.int .i64 k, .str [], .nils, .nils, .nils]))) (m + 1) := by
  have hb := h.gn
  obtain ⟨cs, h2, h3⟩ := h.r2
  exact ⟨by rw [Heap.put_ne _ _ (by omega)]; exact h.r0, by rw [Heap.put_ne _ _ (by omega)]; exact h.r1, ⟨cs, by rw [Heap.put_ne _ _ (by omega)]; exact h2, h3⟩, ⟨.nils, Heap.put_at _ _ _, .nil⟩, by rw [Heap.put_ne _ _ (by omega)]; exact h.rg, h.suf, hb, hm, by omega, fun y hy hne => by rw [Heap.put_ne _ _ (by omega)]; exact h.keep y hy hne⟩
theorem zsu (hE : zbm s d) (hl : s.length ≤ 1500) (hd : d ≤ 11) {k : Int} (h : TxB s H0 n g (10 - (d : Int)) st H) (hm : n + 3 ≤ m) (hq : TsQ s H0 n g (.mk k (VM.nF st).1 [(VM.exprF d (VM.nF st).2).1] [] []) (VM.mustF 41 (VM.exprF d (VM.nF st).2).2) Q) :
    za Tryd.prog 44 [.ptr g 0] (H.put m (some (.row 5 [.int .i64 k, .str [], .nils, .nils, .nils]))) (m + 1) (zab m n Q) := by
  have h1 := h.cell (k := k) hm
  generalize H.put m _ = H1 at h1 ⊢
  refine zmp hl h1.suf h1.rg ?_
  have h2 := h1.put (zpd h1.suf)
  generalize H1.put g _ = H2 at h2 ⊢
  generalize VM.nF st = r at *
  obtain ⟨A, rx, ra⟩ := h2.rx
  have h3 := h2.set (k' := k) (nm' := r.1) (T' := .nils) (E' := .nils) rx
  simp [zab, rx]
  exact zre hE hl hd h3 hq
set_option maxHeartbeats 2000000 in
theorem ztv (hE : zbm s d) (hS : zig s d) (hl : s.length ≤ 1500) (hd : d ≤ 11) {w : Str} (h : TxB s H0 n g (10 - (d : Int)) st H) (hm : n + 3 ≤ m) (hq : TsQ s H0 n g (VM.stF d w st).1 (VM.stF d w st).2 Q) : zh n Q (.str w) H m := by
  have r0 := h.r0
  have c := fun k => h.cell (k := k) hm
  have ne_0 : n ≠ m ∧ m ≠ n := ⟨by omega, by omega⟩
  by_cases h1 : w = [108, 101, 116]
  · subst h1
    rw [VM.stF_nm (.inl (by decide))] at hq
    have := zsu hE hl hd h hm hq
    simp [zh, r0, ne_0]
    exact this
  by_cases h2 : w = [115, 101, 116]
  · subst h2
    rw [VM.stF_nm (.inr (by decide))] at hq
    have := zsu hE hl hd h hm hq
    simp [zh, r0, ne_0]
    exact this
  by_cases h3 : w = [105, 102]
  · subst h3
    rw [VM.stF_if (by decide)] at hq
    have := zwh hE hS hl hd (c 3) hq
    simp [zh]
    exact this
  by_cases h4 : w = [119, 104, 105, 108, 101]
  · subst h4
    rw [VM.stF_while (by decide)] at hq
    have := zss hE hS hl hd (c 4) hq
    simp [zh]
    exact this
  have one : ∀ k H', TxS s H0 n g m (10 - (d : Int)) k [] [] .nils .nils st H' (m + 2) → (VM.stKind w = 5 ∨ VM.stKind w = 6 ∨ VM.stKind w = 9) → VM.stKind w = k → za Tryd.prog 75 [.ptr m 0, .ptr n 0, .ptr (n + 1) 0] H' (m + 2) (zl n m Q) := by
    rintro k H' hc hk rfl
    rw [VM.stF_one hk] at hq
    exact zre hE hl hd hc hq
  have mp : ∀ k (o : Option AObj), TxS s H0 n g m (10 - (d : Int)) k [] [] .nils .nils st ((((H.put m (some (.row 5 [.int .i64 0, .str [], .nils, .nils, .nils]))).put (m + 1) o)).put m (some (.row 5 [.int .i64 k, .str [], .nils, .nils, .nils]))) (m + 2) := fun k o =>
    ((c 0).new (o := o) (y := m + 1) (m' := m + 2) (by omega) (by omega)).set (by rw [Heap.put_ne _ _ (by omega), Heap.put_at])
  have ne_1 : n ≠ m ∧ m ≠ n ∧ n ≠ m + 1 ∧ m + 1 ≠ n ∧ m ≠ m + 1 ∧ m + 1 ≠ m := ⟨by omega, by omega, by omega, by omega, by omega, by omega⟩
  by_cases h5 : w = [115, 97, 121]
  · subst h5
    have := one 5 _ (mp 5 (some (.mp [(.str [115, 97, 121], .int .i64 5), (.str [114, 101, 116, 117, 114, 110], .int .i64 6), (.str [100, 111], .int .i64 9)]))) (.inl (by decide)) (by decide)
    simp [zh, ne_1]
    exact this
  by_cases h6 : w = [114, 101, 116, 117, 114, 110]
  · subst h6
    have := one 6 _ (mp 6 (some (.mp [(.str [115, 97, 121], .int .i64 5), (.str [114, 101, 116, 117, 114, 110], .int .i64 6), (.str [100, 111], .int .i64 9)]))) (.inr (.inl (by decide))) (by decide)
    simp [zh, ne_1]
    exact this
  by_cases h9 : w = [100, 111]
  · subst h9
    have := one 9 _ (mp 9 (some (.mp [(.str [115, 97, 121], .int .i64 5), (.str [114, 101, 116, 117, 114, 110], .int .i64 6), (.str [100, 111], .int .i64 9)]))) (.inr (.inr (by decide))) (by decide)
    simp [zh, ne_1]
    exact this
  by_cases h7 : w = [112, 117, 116, 108]
  · subst h7
    rw [VM.stF_two (.inl (by decide))] at hq
    have := zrd hE hl hd (c 7) hq
    simp [zh]
    exact this
  by_cases h8 : w = [112, 117, 116, 114]
  · subst h8
    rw [VM.stF_two (.inr (by decide))] at hq
    have := zrd hE hl hd (c 8) hq
    simp [zh]
    exact this
  · have hk : VM.stKind w = 0 := by simp [VM.stKind, h1, h2, h3, h4, h5, h6, h7, h8, h9]
    rw [VM.stF_bad hk] at hq
    have c0 := c 0
    simp [zh, h1, h2, h3, h4, h5, h6, h7, h8, h9, r0, ne_1]
    refine zar c0.rg ?_
    exact tk2 hl _ (c0.put (st' := VM.badF 1 st) c0.suf) hq
end
set_option maxHeartbeats 1000000 in
theorem ztu {s : Str} (hl : s.length ≤ 1500) : ∀ d, d ≤ 11 → zig s d := by
  intro d
  induction d with
  | zero =>
    intro _ st g H n Q hs hg hq
    refine za.tparser (st' := (VM.stmtF 0 st).2) hg (fun hgn => ?_) hq
    suffices main : ∀ Q : QT, TsQ s H n g (VM.stmtF 0 st).1 (VM.stmtF 0 st).2 Q → za Tryd.prog 65 [.ptr g 0, .int .i64 (11 - ((0 : Nat) : Int))] H n Q from main _ fun v H' n' a b c => ⟨a, b, c⟩
    intro Q hq
    refine zdo _ _ _ _ _ ?_
    simp [zct]
    have h0 : TxB s H n g 11 st (((H.put n (some (.row 1 [.ptr g 0]))).put (n + 1) (some (.row 1 [.int .i64 11]))).put (n + 2) (some (.row 5 [.int .i64 0, .str [], .nils, .nils, .nils]))) :=
      ⟨by rw [Heap.put_ne _ _ (by omega), Heap.put_ne _ _ (by omega), Heap.put_at], by rw [Heap.put_ne _ _ (by omega), Heap.put_at], ⟨_, Heap.put_at _ _ _, rfl⟩, by rw [Heap.put_ne _ _ (by omega), Heap.put_ne _ _ (by omega), Heap.put_ne _ _ (by omega)]; exact hg, hs, hgn, fun y hy _ => by rw [Heap.put_ne _ _ (by omega), Heap.put_ne _ _ (by omega), Heap.put_ne _ _ (by omega)]⟩
    generalize Heap.put (Heap.put (Heap.put H n _) (n + 1) _) (n + 2) _ = H3 at h0 ⊢
    refine zke h0.rg ?_
    rw [if_neg (by omega)]
    have h1 := h0.put (st' := VM.badF 9 st) h0.suf
    obtain ⟨cs, r2, r2l⟩ := h1.r2
    generalize H3.put g _ = H4 at h1 r2 ⊢
    simp [zbc, r2, r2l]
    have := h1.cell (k := 0) (m := n + 3) (by omega)
    refine hq _ _ _ ?_ (by rw [Heap.put_ne _ _ (by omega)]; exact h1.rg) fun y hy hne => by rw [Heap.put_ne _ _ (by omega)]; exact h1.keep y hy hne
    show Frz _ _ _ (.agg (Sm.avs (.mk 0 [] [] [] [])))
    rw [zgn]
    exact FL.agg (.cons (.same _ (.int _ _)) (.cons (.same _ (.str _)) (.cons .nils (.cons .nils (.cons .nils .nil)))))
  | succ d ih =>
    intro hd st g H n Q hs hg hq
    have hS := ih (by omega)
    have hE := zty hl d (by omega)
    refine za.tparser (st' := (VM.stmtF (d + 1) st).2) hg (fun hgn => ?_) hq
    suffices main : ∀ Q : QT, TsQ s H n g (VM.stmtF (d + 1) st).1 (VM.stmtF (d + 1) st).2 Q → za Tryd.prog 65 [.ptr g 0, .int .i64 (11 - ((d + 1 : Nat) : Int))] H n Q from main _ fun v H' n' a b c => ⟨a, b, c⟩
    intro Q hq
    have hz : (11 : Int) - ((d + 1 : Nat) : Int) = 10 - (d : Int) := by omega
    rw [hz]
    refine zdo _ _ _ _ _ ?_
    simp [zct]
    have h0 : TxB s H n g (10 - (d : Int)) st (((H.put n (some (.row 1 [.ptr g 0]))).put (n + 1) (some (.row 1 [.int .i64 (10 - (d : Int))]))).put (n + 2) (some (.row 5 [.int .i64 0, .str [], .nils, .nils, .nils]))) :=
      ⟨by rw [Heap.put_ne _ _ (by omega), Heap.put_ne _ _ (by omega), Heap.put_at], by rw [Heap.put_ne _ _ (by omega), Heap.put_at], ⟨_, Heap.put_at _ _ _, rfl⟩, by rw [Heap.put_ne _ _ (by omega), Heap.put_ne _ _ (by omega), Heap.put_ne _ _ (by omega)]; exact hg, hs, hgn, fun y hy _ => by rw [Heap.put_ne _ _ (by omega), Heap.put_ne _ _ (by omega), Heap.put_ne _ _ (by omega)]⟩
    generalize Heap.put (Heap.put (Heap.put H n _) (n + 1) _) (n + 2) _ = H3 at h0 ⊢
    have hd10 : (10 : Int) - (d : Int) ≤ 10 := by omega
    refine zke h0.rg ?_
    rw [if_pos hd10, Heap.put_same h0.rg]
    have r0 := h0.r0
    by_cases he : st.2 = 0
    · rw [VM.stmtF_succ he] at hq
      simp [zbc, he, hd10, r0]
      refine zdc (by decide) hl h0.suf h0.rg ?_
      have h1 := h0.put (zy (c := 40) h0.suf)
      generalize H3.put g _ = H4 at h1 ⊢
      have r0 := h1.r0
      simp [zel, r0]
      refine zkc hl h1.suf h1.rg ?_
      have h2 := h1.put (zkg h1.suf)
      generalize H4.put g _ = H5 at h2 ⊢
      exact ztv hE hS hl (by omega) h2 (by omega) hq
    · have hz : VM.stmtF (d + 1) st = (VM.sm0, st) := by unfold VM.stmtF; rw [if_pos he]
      rw [hz] at hq
      obtain ⟨cs, r2, r2l⟩ := h0.r2
      simp [zbc, he, r2, r2l]
      refine hq _ _ _ ?_ (by rw [Heap.put_ne _ _ (by omega)]; exact h0.rg) fun y hy hne => by rw [Heap.put_ne _ _ (by omega)]; exact h0.keep y hy hne
      show Frz _ _ _ (.agg (Sm.avs (.mk 0 [] [] [] [])))
      rw [zgn]
      exact FL.agg (.cons (.same _ (.int _ _)) (.cons (.same _ (.str _)) (.cons .nils (.cons .nils (.cons .nils .nil)))))
end Go.Proofs.YtpllgpgdcbgalaaDoor
