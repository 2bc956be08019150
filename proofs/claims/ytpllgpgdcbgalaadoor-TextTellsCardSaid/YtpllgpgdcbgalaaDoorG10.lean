/- The program's parser: forms; expressions as a whole. The program's parser: a statement's expressions. The program's parser: statements. The program's parser: statements, as a whole. The program's parser: statements, as a whole. The program's parser: texts as a whole. scope: expressions. scope: names of one's own. scope: blocks. scope: statements. scope: blocks as a whole. scope: a statement's expressions, and blocks. scope: Check. scope: Check, as a whole. The document's Check: its memory. The document's Check: expressions. The document's Check: expressions, one behind the other. The document's Check: statements. The document's Check: a statement behind its expressions. The document's Check: a statement's expressions, and blocks. The document's Check, as a whole. The document's Check, as a whole. How much there is in what was parsed: no more than the text has bytes; the laws on chapter 4. -/
import Derived.Test.YtpllgpgdcbgalaaDoorG9
set_option linter.unusedSimpArgs false
set_option linter.unusedVariables false
set_option maxRecDepth 8000
namespace Go.Proofs.YtpllgpgdcbgalaaDoor
open Go Go.RowKit
theorem zabq : ∀ i, i < 5 → VM.headOf (ops5.getD i []) = some (4, (i : Int) + 1, 2) := by decide
theorem zabp : ∀ i, i < 6 → VM.headOf (ops6.getD i []) = some (5 + (i : Int), 0, (zip.getD i 0).toNat) := by decide
theorem zxd {w : Str} (h5 : ∀ j, j < 5 → w ≠ ops5.getD j []) (h6 : ∀ j, j < 6 → w ≠ ops6.getD j []) : VM.headOf w = none := by
  have a0 := h5 0 (by omega)
  have a1 := h5 1 (by omega)
  have a2 := h5 2 (by omega)
  have a3 := h5 3 (by omega)
  have a4 := h5 4 (by omega)
  have b0 := h6 0 (by omega)
  have b1 := h6 1 (by omega)
  have b2 := h6 2 (by omega)
  have b3 := h6 3 (by omega)
  have b4 := h6 4 (by omega)
  have b5 := h6 5 (by omega)
  simp [ops5, ops6] at a0 a1 a2 a3 a4 b0 b1 b2 b3 b4 b5
  simp [VM.headOf, a0, a1, a2, a3, a4, b0, b1, b2, b3, b4, b5]
def zkx : List AV := [AV.str [99, 101, 108, 108], AV.int IntKind.i64 5, AV.int IntKind.i64 2, AV.str [108, 101, 102, 116], AV.int IntKind.i64 6, AV.int IntKind.i64 1, AV.str [114, 105, 103, 104, 116], AV.int IntKind.i64 7, AV.int IntKind.i64 1, AV.str [97, 115, 107], AV.int IntKind.i64 8, AV.int IntKind.i64 1, AV.str [104, 101, 114, 101], AV.int IntKind.i64 9, AV.int IntKind.i64 0, AV.str [103, 111], AV.int IntKind.i64 10, AV.int IntKind.i64 1]
theorem zaag : ∀ i, i < 6 → (zkx.drop (i * 3)).take 3 = [AV.str (ops6.getD i []), .int .i64 (5 + (i : Int)), .int .i64 (zip.getD i 0)] := by
  intro i hi
  have : i = 0 ∨ i = 1 ∨ i = 2 ∨ i = 3 ∨ i = 4 ∨ i = 5 := by omega
  rcases this with rfl | rfl | rfl | rfl | rfl | rfl <;> rfl
section
variable {s : Str} {H0 : Heap} {n g d : Nat} {Q : QT}
theorem zya (hE : zca s d) (hl : s.length ≤ 1500) (hd : d ≤ 11) {H : Heap} {m : Nat} {st : VM.St} {w : Str} {a4 a5 a6 : AV} (h : TxE s H0 n g st H m) (hw : VM.headOf w = none) (hwl : w.length ≤ 1500)
    (hq : TxQ s H0 n g (VM.formF (VM.exprF d) w st).1 (VM.formF (VM.exprF d) w st).2 Q) :
    za Tryd.prog 23 [.str w] H m (zcg [.ptr g 0, .int .i64 (10 - (d : Int)), .ptr n 0, .str w, a4, a5, a6] Q) := by
  unfold VM.formF at hq
  rw [hw] at hq
  simp only at hq
  have hwr : IntKind.i64.wrap (10 - (d : Int) + 1) = 11 - (d : Int) := by rw [i64w (by omega)]; omega
  have go : ∀ st1 H1, TxE s H0 n g st1 H1 m → st1 = (if VM.name w then st else VM.badF 7 st) → za Tryd.prog 88 [.ptr g 0, .int .i64 (11 - (d : Int))] H1 m (zas [.ptr g 0, .int .i64 (10 - (d : Int)), .ptr n 0, .str w, a4, a5, a6] Q) := by
    intro st1 H1 h1 e1
    rw [← e1] at hq
    refine zoj hE hl h1.suf h1.rg ?_
    have h2 := h1.put (zee (zef d) st1 h1.suf)
    generalize H1.put g _ = H2 at h2 ⊢
    generalize VM.manyF (VM.exprF d) st1 = r at *
    obtain ⟨l, st2⟩ := r
    simp only at *
    have gn := h2.gn
    have nm := h2.nm
    have h3 : TxE s H0 n g st2 (H2.put m (some (.row 4 [.int .i64 11, .int .i64 0, .str w, .ro (l.map Ex.avs)]))) (m + 1) := h2.new (Nat.le_refl _) (by omega)
    have hexl : Ex.avs (.mk 11 0 w l) = [.int .i64 11, .int .i64 0, .str w, .ro (l.map Ex.avs)] := zfc _ _ _ _
    have ne_0 : n ≠ m ∧ m ≠ n := ⟨by omega, by omega⟩
    by_cases h4 : l.length ≤ 4
    · have h4' : ¬ (4 : Int) < l.length := by omega
      rw [if_pos h4] at hq
      obtain ⟨cs, r2, r2l⟩ := h3.rx
      rw [Heap.put_ne _ _ (by omega)] at r2
      simp [zas, h4', r2, r2l, ne_0]
      have := h3.form hq (o := some (.row 4 ((Ex.mk 11 0 w l).avs ++ cs.drop 4))) (m + 1)
      rw [hexl] at this
      exact ⟨by rintro _ ((rfl | rfl | rfl) | rfl) <;> rfl, this⟩
    · have h4' : (4 : Int) < l.length := by omega
      rw [if_neg h4] at hq
      simp [zas, h4']
      refine ⟨by rintro _ ((rfl | rfl | rfl) | rfl) <;> rfl, ?_⟩
      refine zaw h3.rg ?_
      have h5 := h3.put (st' := VM.badF 5 st2) h3.suf
      have hm : ((H2.put m (some (.row 4 [.int .i64 11, .int .i64 0, .str w, .ro (l.map Ex.avs)]))).put g (some (PT s (VM.badF 5 st2)))) m = some (.row 4 [.int .i64 11, .int .i64 0, .str w, .ro (l.map Ex.avs)]) := by rw [Heap.put_ne _ _ (by omega), Heap.put_at]
      obtain ⟨cs, r2, r2l⟩ := h5.rx
      generalize Heap.put (H2.put m _) g _ = H5 at h5 hm r2 ⊢
      simp [zht, hm, r2, r2l]
      have := h5.form hq (o := some (.row 4 ((Ex.mk 11 0 w l).avs ++ cs.drop 4))) (m + 1)
      rw [hexl] at this
      exact this
  refine (znk w (by unfold maxLen; omega)).call ?_
  by_cases hnm : VM.name w = true
  · have := go st H h (by rw [if_pos hnm])
    simp [zcg, hnm, hwr]
    exact this
  · have hnm' : VM.name w = false := by simpa using hnm
    simp [zcg, hnm']
    refine zaw h.rg ?_
    have := go (VM.badF 7 st) _ (h.put (st' := VM.badF 7 st) h.suf) (by rw [if_neg hnm])
    simp [zhs, hwr]
    exact this
set_option maxHeartbeats 1000000 in
theorem zxy (hE : zca s d) (hl : s.length ≤ 1500) (hd : d ≤ 11) {H : Heap} {m gk : Nat} {st : VM.St} {w : Str} (h : TxE s H0 n g st H m) (hkm : gk < m) (hk : H gk = some (.row 3 zkx)) (h5 : ∀ j, j < 5 → w ≠ ops5.getD j []) (hwl : w.length ≤ 1500)
    (hq : TxQ s H0 n g (VM.formF (VM.exprF d) w st).1 (VM.formF (VM.exprF d) w st).2 Q) :
    LP (zcf Q) [.ptr g 0, .int .i64 (10 - (d : Int)), .ptr n 0, .str w, .slc gk 0 6, .int .i64 6, .int .i64 0] H m := by
  refine LP.mk (fun k xs H' m' => ∃ i : Nat, i + k = 6 ∧ xs = [.ptr g 0, .int .i64 (10 - (d : Int)), .ptr n 0, .str w, .slc gk 0 6, .int .i64 6, .int .i64 i] ∧ TxE s H0 n g st H' m' ∧ gk < m' ∧ H' gk = some (.row 3 zkx) ∧ ∀ j, j < i → w ≠ ops6.getD j []) 6 ⟨0, by omega, rfl, h, hkm, hk, by omega⟩ ?_
  rintro k xs H' m' ⟨i, hik, rfl, h, hkm, hk, hno⟩
  generalize hJ : (fun (xs : List AV) (H' : Heap) (m' : Nat) => ∃ k', k' < k ∧ ∃ i : Nat, i + k' = 6 ∧ xs = [.ptr g 0, .int .i64 (10 - (d : Int)), .ptr n 0, .str w, .slc gk 0 6, .int .i64 6, .int .i64 i] ∧ TxE s H0 n g st H' m' ∧ gk < m' ∧ H' gk = some (.row 3 zkx) ∧ ∀ j, j < i → w ≠ ops6.getD j []) = J
  cases k with
  | zero =>
    obtain rfl : i = 6 := by omega
    simp [zcf]
    exact zya hE hl hd h (zxd h5 hno) hwl hq
  | succ k =>
    have hlt : i < 6 := by omega
    have hi' : (i : Int) < 6 := by omega
    have hi0 : (0 : Int) ≤ i := by omega
    have hat := zaag i hlt
    have hwr : IntKind.i64.wrap ((i : Int) + 1) = (i : Int) + 1 := i64w (by omega)
    have hwd : IntKind.i64.wrap (10 - (d : Int) + 1) = 11 - (d : Int) := by rw [i64w (by omega)]; omega
    have hle : i * 3 + 3 ≤ zkx.length := by show i * 3 + 3 ≤ 18; omega
    have gn := h.gn
    have nm := h.nm
    have h6 := zabp i hlt
    have hwt0 : 0 ≤ zip.getD i 0 := by
      have : i = 0 ∨ i = 1 ∨ i = 2 ∨ i = 3 ∨ i = 4 ∨ i = 5 := by omega
      rcases this with rfl | rfl | rfl | rfl | rfl | rfl <;> decide
    have hone : ops6.getD i [] = w → ∀ j, j < i → w ≠ ops6.getD j [] := fun _ => hno
    generalize hop : ops6.getD i [] = op at *
    generalize hwt : zip.getD i 0 = wt at *
    have h1 : TxE s H0 n g st (H'.put m' (some (.row 3 [.str op, .int .i64 (5 + (i : Int)), .int .i64 wt]))) (m' + 1) := h.new (Nat.le_refl _) (by omega)
    have hk1 : (H'.put m' (some (.row 3 [.str op, .int .i64 (5 + (i : Int)), .int .i64 wt]))) gk = some (.row 3 zkx) := by rw [Heap.put_ne _ _ (by omega)]; exact hk
    simp [zcf, hi', hi0, hk, hle, hat]
    refine ⟨fun he => ?_, fun hne => ?_⟩
    · subst he
      unfold VM.formF at hq
      rw [h6] at hq
      simp only at hq
      refine zj.texprs hE hl hwd h1.suf h1.rg ?_
      have h2 := h1.put (zee (zef d) st h1.suf)
      have hm2 : ((H'.put m' (some (.row 3 [.str w, .int .i64 (5 + (i : Int)), .int .i64 wt]))).put g (some (PT s (VM.manyF (VM.exprF d) st).2))) m' = some (.row 3 [.str w, .int .i64 (5 + (i : Int)), .int .i64 wt]) := by rw [Heap.put_ne _ _ (by omega), Heap.put_at]
      have hm1 : (H'.put m' (some (.row 3 [.str w, .int .i64 (5 + (i : Int)), .int .i64 wt]))) m' = some (.row 3 [.str w, .int .i64 (5 + (i : Int)), .int .i64 wt]) := Heap.put_at _ _ _
      generalize VM.manyF (VM.exprF d) st = r at *
      obtain ⟨l, st2⟩ := r
      simp only at *
      have hst : (if (l.length : Int) = wt then st2 else VM.badF 5 st2) = (if l.length = wt.toNat then st2 else VM.badF 5 st2) := by
        by_cases hl : l.length = wt.toNat
        · rw [if_pos hl, if_pos (by omega)]
        · rw [if_neg hl, if_neg (by omega)]
      have hexl : Ex.avs (.mk (5 + (i : Int)) 0 [] l) = [.int .i64 (5 + (i : Int)), .int .i64 0, .str [], .ro (l.map Ex.avs)] := zfc _ _ _ _
      have hq' : TxQ s H0 n g (.mk (5 + (i : Int)) 0 [] l) (if (l.length : Int) = wt then st2 else VM.badF 5 st2) Q := by
        rw [hst]
        by_cases hl : l.length = wt.toNat
        · rw [if_pos hl] at hq ⊢; exact hq
        · rw [if_neg hl] at hq ⊢; exact hq
      have h3 := h2.put (st' := if (l.length : Int) = wt then st2 else VM.badF 5 st2) (by split <;> exact h2.suf)
      have ne_1 : n ≠ g ∧ g ≠ n ∧ n ≠ m' ∧ m' ≠ n ∧ g ≠ m' ∧ m' ≠ g := ⟨by omega, by omega, by omega, by omega, by omega, by omega⟩
      simp [zhu, Heap.apply, ne_1]
      refine zj.tcount (s := s) (st := st2) (by simp) ?_
      generalize hst4 : (if (l.length : Int) = wt then st2 else VM.badF 5 st2) = st4 at *
      obtain ⟨cs, r2, r2l⟩ := h3.rx
      rw [Heap.put_put] at r2 h3
      rw [Heap.put_ne _ _ (by omega), Heap.put_ne _ _ (by omega)] at r2
      have xl := zbc (.mk (5 + (i : Int)) 0 [] l)
      have xo := zgo (.mk (5 + (i : Int)) 0 [] l)
      have fin := fun o => h3.form hq' (o := o) (m' + 1)
      generalize (Ex.mk (5 + (i : Int)) 0 [] l).avs = xa at *
      have xt : (xa ++ cs.drop 4).take 4 = xa := by rw [List.take_append, List.take_of_length_le (by omega), xl]; simp
      simp [zhv, Heap.apply, r2, r2l, xl, xt, ne_1]
      exact ⟨xo, fin _⟩
    · simp only [hwr]
      rw [← hJ]
      exact ⟨k, by omega, i + 1, by omega, rfl, h1, by omega, hk1, fun j hj => by
        by_cases hji : j = i
        · subst hji; rw [hop]; exact hne
        · exact hno j (by omega)⟩
set_option maxHeartbeats 1000000 in
theorem zxx (hE : zca s d) (hl : s.length ≤ 1500) (hd : d ≤ 11) {H : Heap} {m gk : Nat} {st : VM.St} {w : Str} (h : TxE s H0 n g st H m) (hk : H gk = some (.row 1 (ops5.map AV.str))) (hwl : w.length ≤ 1500)
    (hq : TxQ s H0 n g (VM.formF (VM.exprF d) w st).1 (VM.formF (VM.exprF d) w st).2 Q) :
    LP (zar Q) [.ptr g 0, .int .i64 (10 - (d : Int)), .ptr n 0, .str w, .slc gk 0 5, .int .i64 5, .int .i64 0] H m := by
  refine LP.mk (fun k xs H' m' => ∃ i : Nat, i + k = 5 ∧ xs = [.ptr g 0, .int .i64 (10 - (d : Int)), .ptr n 0, .str w, .slc gk 0 5, .int .i64 5, .int .i64 i] ∧ TxE s H0 n g st H' m' ∧ H' gk = some (.row 1 (ops5.map AV.str)) ∧ ∀ j, j < i → w ≠ ops5.getD j []) 5 ⟨0, by omega, rfl, h, hk, by omega⟩ ?_
  rintro k xs H' m' ⟨i, hik, rfl, h, hk, hno⟩
  generalize hJ : (fun (xs : List AV) (H' : Heap) (m' : Nat) => ∃ k', k' < k ∧ ∃ i : Nat, i + k' = 5 ∧ xs = [.ptr g 0, .int .i64 (10 - (d : Int)), .ptr n 0, .str w, .slc gk 0 5, .int .i64 5, .int .i64 i] ∧ TxE s H0 n g st H' m' ∧ H' gk = some (.row 1 (ops5.map AV.str)) ∧ ∀ j, j < i → w ≠ ops5.getD j []) = J
  have gn := h.gn
  have nm := h.nm
  cases k with
  | zero =>
    obtain rfl : i = 5 := by omega
    have hkr : AObj.row 3 zkx = AObj.row 3 [AV.str [99, 101, 108, 108], AV.int IntKind.i64 5, AV.int IntKind.i64 2, AV.str [108, 101, 102, 116], AV.int IntKind.i64 6, AV.int IntKind.i64 1, AV.str [114, 105, 103, 104, 116], AV.int IntKind.i64 7, AV.int IntKind.i64 1, AV.str [97, 115, 107], AV.int IntKind.i64 8, AV.int IntKind.i64 1, AV.str [104, 101, 114, 101], AV.int IntKind.i64 9, AV.int IntKind.i64 0, AV.str [103, 111], AV.int IntKind.i64 10, AV.int IntKind.i64 1] := rfl
    simp only [zar, ← hkr]
    simp
    exact zxy hE hl hd (h.new (Nat.le_refl _) (by omega)) (by omega) (Heap.put_at _ _ _) hno hwl hq
  | succ k =>
    have hlt : i < 5 := by omega
    have hi' : (i : Int) < 5 := by omega
    have hi0 : (0 : Int) ≤ i := by omega
    have hx : (ops5.map AV.str)[i]? = some (.str (ops5.getD i [])) := by
      have : i = 0 ∨ i = 1 ∨ i = 2 ∨ i = 3 ∨ i = 4 := by omega
      rcases this with rfl | rfl | rfl | rfl | rfl <;> rfl
    have hwr : IntKind.i64.wrap ((i : Int) + 1) = (i : Int) + 1 := i64w (by omega)
    have hwd : IntKind.i64.wrap (10 - (d : Int) + 1) = 11 - (d : Int) := by rw [i64w (by omega)]; omega
    have h5 := zabq i hlt
    generalize hop : ops5.getD i [] = op at *
    by_cases he : w = op
    · subst he
      unfold VM.formF at hq
      rw [h5] at hq
      simp only at hq
      simp [zar, hi', hi0, hk, hx, hwr, hwd]
      refine zoj hE hl h.suf h.rg ?_
      have h2 := h.put (zee (zef d) st h.suf)
      generalize VM.manyF (VM.exprF d) st = r at *
      obtain ⟨l, st2⟩ := r
      simp only at *
      have hst : (if (l.length : Int) = 2 then st2 else VM.badF 5 st2) = (if l.length = 2 then st2 else VM.badF 5 st2) := by
        by_cases hl : l.length = 2
        · rw [if_pos hl, if_pos (by omega)]
        · rw [if_neg hl, if_neg (by omega)]
      have hq' : TxQ s H0 n g (.mk 4 ((i : Int) + 1) [] l) (if (l.length : Int) = 2 then st2 else VM.badF 5 st2) Q := by
        rw [hst]
        by_cases hl : l.length = 2
        · rw [if_pos hl] at hq ⊢; exact hq
        · rw [if_neg hl] at hq ⊢; exact hq
      generalize H'.put g _ = H2 at h2 ⊢
      have h3 := h2.put (st' := if (l.length : Int) = 2 then st2 else VM.badF 5 st2) (by split <;> exact h2.suf)
      simp [zhw]
      refine zrt h2.rg ?_
      generalize hst4 : (if (l.length : Int) = 2 then st2 else VM.badF 5 st2) = st4 at *
      obtain ⟨cs, r2, r2l⟩ := h3.rx
      generalize H2.put g _ = H3 at h3 r2 ⊢
      have xl := zbc (.mk 4 ((i : Int) + 1) [] l)
      have xo := zgo (.mk 4 ((i : Int) + 1) [] l)
      have fin := fun o => h3.form hq' (o := o) m'
      generalize (Ex.mk 4 ((i : Int) + 1) [] l).avs = xa at *
      have xt : (xa ++ cs.drop 4).take 4 = xa := by rw [List.take_append, List.take_of_length_le (by omega), xl]; simp
      simp [zhx, r2, r2l, xl, xt]
      exact ⟨xo, fin _⟩
    · simp [zar, hi', hi0, hk, hx, he, hwr]
      rw [← hJ]
      exact ⟨k, by omega, i + 1, by omega, rfl, h, hk, fun j hj => by
        by_cases hji : j = i
        · subst hji; rw [hop]; exact he
        · exact hno j (by omega)⟩
set_option maxHeartbeats 1000000 in
theorem zxz (hl : s.length ≤ 1500) : ∀ d, d ≤ 11 → zca s d := by
  intro d
  induction d with
  | zero =>
    intro _ st g H n Q hs hg hq
    refine za.tparser (st' := (VM.exprF 0 st).2) hg (fun hgn => ?_) hq
    suffices main : ∀ Q : QT, TxQ s H n g (VM.exprF 0 st).1 (VM.exprF 0 st).2 Q → za Tryd.prog 76 [.ptr g 0, .int .i64 (11 - ((0 : Nat) : Int))] H n Q from main _ fun v H' n' a b c => ⟨a, b, c⟩
    intro Q hq
    refine zez _ _ _ _ _ ?_
    simp [zdw]
    have h0 : TxE s H n g st (H.put n (some (.row 4 [.int .i64 0, .int .i64 0, .str [], .nils]))) (n + 1) :=
      ⟨by rw [Heap.put_ne _ _ (by omega)]; exact hg, ⟨_, Heap.put_at _ _ _, rfl⟩, hs, hgn, by omega, fun y hy _ => Heap.put_ne _ _ (by omega)⟩
    generalize H.put n _ = H1 at h0 ⊢
    refine znf h0.rg ?_
    rw [if_neg (by omega)]
    have h1 := h0.put (st' := VM.badF 9 st) h0.suf
    obtain ⟨cs, r2, r2l⟩ := h1.rx
    generalize H1.put g _ = H2 at h1 r2 ⊢
    simp [zbm, r2, r2l]
    exact h1.leaf hq _
  | succ d ih =>
    intro hd st g H n Q hs hg hq
    have hE := ih (by omega)
    refine za.tparser (st' := (VM.exprF (d + 1) st).2) hg (fun hgn => ?_) hq
    suffices main : ∀ Q : QT, TxQ s H n g (VM.exprF (d + 1) st).1 (VM.exprF (d + 1) st).2 Q → za Tryd.prog 76 [.ptr g 0, .int .i64 (11 - ((d + 1 : Nat) : Int))] H n Q from main _ fun v H' n' a b c => ⟨a, b, c⟩
    intro Q hq
    have hz : (11 : Int) - ((d + 1 : Nat) : Int) = 10 - (d : Int) := by omega
    rw [hz]
    refine zez _ _ _ _ _ ?_
    simp [zdw]
    have h0 : TxE s H n g st (H.put n (some (.row 4 [.int .i64 0, .int .i64 0, .str [], .nils]))) (n + 1) :=
      ⟨by rw [Heap.put_ne _ _ (by omega)]; exact hg, ⟨_, Heap.put_at _ _ _, rfl⟩, hs, hgn, by omega, fun y hy _ => Heap.put_ne _ _ (by omega)⟩
    generalize H.put n _ = H1 at h0 ⊢
    refine znf h0.rg ?_
    rw [if_pos (show (10 : Int) - (d : Int) ≤ 10 by omega), Heap.put_same h0.rg]
    have hd10 : (10 : Int) - (d : Int) ≤ 10 := by omega
    unfold VM.exprF at hq
    by_cases he : st.2 = 0
    · rw [if_neg (by simpa using he)] at hq
      have hd11 : ¬ (10 : Int) < 10 - (d : Int) := by omega
      simp [zbm, he, hd10]
      refine zia hl h0.suf h0.rg ?_
      have h1 := h0.put (st' := (VM.trim st.1, st.2)) (zbd h0.suf)
      generalize H1.put g _ = H2 at h1 ⊢
      by_cases h39 : VM.nxt st.1 = 39
      · rw [if_pos h39] at hq
        obtain ⟨c, r, hc⟩ := zem (b := st.1) (by rw [h39]; decide)
        have hc39 : c = 39 := by
          have e := h39
          unfold VM.nxt at e
          rw [hc] at e
          simp only at e
          split at e
          · cases e
          · exact UInt8.toNat_inj.1 (by show c.toNat = 39; omega)
        subst hc39
        rw [hc] at hq h1
        simp [zbn, h39]
        refine zvj hl h1.suf h1.rg fun w st' e => ?_
        rw [e] at hq
        have hs' : st'.1 <:+ s := by
          have := zef (s := s) 1 (39 :: r, 0) h1.suf
          unfold VM.quotedF at e
          have h2 : (((39 :: r : Str).drop 1).dropWhile (· != 39)).drop 1 <:+ s := zib 1 ((List.dropWhile_suffix _).trans (zib 1 h1.suf))
          split at e
          · cases e
            split
            · exact h2
            · exact h2
          · cases e
            exact zib 1 h1.suf
        have h3 := h1.put (st' := st') hs'
        obtain ⟨cs, r2, r2l⟩ := h3.rx
        generalize H2.put g _ = H3 at h3 r2 ⊢
        simp [zhy, r2, r2l]
        exact ⟨by rintro _ ((rfl | rfl) | rfl | rfl) <;> rfl, h3.leaf hq _⟩
      · rw [if_neg h39] at hq
        by_cases h40 : VM.nxt st.1 = 40
        · rw [if_neg (by simpa using h40)] at hq
          obtain ⟨c, r, hc⟩ := zem (b := st.1) (by rw [h40]; decide)
          rw [hc] at hq h1
          obtain ⟨p, hp⟩ := h1.suf
          have hg2 : H2 g = some (.row 3 [.str s, .int .i64 (p.length : Int), .int .i64 st.2]) := by
            rw [h1.rg, ← hp, zil]
          have hpl : p.length ≤ 1500 := by rw [← hp, List.length_append] at hl; omega
          have hwp : IntKind.i64.wrap ((p.length : Int) + 1) = (p.length : Int) + 1 := i64w (by omega)
          have e1 : PT s (r, st.2) = .row 3 [.str s, .int .i64 ((p.length : Int) + 1), .int .i64 st.2] := by
            have := zil (p ++ [c]) r st.2
            rw [List.append_assoc] at this
            simp only [List.cons_append, List.nil_append, List.length_append, List.length_cons, List.length_nil] at this
            rw [hp] at this
            rw [this]
            simp
          have hsr : r <:+ s := ⟨p ++ [c], by simpa using hp⟩
          simp [zbn, h40, hg2, hwp]
          rw [← e1]
          have h3 := h1.put (st' := (r, st.2)) hsr
          generalize H2.put g _ = H3 at h3 ⊢
          refine znd hl h3.suf h3.rg ?_
          have hwl := zij (r, st.2)
          have hrl := hsr.length_le
          have h4 := h3.put (zng h3.suf)
          generalize H3.put g _ = H4 at h4 ⊢
          rw [show (c :: r).drop 1 = r from rfl] at hq
          generalize VM.wF (r, st.2) = ws at *
          obtain ⟨w, s1⟩ := ws
          simp only at *
          unfold zge
          refine zqb _ _ _ ?_
          have hk5 : AObj.row 1 (ops5.map AV.str) = AObj.row 1 [AV.str [43], AV.str [45], AV.str [42], AV.str [60], AV.str [61]] := rfl
          simp only [zny, ← hk5]
          simp [zgf]
          exact zxx hE hl (by omega) (h4.new (Nat.le_refl _) (by omega)) (Heap.put_at _ _ _) (by omega) hq
        · rw [if_pos h40] at hq
          simp [zbn, h39, h40]
          exact zwo hl h1 hq
    · rw [if_pos he] at hq
      obtain ⟨cs, r2, r2l⟩ := h0.rx
      simp [zbm, he, r2, r2l]
      exact h0.leaf hq _
end
end Go.Proofs.YtpllgpgdcbgalaaDoor
set_option maxRecDepth 8000
namespace Go.Proofs.YtpllgpgdcbgalaaDoor
open Go Go.RowKit
structure TxS (s : Str) (H0 : Heap) (n g gx : Nat) (dz k : Int) (nm : Str) (l : List Ex) (T E : AV) (st : VM.St) (H : Heap) (m : Nat) : Prop where
  r0 : H n = some (.row 1 [.ptr g 0])
  r1 : H (n + 1) = some (.row 1 [.int .i64 dz])
  r2 : ∃ cs, H (n + 2) = some (.row 5 cs) ∧ cs.length = 5
  rx : ∃ A, H gx = some (.row 5 [.int .i64 k, .str nm, A, T, E]) ∧ ArgS H (n + 3) m gx l A
  rg : H g = some (PT s st)
  suf : st.1 <:+ s
  gn : g < n
  gx0 : n + 3 ≤ gx
  gx1 : gx < m
  keep : ∀ y, y < n → y ≠ g → H y = H0 y
section
variable {s : Str} {H0 H : Heap} {n g gx m : Nat} {dz k : Int} {nm : Str} {l : List Ex} {T E : AV} {st st' : VM.St}
theorem TxS.put (h : TxS s H0 n g gx dz k nm l T E st H m) (hs : st'.1 <:+ s) : TxS s H0 n g gx dz k nm l T E st' (H.put g (some (PT s st'))) m := by
  have hb := h.gn
  have hx := h.gx0
  obtain ⟨cs, h2, h3⟩ := h.r2
  obtain ⟨A, h4, h5⟩ := h.rx
  exact ⟨by rw [Heap.put_ne _ _ (by omega)]; exact h.r0, by rw [Heap.put_ne _ _ (by omega)]; exact h.r1, ⟨cs, by rw [Heap.put_ne _ _ (by omega)]; exact h2, h3⟩, ⟨A, by rw [Heap.put_ne _ _ (by omega)]; exact h4, h5.keep (Nat.le_refl _) fun y hy _ _ => Heap.put_ne _ _ (by omega)⟩, Heap.put_at _ _ _, hs, hb, hx, h.gx1, fun y hy hne => by rw [Heap.put_ne _ _ hne]; exact h.keep y hy hne⟩
theorem TxS.set {k' : Int} {nm' : Str} {T' E' A : AV} (h : TxS s H0 n g gx dz k nm l T E st H m) (hA : H gx = some (.row 5 [.int .i64 k, .str nm, A, T, E])) : TxS s H0 n g gx dz k' nm' l T' E' st (H.put gx (some (.row 5 [.int .i64 k', .str nm', A, T', E']))) m := by
  have hb := h.gn
  have hx := h.gx0
  obtain ⟨cs, h2, h3⟩ := h.r2
  obtain ⟨A', h4, h5⟩ := h.rx
  rw [hA] at h4
  cases h4
  exact ⟨by rw [Heap.put_ne _ _ (by omega)]; exact h.r0, by rw [Heap.put_ne _ _ (by omega)]; exact h.r1, ⟨cs, by rw [Heap.put_ne _ _ (by omega)]; exact h2, h3⟩, ⟨A, Heap.put_at _ _ _, h5.keep (Nat.le_refl _) fun y _ _ hne => Heap.put_ne _ _ hne⟩, by rw [Heap.put_ne _ _ (by omega)]; exact h.rg, h.suf, hb, hx, h.gx1, fun y hy hne => by rw [Heap.put_ne _ _ (by omega)]; exact h.keep y hy hne⟩
theorem TxS.new {y : Nat} {o : Option AObj} {m' : Nat} (h : TxS s H0 n g gx dz k nm l T E st H m) (hy : m ≤ y) (hm : m ≤ m') : TxS s H0 n g gx dz k nm l T E st (H.put y o) m' := by
  have hb := h.gn
  have hx := h.gx0
  have hx1 := h.gx1
  obtain ⟨cs, h2, h3⟩ := h.r2
  obtain ⟨A, h4, h5⟩ := h.rx
  exact ⟨by rw [Heap.put_ne _ _ (by omega)]; exact h.r0, by rw [Heap.put_ne _ _ (by omega)]; exact h.r1, ⟨cs, by rw [Heap.put_ne _ _ (by omega)]; exact h2, h3⟩, ⟨A, by rw [Heap.put_ne _ _ (by omega)]; exact h4, h5.keep hm fun z _ hz _ => Heap.put_ne _ _ (by omega)⟩, by rw [Heap.put_ne _ _ (by omega)]; exact h.rg, h.suf, hb, hx, by omega, fun z hz hne => by rw [Heap.put_ne _ _ (by omega)]; exact h.keep z hz hne⟩
theorem TxS.next {HF : Heap} (h : TxS s H0 n g gx dz k nm l T E st H m) (x : Ex) (hs : st'.1 <:+ s) (f1 : HF g = some (PT s st')) (f2 : HF gx = some (.row 5 [.int .i64 k, .str nm, .slc (m + 1) 0 (l.length + 1), T, E])) (f3 : HF (m + 1) = some (.row 4 (rowE (l ++ [x]))))
    (f4 : ∀ y, y < n + 3 → y ≠ g → HF y = H y) : TxS s H0 n g gx dz k nm (l ++ [x]) T E st' HF (m + 2) := by
  have hb := h.gn
  have hx0 := h.gx0
  have hx1 := h.gx1
  obtain ⟨cs2, r2, r2l⟩ := h.r2
  refine ⟨by rw [f4 n (by omega) (by omega)]; exact h.r0, by rw [f4 _ (by omega) (by omega)]; exact h.r1, ⟨cs2, by rw [f4 _ (by omega) (by omega)]; exact r2, r2l⟩, ⟨_, f2, ?_⟩, f1, hs, hb, hx0, by omega, fun y hy hne => by rw [f4 y (by omega) hne]; exact h.keep y hy hne⟩
  have := ArgS.row (H := HF) (lo := n + 3) (hi := m + 2) (gx := gx) (l := l ++ [x]) (ga := m + 1) (by omega) (by omega) (by omega) f3
  rw [List.length_append] at this
  exact this
end
theorem zj.texpr {s : Str} {d : Nat} (hE : zca s d) {st : VM.St} {g n : Nat} {H : Heap} {z : Int} {kt : Kt} (hz : z = 11 - (d : Int)) (hs : st.1 <:+ s) (hg : H g = some (PT s st)) (hk : kt (.agg (VM.exprF d st).1.avs) [g] [] [(g, some (PT s (VM.exprF d st).2))]) : zj Tryd.prog (.clo 76 []) [.ptr g 0, .int .i64 z] H n kt := by
  subst hz
  exact ⟨_, [g], [], _, .inl rfl, LC.tparser hg (zmv _) fun H n Q h1 h2 => hE st g H n Q hs h1 h2, hk⟩
set_option maxHeartbeats 1000000 in
theorem zmo {s : Str} {d : Nat} (hE : zca s d) {H0 H : Heap} {n g gx m : Nat} {k : Int} {nm : Str} {l : List Ex} {T E : AV} {st : VM.St} {K : QT} (h : TxS s H0 n g gx (10 - (d : Int)) k nm l T E st H m) (hd : d ≤ 11) (hll : l.length ≤ 100)
    (hk : ∀ H' m', TxS s H0 n g gx (10 - (d : Int)) k nm (l ++ [(VM.exprF d st).1]) T E (VM.exprF d st).2 H' m' → K (.tup []) H' m') : za Tryd.prog 75 [.ptr gx 0, .ptr n 0, .ptr (n + 1) 0] H m K := by
  refine zko _ _ _ _ _ _ ?_
  have hb := h.gn
  have hx0 := h.gx0
  have hx1 := h.gx1
  obtain ⟨A, rx, ra⟩ := h.rx
  have r0 := h.r0
  have r1 := h.r1
  have hw : IntKind.i64.wrap (10 - (d : Int) + 1) = 10 - (d : Int) + 1 := i64w (by omega)
  have hsf := zef d st h.suf
  cases ra with
  | nil =>
    simp [zcm, rx, r0, r1, hw]
    refine zj.texpr hE (by omega) h.suf h.rg ?_
    have xl := zbc (VM.exprF d st).1
    have xo := zgo (VM.exprF d st).1
    generalize hxa : (VM.exprF d st).1.avs = xa at xl xo
    have ne_0 : g ≠ n ∧ n ≠ g ∧ g ≠ n + 1 ∧ n + 1 ≠ g ∧ g ≠ gx ∧ gx ≠ g ∧ n ≠ n + 1 ∧ n + 1 ≠ n ∧ n ≠ gx ∧ gx ≠ n ∧ n + 1 ≠ gx ∧ gx ≠ n + 1 ∧ g ≠ m ∧ m ≠ g ∧ g ≠ m + 1 ∧ m + 1 ≠ g ∧ n ≠ m ∧ m ≠ n ∧ n ≠ m + 1 ∧ m + 1 ≠ n ∧ n + 1 ≠ m ∧ m ≠ n + 1 ∧ n + 1 ≠ m + 1 ∧ m + 1 ≠ n + 1 ∧ gx ≠ m ∧ m ≠ gx ∧ gx ≠ m + 1 ∧ m + 1 ≠ gx := ⟨by omega, by omega, by omega, by omega, by omega, by omega, by omega, by omega, by omega, by omega, by omega, by omega, by omega, by omega, by omega, by omega, by omega, by omega, by omega, by omega, by omega, by omega, by omega, by omega, by omega, by omega, by omega, by omega⟩
    simp [zcn, rx, xl, ne_0]
    refine ⟨xo, hk _ _ (h.next _ hsf ?_ ?_ ?_ fun y hy hne => ?_)⟩
    · rw [Heap.put_ne _ _ (by omega), Heap.put_ne _ _ (by omega), Heap.put_ne _ _ (by omega), Heap.put_at]
    · rw [Heap.put_at]; rfl
    · rw [Heap.put_ne _ _ (by omega), Heap.put_at, zlo, hxa]; rfl
    · rw [Heap.put_ne _ _ (by omega), Heap.put_ne _ _ (by omega), Heap.put_ne _ _ (by omega), Heap.put_ne _ _ hne]
  | @row l ga a1 a2 a3 a4 =>
    simp [zcm, rx, r0, r1, hw]
    refine zj.texpr hE (by omega) h.suf h.rg ?_
    have xl := zbc (VM.exprF d st).1
    have xo := zgo (VM.exprF d st).1
    generalize hxa : (VM.exprF d st).1.avs = xa at xl xo
    have rl := zte l
    have h1 : (l.length + 1) * 56 ≤ 140737488355328 := by omega
    have h2 : (l.length : Int) < l.length + 1 := by omega
    have h3 : (rowE l).take (l.length * 4) = rowE l := List.take_of_length_le (by omega)
    have ne_1 : g ≠ n ∧ n ≠ g ∧ g ≠ n + 1 ∧ n + 1 ≠ g ∧ g ≠ gx ∧ gx ≠ g ∧ g ≠ ga ∧ ga ≠ g ∧ n ≠ n + 1 ∧ n + 1 ≠ n ∧ n ≠ gx ∧ gx ≠ n ∧ n ≠ ga ∧ ga ≠ n ∧ n + 1 ≠ gx ∧ gx ≠ n + 1 ∧ n + 1 ≠ ga ∧ ga ≠ n + 1 ∧ gx ≠ ga ∧ ga ≠ gx ∧ g ≠ m ∧ m ≠ g ∧ g ≠ m + 1 ∧ m + 1 ≠ g ∧ n ≠ m ∧ m ≠ n ∧ n ≠ m + 1 ∧ m + 1 ≠ n ∧ n + 1 ≠ m ∧ m ≠ n + 1 ∧ n + 1 ≠ m + 1 ∧ m + 1 ≠ n + 1 ∧ gx ≠ m ∧ m ≠ gx ∧ gx ≠ m + 1 ∧ m + 1 ≠ gx ∧ ga ≠ m ∧ m ≠ ga ∧ ga ≠ m + 1 ∧ m + 1 ≠ ga := ⟨by omega, by omega, by omega, by omega, by omega, by omega, by omega, by omega, by omega, by omega, by omega, by omega, by omega, by omega, by omega, by omega, by omega, by omega, by omega, by omega, by omega, by omega, by omega, by omega, by omega, by omega, by omega, by omega, by omega, by omega, by omega, by omega, by omega, by omega, by omega, by omega, by omega, by omega, by omega, by omega⟩
    simp [zcn, rx, a4, rl, h1, h2, h3, xl, ne_1]
    have h4 : (rowE l ++ [AV.int .i64 0, .int .i64 0, .str [], .nils]).drop (l.length * 4 + 4) = [] := List.drop_of_length_le (by rw [List.length_append, rl]; simp)
    rw [h4]
    refine ⟨xo, hk _ _ (h.next _ hsf ?_ ?_ ?_ fun y hy hne => ?_)⟩
    · rw [Heap.put_ne _ _ (by omega), Heap.put_ne _ _ (by omega), Heap.put_ne _ _ (by omega), Heap.put_ne _ _ (by omega), Heap.put_at]
    · rw [Heap.put_at]
    · rw [Heap.put_ne _ _ (by omega), Heap.put_at, zlo, hxa, List.append_nil]
    · rw [Heap.put_ne _ _ (by omega), Heap.put_ne _ _ (by omega), Heap.put_ne _ _ (by omega), Heap.put_ne _ _ (by omega), Heap.put_ne _ _ hne]
end Go.Proofs.YtpllgpgdcbgalaaDoor
set_option maxRecDepth 8000
namespace Go.Proofs.YtpllgpgdcbgalaaDoor
open Go Go.RowKit
theorem zrx {s : Str} (d : Nat) : ∀ (k : Nat) (st : VM.St), st.1 <:+ s → (VM.timesF (VM.exprF d) k st).2.1 <:+ s
  | 0, st, h => h
  | k + 1, st, h => by unfold VM.timesF; exact zrx d k _ (zef d st h)
theorem zks {s : Str} : ∀ (d : Nat) (st : VM.St), st.1 <:+ s → (VM.stmtF d st).2.1 <:+ s
  | 0, st, h => h
  | d + 1, st, h => by
    have key : ∀ q : VM.St, q.1 <:+ s → (VM.manyF (VM.stmtF d) q).2.1 <:+ s := fun q hq => zee (zks d) q hq
    by_cases hc : st.2 ≠ 0
    · unfold VM.stmtF; rw [if_pos hc]; exact h
    · simp only [VM.stmtF]
      rw [if_neg hc]
      have h1 := zng (zz (c := 40) h)
      generalize VM.wF (VM.mustF 40 st) = w at h1 ⊢
      have h2 : (if VM.stKind w.1 = 0 then VM.badF 1 w.2 else w.2).1 <:+ s := by split <;> exact h1
      generalize (if VM.stKind w.1 = 0 then VM.badF 1 w.2 else w.2) = s1 at h2 ⊢
      have h3 : (VM.nmF (VM.stKind w.1) s1).2.1 <:+ s := by
        unfold VM.nmF
        split
        · exact zsq h2
        · exact h2
      generalize VM.nmF (VM.stKind w.1) s1 = nm at h3 ⊢
      have h4 := zrx d (VM.argsOf (VM.stKind w.1)) nm.2 h3
      generalize VM.timesF (VM.exprF d) (VM.argsOf (VM.stKind w.1)) nm.2 = a at h4 ⊢
      split
      · exact zz (key _ (zz (key _ (zz h4))))
      · split
        · exact key _ h4
        · exact zz h4
def zld (s : Str) (d : Nat) : Prop := ∀ (st : VM.St) (g : Nat) (H : Heap) (n : Nat) (Q : QT), st.1 <:+ s → H g = some (PT s st) → Q (.agg (VM.stmtF d st).1.avs) (H.put g (some (PT s (VM.stmtF d st).2))) n → za Tryd.prog 65 [.ptr g 0, .int .i64 (11 - (d : Int))] H n Q
set_option maxHeartbeats 1000000 in
theorem zua {d : Nat} {s : Str} (hE : zld s d) (hl : s.length ≤ 1500) {H0 H : Heap} {b g n : Nat} {st : VM.St} {Q : QT} (h : ElS Sm.avs 5 H0 b g s [] .nils st H n)
    (hq : ∀ A H' n', ElS Sm.avs 5 H0 b g s (VM.manyF (VM.stmtF d) st).1 A (VM.manyF (VM.stmtF d) st).2 H' n' → Q A H' n') : LP (zbh Q) [.ptr g 0, .int .i64 (11 - (d : Int)), .nils] H n := by
  have nice := VM.nice_stmt d
  refine LP.mk (fun k xs H' n' => ∃ l A st1, xs = [.ptr g 0, .int .i64 (11 - (d : Int)), A] ∧ ElS Sm.avs 5 H0 b g s l A st1 H' n' ∧ VM.left st1 < k ∧ VM.manyF (VM.stmtF d) st = (l ++ (VM.untilF (VM.stmtF d) k st1).1, (VM.untilF (VM.stmtF d) k st1).2)) (st.1.length + 2) ⟨[], .nils, st, rfl, h, VM.left_le st, rfl⟩ ?_
  rintro k xs H' n' ⟨l, A, st1, rfl, h, hle, hgo⟩
  generalize hJ : (fun (xs : List AV) (H' : Heap) (n' : Nat) => ∃ j, j < k ∧ ∃ l A st1, xs = [.ptr g 0, .int .i64 (11 - (d : Int)), A] ∧ ElS Sm.avs 5 H0 b g s l A st1 H' n' ∧ VM.left st1 < j ∧ VM.manyF (VM.stmtF d) st = (l ++ (VM.untilF (VM.stmtF d) j st1).1, (VM.untilF (VM.stmtF d) j st1).2)) = J
  obtain ⟨k, rfl⟩ : ∃ j, k = j + 1 := ⟨k - 1, by omega⟩
  have hg' : H' g = some (.row 3 [.str s, .int .i64 ((s.length - st1.1.length : Nat) : Int), .int .i64 st1.2]) := h.rg
  have stop : VM.manyF (VM.stmtF d) st = (l, VM.mustF 41 st1) → ∀ st2, VM.mustF 41 st2 = VM.mustF 41 st1 → ∀ H2 n2, ElS Sm.avs 5 H0 b g s l A st2 H2 n2 → za Tryd.prog 43 [.ptr g 0, .int .u8 41] H2 n2 (zbi Q [.ptr g 0, .int .i64 (11 - (d : Int)), A]) := by
    intro e st2 e2 H2 n2 h2
    refine zec (by decide) hl h2.suf h2.rg ?_
    have h3 := h2.put (VM.flow_must 41 st2) (zz h2.suf)
    rw [e2] at h3 ⊢
    rw [e] at hq
    simp [zbi]
    exact hq _ _ _ h3
  by_cases he : st1.2 = 0
  · simp [zbh, hg', he]
    refine zia hl h.suf h.rg ?_
    have h1 := h.put (st' := (VM.trim st1.1, st1.2)) ⟨VM.trim_le _, id⟩ (zbd h.suf)
    generalize H'.put g _ = HX at h1 ⊢
    by_cases hn : VM.nxt st1.1 = 41
    · simp [zdf, hn]
      refine stop ?_ (VM.trim st1.1, st1.2) (VM.must_trim _ _ _) _ _ h1
      rw [hgo]
      simp only [VM.untilF, hn, ne_eq, not_true_eq_false, and_false, if_false, List.append_nil]
    · simp [zdf, hn]
      rw [he] at h1
      refine hE (VM.trim st1.1, 0) g _ _ _ h1.suf h1.rg ?_
      have hl1 := VM.left_lt' nice (st := (VM.trim st1.1, 0)) rfl
      have hl2 := VM.left_lt nice (st := st1) he
      have h2 := h1.put (nice.flow _) (zks d _ h1.suf)
      have xl := zir (VM.stmtF d (VM.trim st1.1, 0)).1
      have xo := zqo (VM.stmtF d (VM.trim st1.1, 0)).1
      have hfew := h1.few
      have hgo2 : VM.manyF (VM.stmtF d) st = (l ++ [(VM.stmtF d (VM.trim st1.1, 0)).1] ++ (VM.untilF (VM.stmtF d) k (VM.stmtF d (VM.trim st1.1, 0)).2).1, (VM.untilF (VM.stmtF d) k (VM.stmtF d (VM.trim st1.1, 0)).2).2) := by
        rw [hgo]
        simp only [VM.untilF, he, hn, ne_eq, not_false_eq_true, and_true, if_true, List.append_assoc, List.singleton_append]
      generalize HX.put g _ = HY at h2 ⊢
      generalize VM.stmtF d (VM.trim st1.1, 0) = xr at *
      obtain ⟨x, st2⟩ := xr
      simp only at *
      have xt : x.avs.take 5 = x.avs := List.take_of_length_le (by omega)
      have hgb := h2.gb
      have hbn := h2.bn
      have snoc := zbr (f := Sm.avs) l x
      have rl := zeh (f := Sm.avs) (sz := 5) zir l
      have hra := h2.row
      have fin : ∀ HZ, HZ (n' + 1) = some (.row 5 ((l ++ [x]).map Sm.avs).flatten) → (∀ y, y < n' → y ∉ owns A → HZ y = HY y) → J [.ptr g 0, .int .i64 (11 - (d : Int)), .slc (n' + 1) 0 (l.length + 1)] HZ (n' + 2) := by
        intro HZ z1 z2
        rw [← hJ]
        have hA : ∀ y ∈ owns A, b ≤ y := fun y hy => by
          cases hra with
          | nil => simp [owns] at hy
          | row q1 q2 q3 => simp [owns] at hy; omega
        refine ⟨k, by omega, l ++ [x], _, st2, rfl, ⟨?_, ?_, h2.suf, hgb, by omega, fun y hy hne => ?_, by rw [List.length_append]; simp only [List.length_cons, List.length_nil]; omega⟩, by omega, hgo2⟩
        · rw [z2 g (by omega) fun hy => by have := hA g hy; omega]; exact h2.rg
        · have := RowS.row (f := Sm.avs) (sz := 5) (H := HZ) (lo := b) (hi := n' + 2) (l := l ++ [x]) (ga := n' + 1) (by omega) (by omega) z1
          rw [List.length_append] at this
          exact this
        · rw [z2 y (by omega) fun hy2 => by have := hA y hy2; omega]; exact h2.keep y hy hne
      cases hra with
      | nil =>
        simp [zdg, xl, xt]
        refine ⟨xo, ?_⟩
        have := fin ((HY.put n' (some (.row 5 x.avs))).put (n' + 1) (some (.row 5 x.avs))) (by rw [Heap.put_at]; simp) fun y hy _ => by rw [Heap.put_ne _ _ (by omega), Heap.put_ne _ _ (by omega)]
        exact this
      | @row l ga q1 q2 q3 =>
        have h1 : (l.length + 1) * 96 ≤ 140737488355328 := by omega
        generalize hrr : (l.map Sm.avs).flatten = rr at *
        have h3 : rr.take (l.length * 5) = rr := List.take_of_length_le (by omega)
        have ne_0 : ga ≠ n' ∧ n' ≠ ga ∧ ga ≠ n' + 1 ∧ n' + 1 ≠ ga := ⟨by omega, by omega, by omega, by omega⟩
        simp [zdg, xl, xt, q3, rl, h1, h3, ne_0]
        refine ⟨xo, ?_⟩
        have := fin (((HY.put n' (some (.row 5 x.avs))).put ga none).put (n' + 1) (some (.row 5 (rr ++ x.avs)))) (by rw [Heap.put_at, snoc]) fun y hy hno => by
          simp [owns] at hno
          rw [Heap.put_ne _ _ (by omega), Heap.put_ne _ _ hno, Heap.put_ne _ _ (by omega)]
        exact this
  · simp [zbh, hg', he]
    refine stop ?_ st1 rfl _ _ h
    rw [hgo]
    simp only [VM.untilF, he, false_and, if_false, List.append_nil]
theorem zoh {d : Nat} {s : Str} (hE : zld s d) (hl : s.length ≤ 1500) {H : Heap} {g n : Nat} {st : VM.St} {Q : QT} (hs : st.1 <:+ s) (hg : H g = some (PT s st))
    (hq : Q (.ro ((VM.manyF (VM.stmtF d) st).1.map Sm.avs)) (H.put g (some (PT s (VM.manyF (VM.stmtF d) st).2))) n) : za Tryd.prog 45 [.ptr g 0, .int .i64 (11 - (d : Int))] H n Q := by
  refine za.tparser (st' := (VM.manyF (VM.stmtF d) st).2) hg (fun hgn => ?_) hq
  refine zlg _ _ _ _ _ ?_
  unfold zga
  have hle := hs.length_le
  refine zua hE hl (b := n) (H0 := H) ⟨hg, .nil, hs, hgn, Nat.le_refl _, fun _ _ _ => rfl, by have := VM.left_le st; simp only [List.length_nil]; omega⟩ fun A H' n' h => ?_
  exact ⟨h.row.frz zir (fun A x v hv => zlb A x v hv) (Nat.le_refl _) fun _ _ _ => rfl, h.rg, h.keep⟩
theorem zru {d : Nat} {s : Str} (hE : zld s d) (hl : s.length ≤ 1500) {H : Heap} {g n : Nat} {st : VM.St} {Q : QT} (hs : st.1 <:+ s) (hg : H g = some (PT s st))
    (hq : Q (.ro ((VM.manyF (VM.stmtF d) (VM.mustF 40 st)).1.map Sm.avs)) (H.put g (some (PT s (VM.manyF (VM.stmtF d) (VM.mustF 40 st)).2))) n) : za Tryd.prog 77 [.ptr g 0, .int .i64 (11 - (d : Int))] H n Q := by
  refine zlj _ _ _ _ _ ?_
  unfold zgh
  refine zec (by decide) hl hs hg ?_
  unfold zgi
  refine zoh hE hl (zz hs) (Heap.put_at _ _ _) ?_
  rw [Heap.put_put]
  exact hq
def TsQ (s : Str) (H0 : Heap) (n g : Nat) (x : Sm) (st : VM.St) (Q : QT) : Prop := ∀ v H' n', Frz H' n v (.agg x.avs) → H' g = some (PT s st) → (∀ y, y < n → y ≠ g → H' y = H0 y) → Q v H' n'
def BlA (T : AV) (t : List Sm) : Prop := (T = .nils ∧ t = []) ∨ T = .ro (t.map Sm.avs)
theorem BlA.frz {T : AV} {t : List Sm} (h : BlA T t) (H : Heap) (N : Nat) : Frz H N T (.ro (t.map Sm.avs)) := by
  rcases h with ⟨rfl, rfl⟩ | rfl
  · exact .nils
  · refine .same _ (zft fun x hx v hv => ?_)
    obtain ⟨y, _, rfl⟩ := List.mem_map.1 hx
    exact zlb _ y v hv
theorem BlA.one {T : AV} {t : List Sm} (h : BlA T t) : T.one = true := by
  rcases h with ⟨rfl, _⟩ | rfl <;> rfl
section
variable {s : Str} {H0 H : Heap} {n g gx m : Nat} {dz k : Int} {nm : Str} {l : List Ex} {T E : AV} {t e : List Sm} {st : VM.St} {Q : QT}
theorem TxS.done (h : TxS s H0 n g gx dz k nm l T E st H m) (hT : BlA T t) (hE : BlA E e) {A : AV} (hA : H gx = some (.row 5 [.int .i64 k, .str nm, A, T, E])) (hq : TsQ s H0 n g (.mk k nm l t e) st Q) (o : Option AObj) (m' : Nat) : Q (.agg [.int .i64 k, .str nm, A, T, E]) (H.put (n + 2) o) m' := by
  have hb := h.gn
  have hx := h.gx0
  obtain ⟨A', h1, h2⟩ := h.rx
  rw [hA] at h1
  cases h1
  refine hq _ _ _ ?_ (by rw [Heap.put_ne _ _ (by omega)]; exact h.rg) fun y hy hne => by rw [Heap.put_ne _ _ (by omega)]; exact h.keep y hy hne
  rw [zis]
  exact FL.agg (.cons (.same _ (.int _ _)) (.cons (.same _ (.str _)) (.cons (ztk h2 (by omega) fun y hy _ => Heap.put_ne _ _ (by omega)) (.cons (hT.frz _ _) (.cons (hE.frz _ _) .nil)))))
theorem zut (hl : s.length ≤ 1500) (h : TxS s H0 n g gx dz k nm l T E st H m) (hT : BlA T t) (hE : BlA E e) (hq : TsQ s H0 n g (.mk k nm l t e) (VM.mustF 41 st) Q) : za Tryd.prog 43 [.ptr g 0, .int .u8 41] H m (zcd gx n Q) := by
  refine zec (by decide) hl h.suf h.rg ?_
  have h1 := h.put (zz (c := 41) h.suf)
  generalize H.put g _ = H1 at h1 ⊢
  obtain ⟨A, rx, ra⟩ := h1.rx
  obtain ⟨cs, r2, r2l⟩ := h1.r2
  have hx := h1.gx0
  have ho := zns ra
  have hTo := hT.one
  have hEo := hE.one
  simp [zcd, rx, r2, r2l]
  exact ⟨⟨ho, hTo, hEo⟩, h1.done hT hE rx hq _ _⟩
end
end Go.Proofs.YtpllgpgdcbgalaaDoor
set_option maxRecDepth 8000
namespace Go.Proofs.YtpllgpgdcbgalaaDoor
open Go Go.RowKit
namespace VM
def stF (d : Nat) (w : Str) (s1 : St) : Sm × St :=
  let nm := nmF (stKind w) (if stKind w = 0 then badF 1 s1 else s1)
  let a := timesF (exprF d) (argsOf (stKind w)) nm.2
  if stKind w = 3 then
    let t := manyF (stmtF d) (mustF 40 a.2)
    let e := manyF (stmtF d) (mustF 40 t.2)
    (.mk (stKind w) nm.1 a.1 t.1 e.1, mustF 41 e.2)
  else if stKind w = 4 then
    let t := manyF (stmtF d) a.2
    (.mk (stKind w) nm.1 a.1 t.1 [], t.2)
  else (.mk (stKind w) nm.1 a.1 [] [], mustF 41 a.2)
theorem stmtF_succ {d : Nat} {st : St} (h : st.2 = 0) : stmtF (d + 1) st = stF d (wF (mustF 40 st)).1 (wF (mustF 40 st)).2 := by
  simp only [stmtF, stF]
  rw [if_neg (by simpa using h)]
theorem stF_nm {d : Nat} {w : Str} {s1 : St} (h : stKind w = 1 ∨ stKind w = 2) : stF d w s1 = (.mk (stKind w) (nF s1).1 [(exprF d (nF s1).2).1] [] [], mustF 41 (exprF d (nF s1).2).2) := by
  unfold stF
  rcases h with h | h <;> simp [h, nmF, argsOf, timesF]
theorem stF_one {d : Nat} {w : Str} {s1 : St} (h : stKind w = 5 ∨ stKind w = 6 ∨ stKind w = 9) : stF d w s1 = (.mk (stKind w) [] [(exprF d s1).1] [] [], mustF 41 (exprF d s1).2) := by
  unfold stF
  rcases h with h | h | h <;> simp [h, nmF, argsOf, timesF]
theorem stF_two {d : Nat} {w : Str} {s1 : St} (h : stKind w = 7 ∨ stKind w = 8) : stF d w s1 = (.mk (stKind w) [] [(exprF d s1).1, (exprF d (exprF d s1).2).1] [] [], mustF 41 (exprF d (exprF d s1).2).2) := by
  unfold stF
  rcases h with h | h <;> simp [h, nmF, argsOf, timesF]
theorem stF_bad {d : Nat} {w : Str} {s1 : St} (h : stKind w = 0) : stF d w s1 = (.mk 0 [] [] [] [], mustF 41 (badF 1 s1)) := by
  unfold stF
  simp [h, nmF, argsOf, timesF]
theorem stF_if {d : Nat} {w : Str} {s1 : St} (h : stKind w = 3) : stF d w s1 = (.mk 3 [] [(exprF d s1).1] (manyF (stmtF d) (mustF 40 (exprF d s1).2)).1 (manyF (stmtF d) (mustF 40 (manyF (stmtF d) (mustF 40 (exprF d s1).2)).2)).1, mustF 41 (manyF (stmtF d) (mustF 40 (manyF (stmtF d) (mustF 40 (exprF d s1).2)).2)).2) := by
  unfold stF
  simp [h, nmF, argsOf, timesF]
theorem stF_while {d : Nat} {w : Str} {s1 : St} (h : stKind w = 4) : stF d w s1 = (.mk 4 [] [(exprF d s1).1] (manyF (stmtF d) (exprF d s1).2).1 [], (manyF (stmtF d) (exprF d s1).2).2) := by
  unfold stF
  simp [h, nmF, argsOf, timesF]
end VM
theorem bl0 : BlA .nils [] := .inl ⟨rfl, rfl⟩
section
variable {s : Str} {d : Nat} {H0 H : Heap} {n g gx m : Nat} {k : Int} {nm : Str} {l : List Ex} {T E : AV} {st : VM.St} {Q : QT}
theorem tk2 (hl : s.length ≤ 1500) (v : AV) (h : TxS s H0 n g gx (10 - (d : Int)) k nm l .nils .nils st H m) (hq : TsQ s H0 n g (.mk k nm l [] []) (VM.mustF 41 st) Q) : zp n gx Q v H m := by
  have r0 := h.r0
  simp [zp, r0]
  exact zut hl h bl0 bl0 hq
theorem zus (hE : zca s d) (hl : s.length ≤ 1500) (hd : d ≤ 11) (h : TxS s H0 n g gx (10 - (d : Int)) k nm [] .nils .nils st H m) (hq : TsQ s H0 n g (.mk k nm [(VM.exprF d st).1] [] []) (VM.mustF 41 (VM.exprF d st).2) Q) : za Tryd.prog 75 [.ptr gx 0, .ptr n 0, .ptr (n + 1) 0] H m (zp n gx Q) :=
  zmo hE h hd (by simp) fun _ _ h1 => tk2 hl _ h1 hq
theorem zur (hE : zca s d) (hl : s.length ≤ 1500) (hd : d ≤ 11) (h : TxS s H0 n g gx (10 - (d : Int)) k nm [] .nils .nils st H m) (hq : TsQ s H0 n g (.mk k nm [(VM.exprF d st).1, (VM.exprF d (VM.exprF d st).2).1] [] []) (VM.mustF 41 (VM.exprF d (VM.exprF d st).2).2) Q) : za Tryd.prog 75 [.ptr gx 0, .ptr n 0, .ptr (n + 1) 0] H m (zad gx n Q) :=
  zmo hE h hd (by simp) fun _ _ h1 => by
    unfold zad
    exact zmo hE h1 hd (by simp) fun _ _ h2 => tk2 hl _ h2 hq
set_option maxHeartbeats 1000000 in
theorem zaat (hE : zca s d) (hS : zld s d) (hl : s.length ≤ 1500) (hd : d ≤ 11) (h : TxS s H0 n g gx (10 - (d : Int)) 3 [] [] .nils .nils st H m)
    (hq : TsQ s H0 n g (.mk 3 [] [(VM.exprF d st).1] (VM.manyF (VM.stmtF d) (VM.mustF 40 (VM.exprF d st).2)).1 (VM.manyF (VM.stmtF d) (VM.mustF 40 (VM.manyF (VM.stmtF d) (VM.mustF 40 (VM.exprF d st).2)).2)).1) (VM.mustF 41 (VM.manyF (VM.stmtF d) (VM.mustF 40 (VM.manyF (VM.stmtF d) (VM.mustF 40 (VM.exprF d st).2)).2)).2) Q) :
    za Tryd.prog 75 [.ptr gx 0, .ptr n 0, .ptr (n + 1) 0] H m (zdt n gx Q) := by
  refine zmo hE h hd (by simp) fun H1 m1 h1 => ?_
  have hw : IntKind.i64.wrap (10 - (d : Int) + 1) = 11 - (d : Int) := by rw [i64w (by omega)]; omega
  have km : ∀ q : VM.St, q.1 <:+ s → (VM.manyF (VM.stmtF d) q).2.1 <:+ s := fun q hq => zee (zks d) q hq
  have r0 := h1.r0
  have r1 := h1.r1
  simp [zdt, r0, r1, hw]
  generalize VM.exprF d st = xe at *
  refine zru hS hl h1.suf h1.rg ?_
  have h2 := h1.put (km _ (zz (c := 40) h1.suf))
  generalize H1.put g _ = H2 at h2 ⊢
  generalize VM.manyF (VM.stmtF d) (VM.mustF 40 xe.2) = te at *
  obtain ⟨A, rx, ra⟩ := h2.rx
  have h3 := h2.set (k' := 3) (nm' := []) (T' := .ro (te.1.map Sm.avs)) (E' := .nils) rx
  have hgx := h2.gx0
  have r0 := h2.r0
  have r1 := h2.r1
  have ne_0 : gx ≠ n ∧ n ≠ gx ∧ gx ≠ n + 1 ∧ n + 1 ≠ gx ∧ n ≠ n + 1 ∧ n + 1 ≠ n := ⟨by omega, by omega, by omega, by omega, by omega, by omega⟩
  simp [zhm, rx, r0, r1, hw, ne_0]
  generalize H2.put gx _ = H3 at h3 ⊢
  refine zru hS hl h3.suf h3.rg ?_
  have h4 := h3.put (km _ (zz (c := 40) h3.suf))
  generalize H3.put g _ = H4 at h4 ⊢
  generalize VM.manyF (VM.stmtF d) (VM.mustF 40 te.2) = ee at *
  obtain ⟨A, rx, ra⟩ := h4.rx
  have h5 := h4.set (k' := 3) (nm' := []) (T' := .ro (te.1.map Sm.avs)) (E' := .ro (ee.1.map Sm.avs)) rx
  have r0 := h4.r0
  simp [zhn, rx, r0, ne_0]
  generalize H4.put gx _ = H5 at h5 ⊢
  exact zut hl h5 (.inr rfl) (.inr rfl) hq
set_option maxHeartbeats 1000000 in
theorem zwn (hE : zca s d) (hS : zld s d) (hl : s.length ≤ 1500) (hd : d ≤ 11) (h : TxS s H0 n g gx (10 - (d : Int)) 4 [] [] .nils .nils st H m)
    (hq : TsQ s H0 n g (.mk 4 [] [(VM.exprF d st).1] (VM.manyF (VM.stmtF d) (VM.exprF d st).2).1 []) (VM.manyF (VM.stmtF d) (VM.exprF d st).2).2 Q) :
    za Tryd.prog 75 [.ptr gx 0, .ptr n 0, .ptr (n + 1) 0] H m (zds n gx Q) := by
  refine zmo hE h hd (by simp) fun H1 m1 h1 => ?_
  have hw : IntKind.i64.wrap (10 - (d : Int) + 1) = 11 - (d : Int) := by rw [i64w (by omega)]; omega
  have km : ∀ q : VM.St, q.1 <:+ s → (VM.manyF (VM.stmtF d) q).2.1 <:+ s := fun q hq => zee (zks d) q hq
  have r0 := h1.r0
  have r1 := h1.r1
  simp [zds, r0, r1, hw]
  generalize VM.exprF d st = xe at *
  refine zoh hS hl h1.suf h1.rg ?_
  have h2 := h1.put (km _ h1.suf)
  generalize H1.put g _ = H2 at h2 ⊢
  generalize VM.manyF (VM.stmtF d) xe.2 = te at *
  obtain ⟨A, rx, ra⟩ := h2.rx
  have h3 := h2.set (k' := 4) (nm' := []) (T' := .ro (te.1.map Sm.avs)) (E' := .nils) rx
  have hgx := h2.gx0
  obtain ⟨cs, r2, r2l⟩ := h2.r2
  have ho := zns ra
  have ne_1 : gx ≠ n ∧ n ≠ gx ∧ gx ≠ n + 1 ∧ n + 1 ≠ gx ∧ gx ≠ n + 2 ∧ n + 2 ≠ gx ∧ n ≠ n + 1 ∧ n + 1 ≠ n ∧ n ≠ n + 2 ∧ n + 2 ≠ n ∧ n + 1 ≠ n + 2 ∧ n + 2 ≠ n + 1 := ⟨by omega, by omega, by omega, by omega, by omega, by omega, by omega, by omega, by omega, by omega, by omega, by omega⟩
  simp [zhl, rx, r2, r2l, ne_1]
  exact ⟨by simpa using ho, h3.done (.inr rfl) bl0 (Heap.put_at _ _ _) hq _ _⟩
end
end Go.Proofs.YtpllgpgdcbgalaaDoor
set_option maxRecDepth 8000
namespace Go.Proofs.YtpllgpgdcbgalaaDoor
open Go Go.RowKit
structure TxB (s : Str) (H0 : Heap) (n g : Nat) (dz : Int) (st : VM.St) (H : Heap) : Prop where
  r0 : H n = some (.row 1 [.ptr g 0])
  r1 : H (n + 1) = some (.row 1 [.int .i64 dz])
  r2 : ∃ cs, H (n + 2) = some (.row 5 cs) ∧ cs.length = 5
  rg : H g = some (PT s st)
  suf : st.1 <:+ s
  gn : g < n
  keep : ∀ y, y < n → y ≠ g → H y = H0 y
section
variable {s : Str} {d : Nat} {H0 H : Heap} {n g m : Nat} {dz : Int} {st st' : VM.St} {Q : QT}
theorem TxB.put (h : TxB s H0 n g dz st H) (hs : st'.1 <:+ s) : TxB s H0 n g dz st' (H.put g (some (PT s st'))) := by
  have hb := h.gn
  obtain ⟨cs, h2, h3⟩ := h.r2
  exact ⟨by rw [Heap.put_ne _ _ (by omega)]; exact h.r0, by rw [Heap.put_ne _ _ (by omega)]; exact h.r1, ⟨cs, by rw [Heap.put_ne _ _ (by omega)]; exact h2, h3⟩, Heap.put_at _ _ _, hs, hb, fun y hy hne => by rw [Heap.put_ne _ _ hne]; exact h.keep y hy hne⟩
theorem TxB.cell {k : Int} (h : TxB s H0 n g dz st H) (hm : n + 3 ≤ m) : TxS s H0 n g m dz k [] [] .nils .nils st (H.put m (some (.row 5 [.int .i64 k, .str [], .nils, .nils, .nils]))) (m + 1) := by
  have hb := h.gn
  obtain ⟨cs, h2, h3⟩ := h.r2
  exact ⟨by rw [Heap.put_ne _ _ (by omega)]; exact h.r0, by rw [Heap.put_ne _ _ (by omega)]; exact h.r1, ⟨cs, by rw [Heap.put_ne _ _ (by omega)]; exact h2, h3⟩, ⟨.nils, Heap.put_at _ _ _, .nil⟩, by rw [Heap.put_ne _ _ (by omega)]; exact h.rg, h.suf, hb, hm, by omega, fun y hy hne => by rw [Heap.put_ne _ _ (by omega)]; exact h.keep y hy hne⟩
theorem zwq (hE : zca s d) (hl : s.length ≤ 1500) (hd : d ≤ 11) {k : Int} (h : TxB s H0 n g (10 - (d : Int)) st H) (hm : n + 3 ≤ m) (hq : TsQ s H0 n g (.mk k (VM.nF st).1 [(VM.exprF d (VM.nF st).2).1] [] []) (VM.mustF 41 (VM.exprF d (VM.nF st).2).2) Q) :
    za Tryd.prog 44 [.ptr g 0] (H.put m (some (.row 5 [.int .i64 k, .str [], .nils, .nils, .nils]))) (m + 1) (zae m n Q) := by
  have h1 := h.cell (k := k) hm
  generalize H.put m _ = H1 at h1 ⊢
  refine zqa hl h1.suf h1.rg ?_
  have h2 := h1.put (zsq h1.suf)
  generalize H1.put g _ = H2 at h2 ⊢
  generalize VM.nF st = r at *
  obtain ⟨A, rx, ra⟩ := h2.rx
  have h3 := h2.set (k' := k) (nm' := r.1) (T' := .nils) (E' := .nils) rx
  simp [zae, rx]
  exact zus hE hl hd h3 hq
set_option maxHeartbeats 2000000 in
theorem zxw (hE : zca s d) (hS : zld s d) (hl : s.length ≤ 1500) (hd : d ≤ 11) {w : Str} (h : TxB s H0 n g (10 - (d : Int)) st H) (hm : n + 3 ≤ m) (hq : TsQ s H0 n g (VM.stF d w st).1 (VM.stF d w st).2 Q) : zk n Q (.str w) H m := by
  have r0 := h.r0
  have c := fun k => h.cell (k := k) hm
  have ne_0 : n ≠ m ∧ m ≠ n := ⟨by omega, by omega⟩
  by_cases h1 : w = [108, 101, 116]
  · subst h1
    rw [VM.stF_nm (.inl (by decide))] at hq
    have := zwq hE hl hd h hm hq
    simp [zk, r0, ne_0]
    exact this
  by_cases h2 : w = [115, 101, 116]
  · subst h2
    rw [VM.stF_nm (.inr (by decide))] at hq
    have := zwq hE hl hd h hm hq
    simp [zk, r0, ne_0]
    exact this
  by_cases h3 : w = [105, 102]
  · subst h3
    rw [VM.stF_if (by decide)] at hq
    have := zaat hE hS hl hd (c 3) hq
    simp [zk]
    exact this
  by_cases h4 : w = [119, 104, 105, 108, 101]
  · subst h4
    rw [VM.stF_while (by decide)] at hq
    have := zwn hE hS hl hd (c 4) hq
    simp [zk]
    exact this
  have one : ∀ k H', TxS s H0 n g m (10 - (d : Int)) k [] [] .nils .nils st H' (m + 2) → (VM.stKind w = 5 ∨ VM.stKind w = 6 ∨ VM.stKind w = 9) → VM.stKind w = k → za Tryd.prog 75 [.ptr m 0, .ptr n 0, .ptr (n + 1) 0] H' (m + 2) (zp n m Q) := by
    rintro k H' hc hk rfl
    rw [VM.stF_one hk] at hq
    exact zus hE hl hd hc hq
  have mp : ∀ k (o : Option AObj), TxS s H0 n g m (10 - (d : Int)) k [] [] .nils .nils st ((((H.put m (some (.row 5 [.int .i64 0, .str [], .nils, .nils, .nils]))).put (m + 1) o)).put m (some (.row 5 [.int .i64 k, .str [], .nils, .nils, .nils]))) (m + 2) := fun k o =>
    ((c 0).new (o := o) (y := m + 1) (m' := m + 2) (by omega) (by omega)).set (by rw [Heap.put_ne _ _ (by omega), Heap.put_at])
  have ne_1 : n ≠ m ∧ m ≠ n ∧ n ≠ m + 1 ∧ m + 1 ≠ n ∧ m ≠ m + 1 ∧ m + 1 ≠ m := ⟨by omega, by omega, by omega, by omega, by omega, by omega⟩
  by_cases h5 : w = [115, 97, 121]
  · subst h5
    have := one 5 _ (mp 5 (some (.mp [(.str [115, 97, 121], .int .i64 5), (.str [114, 101, 116, 117, 114, 110], .int .i64 6), (.str [100, 111], .int .i64 9)]))) (.inl (by decide)) (by decide)
    simp [zk, ne_1]
    exact this
  by_cases h6 : w = [114, 101, 116, 117, 114, 110]
  · subst h6
    have := one 6 _ (mp 6 (some (.mp [(.str [115, 97, 121], .int .i64 5), (.str [114, 101, 116, 117, 114, 110], .int .i64 6), (.str [100, 111], .int .i64 9)]))) (.inr (.inl (by decide))) (by decide)
    simp [zk, ne_1]
    exact this
  by_cases h9 : w = [100, 111]
  · subst h9
    have := one 9 _ (mp 9 (some (.mp [(.str [115, 97, 121], .int .i64 5), (.str [114, 101, 116, 117, 114, 110], .int .i64 6), (.str [100, 111], .int .i64 9)]))) (.inr (.inr (by decide))) (by decide)
    simp [zk, ne_1]
    exact this
  by_cases h7 : w = [112, 117, 116, 108]
  · subst h7
    rw [VM.stF_two (.inl (by decide))] at hq
    have := zur hE hl hd (c 7) hq
    simp [zk]
    exact this
  by_cases h8 : w = [112, 117, 116, 114]
  · subst h8
    rw [VM.stF_two (.inr (by decide))] at hq
    have := zur hE hl hd (c 8) hq
    simp [zk]
    exact this
  · have hk : VM.stKind w = 0 := by simp [VM.stKind, h1, h2, h3, h4, h5, h6, h7, h8, h9]
    rw [VM.stF_bad hk] at hq
    have c0 := c 0
    simp [zk, h1, h2, h3, h4, h5, h6, h7, h8, h9, r0, ne_1]
    refine zaw c0.rg ?_
    exact tk2 hl _ (c0.put (st' := VM.badF 1 st) c0.suf) hq
end
set_option maxHeartbeats 1000000 in
theorem zxv {s : Str} (hl : s.length ≤ 1500) : ∀ d, d ≤ 11 → zld s d := by
  intro d
  induction d with
  | zero =>
    intro _ st g H n Q hs hg hq
    refine za.tparser (st' := (VM.stmtF 0 st).2) hg (fun hgn => ?_) hq
    suffices main : ∀ Q : QT, TsQ s H n g (VM.stmtF 0 st).1 (VM.stmtF 0 st).2 Q → za Tryd.prog 65 [.ptr g 0, .int .i64 (11 - ((0 : Nat) : Int))] H n Q from main _ fun v H' n' a b c => ⟨a, b, c⟩
    intro Q hq
    refine zey _ _ _ _ _ ?_
    simp [zdr]
    have h0 : TxB s H n g 11 st (((H.put n (some (.row 1 [.ptr g 0]))).put (n + 1) (some (.row 1 [.int .i64 11]))).put (n + 2) (some (.row 5 [.int .i64 0, .str [], .nils, .nils, .nils]))) :=
      ⟨by rw [Heap.put_ne _ _ (by omega), Heap.put_ne _ _ (by omega), Heap.put_at], by rw [Heap.put_ne _ _ (by omega), Heap.put_at], ⟨_, Heap.put_at _ _ _, rfl⟩, by rw [Heap.put_ne _ _ (by omega), Heap.put_ne _ _ (by omega), Heap.put_ne _ _ (by omega)]; exact hg, hs, hgn, fun y hy _ => by rw [Heap.put_ne _ _ (by omega), Heap.put_ne _ _ (by omega), Heap.put_ne _ _ (by omega)]⟩
    generalize Heap.put (Heap.put (Heap.put H n _) (n + 1) _) (n + 2) _ = H3 at h0 ⊢
    refine znf h0.rg ?_
    rw [if_neg (by omega)]
    have h1 := h0.put (st' := VM.badF 9 st) h0.suf
    obtain ⟨cs, r2, r2l⟩ := h1.r2
    generalize H3.put g _ = H4 at h1 r2 ⊢
    simp [zbj, r2, r2l]
    have := h1.cell (k := 0) (m := n + 3) (by omega)
    refine hq _ _ _ ?_ (by rw [Heap.put_ne _ _ (by omega)]; exact h1.rg) fun y hy hne => by rw [Heap.put_ne _ _ (by omega)]; exact h1.keep y hy hne
    show Frz _ _ _ (.agg (Sm.avs (.mk 0 [] [] [] [])))
    rw [zis]
    exact FL.agg (.cons (.same _ (.int _ _)) (.cons (.same _ (.str _)) (.cons .nils (.cons .nils (.cons .nils .nil)))))
  | succ d ih =>
    intro hd st g H n Q hs hg hq
    have hS := ih (by omega)
    have hE := zxz hl d (by omega)
    refine za.tparser (st' := (VM.stmtF (d + 1) st).2) hg (fun hgn => ?_) hq
    suffices main : ∀ Q : QT, TsQ s H n g (VM.stmtF (d + 1) st).1 (VM.stmtF (d + 1) st).2 Q → za Tryd.prog 65 [.ptr g 0, .int .i64 (11 - ((d + 1 : Nat) : Int))] H n Q from main _ fun v H' n' a b c => ⟨a, b, c⟩
    intro Q hq
    have hz : (11 : Int) - ((d + 1 : Nat) : Int) = 10 - (d : Int) := by omega
    rw [hz]
    refine zey _ _ _ _ _ ?_
    simp [zdr]
    have h0 : TxB s H n g (10 - (d : Int)) st (((H.put n (some (.row 1 [.ptr g 0]))).put (n + 1) (some (.row 1 [.int .i64 (10 - (d : Int))]))).put (n + 2) (some (.row 5 [.int .i64 0, .str [], .nils, .nils, .nils]))) :=
      ⟨by rw [Heap.put_ne _ _ (by omega), Heap.put_ne _ _ (by omega), Heap.put_at], by rw [Heap.put_ne _ _ (by omega), Heap.put_at], ⟨_, Heap.put_at _ _ _, rfl⟩, by rw [Heap.put_ne _ _ (by omega), Heap.put_ne _ _ (by omega), Heap.put_ne _ _ (by omega)]; exact hg, hs, hgn, fun y hy _ => by rw [Heap.put_ne _ _ (by omega), Heap.put_ne _ _ (by omega), Heap.put_ne _ _ (by omega)]⟩
    generalize Heap.put (Heap.put (Heap.put H n _) (n + 1) _) (n + 2) _ = H3 at h0 ⊢
    have hd10 : (10 : Int) - (d : Int) ≤ 10 := by omega
    refine znf h0.rg ?_
    rw [if_pos hd10, Heap.put_same h0.rg]
    have r0 := h0.r0
    by_cases he : st.2 = 0
    · rw [VM.stmtF_succ he] at hq
      simp [zbj, he, hd10, r0]
      refine zec (by decide) hl h0.suf h0.rg ?_
      have h1 := h0.put (zz (c := 40) h0.suf)
      generalize H3.put g _ = H4 at h1 ⊢
      have r0 := h1.r0
      simp [zgb, r0]
      refine znd hl h1.suf h1.rg ?_
      have h2 := h1.put (zng h1.suf)
      generalize H4.put g _ = H5 at h2 ⊢
      exact zxw hE hS hl (by omega) h2 (by omega) hq
    · have hz : VM.stmtF (d + 1) st = (VM.sm0, st) := by unfold VM.stmtF; rw [if_pos he]
      rw [hz] at hq
      obtain ⟨cs, r2, r2l⟩ := h0.r2
      simp [zbj, he, r2, r2l]
      refine hq _ _ _ ?_ (by rw [Heap.put_ne _ _ (by omega)]; exact h0.rg) fun y hy hne => by rw [Heap.put_ne _ _ (by omega)]; exact h0.keep y hy hne
      show Frz _ _ _ (.agg (Sm.avs (.mk 0 [] [] [] [])))
      rw [zis]
      exact FL.agg (.cons (.same _ (.int _ _)) (.cons (.same _ (.str _)) (.cons .nils (.cons .nils (.cons .nils .nil)))))
end Go.Proofs.YtpllgpgdcbgalaaDoor
set_option maxRecDepth 8000
namespace Go.Proofs.YtpllgpgdcbgalaaDoor
open Go Go.RowKit
structure TPaL (s : Str) (H0 : Heap) (n : Nat) (l : List (Fnc × AV)) (A : AV) (st : VM.St) (H : Heap) (m : Nat) : Prop where
  rg : H n = some (PT s st)
  out : OutS H (n + 1) m l A
  bm : n + 1 ≤ m
  keep : ∀ y, y < n → H y = H0 y
  few : l.length + VM.left st ≤ 1502
  suf : st.1 <:+ s
theorem TPaL.put {s : Str} {H0 H : Heap} {n m : Nat} {l : List (Fnc × AV)} {A : AV} {st st' : VM.St} (h : TPaL s H0 n l A st H m) (hf : VM.Flow st st') (hs : st'.1 <:+ s) : TPaL s H0 n l A st' (H.put n (some (PT s st'))) m := by
  have hb := h.bm
  exact ⟨Heap.put_at _ _ _, h.out.keep (Nat.le_refl _) fun y hy _ => Heap.put_ne _ _ (by omega), hb, fun y hy => by rw [Heap.put_ne _ _ (by omega)]; exact h.keep y hy, by have := hf.left; have := h.few; omega, hs⟩
structure TPmL (s : Str) (H0 : Heap) (n m : Nat) (nm : Str) (ps : List Str) (st : VM.St) (H : Heap) (m' : Nat) : Prop where
  rf : ∃ B, H m = some (.row 3 [.str nm, B, .nils]) ∧ RowS strC 1 H (m + 1) m' ps B
  rg : H n = some (PT s st)
  nm' : n < m
  fm : m + 1 ≤ m'
  keep : ∀ y, y < m → y ≠ n → H y = H0 y
  few : ps.length + VM.left st ≤ 1502
  suf : st.1 <:+ s
theorem TPmL.put {s : Str} {H0 H : Heap} {n m m' : Nat} {nm : Str} {ps : List Str} {st st' : VM.St} (h : TPmL s H0 n m nm ps st H m') (hf : VM.Flow st st') (hs : st'.1 <:+ s) : TPmL s H0 n m nm ps st' (H.put n (some (PT s st'))) m' := by
  have hb := h.nm'
  obtain ⟨B, h1, h2⟩ := h.rf
  exact ⟨⟨B, by rw [Heap.put_ne _ _ (by omega)]; exact h1, h2.keep (Nat.le_refl _) fun y hy _ => Heap.put_ne _ _ (by omega)⟩, Heap.put_at _ _ _, hb, h.fm, fun y hy hne => by rw [Heap.put_ne _ _ hne]; exact h.keep y hy hne, by have := hf.left; have := h.few; omega, hs⟩
theorem zj.tname {s : Str} (hl : s.length ≤ 1500) {st : VM.St} {g n : Nat} {H : Heap} {kt : Kt} (hs : st.1 <:+ s) (hg : H g = some (PT s st)) (hk : kt (.str (VM.nF st).1) [g] [] [(g, some (PT s (VM.nF st).2))]) : zj Tryd.prog (.clo 44 []) [.ptr g 0] H n kt :=
  ⟨_, [g], [], _, .inl rfl, LC.tparser hg (fun _ => .str _) fun _ _ _ h1 h2 => zqa hl hs h1 h2, hk⟩
set_option maxHeartbeats 1000000 in
theorem zvk {s : Str} (hl : s.length ≤ 1500) {H0 H : Heap} {n m m' : Nat} {nm : Str} {A : AV} {st : VM.St} {K : J3} (h : TPmL s H0 n m nm [] st H m')
    (hq : ∀ H' n', TPmL s H0 n m nm (VM.manyF VM.nF st).1 (VM.manyF VM.nF st).2 H' n' → ∀ v, zdl [.ptr n 0, A, .ptr m 0] K v H' n') : LP (zfh K) [.ptr n 0, A, .ptr m 0] H m' := by
  refine LP.mk (fun k xs H' n' => ∃ ps st1, xs = [.ptr n 0, A, .ptr m 0] ∧ TPmL s H0 n m nm ps st1 H' n' ∧ VM.left st1 < k ∧ VM.manyF VM.nF st = (ps ++ (VM.untilF VM.nF k st1).1, (VM.untilF VM.nF k st1).2)) (st.1.length + 2) ⟨[], st, rfl, h, VM.left_le st, rfl⟩ ?_
  rintro k xs H' n' ⟨ps, st1, rfl, h, hle, hgo⟩
  generalize hJ : (fun (xs : List AV) (H' : Heap) (n' : Nat) => ∃ j, j < k ∧ ∃ ps st1, xs = [.ptr n 0, A, .ptr m 0] ∧ TPmL s H0 n m nm ps st1 H' n' ∧ VM.left st1 < j ∧ VM.manyF VM.nF st = (ps ++ (VM.untilF VM.nF j st1).1, (VM.untilF VM.nF j st1).2)) = J
  obtain ⟨k, rfl⟩ : ∃ j, k = j + 1 := ⟨k - 1, by omega⟩
  have hg' : H' n = some (.row 3 [.str s, .int .i64 ((s.length - st1.1.length : Nat) : Int), .int .i64 st1.2]) := h.rg
  have stop : VM.manyF VM.nF st = (ps, VM.mustF 41 st1) → ∀ st2, VM.mustF 41 st2 = VM.mustF 41 st1 → ∀ H2 n2, TPmL s H0 n m nm ps st2 H2 n2 → za Tryd.prog 43 [.ptr n 0, .int .u8 41] H2 n2 (zdl [.ptr n 0, A, .ptr m 0] K) := by
    intro e st2 e2 H2 n2 h2
    refine zec (by decide) hl h2.suf h2.rg ?_
    have h3 := h2.put (VM.flow_must 41 st2) (zz h2.suf)
    rw [e2] at h3 ⊢
    rw [e] at hq
    exact hq _ _ h3 _
  by_cases he : st1.2 = 0
  · simp [zfh, hg', he]
    refine zia hl h.suf h.rg ?_
    have h1 := h.put (st' := (VM.trim st1.1, st1.2)) ⟨VM.trim_le _, id⟩ (zbd h.suf)
    generalize H'.put n _ = HX at h1 ⊢
    by_cases hn : VM.nxt st1.1 = 41
    · simp [zje, hn]
      refine stop ?_ (VM.trim st1.1, st1.2) (VM.must_trim _ _ _) _ _ h1
      rw [hgo]
      simp only [VM.untilF, hn, ne_eq, not_true_eq_false, and_false, if_false, List.append_nil]
    · rw [he] at h1
      obtain ⟨B, rf, rb⟩ := h1.rf
      simp [zje, hn, rf]
      refine zj.tname hl h1.suf h1.rg ?_
      have hl1 := VM.left_lt' VM.nice_n (st := (VM.trim st1.1, 0)) rfl
      have hl2 := VM.left_lt VM.nice_n (st := st1) he
      have h2 := h1.put (VM.nice_n.flow _) (zsq h1.suf)
      have hfew := h1.few
      have hgo2 : VM.manyF VM.nF st = (ps ++ [(VM.nF (VM.trim st1.1, 0)).1] ++ (VM.untilF VM.nF k (VM.nF (VM.trim st1.1, 0)).2).1, (VM.untilF VM.nF k (VM.nF (VM.trim st1.1, 0)).2).2) := by
        rw [hgo]
        simp only [VM.untilF, he, hn, ne_eq, not_false_eq_true, and_true, if_true, List.append_assoc, List.singleton_append]
      generalize VM.nF (VM.trim st1.1, 0) = xr at *
      obtain ⟨w, st2⟩ := xr
      simp only at *
      have hnm := h1.nm'
      have hfm := h1.fm
      have snoc := zbr (f := strC) ps w
      have fin : ∀ HZ, HZ (n' + 1) = some (.row 1 ((ps ++ [w]).map strC).flatten) → HZ m = some (.row 3 [.str nm, .slc (n' + 1) 0 (ps.length + 1), .nils]) → HZ n = some (PT s st2) → (∀ y, y < m → y ≠ n → HZ y = HX y) → J [.ptr n 0, A, .ptr m 0] HZ (n' + 2) := by
        intro HZ z1 z2 z3 z4
        rw [← hJ]
        refine ⟨k, by omega, ps ++ [w], st2, rfl, ⟨⟨_, z2, ?_⟩, z3, hnm, by omega, fun y hy hne => ?_, by rw [List.length_append]; simp only [List.length_cons, List.length_nil]; omega, h2.suf⟩, by omega, hgo2⟩
        · have := RowS.row (f := strC) (sz := 1) (H := HZ) (lo := m + 1) (hi := n' + 2) (l := ps ++ [w]) (ga := n' + 1) (by omega) (by omega) z1
          rw [List.length_append] at this
          exact this
        · rw [z4 y hy hne]; exact h1.keep y hy hne
      cases rb with
      | nil =>
        have ne_0 : n ≠ m ∧ m ≠ n ∧ n ≠ n' ∧ n' ≠ n ∧ n ≠ n' + 1 ∧ n' + 1 ≠ n ∧ m ≠ n' ∧ n' ≠ m ∧ m ≠ n' + 1 ∧ n' + 1 ≠ m := ⟨by omega, by omega, by omega, by omega, by omega, by omega, by omega, by omega, by omega, by omega⟩
        simp [zjg, rf, ne_0]
        refine fin _ ?_ ?_ ?_ fun y hy hne => ?_
        · rw [Heap.put_ne _ _ (by omega), Heap.put_at]; rfl
        · rw [Heap.put_at]; rfl
        · rw [Heap.put_ne _ _ (by omega), Heap.put_ne _ _ (by omega), Heap.put_ne _ _ (by omega), Heap.put_at]
        · rw [Heap.put_ne _ _ (by omega), Heap.put_ne _ _ (by omega), Heap.put_ne _ _ (by omega), Heap.put_ne _ _ hne]
      | @row ps ga q1 q2 q3 =>
        have rl := zeh (f := strC) (sz := 1) (fun _ => rfl) ps
        have hb1 : (ps.length + 1) * 16 ≤ 140737488355328 := by omega
        generalize hrr : (ps.map strC).flatten = rr at *
        have h3 : rr.take ps.length = rr := List.take_of_length_le (by omega)
        have ne_1 : n ≠ m ∧ m ≠ n ∧ n ≠ ga ∧ ga ≠ n ∧ m ≠ ga ∧ ga ≠ m ∧ n ≠ n' ∧ n' ≠ n ∧ n ≠ n' + 1 ∧ n' + 1 ≠ n ∧ m ≠ n' ∧ n' ≠ m ∧ m ≠ n' + 1 ∧ n' + 1 ≠ m ∧ ga ≠ n' ∧ n' ≠ ga ∧ ga ≠ n' + 1 ∧ n' + 1 ≠ ga := ⟨by omega, by omega, by omega, by omega, by omega, by omega, by omega, by omega, by omega, by omega, by omega, by omega, by omega, by omega, by omega, by omega, by omega, by omega⟩
        simp [zjg, rf, q3, rl, hb1, h3, ne_1]
        refine fin _ ?_ ?_ ?_ fun y hy hne => ?_
        · rw [Heap.put_ne _ _ (by omega), Heap.put_at, snoc]; rfl
        · rw [Heap.put_at]
        · rw [Heap.put_ne _ _ (by omega), Heap.put_ne _ _ (by omega), Heap.put_ne _ _ (by omega), Heap.put_ne _ _ (by omega), Heap.put_at]
        · rw [Heap.put_ne _ _ (by omega), Heap.put_ne _ _ (by omega), Heap.put_ne _ _ (by omega), Heap.put_ne _ _ (by omega), Heap.put_ne _ _ hne]
  · simp [zfh, hg', he]
    refine stop ?_ st1 rfl _ _ h
    rw [hgo]
    simp only [VM.untilF, he, false_and, if_false, List.append_nil]
set_option maxHeartbeats 2000000 in
theorem zub {s : Str} (hl : s.length ≤ 1500) {H0 H : Heap} {n m : Nat} {l : List (Fnc × AV)} {A : AV} {st : VM.St} {K : J3} (h : TPaL s H0 n l A st H m) (he : st.2 = 0)
    (hk : ∀ B H' m', TPaL s H0 n (l ++ [((VM.fnF st).1, B)]) (.slc m' 0 (l.length + 1)) (VM.fnF st).2 H' (m' + 1) → K [.ptr n 0, .slc m' 0 (l.length + 1)] H' (m' + 1)) : za Tryd.prog 43 [.ptr n 0, .int .u8 40] H m (zjd [.ptr n 0, A] K) := by
  have hb := h.bm
  refine zec (by decide) hl h.suf h.rg ?_
  have h1 := h.put (VM.flow_must 40 st) (zz h.suf)
  have hfn : VM.fnF st = (⟨(VM.nF (VM.mustF 40 st)).1, (VM.manyF VM.nF (VM.mustF 40 (VM.nF (VM.mustF 40 st)).2)).1, (VM.manyF (VM.stmtF 11) (VM.manyF VM.nF (VM.mustF 40 (VM.nF (VM.mustF 40 st)).2)).2).1⟩, (VM.manyF (VM.stmtF 11) (VM.manyF VM.nF (VM.mustF 40 (VM.nF (VM.mustF 40 st)).2)).2).2) := rfl
  have hleft := VM.left_lt' VM.nice_fn he
  rw [hfn] at hk hleft
  generalize H.put n _ = H1 at h1 ⊢
  generalize VM.mustF 40 st = s1 at *
  unfold zjd
  refine zqa hl h1.suf h1.rg ?_
  have h2 := h1.put (VM.nice_n.flow s1) (zsq h1.suf)
  generalize H1.put n _ = H2 at h2 ⊢
  generalize VM.nF s1 = nm at *
  simp [znz]
  have hsl := h2.suf.length_le
  have p0 : TPmL s H2 n m nm.1 [] nm.2 (H2.put m (some (.row 3 [.str nm.1, .nils, .nils]))) (m + 1) :=
    ⟨⟨_, Heap.put_at _ _ _, .nil⟩, by rw [Heap.put_ne _ _ (by omega)]; exact h2.rg, by omega, by omega, fun y hy _ => Heap.put_ne _ _ (by omega), by have := VM.left_le nm.2; simp only [List.length_nil]; omega, h2.suf⟩
  generalize H2.put m _ = H3 at p0 ⊢
  refine zec (by decide) hl p0.suf p0.rg ?_
  have p1 := p0.put (VM.flow_must 40 nm.2) (zz p0.suf)
  generalize H3.put n _ = H4 at p1 ⊢
  simp [zoa]
  refine zvk hl p1 fun H5 m5 p2 v => ?_
  generalize VM.manyF VM.nF (VM.mustF 40 nm.2) = ps at *
  simp [zdl]
  refine zoh (d := 11) (zxv hl 11 (by omega)) hl p2.suf p2.rg ?_
  have p3 := p2.put ((VM.nice_many (VM.nice_stmt 11)).flow ps.2) (zee (zks 11) ps.2 p2.suf)
  generalize H5.put n _ = H6 at p3 ⊢
  generalize VM.manyF (VM.stmtF 11) ps.2 = b at *
  obtain ⟨B, rf, rb⟩ := p3.rf
  have hfm := p3.fm
  have hB1 := rb.one
  have out := h2.out
  have hfew := h.few
  have hsuf := p3.suf
  cases out with
  | nil =>
    have ne_2 : n ≠ m ∧ m ≠ n ∧ n ≠ m5 ∧ m5 ≠ n ∧ n ≠ m5 + 1 ∧ m5 + 1 ≠ n ∧ m ≠ m5 ∧ m5 ≠ m ∧ m ≠ m5 + 1 ∧ m5 + 1 ≠ m := ⟨by omega, by omega, by omega, by omega, by omega, by omega, by omega, by omega, by omega, by omega⟩
    simp [zjf, rf, hB1]
    refine hk B _ (m5 + 1) ⟨?_, ?_, by omega, fun y hy => ?_, ?_, hsuf⟩
    · rw [Heap.put_ne _ _ (by omega), Heap.put_ne _ _ (by omega), Heap.put_ne _ _ (by omega)]; exact p3.rg
    · refine OutS.row (l := [(_, B)]) (by omega) (by omega) (Heap.put_at _ _ _) fun p hp => ?_
      rw [List.mem_singleton.1 hp]
      exact rb.ps (by omega) (by omega) (by omega) fun y h1 h2 => by rw [Heap.put_ne _ _ (by omega), Heap.put_ne _ _ (by omega), Heap.put_ne _ _ (by omega)]
    · rw [Heap.put_ne _ _ (by omega), Heap.put_ne _ _ (by omega), Heap.put_ne _ _ (by omega), p3.keep y (by omega) (by omega)]; exact h2.keep y hy
    · have := h.few; simp only [List.length_append, List.length_cons, List.length_nil] at *; omega
  | @row l ga a1 a2 a4 a5 =>
    have hg6 : H6 ga = some (.row 3 (l.map rawF).flatten) := by rw [p3.keep ga a2 (by omega)]; exact a4
    have rl := zeh ztg l
    have h1 : (l.length + 1) * 64 ≤ 140737488355328 := by omega
    generalize hrr : (l.map rawF).flatten = rr at rl hg6
    have h3 : rr.take (l.length * 3) = rr := List.take_of_length_le (by omega)
    have ne_3 : n ≠ m ∧ m ≠ n ∧ n ≠ ga ∧ ga ≠ n ∧ m ≠ ga ∧ ga ≠ m ∧ n ≠ m5 ∧ m5 ≠ n ∧ n ≠ m5 + 1 ∧ m5 + 1 ≠ n ∧ m ≠ m5 ∧ m5 ≠ m ∧ m ≠ m5 + 1 ∧ m5 + 1 ≠ m ∧ ga ≠ m5 ∧ m5 ≠ ga ∧ ga ≠ m5 + 1 ∧ m5 + 1 ≠ ga := ⟨by omega, by omega, by omega, by omega, by omega, by omega, by omega, by omega, by omega, by omega, by omega, by omega, by omega, by omega, by omega, by omega, by omega, by omega⟩
    simp [zjf, rf, hB1, hg6, rl, h1, h3, ne_3]
    refine hk B _ (m5 + 1) ⟨?_, ?_, by omega, fun y hy => ?_, ?_, hsuf⟩
    · rw [Heap.put_ne _ _ (by omega), Heap.put_ne _ _ (by omega), Heap.put_ne _ _ (by omega), Heap.put_ne _ _ (by omega)]; exact p3.rg
    · have := OutS.row (H := (((H6.put m (some (.row 3 [.str nm.1, B, .ro (b.1.map Sm.avs)]))).put m5 (some (.row 3 [.str nm.1, B, .ro (b.1.map Sm.avs)]))).put ga none).put (m5 + 1) (some (.row 3 (rr ++ [.str nm.1, B, .ro (b.1.map Sm.avs)])))) (lo := n + 1) (hi := m5 + 1 + 1) (l := l ++ [((⟨nm.1, ps.1, b.1⟩ : Fnc), B)]) (ga := m5 + 1) (by omega) (by omega) (by rw [Heap.put_at, zbr, hrr]; rfl) fun p hp => ?_
      · rw [List.length_append] at this
        exact this
      · rcases List.mem_append.1 hp with hp | hp
        · exact (a5 p hp).keep (by omega) (.inr (by omega)) fun y h1 h2 h3 => by rw [Heap.put_ne _ _ (by omega), Heap.put_ne _ _ h3, Heap.put_ne _ _ (by omega), Heap.put_ne _ _ (by omega), p3.keep y h2 (by omega)]
        · rw [List.mem_singleton.1 hp]
          exact rb.ps (by omega) (by omega) (by omega) fun y h1 h2 => by rw [Heap.put_ne _ _ (by omega), Heap.put_ne _ _ (by omega), Heap.put_ne _ _ (by omega), Heap.put_ne _ _ (by omega)]
    · rw [Heap.put_ne _ _ (by omega), Heap.put_ne _ _ (by omega), Heap.put_ne _ _ (by omega), Heap.put_ne _ _ (by omega), p3.keep y (by omega) (by omega)]; exact h2.keep y hy
    · have := h.few; simp only [List.length_append, List.length_cons, List.length_nil] at *; omega
set_option maxHeartbeats 2000000 in
theorem zwp (s : Str) : QC Tryd.prog 21 [.str s] (.tup [.ro ((VM.parseF s).1.map Fnc.avs), .int .i64 (VM.parseF s).2]) := by
  refine QC.of' fun H n => ?_
  suffices main : ∀ Q : QT, (∀ v H' n', Frz H' n v (.tup [.ro ((VM.parseF s).1.map Fnc.avs), .int .i64 (VM.parseF s).2]) → Keep n H' H → Q v H' n') → za Tryd.prog 21 [.str s] H n Q from main _ fun v H' n' a b => ⟨a, b⟩
  intro Q hq
  refine zqc _ _ _ _ ?_
  have none_ : ∀ (e : Int), VM.parseF s = ([], e) → ∀ H' n', Keep n H' H → Q (.tup [.nils, .int .i64 e]) H' n' := by
    intro e he H' n' hK
    rw [he] at hq
    exact hq _ _ _ (.tup2 .nils (.same _ (.int _ _))) hK
  by_cases hs : 1500 < s.length
  · have hs' : (1500 : Int) < s.length := by omega
    have e : VM.parseF s = ([], 4) := by unfold VM.parseF; rw [if_pos hs]
    simp [zja, hs']
    exact none_ 4 e H n (by simp)
  · have hs' : ¬ (1500 : Int) < s.length := by omega
    have hl : s.length ≤ 1500 := by omega
    have hpf : VM.parseF s = if (VM.fnsF (s.length + 2) (s, 0)).2.2 ≠ 0 then ([], (VM.fnsF (s.length + 2) (s, 0)).2.2) else ((VM.fnsF (s.length + 2) (s, 0)).1, 0) := by unfold VM.parseF; rw [if_neg hs]
    simp [zja, hs']
    have h0 : TPaL s H n [] .nils (s, 0) (H.put n (some (.row 3 [.str s, .int .i64 0, .int .i64 0]))) (n + 1) :=
      ⟨by rw [Heap.put_at]; simp [PT], .nil, by omega, fun y hy => by rw [Heap.put_ne _ _ (by omega)], by have := VM.left_le (s, 0); simp only [List.length_nil] at *; omega, List.suffix_refl _⟩
    generalize Heap.put H n _ = H1 at h0 ⊢
    refine LP.mk (fun k xs H' n' => ∃ l A st, xs = [.ptr n 0, A] ∧ TPaL s H n l A st H' n' ∧ VM.left st < k ∧ VM.fnsF (s.length + 2) (s, 0) = (l.map (·.1) ++ (VM.fnsF k st).1, (VM.fnsF k st).2)) (s.length + 2) ⟨[], _, _, rfl, h0, VM.left_le (s, 0), rfl⟩ ?_
    rintro k xs H' n' ⟨l, A, st, rfl, h, hle, hgo⟩
    generalize hJ : (fun (xs : List AV) (H' : Heap) (n' : Nat) => ∃ j, j < k ∧ ∃ l A st, xs = [.ptr n 0, A] ∧ TPaL s H n l A st H' n' ∧ VM.left st < j ∧ VM.fnsF (s.length + 2) (s, 0) = (l.map (·.1) ++ (VM.fnsF j st).1, (VM.fnsF j st).2)) = J
    obtain ⟨k, rfl⟩ : ∃ j, k = j + 1 := ⟨k - 1, by omega⟩
    have rg : H' n = some (.row 3 [.str s, .int .i64 ((s.length - st.1.length : Nat) : Int), .int .i64 st.2]) := h.rg
    by_cases he : st.2 = 0
    · simp [zjb, rg, he]
      refine zia hl h.suf h.rg ?_
      have h1 := h.put (st' := (VM.trim st.1, st.2)) ⟨VM.trim_le _, id⟩ (zbd h.suf)
      generalize H'.put n _ = H2 at h1 ⊢
      have qg : H2 n = some (.row 3 [.str s, .int .i64 ((s.length - (VM.trim st.1).length : Nat) : Int), .int .i64 st.2]) := h1.rg
      by_cases hn : VM.nxt st.1 = 0
      · have e : VM.parseF s = (l.map (·.1), 0) := by
          rw [hpf, hgo]
          simp only [VM.fnsF, he, hn, ne_eq, not_true_eq_false, and_false, if_false, if_true, List.append_nil]
        simp [zjc, hn, qg, he]
        refine hq _ _ _ ?_ fun y hy => h1.keep y hy
        rw [e]
        refine .tup2 ?_ (.same _ (.int _ _))
        have := h1.out.frz (N := n) (by omega)
        rw [List.map_map]
        exact this
      · simp [zjc, hn]
        refine zub hl h1 he fun B H3 m3 h3 => ?_
        rw [← hJ]
        have hl := VM.left_lt VM.nice_fn (st := st) he
        rw [he] at h3
        refine ⟨k, by omega, _, _, _, rfl, h3, by omega, ?_⟩
        rw [hgo]
        simp only [VM.fnsF, he, hn, ne_eq, not_false_eq_true, and_true, if_true, List.map_append, List.map_cons, List.map_nil, List.append_assoc, List.singleton_append]
    · have e : VM.parseF s = ([], st.2) := by
        have e2 : VM.fnsF (k + 1) st = ([], st) := by
          unfold VM.fnsF
          rw [if_neg (by simp [he]), if_neg he]
        rw [hpf, hgo, e2]
        simp only
        rw [if_pos he]
      simp [zjb, rg, he]
      exact none_ _ e H' n' fun y hy => h.keep y hy
end Go.Proofs.YtpllgpgdcbgalaaDoor
set_option maxRecDepth 8000
namespace Go.Proofs.YtpllgpgdcbgalaaDoor
open Go Go.RowKit
namespace VM
mutual
def exW : Ex → Nat
  | .mk _ _ _ ar => 1 + exWL ar
def exWL : List Ex → Nat
  | [] => 0
  | x :: r => exW x + exWL r
end
theorem exW_pos : ∀ x : Ex, 1 ≤ exW x
  | .mk _ _ _ _ => by unfold exW; omega
theorem len_exWL : ∀ l : List Ex, l.length ≤ exWL l
  | [] => by simp
  | x :: r => by have := exW_pos x; have := len_exWL r; unfold exWL; rw [List.length_cons]; omega
end VM
end Go.Proofs.YtpllgpgdcbgalaaDoor
set_option maxRecDepth 8000
namespace Go.Proofs.YtpllgpgdcbgalaaDoor
open Go Go.RowKit
theorem RowS.arg {H : Heap} {lo m : Nat} {names : List Str} {a : AV} (h : RowS strC 1 H lo m names a) : zbg H m 1 (names.map strC) a := by
  cases h with
  | nil => exact .nils rfl
  | row h1 h2 h3 => have := zbg.slc (xs := names.map strC) (sz := 1) _ h2 h3; rw [List.length_map] at this; exact this
structure OwN (gk : Nat) (A : AV) (lo : Nat) (names : List Str) (H : Heap) (m : Nat) (a : AV) : Prop where
  row : RowS strC 1 H lo m names a
  far : ∀ y ∈ owns a, y ≠ gk ∧ y ∉ owns A
theorem OwN.ext {gk lo m m' : Nat} {A A' a : AV} {H H' : Heap} {names : List Str} (h : OwN gk A lo names H m a) (e : Ext gk A H m A' H' m') : OwN gk A' lo names H' m' a := by
  have hle := e.le
  obtain ⟨h1, h2⟩ := h
  cases h1 with
  | nil => exact ⟨.nil, fun y hy => by simp [owns] at hy⟩
  | row q0 q1 q2 =>
    rename_i ga
    have hg := h2 ga (by simp [owns])
    refine ⟨.row q0 (by omega) (by rw [e.keep _ q1 hg.1 hg.2]; exact q2), fun y hy => ?_⟩
    simp [owns] at hy
    subst hy
    exact ⟨hg.1, fun hy2 => (e.own _ hy2).elim hg.2 (by omega)⟩
theorem LkM.old {gk gm m m' : Nat} {fns : List (Str × Nat)} {vars : Int} {ws : List Str} {A : AV} {H H' : Heap} (h : LkM gk gm fns vars ws A H m) (hm : m ≤ m') (hk : ∀ y, y < m → H' y = H y) : LkM gk gm fns vars ws A H' m' := by
  have h1 := h.gg
  have h2 := h.gn
  exact ⟨by rw [hk _ h2]; exact h.row, h.wr.keep hm fun y _ hy => hk y hy, by rw [hk _ (by omega)]; exact h.map, h1, by omega⟩
end Go.Proofs.YtpllgpgdcbgalaaDoor
set_option maxRecDepth 8000
namespace Go.Proofs.YtpllgpgdcbgalaaDoor
open Go Go.RowKit
namespace VM
mutual
def smW : Sm → Nat
  | .mk _ _ ar t e => 1 + exWL ar + smWL t + smWL e
def smWL : List Sm → Nat
  | [] => 0
  | x :: r => smW x + smWL r
end
end VM
end Go.Proofs.YtpllgpgdcbgalaaDoor
set_option maxRecDepth 8000
namespace Go.Proofs.YtpllgpgdcbgalaaDoor
open Go Go.RowKit
namespace VM
end VM
theorem Ext.old {gk m0 m m' : Nat} {A0 A : AV} {H0 H H' : Heap} (h : Ext gk A0 H0 m0 A H m) (hm : m ≤ m') (hk : ∀ y, y < m0 → y ≠ gk → H' y = H y) : Ext gk A0 H0 m0 A H' m' := by
  have h1 := h.le
  exact ⟨by omega, fun y hy hne hno => by rw [hk y hy hne]; exact h.keep y hy hne hno, h.own⟩
end Go.Proofs.YtpllgpgdcbgalaaDoor
set_option maxRecDepth 8000
namespace Go.Proofs.YtpllgpgdcbgalaaDoor
open Go Go.RowKit
namespace VM
end VM
end Go.Proofs.YtpllgpgdcbgalaaDoor
set_option maxRecDepth 8000
namespace Go.Proofs.YtpllgpgdcbgalaaDoor
open Go Go.RowKit
theorem zaaa : ∀ x : Sm, 1 ≤ VM.smW x
  | .mk _ _ _ _ _ => by unfold VM.smW; omega
theorem zti : ∀ l : List Sm, l.length ≤ VM.smWL l
  | [] => by simp
  | x :: r => by have := zaaa x; have := zti r; unfold VM.smWL; rw [List.length_cons]; omega
end Go.Proofs.YtpllgpgdcbgalaaDoor
set_option maxRecDepth 8000
namespace Go.Proofs.YtpllgpgdcbgalaaDoor
open Go Go.RowKit
def zgm : List Fnc → Nat
  | [] => 0
  | f :: r => f.params.length + VM.smWL f.body + zgm r
end Go.Proofs.YtpllgpgdcbgalaaDoor
set_option maxRecDepth 8000
namespace Go.Proofs.YtpllgpgdcbgalaaDoor
open Go Go.RowKit
end Go.Proofs.YtpllgpgdcbgalaaDoor
set_option maxRecDepth 8000
namespace Go.Proofs.YtpllgpgdcbgalaaDoor
open Go Go.RowKit
def wRow (ws : List Str) : List (AV × AV) := ws.map fun w => (AV.str w, AV.bool true)
structure RfM (gk gf gw : Nat) (fns : List (Str × Nat)) (vars : Int) (ws : List Str) (H : Heap) (m : Nat) : Prop where
  row : H gk = some (.row 3 [.amap gf, .int .i64 vars, .amap gw])
  map : H gf = some (.mp (fns.map fun p => (.str p.1, .int .i64 p.2)))
  wds : H gw = some (.mp (wRow ws))
  gf0 : gf < gw
  gw0 : gw < gk
  gn : gk < m
end Go.Proofs.YtpllgpgdcbgalaaDoor
set_option maxRecDepth 8000
namespace Go.Proofs.YtpllgpgdcbgalaaDoor
open Go Go.RowKit
structure RExt (gk gw : Nat) (H : Heap) (m : Nat) (H' : Heap) (m' : Nat) : Prop where
  le : m ≤ m'
  keep : ∀ y, y < m → y ≠ gk → y ≠ gw → H' y = H y
theorem RExt.refl (gk gw : Nat) (H : Heap) (m : Nat) : RExt gk gw H m H m := ⟨Nat.le_refl _, fun _ _ _ _ => rfl⟩
theorem RExt.trans {gk gw m1 m2 m3 : Nat} {H1 H2 H3 : Heap} (h : RExt gk gw H1 m1 H2 m2) (k : RExt gk gw H2 m2 H3 m3) : RExt gk gw H1 m1 H3 m3 := by
  have h1 := h.le
  have h2 := k.le
  exact ⟨by omega, fun y hy a b => by rw [k.keep y (by omega) a b]; exact h.keep y hy a b⟩
structure RNm (gk gw : Nat) (names : List Str) (H : Heap) (m : Nat) (a : AV) : Prop where
  arg : zbg H m 1 (names.map strC) a
  far : ∀ y ∈ owns a, y ≠ gk ∧ y ≠ gw
theorem RNm.ext {gk gw m m' : Nat} {H H' : Heap} {names : List Str} {a : AV} (h : RNm gk gw names H m a) (e : RExt gk gw H m H' m') : RNm gk gw names H' m' a := by
  have hle := e.le
  obtain ⟨h1, h2⟩ := h
  cases h1 with
  | ro => exact ⟨.ro, h2⟩
  | nils h => exact ⟨.nils h, h2⟩
  | slc g q1 q2 =>
    have hg := h2 g (by simp [owns])
    exact ⟨.slc g (by omega) (by rw [e.keep g q1 hg.1 hg.2]; exact q2), h2⟩
end Go.Proofs.YtpllgpgdcbgalaaDoor
set_option maxRecDepth 8000
namespace Go.Proofs.YtpllgpgdcbgalaaDoor
open Go Go.RowKit
end Go.Proofs.YtpllgpgdcbgalaaDoor
set_option maxRecDepth 8000
namespace Go.Proofs.YtpllgpgdcbgalaaDoor
open Go Go.RowKit
structure RbS (gk gf gw : Nat) (fns : List (Str × Nat)) (H0 : Heap) (m0 : Nat) (names : List Str) (vars : Int) (ws : List Str) (a : AV) (H : Heap) (m : Nat) : Prop where
  rf : RfM gk gf gw fns vars ws H m
  nm : RNm gk gw names H m a
  ext : RExt gk gw H0 m0 H m
  v0 : 0 ≤ vars
  v8 : vars ≤ 8
theorem RbS.ext' {gk gf gw : Nat} {fns : List (Str × Nat)} {H0 H H' : Heap} {m0 m m' : Nat} {names : List Str} {vars vars' : Int} {ws ws' : List Str} {a : AV} (h : RbS gk gf gw fns H0 m0 names vars ws a H m) (e : RExt gk gw H m H' m') (r : RfM gk gf gw fns vars' ws' H' m') (h0 : 0 ≤ vars') (h8 : vars' ≤ 8) : RbS gk gf gw fns H0 m0 names vars' ws' a H' m' :=
  ⟨r, h.nm.ext e, h.ext.trans e, h0, h8⟩
end Go.Proofs.YtpllgpgdcbgalaaDoor
set_option maxRecDepth 8000
namespace Go.Proofs.YtpllgpgdcbgalaaDoor
open Go Go.RowKit
theorem RfM.old {gk gf gw m m' : Nat} {fns : List (Str × Nat)} {vars : Int} {ws : List Str} {H H' : Heap} (h : RfM gk gf gw fns vars ws H m) (hm : m ≤ m') (hk : ∀ y, y < m → H' y = H y) : RfM gk gf gw fns vars ws H' m' := by
  have h1 := h.gf0
  have h2 := h.gw0
  have h3 := h.gn
  exact ⟨by rw [hk _ h3]; exact h.row, by rw [hk _ (by omega)]; exact h.map, by rw [hk _ (by omega)]; exact h.wds, h1, h2, by omega⟩
theorem RExt.old {gk gw m m' : Nat} {H H' : Heap} (hm : m ≤ m') (hk : ∀ y, y < m → H' y = H y) : RExt gk gw H m H' m' := ⟨hm, fun y hy _ _ => hk y hy⟩
theorem RExt.gk {gk gw m m' : Nat} {H H' : Heap} (hm : m ≤ m') (hk : ∀ y, y < m → y ≠ gk → H' y = H y) : RExt gk gw H m H' m' := ⟨hm, fun y hy h _ => hk y hy h⟩
end Go.Proofs.YtpllgpgdcbgalaaDoor
set_option maxRecDepth 8000
namespace Go.Proofs.YtpllgpgdcbgalaaDoor
open Go Go.RowKit
end Go.Proofs.YtpllgpgdcbgalaaDoor
set_option maxRecDepth 8000
namespace Go.Proofs.YtpllgpgdcbgalaaDoor
open Go Go.RowKit
@[simp ↓] theorem zajh {g : Nat} {H : Heap} {k : AV → Prop} : LNM (.amap g) H k = MAPK (H g) fun es => k (.int .i64 (es.length : Int)) := by
  simp only [LNM, LENM, MAPK]
  cases hg : H g with
  | none => simp
  | some o => cases o <;> simp [qk]
end Go.Proofs.YtpllgpgdcbgalaaDoor
set_option maxRecDepth 8000
namespace Go.Proofs.YtpllgpgdcbgalaaDoor
open Go Go.RowKit
end Go.Proofs.YtpllgpgdcbgalaaDoor
set_option maxRecDepth 8000
namespace Go.Proofs.YtpllgpgdcbgalaaDoor
open Go Go.RowKit
namespace VM
theorem exWL_sum : ∀ l : List Ex, exWL l = (l.map exW).sum
  | [] => by simp [exWL]
  | x :: r => by simp [exWL, exWL_sum r]
theorem smWL_sum : ∀ l : List Sm, smWL l = (l.map smW).sum
  | [] => by simp [smWL]
  | x :: r => by simp [smWL, smWL_sum r]
def Fits {α : Type} (m : St → α × St) (w : α → Nat) : Prop := ∀ st, (m st).2.2 = 0 → w (m st).1 + (m st).2.1.length ≤ st.1.length
theorem until_zero {α : Type} {m : St → α × St} : ∀ (k : Nat) (st : St), (untilF m k st).2.2 = 0 → st.2 = 0
  | 0, st, h => h
  | k + 1, st, h => by
    unfold untilF at h
    split at h
    · rename_i hc; exact hc.1
    · exact not_zero must_stuck h
theorem Fits.until {α : Type} {m : St → α × St} {w : α → Nat} (hf : Fits m w) : ∀ (k : Nat) (st : St), (untilF m k st).2.2 = 0 → ((untilF m k st).1.map w).sum + (untilF m k st).2.1.length ≤ st.1.length
  | 0, st, _ => by simp [untilF]
  | k + 1, st, h => by
    unfold untilF at h ⊢
    split
    · rename_i hc
      rw [if_pos hc] at h
      have h1 := hf.until k _ h
      have h2 := hf (trim st.1, 0) (until_zero k _ h)
      have h3 := trim_le st.1
      simp only [List.map_cons, List.sum_cons] at *
      omega
    · have := must_le 41 st
      simp only [List.map_nil, List.sum_nil]
      omega
theorem Fits.many {α : Type} {m : St → α × St} {w : α → Nat} (hf : Fits m w) : Fits (manyF m) (fun l => (l.map w).sum) := fun st h => hf.until _ st h
theorem fits_one {α : Type} {m : St → α × St} (hm : Nice m) : Fits m (fun _ => 1) := fun st h => by
  have := hm.eats st (not_zero (hm.stuck st) h) h
  show 1 + _ ≤ _
  omega
theorem Fits.times {α : Type} {m : St → α × St} {w : α → Nat} (hm : Nice m) (hf : Fits m w) : ∀ (k : Nat), Fits (timesF m k) (fun l => (l.map w).sum)
  | 0 => fun st _ => by simp [timesF]
  | k + 1 => fun st h => by
    unfold timesF at h ⊢
    have h1 := Fits.times hm hf k _ h
    have h2 := hf st ((flow_times hm k _).2 h)
    simp only [List.map_cons, List.sum_cons] at *
    omega
theorem fits_form {m : St → Ex × St} (hm : Nice m) (hf : Fits m exW) (w : Str) (st : St) (h : (formF m w st).2.2 = 0) : exW (formF m w st).1 + (formF m w st).2.1.length ≤ st.1.length + 1 := by
  have key : ∀ s : St, (manyF m s).2.2 = 0 → exWL (manyF m s).1 + (manyF m s).2.1.length ≤ s.1.length := fun s h => by rw [exWL_sum]; exact hf.many s h
  unfold formF at *
  cases hw : headOf w with
  | some p =>
    obtain ⟨k, n, want⟩ := p
    rw [hw] at h
    dsimp only at *
    split at h
    · rename_i hc; rw [if_pos hc]; have := key _ h; unfold exW; omega
    · exact absurd h (bad_err (by decide))
  | none =>
    rw [hw] at h
    dsimp only at *
    have hs : (if name w then st else badF 7 st).1.length = st.1.length := by split <;> rfl
    generalize (if name w = true then st else badF 7 st) = s at *
    split at h
    · rename_i hc; rw [if_pos hc]; have := key _ h; unfold exW; omega
    · exact absurd h (bad_err (by decide))
theorem leaf_quoted (t : Str) (e : Int) : exW (quotedF t e).1 = 1 := by
  unfold quotedF
  split <;> simp [exW, exWL]
theorem leaf_plain (st : St) : exW (plainF st).1 = 1 := by
  unfold plainF
  split <;> simp [exW, exWL]
theorem fits_expr : ∀ d, Fits (exprF d) exW
  | 0 => fun st h => absurd h (bad_err (by decide))
  | d + 1 => fun st h => by
    have ih := fits_expr d
    have eats := (nice_expr (d + 1)).eats st (not_zero ((nice_expr (d + 1)).stuck st) h) h
    have ht := trim_le st.1
    unfold exprF at *
    split at h
    · rename_i hc; exact absurd h hc
    · rename_i hc
      rw [if_neg hc] at *
      split at h
      · rename_i h2
        rw [if_pos h2] at *
        rw [leaf_quoted]; omega
      · rename_i h2
        rw [if_neg h2] at *
        split at h
        · rename_i h3
          rw [if_pos h3] at *
          rw [leaf_plain]; omega
        · rename_i h3
          rw [if_neg h3] at *
          have h4 := fits_form (nice_expr d) ih _ _ h
          have h5 := w_eats (form_zero (nice_expr d) h)
          simp only [List.length_drop] at h5
          have h6 : nxt st.1 = 40 := by simpa using h3
          have h7 : nxt st.1 ≠ 0 := by rw [h6]; decide
          have : 0 < (trim st.1).length := by
            obtain ⟨c, r, hc⟩ := zem h7
            rw [hc]; simp
          omega
theorem fits_stmt : ∀ d, Fits (stmtF d) smW
  | 0 => fun st h => absurd h (bad_err (by decide))
  | d + 1 => fun st h => by
    have ih := fits_stmt d
    have hM : ∀ s : St, (manyF (stmtF d) s).2.2 = 0 → smWL (manyF (stmtF d) s).1 + (manyF (stmtF d) s).2.1.length ≤ s.1.length := fun s h => by rw [smWL_sum]; exact ih.many s h
    have fM : ∀ s : St, Flow s (manyF (stmtF d) s).2 := fun s => (nice_many (nice_stmt d)).flow s
    by_cases hc : st.2 ≠ 0
    · unfold stmtF at h; rw [if_pos hc] at h; exact absurd h hc
    · simp only [stmtF] at h ⊢
      rw [if_neg hc] at h ⊢
      have f1 := flow_w (mustF 40 st)
      have w1 := w_eats (st := mustF 40 st)
      have m1 := must_le 40 st
      generalize wF (mustF 40 st) = w at *
      have f2 : Flow w.2 (if stKind w.1 = 0 then badF 1 w.2 else w.2) := by
        split
        · exact flow_bad 1 _
        · exact .refl _
      generalize (if stKind w.1 = 0 then badF 1 w.2 else w.2) = s1 at *
      have f3 := flow_nm (stKind w.1) s1
      generalize nmF (stKind w.1) s1 = nm at *
      have f4 := flow_times (nice_expr d) (argsOf (stKind w.1)) nm.2
      have e4 := (fits_expr d).times (nice_expr d) (argsOf (stKind w.1)) nm.2
      generalize timesF (exprF d) (argsOf (stKind w.1)) nm.2 = a at *
      have f5 := (f2.trans f3).trans f4
      simp only [← exWL_sum] at e4
      have fin : a.2.2 = 0 → 1 + exWL a.1 + a.2.1.length ≤ st.1.length := fun ha => by
        have h1 := e4 ha
        have h2 := w1 (f5.2 ha)
        have h3 := (f2.trans f3).1
        omega
      by_cases h3 : stKind w.1 = 3
      · rw [if_pos h3] at h ⊢
        simp only [smW]
        have g1 := (flow_must 41 _).2 h
        have g2 := hM _ g1
        have g3 := (flow_must 40 _).2 ((fM _).2 g1)
        have g4 := hM _ g3
        have g5 := (flow_must 40 _).2 ((fM _).2 g3)
        have g6 := fin g5
        have q1 := must_le 41 (manyF (stmtF d) (mustF 40 (manyF (stmtF d) (mustF 40 a.2)).2)).2
        have q2 := must_le 40 (manyF (stmtF d) (mustF 40 a.2)).2
        have q3 := must_le 40 a.2
        omega
      · rw [if_neg h3] at h ⊢
        by_cases h4 : stKind w.1 = 4
        · rw [if_pos h4] at h ⊢
          simp only [smW, smWL]
          have g1 := hM _ h
          have g2 := fin ((fM _).2 h)
          omega
        · rw [if_neg h4] at h ⊢
          simp only [smW, smWL]
          have g2 := fin ((flow_must 41 _).2 h)
          have q1 := must_le 41 a.2
          omega
def fncW (f : Fnc) : Nat := f.params.length + smWL f.body
theorem sum_one {α : Type} (l : List α) : (l.map fun _ => 1).sum = l.length := by
  induction l with
  | nil => rfl
  | cons x r ih => simp [ih]; omega
theorem fits_fn : Fits fnF fncW := fun st h => by
  unfold fnF at *
  simp only [fncW] at *
  have b1 := (fits_stmt 11).many _ h
  have b2 := (fits_one nice_n).many _ ((nice_many (nice_stmt 11)).flow _ |>.2 h)
  have b3 := must_le 40 (nF (mustF 40 st)).2
  have b4 := (zzr (mustF 40 st)).2
  have b5 := must_le 40 st
  simp only [← smWL_sum] at b1
  simp only [sum_one] at b2
  omega
theorem fits_fns : ∀ (k : Nat) (st : St), (fnsF k st).2.2 = 0 → zgm (fnsF k st).1 + (fnsF k st).2.1.length ≤ st.1.length
  | 0, st, _ => by simp [fnsF, zgm]
  | k + 1, st, h => by
    unfold fnsF at h ⊢
    have zero : ∀ (k : Nat) (st : St), (fnsF k st).2.2 = 0 → st.2 = 0 := fun k st h => by
      cases k with
      | zero => exact h
      | succ k =>
        unfold fnsF at h
        split at h
        · rename_i hc; exact hc.1
        · exact h
    split
    · rename_i hc
      rw [if_pos hc] at h
      have h1 := fits_fns k _ h
      have h2 := fits_fn (trim st.1, 0) (zero k _ h)
      have h3 := trim_le st.1
      simp only [zgm, fncW] at *
      omega
    · have h3 := trim_le st.1
      simp only [zgm]
      split <;> (try simp only) <;> omega
theorem parse_fits (s : Str) (h : (parseF s).2 = 0) : zgm (parseF s).1 ≤ 1500 := by
  unfold parseF at *
  split at h
  · cases h
  · rename_i h1
    rw [if_neg h1] at *
    split at h
    · rename_i h2; exact absurd h h2
    · rename_i h2
      rw [if_neg h2]
      have := fits_fns (s.length + 2) (s, 0) (by simpa using h2)
      simp only at *
      omega
end VM
end Go.Proofs.YtpllgpgdcbgalaaDoor
