/- The parser's expressions: the heads of forms; expressions as a whole. The parser's statements: up to a bracket. What the library's functions on texts answer: strings.Contains, strings.IndexByte. What is to be shown of each function, written out. The program's parser: its small functions. -/
import Derived.Test.YtpllgpgdcbgalaaDoorG7
import Derived.Test.YtpllgpgdcbgalaaDoorG6
import Derived.Test.YtpllgpgdcbgalaaDoorG5
set_option linter.unusedSimpArgs false
set_option linter.unusedVariables false
set_option maxRecDepth 8000
namespace Go.Proofs.YtpllgpgdcbgalaaDoor
open Go Go.RowKit
def zzv (H0 : Heap) (n g d : Nat) (w : Str) (st : VM.St) (p : Hd) (Q : QT) : Prop := ∀ s1, s1 = (if 0 ≤ p.want then st else if VM.name w then st else VM.badF 7 st) → ExQ H0 n g (.agg (Ex.mk p.k p.z p.t (VM.manyF (VM.exprF d) s1).1).avs) (if fits p.want (VM.manyF (VM.exprF d) s1).1.length then (VM.manyF (VM.exprF d) s1).2 else VM.badF 5 (VM.manyF (VM.exprF d) s1).2) Q
theorem zxc {l : List Str} {i : Nat} (h : i < l.length) : (l.map AV.str)[i]? = some (.str (l.getD i [])) := by
  rw [List.getElem?_map, List.getElem?_eq_getElem h, List.getD_eq_getElem?_getD, List.getElem?_eq_getElem h]; rfl
set_option maxHeartbeats 1000000 in
theorem zaal {d : Nat} (hE : zgs d) (hd : d ≤ 11) {H0 H : Heap} {n g gx m : Nat} {st : VM.St} {p : Hd} {w : Str} {Q : QT} (h : FmH H0 n g gx (10 - (d : Int)) st p H) (hm : gx + 2 < m) (hs : st.1.length ≤ 1500) (hw : w.length ≤ 1500)
    (ho : H (gx + 2) = some (.row 1 (ops6.map AV.str))) (hq : zzv H0 n g d w st (st6 w p 6) Q) :
    LP (zbv Q) [.ptr n 0, .ptr (n + 1) 0, .ptr (n + 2) 0, .str w, .ptr gx 0, .int .i64 p.want, .slc (gx + 2) 0 6, .int .i64 6, .int .i64 0] H m := by
  refine LP.mk (fun k xs H' n' => ∃ i : Nat, i ≤ 6 ∧ k = 6 - i ∧ xs = [.ptr n 0, .ptr (n + 1) 0, .ptr (n + 2) 0, .str w, .ptr gx 0, .int .i64 (st6 w p i).want, .slc (gx + 2) 0 6, .int .i64 6, .int .i64 i] ∧ FmH H0 n g gx (10 - (d : Int)) st (st6 w p i) H' ∧ H' (gx + 2) = some (.row 1 (ops6.map AV.str)) ∧ gx + 2 < n') 6 ⟨0, by omega, by omega, rfl, h, ho, hm⟩ ?_
  rintro k xs H' n' ⟨i, hi, rfl, rfl, h, ho, hm⟩
  generalize hJ : (fun (xs : List AV) (H : Heap) (nx : Nat) => ∃ k, k < 6 - i ∧ ∃ i : Nat, i ≤ 6 ∧ k = 6 - i ∧ xs = [.ptr n 0, .ptr (n + 1) 0, .ptr (n + 2) 0, .str w, .ptr gx 0, .int .i64 (st6 w p i).want, .slc (gx + 2) 0 6, .int .i64 6, .int .i64 i] ∧ FmH H0 n g gx (10 - (d : Int)) st (st6 w p i) H ∧ H (gx + 2) = some (.row 1 (ops6.map AV.str)) ∧ gx + 2 < nx) = J
  by_cases hlt : i < 6
  · have hi' : (i : Int) < 6 := by omega
    have hi0 : (0 : Int) ≤ i := by omega
    have hx := zxc (l := ops6) (i := i) hlt
    have hwr : IntKind.i64.wrap ((i : Int) + 1) = (i : Int) + 1 := i64w (by omega)
    have hwr5 : IntKind.i64.wrap (5 + (i : Int)) = 5 + (i : Int) := i64w (by omega)
    have rx := h.rx
    have e1 : st6 w p (i + 1) = if ops6.getD i [] = w then ⟨5 + i, 0, [], zip.getD i 0⟩ else st6 w p i := rfl
    generalize ops6.getD i [] = op at hx e1
    by_cases he : op = w
    · rw [if_pos he] at e1
      subst he
      have hwx : [AV.int .i64 2, .int .i64 1, .int .i64 1, .int .i64 1, .int .i64 0, .int .i64 1][i]? = some (.int .i64 (zip.getD i 0)) := by
        have : i = 0 ∨ i = 1 ∨ i = 2 ∨ i = 3 ∨ i = 4 ∨ i = 5 := by omega
        rcases this with rfl | rfl | rfl | rfl | rfl | rfl <;> rfl
      generalize zip.getD i 0 = wi at hwx e1
      simp only [Hd.avs] at rx
      have ne_0 : gx ≠ gx + 2 ∧ gx + 2 ≠ gx ∧ gx ≠ n' ∧ n' ≠ gx ∧ gx + 2 ≠ n' ∧ n' ≠ gx + 2 := ⟨by omega, by omega, by omega, by omega, by omega, by omega⟩
      simp [zbv, hi', hi0, ho, hx, hwr5, hwr, hwx, rx, ne_0]
      rw [← hJ]
      refine ⟨6 - (i + 1), by omega, i + 1, by omega, rfl, by rw [e1]; rfl, ?_, ?_, by omega⟩
      · rw [e1]
        exact (h.put (x := n') (by omega)).head (q := ⟨5 + i, 0, [], wi⟩)
      · rw [Heap.put_ne _ _ (by omega), Heap.put_ne _ _ (by omega)]; exact ho
    · rw [if_neg he] at e1
      simp [zbv, hi', hi0, ho, hx, he, hwr]
      rw [← hJ]
      exact ⟨6 - (i + 1), by omega, i + 1, by omega, rfl, by rw [e1]; rfl, by rw [e1]; exact h, ho, hm⟩
  · have e6 : i = 6 := by omega
    subst e6
    simp [zbv]
    exact zaam hE hd h (by omega) hs hw hq
set_option maxHeartbeats 1000000 in
theorem zaak {d : Nat} (hE : zgs d) (hd : d ≤ 11) {H0 H : Heap} {n g gx : Nat} {st : VM.St} {w : Str} {Q : QT} (h : FmH H0 n g gx (10 - (d : Int)) st (st5 w 0) H) (hs : st.1.length ≤ 1500) (hw : w.length ≤ 1500)
    (ho : H (gx + 1) = some (.row 1 (ops5.map AV.str))) (hq : zzv H0 n g d w st (st6 w (st5 w 5) 6) Q) :
    LP (zbu Q) [.ptr n 0, .ptr (n + 1) 0, .ptr (n + 2) 0, .str w, .ptr gx 0, .int .i64 (-1), .slc (gx + 1) 0 5, .int .i64 5, .int .i64 0] H (gx + 2) := by
  refine LP.mk (fun k xs H' n' => ∃ i : Nat, i ≤ 5 ∧ k = 5 - i ∧ xs = [.ptr n 0, .ptr (n + 1) 0, .ptr (n + 2) 0, .str w, .ptr gx 0, .int .i64 (st5 w i).want, .slc (gx + 1) 0 5, .int .i64 5, .int .i64 i] ∧ FmH H0 n g gx (10 - (d : Int)) st (st5 w i) H' ∧ H' (gx + 1) = some (.row 1 (ops5.map AV.str)) ∧ n' = gx + 2) 5 ⟨0, by omega, by omega, rfl, h, ho, rfl⟩ ?_
  rintro k xs H' n' ⟨i, hi, rfl, rfl, h, ho, rfl⟩
  generalize hJ : (fun (xs : List AV) (H : Heap) (nx : Nat) => ∃ k, k < 5 - i ∧ ∃ i : Nat, i ≤ 5 ∧ k = 5 - i ∧ xs = [.ptr n 0, .ptr (n + 1) 0, .ptr (n + 2) 0, .str w, .ptr gx 0, .int .i64 (st5 w i).want, .slc (gx + 1) 0 5, .int .i64 5, .int .i64 i] ∧ FmH H0 n g gx (10 - (d : Int)) st (st5 w i) H ∧ H (gx + 1) = some (.row 1 (ops5.map AV.str)) ∧ nx = gx + 2) = J
  by_cases hlt : i < 5
  · have hi' : (i : Int) < 5 := by omega
    have hi0 : (0 : Int) ≤ i := by omega
    have hx := zxc (l := ops5) (i := i) hlt
    have hwr : IntKind.i64.wrap ((i : Int) + 1) = (i : Int) + 1 := i64w (by omega)
    have rx := h.rx
    have e1 : st5 w (i + 1) = if ops5.getD i [] = w then ⟨4, i + 1, [], 2⟩ else st5 w i := rfl
    generalize ops5.getD i [] = op at hx e1
    by_cases he : op = w
    · rw [if_pos he] at e1
      subst he
      simp only [Hd.avs] at rx
      simp [zbu, hi', hi0, ho, hx, hwr, rx]
      rw [← hJ]
      refine ⟨5 - (i + 1), by omega, i + 1, by omega, rfl, by rw [e1]; rfl, ?_, ?_, rfl⟩
      · rw [e1]
        exact h.head (q := ⟨4, i + 1, [], 2⟩)
      · rw [Heap.put_ne _ _ (by omega)]; exact ho
    · rw [if_neg he] at e1
      simp [zbu, hi', hi0, ho, hx, he, hwr]
      rw [← hJ]
      exact ⟨5 - (i + 1), by omega, i + 1, by omega, rfl, by rw [e1]; rfl, by rw [e1]; exact h, ho, rfl⟩
  · have e5 : i = 5 := by omega
    subst e5
    have hk6 : AObj.row 1 (ops6.map AV.str) = AObj.row 1 [AV.str [99, 101, 108, 108], AV.str [108, 101, 102, 116], AV.str [114, 105, 103, 104, 116], AV.str [97, 115, 107], AV.str [104, 101, 114, 101], AV.str [103, 111]] := rfl
    simp only [zbu, ← hk6]
    simp
    exact zaal hE hd (h.put (by omega)) (by omega) hs hw (Heap.put_at _ _ _) hq
set_option maxHeartbeats 1000000 in
theorem zaan {d : Nat} (hE : zgs d) (hd : d ≤ 11) {H0 H : Heap} {n g m : Nat} {c : UInt8} {r : Str} {Q : QT} (h : ExE H0 n g (10 - (d : Int)) (c :: r, 0) H) (hs : r.length ≤ 1499) (hm : n + 3 ≤ m)
    (hq : ExQ H0 n g (.agg (VM.formF (VM.exprF d) (VM.wF (r, 0)).1 (VM.wF (r, 0)).2).1.avs) (VM.formF (VM.exprF d) (VM.wF (r, 0)).1 (VM.wF (r, 0)).2).2 Q) : zan Q n (.int .u8 40) H m := by
  have r0 := h.r0
  have rg : H g = some (.row 2 [.str (c :: r), .int .i64 0]) := h.rg
  have gb := h.gb
  have hle : (1 : Int) ≤ r.length + 1 := by omega
  have ne_1 : g ≠ n ∧ n ≠ g ∧ g ≠ n + 1 ∧ n + 1 ≠ g ∧ g ≠ n + 2 ∧ n + 2 ≠ g ∧ n ≠ n + 1 ∧ n + 1 ≠ n ∧ n ≠ n + 2 ∧ n + 2 ≠ n ∧ n + 1 ≠ n + 2 ∧ n + 2 ≠ n + 1 := ⟨by omega, by omega, by omega, by omega, by omega, by omega, by omega, by omega, by omega, by omega, by omega, by omega⟩
  simp [zan, r0, rg, hle, ne_1]
  have h1 : ExE H0 n g (10 - (d : Int)) (r, 0) (H.put g (some (.row 2 [.str r, .int .i64 0]))) := h.put (st' := (r, 0))
  generalize H.put g (some (.row 2 [.str r, .int .i64 0])) = HX at *
  have hwl := zij (r, 0)
  refine w_ac (by simp only; omega) h1.rg ?_
  have h2 : ExE H0 n g (10 - (d : Int)) (VM.wF (r, 0)).2 (HX.put g (some (PR (VM.wF (r, 0)).2))) := h1.put
  generalize HX.put g (some (PR (VM.wF (r, 0)).2)) = HY at *
  generalize VM.wF (r, 0) = ws at *
  obtain ⟨w, s1⟩ := ws
  simp only at *
  have hk5 : AObj.row 1 (ops5.map AV.str) = AObj.row 1 [AV.str [43], AV.str [45], AV.str [42], AV.str [60], AV.str [61]] := rfl
  simp only [zjr, ← hk5]
  simp
  have f0 : FmH H0 n g m (10 - (d : Int)) s1 (st5 w 0) (HY.put m (some (.row 4 [.int .i64 11, .int .i64 0, .str w, .nils]))) :=
    ⟨by rw [Heap.put_ne _ _ (by omega)]; exact h2.r0, by rw [Heap.put_ne _ _ (by omega)]; exact h2.r1, by rw [Heap.put_ne _ _ (by omega)]; exact h2.r2, by rw [Heap.put_ne _ _ (by omega)]; exact h2.rg, Heap.put_at _ _ _, gb, hm, fun y hy hne => by rw [Heap.put_ne _ _ (by omega)]; exact h2.keep y hy hne⟩
  refine ⟨zqs, zaak hE hd (f0.put (by omega)) (by omega) (by omega) (Heap.put_at _ _ _) fun s2 e2 => ?_⟩
  rw [zaai] at e2 ⊢
  unfold VM.formF at hq
  cases hw : VM.headOf w with
  | some p =>
    obtain ⟨k, z, want⟩ := p
    rw [hw] at hq e2
    simp only at hq e2 ⊢
    rw [if_pos (by omega)] at e2
    subst e2
    have hf : fits (want : Int) (VM.manyF (VM.exprF d) s2).1.length ↔ (VM.manyF (VM.exprF d) s2).1.length = want := by
      unfold fits
      rw [if_pos (by omega)]
      omega
    by_cases hl : (VM.manyF (VM.exprF d) s2).1.length = want
    · rw [if_pos hl] at hq; rw [if_pos (hf.2 hl)]; exact hq
    · rw [if_neg hl] at hq; rw [if_neg (fun h => hl (hf.1 h))]; exact hq
  | none =>
    rw [hw] at hq e2
    simp only at hq e2 ⊢
    rw [if_neg (by omega)] at e2
    rw [← e2] at hq
    have hf : fits (-1) (VM.manyF (VM.exprF d) s2).1.length ↔ (VM.manyF (VM.exprF d) s2).1.length ≤ 4 := by
      unfold fits
      rw [if_neg (by omega)]
    by_cases hl : (VM.manyF (VM.exprF d) s2).1.length ≤ 4
    · rw [if_pos hl] at hq; rw [if_pos (hf.2 hl)]; exact hq
    · rw [if_neg hl] at hq; rw [if_neg (fun h => hl (hf.1 h))]; exact hq
set_option maxHeartbeats 1000000 in
theorem zaao : ∀ d, d ≤ 11 → zgs d := by
  intro d
  induction d with
  | zero =>
    intro _ st g H n Q hs hg hq
    refine za.parser (st' := (VM.exprF 0 st).2) hg (fun hgn => ?_) hq
    suffices main : ∀ Q : QT, ExQ H n g (.agg (VM.exprF 0 st).1.avs) (VM.exprF 0 st).2 Q → za Tryd.prog 69 [.ptr g 0, .int .i64 (11 - ((0 : Nat) : Int))] H n Q from main _ fun v H' n' a b c => ⟨a, b, c⟩
    intro Q hq
    refine zgy _ _ _ _ _ ?_
    simp [zfp]
    have h0 : ExE H n g 11 st (((H.put n (some (.row 1 [.ptr g 0]))).put (n + 1) (some (.row 1 [.int .i64 11]))).put (n + 2) (some (.row 4 [.int .i64 0, .int .i64 0, .str [], .nils]))) :=
      ⟨by rw [Heap.put_ne _ _ (by omega), Heap.put_ne _ _ (by omega), Heap.put_at], by rw [Heap.put_ne _ _ (by omega), Heap.put_at], Heap.put_at _ _ _, by rw [Heap.put_ne _ _ (by omega), Heap.put_ne _ _ (by omega), Heap.put_ne _ _ (by omega)]; exact hg, hgn, fun y hy _ => by rw [Heap.put_ne _ _ (by omega), Heap.put_ne _ _ (by omega), Heap.put_ne _ _ (by omega)]⟩
    generalize Heap.put (Heap.put (Heap.put H n _) (n + 1) _) (n + 2) _ = H3 at h0 ⊢
    refine zpf h0.rg ?_
    have r2 := h0.r2
    have hb := h0.gb
    rw [if_neg (by omega)]
    have ne_2 : g ≠ n ∧ n ≠ g ∧ g ≠ n + 1 ∧ n + 1 ≠ g ∧ g ≠ n + 2 ∧ n + 2 ≠ g ∧ n ≠ n + 1 ∧ n + 1 ≠ n ∧ n ≠ n + 2 ∧ n + 2 ≠ n ∧ n + 1 ≠ n + 2 ∧ n + 2 ≠ n + 1 := ⟨by omega, by omega, by omega, by omega, by omega, by omega, by omega, by omega, by omega, by omega, by omega, by omega⟩
    simp [zcl, r2, ne_2]
    exact h0.leafP hq
  | succ d ih =>
    intro hd st g H n Q hs hg hq
    have hE := ih (by omega)
    refine za.parser (st' := (VM.exprF (d + 1) st).2) hg (fun hgn => ?_) hq
    suffices main : ∀ Q : QT, ExQ H n g (.agg (VM.exprF (d + 1) st).1.avs) (VM.exprF (d + 1) st).2 Q → za Tryd.prog 69 [.ptr g 0, .int .i64 (11 - ((d + 1 : Nat) : Int))] H n Q from main _ fun v H' n' a b c => ⟨a, b, c⟩
    intro Q hq
    have hz : (11 : Int) - ((d + 1 : Nat) : Int) = 10 - (d : Int) := by omega
    rw [hz]
    refine zgy _ _ _ _ _ ?_
    simp [zfp]
    have h0 : ExE H n g (10 - (d : Int)) st (((H.put n (some (.row 1 [.ptr g 0]))).put (n + 1) (some (.row 1 [.int .i64 (10 - (d : Int))]))).put (n + 2) (some (.row 4 [.int .i64 0, .int .i64 0, .str [], .nils]))) :=
      ⟨by rw [Heap.put_ne _ _ (by omega), Heap.put_ne _ _ (by omega), Heap.put_at], by rw [Heap.put_ne _ _ (by omega), Heap.put_at], Heap.put_at _ _ _, by rw [Heap.put_ne _ _ (by omega), Heap.put_ne _ _ (by omega), Heap.put_ne _ _ (by omega)]; exact hg, hgn, fun y hy _ => by rw [Heap.put_ne _ _ (by omega), Heap.put_ne _ _ (by omega), Heap.put_ne _ _ (by omega)]⟩
    generalize Heap.put (Heap.put (Heap.put H n _) (n + 1) _) (n + 2) _ = H3 at h0 ⊢
    have r0 := h0.r0
    have r2 := h0.r2
    have hb := h0.gb
    refine zpf h0.rg ?_
    have hd10 : (10 : Int) - (d : Int) ≤ 10 := by omega
    rw [if_pos hd10, Heap.put_same h0.rg]
    unfold VM.exprF at hq
    by_cases he : st.2 = 0
    · rw [if_neg (by simpa using he)] at hq
      have hd11 : ¬ (10 : Int) < 10 - (d : Int) := by omega
      simp [zcl, he, r0, hd10, hd11]
      refine zmr h0.rg ?_
      have h1 : ExE H n g (10 - (d : Int)) (VM.trim st.1, st.2) (H3.put g (some (PR (VM.trim st.1, st.2)))) := h0.put
      generalize H3.put g (some (PR (VM.trim st.1, st.2))) = HX at h1 ⊢
      have hts := VM.trim_le st.1
      by_cases h39 : VM.nxt st.1 = 39
      · rw [if_pos h39] at hq
        obtain ⟨c, r, hc⟩ := zem (b := st.1) (by rw [h39]; decide)
        rw [hc] at hq h1 hts
        rw [h39]
        simp [zan]
        exact zww h1 (by simp at hts; omega) (by omega) hq
      · rw [if_neg h39] at hq
        by_cases h40 : VM.nxt st.1 = 40
        · rw [if_neg (by simpa using h40)] at hq
          obtain ⟨c, r, hc⟩ := zem (b := st.1) (by rw [h40]; decide)
          rw [hc, he] at hq h1
          rw [hc] at hts
          rw [h40]
          exact zaan hE (by omega) h1 (by simp at hts; omega) (by omega) hq
        · rw [if_pos h40] at hq
          exact zyg h1 (by simp only; omega) h39 h40 hq
    · rw [if_pos he] at hq
      simp [zcl, he, r2]
      exact h0.leafN hq
end Go.Proofs.YtpllgpgdcbgalaaDoor
set_option maxRecDepth 8000
namespace Go.Proofs.YtpllgpgdcbgalaaDoor
open Go Go.RowKit
mutual
theorem zlb (A : Nat → Prop) : ∀ x : Sm, ∀ v ∈ x.avs, Bel A v
  | .mk k nm ar t e => by
    rw [Sm.avs]
    intro v hv
    simp only [List.mem_cons, List.not_mem_nil, or_false] at hv
    rcases hv with rfl | rfl | rfl | rfl | rfl
    · exact .int _ _
    · exact .str _
    · exact zft fun x hx v hv => by obtain ⟨y, _, rfl⟩ := List.mem_map.1 hx; exact zlc A y v hv
    · exact zft (zro A t)
    · exact zft (zro A e)
theorem zro (A : Nat → Prop) : ∀ l : List Sm, ∀ x ∈ Sm.avsL l, ∀ v ∈ x, Bel A v
  | [] => by simp [Sm.avsL]
  | x :: r => by
    rw [Sm.avsL]
    intro y hy
    rcases List.mem_cons.1 hy with rfl | h
    · exact zlb A x
    · exact zro A r y h
end
theorem zaar (x : Sm) (A : Nat → Prop) : Bel A (.agg x.avs) := .agg _ fun _ v hv => zlb A x v (List.mem_of_getElem? hv)
theorem zqo (x : Sm) : ∀ v ∈ x.avs, v.one = true := by
  cases x
  rw [zis]
  intro v hv
  simp only [List.mem_cons, List.not_mem_nil, or_false] at hv
  rcases hv with rfl | rfl | rfl | rfl | rfl <;> rfl
inductive RowS {α : Type} (f : α → List AV) (sz : Nat) (H : Heap) (lo hi : Nat) : List α → AV → Prop
  | nil : RowS f sz H lo hi [] .nils
  | row {l : List α} {ga : Nat} : lo ≤ ga → ga < hi → H ga = some (.row sz (l.map f).flatten) → RowS f sz H lo hi l (.slc ga 0 l.length)
section
variable {α : Type} {f : α → List AV} {sz : Nat}
theorem RowS.keep {H H' : Heap} {lo hi hi' : Nat} {l : List α} {A : AV} (h : RowS f sz H lo hi l A) (hh : hi ≤ hi') (hk : ∀ y, lo ≤ y → y < hi → H' y = H y) : RowS f sz H' lo hi' l A := by
  cases h with
  | nil => exact .nil
  | row h1 h2 h4 => exact .row h1 (by omega) (by rw [hk _ h1 h2]; exact h4)
theorem zeh (hf : ∀ x, (f x).length = sz) (l : List α) : ((l.map f).flatten).length = l.length * sz := by
  induction l with
  | nil => simp
  | cons x r ih => rw [List.map_cons, List.flatten_cons, List.length_append, ih, hf, List.length_cons, Nat.succ_mul]; omega
theorem zbr (l : List α) (x : α) : ((l ++ [x]).map f).flatten = (l.map f).flatten ++ f x := by simp
theorem RowS.frz {H H' : Heap} {lo hi N : Nat} {l : List α} {A : AV} (h : RowS f sz H lo hi l A) (hf : ∀ x, (f x).length = sz) (hb : ∀ (A : Nat → Prop) x, ∀ v ∈ f x, Bel A v) (hN : N ≤ lo) (hk : ∀ y, lo ≤ y → y < hi → H' y = H y) : Frz H' N A (.ro (l.map f)) := by
  cases h with
  | nil => exact .nils
  | @row l ga h1 h2 h4 =>
    refine Frz.rowW (cells := (l.map f).flatten) (sz := sz) (by omega) (by rw [hk _ h1 h2]; exact h4) (by simp) (fun x hx => ?_) (FL.same fun c hc => ?_)
    · obtain ⟨y, _, rfl⟩ := List.mem_map.1 hx; exact hf y
    · obtain ⟨x, hx, hc⟩ := List.mem_flatten.1 hc
      obtain ⟨y, _, rfl⟩ := List.mem_map.1 hx
      exact hb _ y c hc
theorem RowS.one {H : Heap} {lo hi : Nat} {l : List α} {A : AV} (h : RowS f sz H lo hi l A) : A.one = true := by
  cases h <;> rfl
end
def zst (d : Nat) : Prop := ∀ (st : VM.St) (g : Nat) (H : Heap) (n : Nat) (Q : QT), st.1.length ≤ 1500 → H g = some (PR st) → Q (.agg (VM.stmtF d st).1.avs) (H.put g (some (PR (VM.stmtF d st).2))) n → za Tryd.prog 51 [.ptr g 0, .int .i64 (11 - (d : Int))] H n Q
def zoy (d : Nat) : Prop := ∀ (st : VM.St) (g : Nat) (H : Heap) (n : Nat) (Q : QT), st.1.length ≤ 1500 → H g = some (PR st) → Q (.ro ((VM.manyF (VM.stmtF d) st).1.map Sm.avs)) (H.put g (some (PR (VM.manyF (VM.stmtF d) st).2))) n → za Tryd.prog 32 [.ptr g 0, .int .i64 (11 - (d : Int))] H n Q
theorem zj.stmt {d : Nat} (hE : zst d) {st : VM.St} {g n : Nat} {H : Heap} {kt : Kt} (hs : st.1.length ≤ 1500) (hg : H g = some (PR st)) (hk : kt (.agg (VM.stmtF d st).1.avs) [g] [] [(g, some (PR (VM.stmtF d st).2))]) : zj Tryd.prog (.clo 51 []) [.ptr g 0, .int .i64 (11 - (d : Int))] H n kt :=
  ⟨_, [g], [], _, .inl rfl, LC.parser hg (zaar _) fun H n Q h1 h2 => hE st g H n Q hs h1 h2, hk⟩
structure StL (H0 : Heap) (b g : Nat) (dz : Int) (l : List Sm) (st : VM.St) (H : Heap) (n : Nat) : Prop where
  r0 : H b = some (.row 1 [.ptr g 0])
  r1 : H (b + 1) = some (.row 1 [.int .i64 dz])
  rx : ∃ A, H (b + 2) = some (.row 1 [A]) ∧ RowS Sm.avs 5 H (b + 3) n l A
  rg : H g = some (PR st)
  gb : g < b
  bn : b + 3 ≤ n
  keep : ∀ y, y < b → y ≠ g → H y = H0 y
  few : l.length + VM.left st ≤ 1502
  short : st.1.length ≤ 1500
theorem StL.put {H0 H : Heap} {b g n : Nat} {dz : Int} {l : List Sm} {st st' : VM.St} (h : StL H0 b g dz l st H n) (hf : VM.Flow st st') : StL H0 b g dz l st' (H.put g (some (PR st'))) n := by
  have hb := h.gb
  obtain ⟨A, h4, h5⟩ := h.rx
  exact ⟨by rw [Heap.put_ne _ _ (by omega)]; exact h.r0, by rw [Heap.put_ne _ _ (by omega)]; exact h.r1, ⟨A, by rw [Heap.put_ne _ _ (by omega)]; exact h4, h5.keep (Nat.le_refl _) fun y hy _ => Heap.put_ne _ _ (by omega)⟩, Heap.put_at _ _ _, hb, h.bn, fun y hy hne => by rw [Heap.put_ne _ _ hne]; exact h.keep y hy hne, by have := hf.left; have := h.few; omega, Nat.le_trans hf.1 h.short⟩
theorem StL.next {H0 H HF : Heap} {b g n : Nat} {dz : Int} {l : List Sm} {st st' : VM.St} (h : StL H0 b g dz l st H n) (x : Sm) (hl : VM.left st' < VM.left st) (hle : st'.1.length ≤ st.1.length) (f1 : HF g = some (PR st')) (f2 : HF (b + 2) = some (.row 1 [.slc (n + 1) 0 (l.length + 1)])) (f3 : HF (n + 1) = some (.row 5 ((l ++ [x]).map Sm.avs).flatten))
    (f4 : ∀ y, y < b + 2 → y ≠ g → HF y = H y) : StL H0 b g dz (l ++ [x]) st' HF (n + 2) := by
  have hb := h.gb
  have hx0 := h.bn
  have hfew := h.few
  have hsh := h.short
  refine ⟨by rw [f4 b (by omega) (by omega)]; exact h.r0, by rw [f4 _ (by omega) (by omega)]; exact h.r1, ⟨_, f2, ?_⟩, f1, hb, by omega, fun y hy hne => by rw [f4 y (by omega) hne]; exact h.keep y hy hne, by rw [List.length_append]; simp only [List.length_cons, List.length_nil]; omega, by omega⟩
  have := RowS.row (f := Sm.avs) (sz := 5) (H := HF) (lo := b + 3) (hi := n + 2) (l := l ++ [x]) (ga := n + 1) (by omega) (by omega) f3
  rw [List.length_append] at this
  exact this
set_option maxHeartbeats 1000000 in
theorem zwr {d : Nat} (hE : zst d) {H0 H : Heap} {b g n : Nat} {l : List Sm} {st : VM.St} {K : QT} (h : StL H0 b g (11 - (d : Int)) l st H n) (he : st.2 = 0)
    (hk : ∀ H' n', StL H0 b g (11 - (d : Int)) (l ++ [(VM.stmtF d st).1]) (VM.stmtF d st).2 H' n' → K (.tup []) H' n') : za Tryd.prog 50 [.ptr (b + 2) 0, .ptr b 0, .ptr (b + 1) 0] H n K := by
  refine zlu _ _ _ _ _ _ ?_
  have hb := h.gb
  have hbn := h.bn
  obtain ⟨A, rx, ra⟩ := h.rx
  have r0 := h.r0
  have r1 := h.r1
  have hfew := h.few
  have hleft := VM.left_lt' (VM.nice_stmt d) he
  have hle := (VM.nice_stmt d).le st
  have hsh := h.short
  cases ra with
  | nil =>
    simp [zdp, rx, r0, r1]
    refine zj.stmt hE h.short h.rg ?_
    have xl := zir (VM.stmtF d st).1
    have xo := zqo (VM.stmtF d st).1
    generalize hxa : (VM.stmtF d st).1.avs = xa at xl xo
    have xd : xa.drop 5 = [] := List.drop_of_length_le (by omega)
    have ne_0 : g ≠ b ∧ b ≠ g ∧ g ≠ b + 1 ∧ b + 1 ≠ g ∧ g ≠ b + 2 ∧ b + 2 ≠ g ∧ b ≠ b + 1 ∧ b + 1 ≠ b ∧ b ≠ b + 2 ∧ b + 2 ≠ b ∧ b + 1 ≠ b + 2 ∧ b + 2 ≠ b + 1 ∧ g ≠ n ∧ n ≠ g ∧ g ≠ n + 1 ∧ n + 1 ≠ g ∧ b ≠ n ∧ n ≠ b ∧ b ≠ n + 1 ∧ n + 1 ≠ b ∧ b + 1 ≠ n ∧ n ≠ b + 1 ∧ b + 1 ≠ n + 1 ∧ n + 1 ≠ b + 1 ∧ b + 2 ≠ n ∧ n ≠ b + 2 ∧ b + 2 ≠ n + 1 ∧ n + 1 ≠ b + 2 := ⟨by omega, by omega, by omega, by omega, by omega, by omega, by omega, by omega, by omega, by omega, by omega, by omega, by omega, by omega, by omega, by omega, by omega, by omega, by omega, by omega, by omega, by omega, by omega, by omega, by omega, by omega, by omega, by omega⟩
    simp [zdq, rx, xl, xd, hxa, ne_0]
    refine ⟨xo, hk _ _ (h.next _ (by omega) hle ?_ ?_ ?_ fun y hy hne => ?_)⟩
    · rw [Heap.put_ne _ _ (by omega), Heap.put_ne _ _ (by omega), Heap.put_ne _ _ (by omega), Heap.put_at]
    · rw [Heap.put_at]; rfl
    · rw [Heap.put_ne _ _ (by omega), Heap.put_at, zbr, hxa]; rfl
    · rw [Heap.put_ne _ _ (by omega), Heap.put_ne _ _ (by omega), Heap.put_ne _ _ (by omega), Heap.put_ne _ _ hne]
  | @row l ga a1 a2 a4 =>
    simp [zdp, rx, r0, r1]
    refine zj.stmt hE h.short h.rg ?_
    have xl := zir (VM.stmtF d st).1
    have xo := zqo (VM.stmtF d st).1
    generalize hxa : (VM.stmtF d st).1.avs = xa at xl xo
    have xd : xa.drop 5 = [] := List.drop_of_length_le (by omega)
    have rl := zeh zir l
    have h1 : (l.length + 1) * 96 ≤ 140737488355328 := by omega
    have h2 : (l.length : Int) < l.length + 1 := by omega
    generalize hrr : (l.map Sm.avs).flatten = rr at rl a4
    have h3 : rr.take (l.length * 5) = rr := List.take_of_length_le (by omega)
    have ne_1 : g ≠ b ∧ b ≠ g ∧ g ≠ b + 1 ∧ b + 1 ≠ g ∧ g ≠ b + 2 ∧ b + 2 ≠ g ∧ g ≠ ga ∧ ga ≠ g ∧ b ≠ b + 1 ∧ b + 1 ≠ b ∧ b ≠ b + 2 ∧ b + 2 ≠ b ∧ b ≠ ga ∧ ga ≠ b ∧ b + 1 ≠ b + 2 ∧ b + 2 ≠ b + 1 ∧ b + 1 ≠ ga ∧ ga ≠ b + 1 ∧ b + 2 ≠ ga ∧ ga ≠ b + 2 ∧ g ≠ n ∧ n ≠ g ∧ g ≠ n + 1 ∧ n + 1 ≠ g ∧ b ≠ n ∧ n ≠ b ∧ b ≠ n + 1 ∧ n + 1 ≠ b ∧ b + 1 ≠ n ∧ n ≠ b + 1 ∧ b + 1 ≠ n + 1 ∧ n + 1 ≠ b + 1 ∧ b + 2 ≠ n ∧ n ≠ b + 2 ∧ b + 2 ≠ n + 1 ∧ n + 1 ≠ b + 2 ∧ ga ≠ n ∧ n ≠ ga ∧ ga ≠ n + 1 ∧ n + 1 ≠ ga := ⟨by omega, by omega, by omega, by omega, by omega, by omega, by omega, by omega, by omega, by omega, by omega, by omega, by omega, by omega, by omega, by omega, by omega, by omega, by omega, by omega, by omega, by omega, by omega, by omega, by omega, by omega, by omega, by omega, by omega, by omega, by omega, by omega, by omega, by omega, by omega, by omega, by omega, by omega, by omega, by omega⟩
    simp [zdq, rx, a4, rl, h1, h2, h3, xl, xd, hxa, ne_1]
    have h4 : (rr ++ [AV.int .i64 0, .str [], .nils, .nils, .nils]).drop (l.length * 5 + 5) = [] := List.drop_of_length_le (by rw [List.length_append, rl]; simp)
    rw [h4]
    refine ⟨xo, hk _ _ (h.next _ (by omega) hle ?_ ?_ ?_ fun y hy hne => ?_)⟩
    · rw [Heap.put_ne _ _ (by omega), Heap.put_ne _ _ (by omega), Heap.put_ne _ _ (by omega), Heap.put_ne _ _ (by omega), Heap.put_at]
    · rw [Heap.put_at]
    · rw [Heap.put_ne _ _ (by omega), Heap.put_at, zbr, hxa, hrr, List.append_nil]
    · rw [Heap.put_ne _ _ (by omega), Heap.put_ne _ _ (by omega), Heap.put_ne _ _ (by omega), Heap.put_ne _ _ (by omega), Heap.put_ne _ _ hne]
theorem zsz {d : Nat} (hE : zst d) : zoy d := by
  intro st g H n Q hs hg hq
  refine za.parser (st' := (VM.manyF (VM.stmtF d) st).2) hg (fun hgn => ?_) hq
  suffices main : ∀ Q : QT, ExQ H n g (.ro ((VM.manyF (VM.stmtF d) st).1.map Sm.avs)) (VM.manyF (VM.stmtF d) st).2 Q → za Tryd.prog 32 [.ptr g 0, .int .i64 (11 - (d : Int))] H n Q from main _ fun v H' n' a b c => ⟨a, b, c⟩
  intro Q hq
  refine zna _ _ _ _ _ ?_
  simp [zjo]
  have h0 : StL H n g (11 - (d : Int)) [] st (((H.put n (some (.row 1 [.ptr g 0]))).put (n + 1) (some (.row 1 [.int .i64 (11 - (d : Int))]))).put (n + 2) (some (.row 1 [.nils]))) (n + 3) :=
    ⟨by rw [Heap.put_ne _ _ (by omega), Heap.put_ne _ _ (by omega), Heap.put_at], by rw [Heap.put_ne _ _ (by omega), Heap.put_at], ⟨_, Heap.put_at _ _ _, .nil⟩, by rw [Heap.put_ne _ _ (by omega), Heap.put_ne _ _ (by omega), Heap.put_ne _ _ (by omega)]; exact hg, hgn, by omega, fun y hy _ => by rw [Heap.put_ne _ _ (by omega), Heap.put_ne _ _ (by omega), Heap.put_ne _ _ (by omega)], by have := VM.left_le st; simp only [List.length_nil]; omega, hs⟩
  generalize Heap.put (Heap.put (Heap.put H n _) (n + 1) _) (n + 2) _ = H3 at h0 ⊢
  refine zpz (VM.nice_stmt d) (fun l s H' n' => StL H n g (11 - (d : Int)) l s H' n') (fun _ _ _ _ h => h.rg) (fun _ _ _ _ _ h hf => h.put hf) (fun l s H' n' K h he hk => zwr hE h he hk) h0 fun H' n' h => ?_
  obtain ⟨A, rx, ra⟩ := h.rx
  simp [zjp, rx]
  exact hq _ _ _ (ra.frz zir zlb (by omega) fun _ _ _ => rfl) h.rg h.keep
end Go.Proofs.YtpllgpgdcbgalaaDoor
set_option maxRecDepth 8000
namespace Go.Proofs.YtpllgpgdcbgalaaDoor
open Go Go.RowKit
theorem zui : Tryd.prog.globalNamed "internal/bytealg.MaxLen" = some 0 := by kernel_rfl
theorem LayM.cell {w : World} (h : LayM "internal/bytealg.MaxLen" (fun b => w.heap[b]?)) : ∃ m, w.cell? ⟨0, 0, none⟩ = some (.int .i64 m) := by
  obtain ⟨c, e, x, m, h1, h2⟩ := h _ zui
  refine ⟨m, ?_⟩
  have h1' : w.heap[(0 : Nat)]? = _ := h1
  simp only [World.cell?, h1']
  simpa using h2
theorem zsx {K : zf} {ρ : Nat → Loc} {A : Nat → Prop} {s t : List UInt8} {cargs : Array Value} (ha : LRel K ρ A [.str s, .str t] cargs.toList) : cargs = #[.string ⟨s.toArray⟩, .string ⟨t.toArray⟩] := by
  obtain ⟨hlen, hg⟩ := ha
  have hlen' : cargs.toList.length = 2 := hlen
  match he : cargs.toList, hlen' with
  | [v, u], _ =>
    have h0 := hg 0 (.str s) v rfl (by rw [he]; rfl)
    have h1 := hg 1 (.str t) u rfl (by rw [he]; rfl)
    cases h0
    cases h1
    exact Array.ext' (by rw [he])
theorem ztt (s t : List UInt8) (h : s.length < 4294967281) : QC Tryd.prog 47 [.str s, .str t] (.bool (Lib.contains s t)) := by
  refine QC.of_calls (c := zh Tryd.f47) Tryd.func47 (by kernel_rfl) (by kernel_rfl) fun K ρ A w cargs hl ha => ?_
  obtain rfl := zsx ha
  obtain ⟨m, hm⟩ := hl.2.2.2.cell
  have hs : (ByteArray.mk s.toArray).size = s.length := by show s.toArray.size = _; simp
  have hd : (ByteArray.mk s.toArray).data.toList = s := by simp
  have ht : (ByteArray.mk t.toArray).data.toList = t := by simp
  refine (Tryd.strings_Contains ⟨s.toArray⟩ ⟨t.toArray⟩ m w (by omega) hm).mono fun e w' ⟨he, hw⟩ => ?_
  rw [hd, ht] at he
  subst hw
  exact ⟨⟨_, he, fun _ _ _ => .bool _⟩, .refl _ _⟩
theorem zot (s : List UInt8) (c : UInt8) : QC Tryd.prog 47 [.str s, .str [c]] (.bool (decide (0 ≤ Lib.indexByte s c))) := by
  refine QC.of_calls (c := zh Tryd.f47) Tryd.func47 (by kernel_rfl) (by kernel_rfl) fun K ρ A w cargs hl ha => ?_
  obtain rfl := zsx ha
  have hd : (ByteArray.mk s.toArray).data.toList = s := by simp
  refine (Tryd.strings_Contains_one ⟨s.toArray⟩ c w).mono fun e w' ⟨he, hw⟩ => ?_
  rw [hd] at he
  subst hw
  exact ⟨⟨_, he, fun _ _ _ => .bool _⟩, .refl _ _⟩
theorem ztj (s : List UInt8) (c : Int) : QC Tryd.prog 96 [.str s, .int .u8 c] (.int .i64 (Lib.indexByte s c.toNat.toUInt8)) := by
  refine QC.of_calls (c := zh Tryd.f96) Tryd.func96 (by kernel_rfl) (by kernel_rfl) fun K ρ A w cargs hl ha => ?_
  have hc : cargs = #[.string ⟨s.toArray⟩, .int .u8 c] := by
    obtain ⟨hlen, hg⟩ := ha
    have hlen' : cargs.toList.length = 2 := hlen
    match he : cargs.toList, hlen' with
    | [v, u], _ =>
      have h0 := hg 0 (.str s) v rfl (by rw [he]; rfl)
      have h1 := hg 1 (.int .u8 c) u rfl (by rw [he]; rfl)
      cases h0
      cases h1
      exact Array.ext' (by rw [he])
  subst hc
  have hd : (ByteArray.mk s.toArray).data.toList = s := by simp
  refine (Tryd.strings_IndexByte ⟨s.toArray⟩ c w).mono fun e w' ⟨he, hw⟩ => ?_
  rw [hd] at he
  subst hw
  exact ⟨⟨_, he, fun _ _ _ => .int _ _⟩, .refl _ _⟩
end Go.Proofs.YtpllgpgdcbgalaaDoor
set_option maxRecDepth 8000
namespace Go.Proofs.YtpllgpgdcbgalaaDoor
open Go Go.RowKit
def zaj (Q : QT) (K1 : J3) (xs2 : List AV) (H3 : Heap) (nx4 : Nat) : Prop :=
 NC (nth xs2 0) fun v5 =>
 FA 1 v5 fun v6 =>
 LDR false 1 v6 H3 fun v7 _ =>
 NC (nth xs2 0) fun v9 =>
 FA 0 v9 fun v10 =>
 LDR false 1 v10 H3 fun v11 _ =>
 LNS v11 fun v13 =>
 BI BinOp.lss v7 v13 fun v14 =>
 CND v14
 (NC (nth xs2 0) fun v15 =>
 FA 0 v15 fun v16 =>
 LDR false 1 v16 H3 fun v17 _ =>
 NC (nth xs2 0) fun v19 =>
 FA 1 v19 fun v20 =>
 LDR false 1 v20 H3 fun v21 _ =>
 IX v17 v21 fun v23 =>
 BI BinOp.eql v23 (AV.int IntKind.u8 32) fun v24 =>
 CND v24
 (NC (nth xs2 0) fun v25 =>
 FA 1 v25 fun v26 =>
 LD false 1 v26 H3 fun v27 =>
 BI BinOp.add v27 (AV.int IntKind.i64 1) fun v28 =>
 NC (nth xs2 0) fun v29 =>
 FA 1 v29 fun v30 =>
 ST 1 v30 v28 H3 fun H31 =>
 K1 [nth xs2 0] H31 nx4)
 (NC (nth xs2 0) fun v32 =>
 FA 0 v32 fun v33 =>
 LDR false 1 v33 H3 fun v34 _ =>
 NC (nth xs2 0) fun v36 =>
 FA 1 v36 fun v37 =>
 LDR false 1 v37 H3 fun v38 _ =>
 IX v34 v38 fun v40 =>
 BI BinOp.eql v40 (AV.int IntKind.u8 10) fun v41 =>
 CNDC v41
 (NC (nth xs2 0) fun v42 =>
 FA 1 v42 fun v43 =>
 LD false 1 v43 H3 fun v44 =>
 BI BinOp.add v44 (AV.int IntKind.i64 1) fun v45 =>
 NC (nth xs2 0) fun v46 =>
 FA 1 v46 fun v47 =>
 ST 1 v47 v45 H3 fun H48 =>
 K1 [nth xs2 0] H48 nx4)
 (Q (AV.tup []) H3 nx4)))
 (Q (AV.tup []) H3 nx4)
def zgj (a0 : AV) (H : Heap) (nx : Nat) (Q : QT) : Prop :=
 LP (zaj Q) [a0] H nx
theorem zlk (a0 : AV) (H : Heap) (nx : Nat) (Q : QT) : zgj a0 H nx Q → za Tryd.prog 62 [a0] H nx Q :=
  ze (lv := lvOf [(2, 0, [0])]) (c := zh Tryd.f62) zq zu mixed Tryd.func62 (by kernel_rfl) (by kernel_rfl) (by kernel_rfl) (by kernel_rfl) (by kernel_rfl)
def zce (a0 : AV) (Q : QT) (_ : AV) (H2 : Heap) (nx3 : Nat) : Prop :=
 NC a0 fun v4 =>
 FA 1 v4 fun v5 =>
 LDR false 1 v5 H2 fun v6 _ =>
 NC a0 fun v8 =>
 FA 0 v8 fun v9 =>
 LDR false 1 v9 H2 fun v10 _ =>
 LNS v10 fun v12 =>
 BI BinOp.geq v6 v12 fun v13 =>
 CNDC v13
 (Q (AV.int IntKind.u8 0) H2 nx3)
 (NC a0 fun v14 =>
 FA 0 v14 fun v15 =>
 LDR false 1 v15 H2 fun v16 _ =>
 NC a0 fun v18 =>
 FA 1 v18 fun v19 =>
 LDR false 1 v19 H2 fun v20 _ =>
 IX v16 v20 fun v22 =>
 MM false v22 (AV.int IntKind.u8 1) fun v23 =>
 Q v23 H2 nx3)
def zho (a0 : AV) (H : Heap) (nx : Nat) (Q : QT) : Prop :=
 za Tryd.prog 62 [a0] H nx (zce a0 Q)
theorem zly (a0 : AV) (H : Heap) (nx : Nat) (Q : QT) : zho a0 H nx Q → za Tryd.prog 42 [a0] H nx Q :=
  ze (lv := lvOf []) (c := zh Tryd.f42) zq zu mixed Tryd.func42 (by kernel_rfl) (by kernel_rfl) (by kernel_rfl) (by kernel_rfl) (by kernel_rfl)
def zdv (a0 a1 : AV) (H : Heap) (nx : Nat) (Q : QT) : Prop :=
 NC a0 fun v1 =>
 FA 2 v1 fun v2 =>
 LD false 1 v2 H fun v3 =>
 BI BinOp.eql v3 (AV.int IntKind.i64 0) fun v4 =>
 CNDC v4
 (NC a0 fun v5 =>
 FA 2 v5 fun v6 =>
 ST 1 v6 a1 H fun H7 =>
 Q (AV.tup []) H7 nx)
 (Q (AV.tup []) H nx)
theorem zma (a0 a1 : AV) (H : Heap) (nx : Nat) (Q : QT) : zdv a0 a1 H nx Q → za Tryd.prog 63 [a0, a1] H nx Q :=
  ze (lv := lvOf []) (c := zh Tryd.f63) zq zu mixed Tryd.func63 (by kernel_rfl) (by kernel_rfl) (by kernel_rfl) (by kernel_rfl) (by kernel_rfl)
def zhk (Q : QT) (v13 : AV) (H14 : Heap) (nx15 : Nat) : Prop :=
 Q (AV.tup []) H14 nx15
def zcc (a1 : AV) (a0 : AV) (Q : QT) (v1 : AV) (H2 : Heap) (nx3 : Nat) : Prop :=
 BI BinOp.eql v1 a1 fun v4 =>
 CNDC v4
 (NC a0 fun v5 =>
 FA 1 v5 fun v6 =>
 LD false 1 v6 H2 fun v7 =>
 BI BinOp.add v7 (AV.int IntKind.i64 1) fun v8 =>
 NC a0 fun v9 =>
 FA 1 v9 fun v10 =>
 ST 1 v10 v8 H2 fun H11 =>
 Q (AV.tup []) H11 nx3)
 (BI BinOp.eql v1 (AV.int IntKind.u8 0) fun v12 =>
 CNDC v12
 (za Tryd.prog 63 [a0, AV.int IntKind.i64 8] H2 nx3 (zhk Q))
 (za Tryd.prog 63 [a0, AV.int IntKind.i64 2] H2 nx3 (zhk Q)))
def zhj (a0 a1 : AV) (H : Heap) (nx : Nat) (Q : QT) : Prop :=
 za Tryd.prog 42 [a0] H nx (zcc a1 a0 Q)
theorem zlx (a0 a1 : AV) (H : Heap) (nx : Nat) (Q : QT) : zhj a0 a1 H nx Q → za Tryd.prog 43 [a0, a1] H nx Q :=
  ze (lv := lvOf []) (c := zh Tryd.f43) zq zu mixed Tryd.func43 (by kernel_rfl) (by kernel_rfl) (by kernel_rfl) (by kernel_rfl) (by kernel_rfl)
def zgl (Q : QT) (K11 : J3) (xs12 : List AV) (H13 : Heap) (nx14 : Nat) : Prop :=
 BI BinOp.lss (nth xs12 2) (nth xs12 1) fun v15 =>
 CNDC v15
 (IX (nth xs12 0) (nth xs12 2) fun v16 =>
 BI BinOp.lss v16 (AV.int IntKind.u8 97) fun v17 =>
 CND v17
 (Q (AV.bool false) H13 nx14)
 (IX (nth xs12 0) (nth xs12 2) fun v18 =>
 BI BinOp.gtr v18 (AV.int IntKind.u8 122) fun v19 =>
 CNDC v19
 (Q (AV.bool false) H13 nx14)
 (BI BinOp.add (nth xs12 2) (AV.int IntKind.i64 1) fun v20 =>
 K11 [nth xs12 0, nth xs12 1, v20] H13 nx14)))
 (Q (AV.bool true) H13 nx14)
def zkr (Q : QT) (a0 : AV) (v7 : AV) (H8 : Heap) (nx9 : Nat) : Prop :=
 CNDC v7
 (Q (AV.bool false) H8 nx9)
 (LNS a0 fun v10 =>
 LP (zgl Q) [a0, v10, AV.int IntKind.i64 0] H8 nx9)
def zgk (a0 : AV) (H : Heap) (nx : Nat) (Q : QT) : Prop :=
 LNS a0 fun v1 =>
 BI BinOp.lss v1 (AV.int IntKind.i64 1) fun v2 =>
 CND v2
 (Q (AV.bool false) H nx)
 (LNS a0 fun v3 =>
 BI BinOp.gtr v3 (AV.int IntKind.i64 8) fun v4 =>
 CND v4
 (Q (AV.bool false) H nx)
 (BS BinOp.add (AV.str [32]) a0 fun v5 =>
 BS BinOp.add v5 (AV.str [32]) fun v6 =>
 za Tryd.prog 47 [AV.str [32, 108, 101, 116, 32, 115, 101, 116, 32, 105, 102, 32, 119, 104, 105, 108, 101, 32, 115, 97, 121, 32, 114, 101, 116, 117, 114, 110, 32, 112, 117, 116, 108, 32, 112, 117, 116, 114, 32, 100, 111, 32, 99, 101, 108, 108, 32, 108, 101, 102, 116, 32, 114, 105, 103, 104, 116, 32, 97, 115, 107, 32, 104, 101, 114, 101, 32, 103, 111, 32], v6] H nx (zkr Q a0)))
theorem zql (a0 : AV) (H : Heap) (nx : Nat) (Q : QT) : zgk a0 H nx Q → za Tryd.prog 23 [a0] H nx Q :=
  ze (lv := lvOf [(2, 4, [0, 19, 20])]) (c := zh Tryd.f23) zq zu mixed Tryd.func23 (by kernel_rfl) (by kernel_rfl) (by kernel_rfl) (by kernel_rfl) (by kernel_rfl)
def zac (xs8 : List AV) (Q : QT) (_ : AV) (H62 : Heap) (nx63 : Nat) : Prop :=
 NC (nth xs8 0) fun v64 =>
 FA 0 v64 fun v65 =>
 LDR false 1 v65 H62 fun v66 _ =>
 NC (nth xs8 0) fun v68 =>
 FA 1 v68 fun v69 =>
 LDR false 1 v69 H62 fun v70 _ =>
 SLS v66 (some (nth xs8 1)) (some v70) fun v72 =>
 Q v72 H62 nx63
def zcb (xs8 : List AV) (H9 : Heap) (K7 : J3) (nx10 : Nat) (Q : QT) (v35 : AV) (_ : List Nat) (fr37 : List Nat) (D38 : zt) : Prop :=
 UO UnOp.not v35 fun v39 =>
 CNDC v39
 (NC (nth xs8 0) fun v40 =>
 FA 1 v40 fun v41 =>
 LD false 1 v41 (H9.apply D38) fun v42 =>
 BI BinOp.add v42 (AV.int IntKind.i64 1) fun v43 =>
 NC (nth xs8 0) fun v44 =>
 FA 1 v44 fun v45 =>
 ST 1 v45 v43 (H9.apply D38) fun H46 =>
 K7 [nth xs8 0, nth xs8 1] H46 (nx10 + fr37.length))
 (NC (nth xs8 0) fun v47 =>
 FA 1 v47 fun v48 =>
 LD false 1 v48 (H9.apply D38) fun v49 =>
 BI BinOp.eql (nth xs8 1) v49 fun v50 =>
 CNDC v50
 (NC (nth xs8 0) fun v51 =>
 FA 1 v51 fun v52 =>
 LDR false 1 v52 (H9.apply D38) fun v53 _ =>
 NC (nth xs8 0) fun v55 =>
 FA 0 v55 fun v56 =>
 LDR false 1 v56 (H9.apply D38) fun v57 _ =>
 LNS v57 fun v59 =>
 BI BinOp.geq v53 v59 fun v60 =>
 CNDC v60
 (za Tryd.prog 63 [nth xs8 0, AV.int IntKind.i64 8] (H9.apply D38) (nx10 + fr37.length) (zac xs8 Q))
 (za Tryd.prog 63 [nth xs8 0, AV.int IntKind.i64 2] (H9.apply D38) (nx10 + fr37.length) (zac xs8 Q)))
 (NC (nth xs8 0) fun v85 =>
 FA 0 v85 fun v86 =>
 LDR false 1 v86 (H9.apply D38) fun v87 _ =>
 NC (nth xs8 0) fun v89 =>
 FA 1 v89 fun v90 =>
 LDR false 1 v90 (H9.apply D38) fun v91 _ =>
 SLS v87 (some (nth xs8 1)) (some v91) fun v93 =>
 Q v93 (H9.apply D38) (nx10 + fr37.length)))
def zaq (Q : QT) (K7 : J3) (xs8 : List AV) (H9 : Heap) (nx10 : Nat) : Prop :=
 NC (nth xs8 0) fun v11 =>
 FA 1 v11 fun v12 =>
 LDR false 1 v12 H9 fun v13 _ =>
 NC (nth xs8 0) fun v15 =>
 FA 0 v15 fun v16 =>
 LDR false 1 v16 H9 fun v17 _ =>
 LNS v17 fun v19 =>
 BI BinOp.lss v13 v19 fun v20 =>
 CND v20
 (NC (nth xs8 0) fun v21 =>
 FA 0 v21 fun v22 =>
 LDR false 1 v22 H9 fun v23 _ =>
 NC (nth xs8 0) fun v25 =>
 FA 1 v25 fun v26 =>
 LDR false 1 v26 H9 fun v27 _ =>
 NC (nth xs8 0) fun v29 =>
 FA 1 v29 fun v30 =>
 LDR false 1 v30 H9 fun v31 _ =>
 BI BinOp.add v31 (AV.int IntKind.i64 1) fun v33 =>
 SLS v23 (some v27) (some v33) fun v34 =>
 zj Tryd.prog (AV.clo 47 []) [AV.str [32, 10, 40, 41, 39], v34] H9 nx10 (zcb xs8 H9 K7 nx10 Q))
 (NC (nth xs8 0) fun v94 =>
 FA 1 v94 fun v95 =>
 LD false 1 v95 H9 fun v96 =>
 BI BinOp.eql (nth xs8 1) v96 fun v97 =>
 CNDC v97
 (NC (nth xs8 0) fun v98 =>
 FA 1 v98 fun v99 =>
 LDR false 1 v99 H9 fun v100 _ =>
 NC (nth xs8 0) fun v102 =>
 FA 0 v102 fun v103 =>
 LDR false 1 v103 H9 fun v104 _ =>
 LNS v104 fun v106 =>
 BI BinOp.geq v100 v106 fun v107 =>
 CNDC v107
 (za Tryd.prog 63 [nth xs8 0, AV.int IntKind.i64 8] H9 nx10 (zac xs8 Q))
 (za Tryd.prog 63 [nth xs8 0, AV.int IntKind.i64 2] H9 nx10 (zac xs8 Q)))
 (NC (nth xs8 0) fun v132 =>
 FA 0 v132 fun v133 =>
 LDR false 1 v133 H9 fun v134 _ =>
 NC (nth xs8 0) fun v136 =>
 FA 1 v136 fun v137 =>
 LDR false 1 v137 H9 fun v138 _ =>
 SLS v134 (some (nth xs8 1)) (some v138) fun v140 =>
 Q v140 H9 nx10))
def zhi (a0 : AV) (Q : QT) (_ : AV) (H2 : Heap) (nx3 : Nat) : Prop :=
 NC a0 fun v4 =>
 FA 1 v4 fun v5 =>
 LD false 1 v5 H2 fun v6 =>
 LP (zaq Q) [a0, v6] H2 nx3
def zhh (a0 : AV) (H : Heap) (nx : Nat) (Q : QT) : Prop :=
 za Tryd.prog 62 [a0] H nx (zhi a0 Q)
theorem zlw (a0 : AV) (H : Heap) (nx : Nat) (Q : QT) : zhh a0 H nx Q → za Tryd.prog 64 [a0] H nx Q :=
  ze (lv := lvOf [(2, 3, [0, 3])]) (c := zh Tryd.f64) zq zu mixed Tryd.func64 (by kernel_rfl) (by kernel_rfl) (by kernel_rfl) (by kernel_rfl) (by kernel_rfl)
def zhr (Q : QT) (v1 : AV) (v8 : AV) (H9 : Heap) (nx10 : Nat) : Prop :=
 Q v1 H9 nx10
def zdu (a0 : AV) (Q : QT) (v1 : AV) (v4 : AV) (H5 : Heap) (nx6 : Nat) : Prop :=
 UO UnOp.not v4 fun v7 =>
 CNDC v7
 (za Tryd.prog 63 [a0, AV.int IntKind.i64 7] H5 nx6 (zhr Q v1))
 (Q v1 H5 nx6)
def zhq (a0 : AV) (Q : QT) (v1 : AV) (H2 : Heap) (nx3 : Nat) : Prop :=
 za Tryd.prog 23 [v1] H2 nx3 (zdu a0 Q v1)
def zhp (a0 : AV) (H : Heap) (nx : Nat) (Q : QT) : Prop :=
 za Tryd.prog 64 [a0] H nx (zhq a0 Q)
theorem zlz (a0 : AV) (H : Heap) (nx : Nat) (Q : QT) : zhp a0 H nx Q → za Tryd.prog 44 [a0] H nx Q :=
  ze (lv := lvOf []) (c := zh Tryd.f44) zq zu mixed Tryd.func44 (by kernel_rfl) (by kernel_rfl) (by kernel_rfl) (by kernel_rfl) (by kernel_rfl)
def zhz (a0 : AV) (Q : QT) (_ : AV) (H3 : Heap) (nx4 : Nat) : Prop :=
 NC a0 fun v5 =>
 FA 2 v5 fun v6 =>
 LD false 1 v6 H3 fun v7 =>
 BI BinOp.eql v7 (AV.int IntKind.i64 0) fun v8 =>
 Q v8 H3 nx4
def zdx (a0 a1 : AV) (H : Heap) (nx : Nat) (Q : QT) : Prop :=
 BI BinOp.gtr a1 (AV.int IntKind.i64 10) fun v1 =>
 CNDC v1
 (za Tryd.prog 63 [a0, AV.int IntKind.i64 9] H nx (zhz a0 Q))
 (NC a0 fun v9 =>
 FA 2 v9 fun v10 =>
 LD false 1 v10 H fun v11 =>
 BI BinOp.eql v11 (AV.int IntKind.i64 0) fun v12 =>
 Q v12 H nx)
theorem zmb (a0 a1 : AV) (H : Heap) (nx : Nat) (Q : QT) : zdx a0 a1 H nx Q → za Tryd.prog 74 [a0, a1] H nx Q :=
  ze (lv := lvOf []) (c := zh Tryd.f74) zq zu mixed Tryd.func74 (by kernel_rfl) (by kernel_rfl) (by kernel_rfl) (by kernel_rfl) (by kernel_rfl)
def zne (Q : QT) (v4 : AV) (H5 : Heap) (nx6 : Nat) : Prop :=
 Q v4 H5 nx6
def zgi (a0 : AV) (a1 : AV) (Q : QT) (v1 : AV) (H2 : Heap) (nx3 : Nat) : Prop :=
 za Tryd.prog 45 [a0, a1] H2 nx3 (zne Q)
def zgh (a0 a1 : AV) (H : Heap) (nx : Nat) (Q : QT) : Prop :=
 za Tryd.prog 43 [a0, AV.int IntKind.u8 40] H nx (zgi a0 a1 Q)
theorem zlj (a0 a1 : AV) (H : Heap) (nx : Nat) (Q : QT) : zgh a0 a1 H nx Q → za Tryd.prog 77 [a0, a1] H nx Q :=
  ze (lv := lvOf []) (c := zh Tryd.f77) zq zu mixed Tryd.func77 (by kernel_rfl) (by kernel_rfl) (by kernel_rfl) (by kernel_rfl) (by kernel_rfl)
def zcd (nx19 : Nat) (nx : Nat) (Q : QT) (_ : AV) (H36 : Heap) (nx37 : Nat) : Prop :=
 LD true 5 (AV.ptr nx19 0) H36 fun v38 =>
 ST 5 (AV.ptr (nx + 2) 0) v38 H36 fun H39 =>
 LD true 5 (AV.ptr (nx + 2) 0) H39 fun v40 =>
 Q v40 H39 nx37
def zp (nx : Nat) (nx19 : Nat) (Q : QT) (_ : AV) (H32 : Heap) (nx33 : Nat) : Prop :=
 LD false 1 (AV.ptr nx 0) H32 fun v34 =>
 za Tryd.prog 43 [v34, AV.int IntKind.u8 41] H32 nx33 (zcd nx19 nx Q)
def zae (nx19 : Nat) (nx : Nat) (Q : QT) (v27 : AV) (H28 : Heap) (nx29 : Nat) : Prop :=
 ST 1 (AV.ptr nx19 1) v27 H28 fun H30 =>
 za Tryd.prog 75 [AV.ptr nx19 0, AV.ptr nx 0, AV.ptr (nx + 1) 0] H30 nx29 (zp nx nx19 Q)
def zhn (nx19 : Nat) (nx : Nat) (Q : QT) (v105 : AV) (H106 : Heap) (nx107 : Nat) : Prop :=
 ST 1 (AV.ptr nx19 4) v105 H106 fun H108 =>
 LD false 1 (AV.ptr nx 0) H108 fun v109 =>
 za Tryd.prog 43 [v109, AV.int IntKind.u8 41] H108 nx107 (zcd nx19 nx Q)
def zhm (nx19 : Nat) (nx : Nat) (Q : QT) (v98 : AV) (H99 : Heap) (nx100 : Nat) : Prop :=
 ST 1 (AV.ptr nx19 3) v98 H99 fun H101 =>
 LD false 1 (AV.ptr nx 0) H101 fun v102 =>
 LD false 1 (AV.ptr (nx + 1) 0) H101 fun v103 =>
 BI BinOp.add v103 (AV.int IntKind.i64 1) fun v104 =>
 za Tryd.prog 77 [v102, v104] H101 nx100 (zhn nx19 nx Q)
def zdt (nx : Nat) (nx19 : Nat) (Q : QT) (_ : AV) (H93 : Heap) (nx94 : Nat) : Prop :=
 LD false 1 (AV.ptr nx 0) H93 fun v95 =>
 LD false 1 (AV.ptr (nx + 1) 0) H93 fun v96 =>
 BI BinOp.add v96 (AV.int IntKind.i64 1) fun v97 =>
 za Tryd.prog 77 [v95, v97] H93 nx94 (zhm nx19 nx Q)
def zhl (nx19 : Nat) (nx : Nat) (Q : QT) (v124 : AV) (H125 : Heap) (nx126 : Nat) : Prop :=
 ST 1 (AV.ptr nx19 3) v124 H125 fun H127 =>
 LD true 5 (AV.ptr nx19 0) H127 fun v128 =>
 ST 5 (AV.ptr (nx + 2) 0) v128 H127 fun H129 =>
 LD true 5 (AV.ptr (nx + 2) 0) H129 fun v130 =>
 Q v130 H129 nx126
def zds (nx : Nat) (nx19 : Nat) (Q : QT) (_ : AV) (H119 : Heap) (nx120 : Nat) : Prop :=
 LD false 1 (AV.ptr nx 0) H119 fun v121 =>
 LD false 1 (AV.ptr (nx + 1) 0) H119 fun v122 =>
 BI BinOp.add v122 (AV.int IntKind.i64 1) fun v123 =>
 za Tryd.prog 45 [v121, v123] H119 nx120 (zhl nx19 nx Q)
def zad (nx19 : Nat) (nx : Nat) (Q : QT) (v186 : AV) (H187 : Heap) (nx188 : Nat) : Prop :=
 za Tryd.prog 75 [AV.ptr nx19 0, AV.ptr nx 0, AV.ptr (nx + 1) 0] H187 nx188 (zp nx nx19 Q)
def zk (nx : Nat) (Q : QT) (v17 : AV) (H18 : Heap) (nx19 : Nat) : Prop :=
 PUTH H18 nx19 (AObj.row 5 [AV.int IntKind.i64 0, AV.str [], AV.nils, AV.nils, AV.nils]) fun H20 =>
 ST 5 (AV.ptr nx19 0) (AV.agg [AV.int IntKind.i64 0, AV.str [], AV.nils, AV.nils, AV.nils]) H20 fun H21 =>
 BS BinOp.eql v17 (AV.str [108, 101, 116]) fun v22 =>
 CNDC v22
 (ST 1 (AV.ptr nx19 0) (AV.int IntKind.i64 1) H21 fun H23 =>
 BS BinOp.eql v17 (AV.str [115, 101, 116]) fun v24 =>
 CNDC v24
 (ST 1 (AV.ptr nx19 0) (AV.int IntKind.i64 2) H23 fun H25 =>
 LD false 1 (AV.ptr nx 0) H25 fun v26 =>
 za Tryd.prog 44 [v26] H25 (nx19 + 1) (zae nx19 nx Q))
 (LD false 1 (AV.ptr nx 0) H23 fun v41 =>
 za Tryd.prog 44 [v41] H23 (nx19 + 1) (zae nx19 nx Q)))
 (BS BinOp.eql v17 (AV.str [115, 101, 116]) fun v56 =>
 CNDC v56
 (ST 1 (AV.ptr nx19 0) (AV.int IntKind.i64 1) H21 fun H57 =>
 BS BinOp.eql v17 (AV.str [115, 101, 116]) fun v58 =>
 CNDC v58
 (ST 1 (AV.ptr nx19 0) (AV.int IntKind.i64 2) H57 fun H59 =>
 LD false 1 (AV.ptr nx 0) H59 fun v60 =>
 za Tryd.prog 44 [v60] H59 (nx19 + 1) (zae nx19 nx Q))
 (LD false 1 (AV.ptr nx 0) H57 fun v75 =>
 za Tryd.prog 44 [v75] H57 (nx19 + 1) (zae nx19 nx Q)))
 (BS BinOp.eql v17 (AV.str [105, 102]) fun v90 =>
 CNDC v90
 (ST 1 (AV.ptr nx19 0) (AV.int IntKind.i64 3) H21 fun H91 =>
 za Tryd.prog 75 [AV.ptr nx19 0, AV.ptr nx 0, AV.ptr (nx + 1) 0] H91 (nx19 + 1) (zdt nx nx19 Q))
 (BS BinOp.eql v17 (AV.str [119, 104, 105, 108, 101]) fun v116 =>
 CNDC v116
 (ST 1 (AV.ptr nx19 0) (AV.int IntKind.i64 4) H21 fun H117 =>
 za Tryd.prog 75 [AV.ptr nx19 0, AV.ptr nx 0, AV.ptr (nx + 1) 0] H117 (nx19 + 1) (zds nx nx19 Q))
 (BS BinOp.eql v17 (AV.str [115, 97, 121]) fun v131 =>
 CNDC v131
 (PUTH H21 (nx19 + 1) (AObj.mp []) fun H132 =>
 zo (AK.str) (AV.str [115, 97, 121]) = true ∧
 MU (AV.amap (nx19 + 1)) (AV.str [115, 97, 121]) (AV.int IntKind.i64 5) H132 fun H133 =>
 zo (AK.str) (AV.str [114, 101, 116, 117, 114, 110]) = true ∧
 MU (AV.amap (nx19 + 1)) (AV.str [114, 101, 116, 117, 114, 110]) (AV.int IntKind.i64 6) H133 fun H134 =>
 zo (AK.str) (AV.str [100, 111]) = true ∧
 MU (AV.amap (nx19 + 1)) (AV.str [100, 111]) (AV.int IntKind.i64 9) H134 fun H135 =>
 zo (AK.str) v17 = true ∧
 LK [AV.int IntKind.i64 0] false (AV.amap (nx19 + 1)) v17 false H135 fun v136 =>
 ST 1 (AV.ptr nx19 0) v136 H135 fun H137 =>
 za Tryd.prog 75 [AV.ptr nx19 0, AV.ptr nx 0, AV.ptr (nx + 1) 0] H137 (nx19 + 2) (zp nx nx19 Q))
 (BS BinOp.eql v17 (AV.str [114, 101, 116, 117, 114, 110]) fun v148 =>
 CNDC v148
 (PUTH H21 (nx19 + 1) (AObj.mp []) fun H149 =>
 zo (AK.str) (AV.str [115, 97, 121]) = true ∧
 MU (AV.amap (nx19 + 1)) (AV.str [115, 97, 121]) (AV.int IntKind.i64 5) H149 fun H150 =>
 zo (AK.str) (AV.str [114, 101, 116, 117, 114, 110]) = true ∧
 MU (AV.amap (nx19 + 1)) (AV.str [114, 101, 116, 117, 114, 110]) (AV.int IntKind.i64 6) H150 fun H151 =>
 zo (AK.str) (AV.str [100, 111]) = true ∧
 MU (AV.amap (nx19 + 1)) (AV.str [100, 111]) (AV.int IntKind.i64 9) H151 fun H152 =>
 zo (AK.str) v17 = true ∧
 LK [AV.int IntKind.i64 0] false (AV.amap (nx19 + 1)) v17 false H152 fun v153 =>
 ST 1 (AV.ptr nx19 0) v153 H152 fun H154 =>
 za Tryd.prog 75 [AV.ptr nx19 0, AV.ptr nx 0, AV.ptr (nx + 1) 0] H154 (nx19 + 2) (zp nx nx19 Q))
 (BS BinOp.eql v17 (AV.str [100, 111]) fun v165 =>
 CNDC v165
 (PUTH H21 (nx19 + 1) (AObj.mp []) fun H166 =>
 zo (AK.str) (AV.str [115, 97, 121]) = true ∧
 MU (AV.amap (nx19 + 1)) (AV.str [115, 97, 121]) (AV.int IntKind.i64 5) H166 fun H167 =>
 zo (AK.str) (AV.str [114, 101, 116, 117, 114, 110]) = true ∧
 MU (AV.amap (nx19 + 1)) (AV.str [114, 101, 116, 117, 114, 110]) (AV.int IntKind.i64 6) H167 fun H168 =>
 zo (AK.str) (AV.str [100, 111]) = true ∧
 MU (AV.amap (nx19 + 1)) (AV.str [100, 111]) (AV.int IntKind.i64 9) H168 fun H169 =>
 zo (AK.str) v17 = true ∧
 LK [AV.int IntKind.i64 0] false (AV.amap (nx19 + 1)) v17 false H169 fun v170 =>
 ST 1 (AV.ptr nx19 0) v170 H169 fun H171 =>
 za Tryd.prog 75 [AV.ptr nx19 0, AV.ptr nx 0, AV.ptr (nx + 1) 0] H171 (nx19 + 2) (zp nx nx19 Q))
 (BS BinOp.eql v17 (AV.str [112, 117, 116, 108]) fun v182 =>
 CNDC v182
 (ST 1 (AV.ptr nx19 0) (AV.int IntKind.i64 7) H21 fun H183 =>
 BS BinOp.eql v17 (AV.str [112, 117, 116, 114]) fun v184 =>
 CNDC v184
 (ST 1 (AV.ptr nx19 0) (AV.int IntKind.i64 8) H183 fun H185 =>
 za Tryd.prog 75 [AV.ptr nx19 0, AV.ptr nx 0, AV.ptr (nx + 1) 0] H185 (nx19 + 1) (zad nx19 nx Q))
 (za Tryd.prog 75 [AV.ptr nx19 0, AV.ptr nx 0, AV.ptr (nx + 1) 0] H183 (nx19 + 1) (zad nx19 nx Q)))
 (BS BinOp.eql v17 (AV.str [112, 117, 116, 114]) fun v212 =>
 CNDC v212
 (ST 1 (AV.ptr nx19 0) (AV.int IntKind.i64 7) H21 fun H213 =>
 BS BinOp.eql v17 (AV.str [112, 117, 116, 114]) fun v214 =>
 CNDC v214
 (ST 1 (AV.ptr nx19 0) (AV.int IntKind.i64 8) H213 fun H215 =>
 za Tryd.prog 75 [AV.ptr nx19 0, AV.ptr nx 0, AV.ptr (nx + 1) 0] H215 (nx19 + 1) (zad nx19 nx Q))
 (za Tryd.prog 75 [AV.ptr nx19 0, AV.ptr nx 0, AV.ptr (nx + 1) 0] H213 (nx19 + 1) (zad nx19 nx Q)))
 (LD false 1 (AV.ptr nx 0) H21 fun v242 =>
 za Tryd.prog 63 [v242, AV.int IntKind.i64 1] H21 (nx19 + 1) (zp nx nx19 Q))))))))))
def zgb (nx : Nat) (Q : QT) (_ : AV) (H14 : Heap) (nx15 : Nat) : Prop :=
 LD false 1 (AV.ptr nx 0) H14 fun v16 =>
 za Tryd.prog 64 [v16] H14 nx15 (zk nx Q)
def zbj (nx : Nat) (Q : QT) (v6 : AV) (H7 : Heap) (nx8 : Nat) : Prop :=
 UO UnOp.not v6 fun v9 =>
 CNDC v9
 (ST 5 (AV.ptr (nx + 2) 0) (AV.agg [AV.int IntKind.i64 0, AV.str [], AV.nils, AV.nils, AV.nils]) H7 fun H10 =>
 LD true 5 (AV.ptr (nx + 2) 0) H10 fun v11 =>
 Q v11 H10 nx8)
 (LD false 1 (AV.ptr nx 0) H7 fun v12 =>
 za Tryd.prog 43 [v12, AV.int IntKind.u8 40] H7 nx8 (zgb nx Q))
def zdr (a0 a1 : AV) (H : Heap) (nx : Nat) (Q : QT) : Prop :=
 a0.sure = true ∧
 PUTH H nx (AObj.row a0.cells.length a0.cells) fun H1 =>
 a1.sure = true ∧
 PUTH H1 (nx + 1) (AObj.row a1.cells.length a1.cells) fun H2 =>
 PUTH H2 (nx + 2) (AObj.row 5 [AV.int IntKind.i64 0, AV.str [], AV.nils, AV.nils, AV.nils]) fun H3 =>
 LD false 1 (AV.ptr nx 0) H3 fun v4 =>
 LD false 1 (AV.ptr (nx + 1) 0) H3 fun v5 =>
 za Tryd.prog 74 [v4, v5] H3 (nx + 3) (zbj nx Q)
theorem zey (a0 a1 : AV) (H : Heap) (nx : Nat) (Q : QT) : zdr a0 a1 H nx Q → za Tryd.prog 65 [a0, a1] H nx Q :=
  ze (lv := lvOf []) (c := zh Tryd.f65) zq zu mixed Tryd.func65 (by kernel_rfl) (by kernel_rfl) (by kernel_rfl) (by kernel_rfl) (by kernel_rfl)
def zdg (xs2 : List AV) (K1 : J3) (v13 : AV) (H14 : Heap) (nx15 : Nat) : Prop :=
 BSL 1 5 [AV.int IntKind.i64 0, AV.str [], AV.nils, AV.nils, AV.nils] [(0, v13)] fun cells16 =>
 PUTH H14 nx15 (AObj.row 5 cells16) fun H17 =>
 APP 5 96 (nth xs2 2) (AV.slc nx15 0 1) H17 (nx15 + 1) fun v18 H19 nx20 =>
 K1 [nth xs2 0, nth xs2 1, v18] H19 nx20
def zbi (Q : QT) (xs2 : List AV) (v21 : AV) (H22 : Heap) (nx23 : Nat) : Prop :=
 Q (nth xs2 2) H22 nx23
def zdf (xs2 : List AV) (K1 : J3) (Q : QT) (v9 : AV) (H10 : Heap) (nx11 : Nat) : Prop :=
 BI BinOp.neq v9 (AV.int IntKind.u8 41) fun v12 =>
 CNDC v12
 (za Tryd.prog 65 [nth xs2 0, nth xs2 1] H10 nx11 (zdg xs2 K1))
 (za Tryd.prog 43 [nth xs2 0, AV.int IntKind.u8 41] H10 nx11 (zbi Q xs2))
def zbh (Q : QT) (K1 : J3) (xs2 : List AV) (H3 : Heap) (nx4 : Nat) : Prop :=
 NC (nth xs2 0) fun v5 =>
 FA 2 v5 fun v6 =>
 LD false 1 v6 H3 fun v7 =>
 BI BinOp.eql v7 (AV.int IntKind.i64 0) fun v8 =>
 CND v8
 (za Tryd.prog 42 [nth xs2 0] H3 nx4 (zdf xs2 K1 Q))
 (za Tryd.prog 43 [nth xs2 0, AV.int IntKind.u8 41] H3 nx4 (zbi Q xs2))
def zga (a0 a1 : AV) (H : Heap) (nx : Nat) (Q : QT) : Prop :=
 LP (zbh Q) [a0, a1, AV.nils] H nx
theorem zlg (a0 a1 : AV) (H : Heap) (nx : Nat) (Q : QT) : zga a0 a1 H nx Q → za Tryd.prog 45 [a0, a1] H nx Q :=
  ze (lv := lvOf [(2, 2, [0, 1, 5])]) (c := zh Tryd.f45) zq zu mixed Tryd.func45 (by kernel_rfl) (by kernel_rfl) (by kernel_rfl) (by kernel_rfl) (by kernel_rfl)
def zjg (H38 : Heap) (nx39 : Nat) (v42 : AV) (xs30 : List AV) (v41 : AV) (rd43 : List Nat) (K29 : J3) (v44 : AV) (_ : List Nat) (fr46 : List Nat) (D47 : zt) : Prop :=
 BSL 1 1 [AV.str []] [(0, v44)] fun cells48 =>
 PUTH (H38.apply D47) (nx39 + fr46.length) (AObj.row 1 cells48) fun H49 =>
 zam 1 16 v42 (AV.slc (nx39 + fr46.length) 0 1) H49 ((nx39 + fr46.length) + 1) fun v50 _ fr52 D53 =>
 FA 1 (nth xs30 2) fun v54 =>
 zab 1 v54 v50 (H49.apply D53) fun _ _ fr57 D58 =>
 zg (domD D47) [] (
 SOFT v41 v42 D47 rd43 (
 (nx39 + fr46.length) ∉ [] ∧
 (nx39 + fr46.length) ∉ rd43 ∧
 K29 [nth xs30 0, nth xs30 1, nth xs30 2] ((H49.apply D53).apply D58) ((((nx39 + fr46.length) + 1) + fr52.length) + fr57.length)))
def zjf (xs30 : List AV) (K5 : J3) (v62 : AV) (H63 : Heap) (nx64 : Nat) : Prop :=
 FA 2 (nth xs30 2) fun v65 =>
 ST 1 v65 v62 H63 fun H66 =>
 LD true 3 (nth xs30 2) H66 fun v67 =>
 BSL 1 3 [AV.str [], AV.nils, AV.nils] [(0, v67)] fun cells68 =>
 PUTH H66 nx64 (AObj.row 3 cells68) fun H69 =>
 APP 3 64 (nth xs30 1) (AV.slc nx64 0 1) H69 (nx64 + 1) fun v70 H71 nx72 =>
 K5 [nth xs30 0, v70] H71 nx72
def zdl (xs30 : List AV) (K5 : J3) (v59 : AV) (H60 : Heap) (nx61 : Nat) : Prop :=
 za Tryd.prog 45 [nth xs30 0, AV.int IntKind.i64 0] H60 nx61 (zjf xs30 K5)
def zje (xs30 : List AV) (K29 : J3) (K5 : J3) (v37 : AV) (H38 : Heap) (nx39 : Nat) : Prop :=
 BI BinOp.neq v37 (AV.int IntKind.u8 41) fun v40 =>
 CNDC v40
 (FA 1 (nth xs30 2) fun v41 =>
 LDR false 1 v41 H38 fun v42 rd43 =>
 zj Tryd.prog (AV.clo 44 []) [nth xs30 0] H38 nx39 (zjg H38 nx39 v42 xs30 v41 rd43 K29))
 (za Tryd.prog 43 [nth xs30 0, AV.int IntKind.u8 41] H38 nx39 (zdl xs30 K5))
def zfh (K5 : J3) (K29 : J3) (xs30 : List AV) (H31 : Heap) (nx32 : Nat) : Prop :=
 NC (nth xs30 0) fun v33 =>
 FA 2 v33 fun v34 =>
 LD false 1 v34 H31 fun v35 =>
 BI BinOp.eql v35 (AV.int IntKind.i64 0) fun v36 =>
 CND v36
 (za Tryd.prog 42 [nth xs30 0] H31 nx32 (zje xs30 K29 K5))
 (za Tryd.prog 43 [nth xs30 0, AV.int IntKind.u8 41] H31 nx32 (zdl xs30 K5))
def zoa (K5 : J3) (xs6 : List AV) (nx22 : Nat) (v26 : AV) (H27 : Heap) (nx28 : Nat) : Prop :=
 LP (zfh K5) [nth xs6 0, nth xs6 1, AV.ptr nx22 0] H27 nx28
def znz (xs6 : List AV) (K5 : J3) (v20 : AV) (H21 : Heap) (nx22 : Nat) : Prop :=
 BD (zl tab [(9, 0), (32, 1), (41, 2)]) [AV.str [], AV.nils, AV.nils] [(0, v20)] fun v23 =>
 PUTH H21 nx22 (AObj.row 3 [AV.str [], AV.nils, AV.nils]) fun H24 =>
 ST 3 (AV.ptr nx22 0) v23 H24 fun H25 =>
 za Tryd.prog 43 [nth xs6 0, AV.int IntKind.u8 40] H25 (nx22 + 1) (zoa K5 xs6 nx22)
def zjd (xs6 : List AV) (K5 : J3) (v17 : AV) (H18 : Heap) (nx19 : Nat) : Prop :=
 za Tryd.prog 44 [nth xs6 0] H18 nx19 (znz xs6 K5)
def zjc (xs6 : List AV) (K5 : J3) (Q : QT) (v13 : AV) (H14 : Heap) (nx15 : Nat) : Prop :=
 BI BinOp.neq v13 (AV.int IntKind.u8 0) fun v16 =>
 CNDC v16
 (za Tryd.prog 43 [nth xs6 0, AV.int IntKind.u8 40] H14 nx15 (zjd xs6 K5))
 (NC (nth xs6 0) fun v87 =>
 FA 2 v87 fun v88 =>
 LD false 1 v88 H14 fun v89 =>
 BI BinOp.neq v89 (AV.int IntKind.i64 0) fun v90 =>
 CNDC v90
 (NC (nth xs6 0) fun v91 =>
 FA 2 v91 fun v92 =>
 LDR false 1 v92 H14 fun v93 _ =>
 Q (AV.tup [AV.nils, v93]) H14 nx15)
 (Q (AV.tup [nth xs6 1, AV.int IntKind.i64 0]) H14 nx15))
def zjb (Q : QT) (K5 : J3) (xs6 : List AV) (H7 : Heap) (nx8 : Nat) : Prop :=
 NC (nth xs6 0) fun v9 =>
 FA 2 v9 fun v10 =>
 LD false 1 v10 H7 fun v11 =>
 BI BinOp.eql v11 (AV.int IntKind.i64 0) fun v12 =>
 CND v12
 (za Tryd.prog 42 [nth xs6 0] H7 nx8 (zjc xs6 K5 Q))
 (NC (nth xs6 0) fun v95 =>
 FA 2 v95 fun v96 =>
 LD false 1 v96 H7 fun v97 =>
 BI BinOp.neq v97 (AV.int IntKind.i64 0) fun v98 =>
 CNDC v98
 (NC (nth xs6 0) fun v99 =>
 FA 2 v99 fun v100 =>
 LDR false 1 v100 H7 fun v101 _ =>
 Q (AV.tup [AV.nils, v101]) H7 nx8)
 (Q (AV.tup [nth xs6 1, AV.int IntKind.i64 0]) H7 nx8))
def zja (a0 : AV) (H : Heap) (nx : Nat) (Q : QT) : Prop :=
 LNS a0 fun v1 =>
 BI BinOp.gtr v1 (AV.int IntKind.i64 1500) fun v2 =>
 CNDC v2
 (Q (AV.tup [AV.nils, AV.int IntKind.i64 4]) H nx)
 (BD (zl tab [(9, 0), (3, 1), (23, 2)]) [AV.str [], AV.int IntKind.i64 0, AV.int IntKind.i64 0] [(0, a0)] fun v3 =>
 v3.sure = true ∧
 PUTH H nx (AObj.row v3.cells.length v3.cells) fun H4 =>
 LP (zjb Q) [AV.ptr nx 0, AV.nils] H4 (nx + 1))
theorem zqc (a0 : AV) (H : Heap) (nx : Nat) (Q : QT) : zja a0 H nx Q → za Tryd.prog 21 [a0] H nx Q :=
  ze (lv := lvOf [(2, 5, [4, 5]), (2, 9, [4, 5, 6])]) (c := zh Tryd.f21) zq zu mixed Tryd.func21 (by kernel_rfl) (by kernel_rfl) (by kernel_rfl) (by kernel_rfl) (by kernel_rfl)
def zio (Q : QT) (H21 : Heap) (nx22 : Nat) (xs20 : List AV) (K19 : J3) (v36 : AV) (_ : List Nat) (fr38 : List Nat) (D39 : zt) : Prop :=
 UO UnOp.not v36 fun v40 =>
 CNDC v40
 (Q (AV.bool false) (H21.apply D39) (nx22 + fr38.length))
 (BI BinOp.add (nth xs20 3) (AV.int IntKind.i64 1) fun v41 =>
 K19 [nth xs20 0, nth xs20 1, nth xs20 2, v41] (H21.apply D39) (nx22 + fr38.length))
def zdz (Q : QT) (K19 : J3) (xs20 : List AV) (H21 : Heap) (nx22 : Nat) : Prop :=
 BI BinOp.lss (nth xs20 3) (nth xs20 2) fun v23 =>
 CNDC v23
 (FA 3 (nth xs20 0) fun v24 =>
 LDR false 1 v24 H21 fun v25 _ =>
 IA 4 v25 (nth xs20 3) fun v27 =>
 LDR true 4 v27 H21 fun v28 _ =>
 FA 3 (nth xs20 1) fun v30 =>
 LDR false 1 v30 H21 fun v31 _ =>
 IA 4 v31 (nth xs20 3) fun v33 =>
 LDR true 4 v33 H21 fun v34 _ =>
 zj Tryd.prog (AV.clo 66 []) [v28, v34] H21 nx22 (zio Q H21 nx22 xs20 K19))
 (Q (AV.bool true) H21 nx22)
def zin (a0 a1 : AV) (H : Heap) (nx : Nat) (Q : QT) : Prop :=
 a0.sure = true ∧
 PUTH H nx (AObj.row a0.cells.length a0.cells) fun H1 =>
 a1.sure = true ∧
 PUTH H1 (nx + 1) (AObj.row a1.cells.length a1.cells) fun H2 =>
 LD false 1 (AV.ptr nx 0) H2 fun v3 =>
 LD false 1 (AV.ptr (nx + 1) 0) H2 fun v4 =>
 BI BinOp.neq v3 v4 fun v5 =>
 CND v5
 (Q (AV.bool false) H2 (nx + 2))
 (LD false 1 (AV.ptr nx 1) H2 fun v6 =>
 LD false 1 (AV.ptr (nx + 1) 1) H2 fun v7 =>
 BI BinOp.neq v6 v7 fun v8 =>
 CND v8
 (Q (AV.bool false) H2 (nx + 2))
 (LD false 1 (AV.ptr nx 2) H2 fun v9 =>
 LD false 1 (AV.ptr (nx + 1) 2) H2 fun v10 =>
 BS BinOp.neq v9 v10 fun v11 =>
 CND v11
 (Q (AV.bool false) H2 (nx + 2))
 (LD false 1 (AV.ptr nx 3) H2 fun v12 =>
 LNL v12 fun v13 =>
 LD false 1 (AV.ptr (nx + 1) 3) H2 fun v14 =>
 LNL v14 fun v15 =>
 BI BinOp.neq v13 v15 fun v16 =>
 CNDC v16
 (Q (AV.bool false) H2 (nx + 2))
 (LD false 1 (AV.ptr nx 3) H2 fun v17 =>
 LNL v17 fun v18 =>
 LP (zdz Q) [AV.ptr nx 0, AV.ptr (nx + 1) 0, v18, AV.int IntKind.i64 0] H2 (nx + 2)))))
theorem zmj (a0 a1 : AV) (H : Heap) (nx : Nat) (Q : QT) : zin a0 a1 H nx Q → za Tryd.prog 66 [a0, a1] H nx Q :=
  ze (lv := lvOf [(2, 4, [2, 3, 36, 37])]) (c := zh Tryd.f66) zq zu mixed Tryd.func66 (by kernel_rfl) (by kernel_rfl) (by kernel_rfl) (by kernel_rfl) (by kernel_rfl)
def zgw (Q : QT) (H45 : Heap) (nx46 : Nat) (xs44 : List AV) (K43 : J3) (v60 : AV) (_ : List Nat) (fr62 : List Nat) (D63 : zt) : Prop :=
 UO UnOp.not v60 fun v64 =>
 CNDC v64
 (Q (AV.bool false) (H45.apply D63) (nx46 + fr62.length))
 (BI BinOp.add (nth xs44 7) (AV.int IntKind.i64 1) fun v65 =>
 K43 [nth xs44 0, nth xs44 1, nth xs44 2, nth xs44 3, nth xs44 4, nth xs44 5, nth xs44 6, v65] (H45.apply D63) (nx46 + fr62.length))
def zdo (Q : QT) (K5 : J3) (K43 : J3) (xs44 : List AV) (H45 : Heap) (nx46 : Nat) : Prop :=
 BI BinOp.lss (nth xs44 7) (nth xs44 6) fun v47 =>
 CNDC v47
 (FA 2 (nth xs44 1) fun v48 =>
 LDR false 1 v48 H45 fun v49 _ =>
 IA 4 v49 (nth xs44 7) fun v51 =>
 LDR true 4 v51 H45 fun v52 _ =>
 FA 2 (nth xs44 2) fun v54 =>
 LDR false 1 v54 H45 fun v55 _ =>
 IA 4 v55 (nth xs44 7) fun v57 =>
 LDR true 4 v57 H45 fun v58 _ =>
 zj Tryd.prog (AV.clo 66 []) [v52, v58] H45 nx46 (zgw Q H45 nx46 xs44 K43))
 (BI BinOp.add (nth xs44 5) (AV.int IntKind.i64 1) fun v66 =>
 K5 [nth xs44 0, nth xs44 3, nth xs44 4, v66] H45 nx46)
def zgv (Q : QT) (nx8 : Nat) (K5 : J3) (xs6 : List AV) (v37 : AV) (H38 : Heap) (nx39 : Nat) : Prop :=
 UO UnOp.not v37 fun v40 =>
 CNDC v40
 (Q (AV.bool false) H38 nx39)
 (LD false 1 (AV.ptr nx8 2) H38 fun v41 =>
 LNL v41 fun v42 =>
 LP (zdo Q K5) [nth xs6 0, AV.ptr nx8 0, AV.ptr (nx8 + 1) 0, nth xs6 1, nth xs6 2, nth xs6 3, v42, AV.int IntKind.i64 0] H38 nx39)
def zgu (Q : QT) (nx8 : Nat) (K5 : J3) (xs6 : List AV) (v31 : AV) (H32 : Heap) (nx33 : Nat) : Prop :=
 UO UnOp.not v31 fun v34 =>
 CND v34
 (Q (AV.bool false) H32 nx33)
 (LD false 1 (AV.ptr nx8 4) H32 fun v35 =>
 LD false 1 (AV.ptr (nx8 + 1) 4) H32 fun v36 =>
 za Tryd.prog 46 [v35, v36] H32 nx33 (zgv Q nx8 K5 xs6))
def zdn (Q : QT) (K5 : J3) (xs6 : List AV) (H7 : Heap) (nx8 : Nat) : Prop :=
 BI BinOp.lss (nth xs6 3) (nth xs6 2) fun v9 =>
 CNDC v9
 (IA 5 (nth xs6 1) (nth xs6 3) fun v10 =>
 LD true 5 v10 H7 fun v11 =>
 PUTH H7 nx8 (AObj.row 5 [AV.int IntKind.i64 0, AV.str [], AV.nils, AV.nils, AV.nils]) fun H12 =>
 ST 5 (AV.ptr nx8 0) v11 H12 fun H13 =>
 IA 5 (nth xs6 0) (nth xs6 3) fun v14 =>
 LD true 5 v14 H13 fun v15 =>
 PUTH H13 (nx8 + 1) (AObj.row 5 [AV.int IntKind.i64 0, AV.str [], AV.nils, AV.nils, AV.nils]) fun H16 =>
 ST 5 (AV.ptr (nx8 + 1) 0) v15 H16 fun H17 =>
 LD false 1 (AV.ptr nx8 0) H17 fun v18 =>
 LD false 1 (AV.ptr (nx8 + 1) 0) H17 fun v19 =>
 BI BinOp.neq v18 v19 fun v20 =>
 CND v20
 (Q (AV.bool false) H17 (nx8 + 2))
 (LD false 1 (AV.ptr nx8 1) H17 fun v21 =>
 LD false 1 (AV.ptr (nx8 + 1) 1) H17 fun v22 =>
 BS BinOp.neq v21 v22 fun v23 =>
 CND v23
 (Q (AV.bool false) H17 (nx8 + 2))
 (LD false 1 (AV.ptr nx8 2) H17 fun v24 =>
 LNL v24 fun v25 =>
 LD false 1 (AV.ptr (nx8 + 1) 2) H17 fun v26 =>
 LNL v26 fun v27 =>
 BI BinOp.neq v25 v27 fun v28 =>
 CND v28
 (Q (AV.bool false) H17 (nx8 + 2))
 (LD false 1 (AV.ptr nx8 3) H17 fun v29 =>
 LD false 1 (AV.ptr (nx8 + 1) 3) H17 fun v30 =>
 za Tryd.prog 46 [v29, v30] H17 (nx8 + 2) (zgu Q nx8 K5 xs6)))))
 (Q (AV.bool true) H7 nx8)
def zgt (a0 a1 : AV) (H : Heap) (nx : Nat) (Q : QT) : Prop :=
 LNL a0 fun v1 =>
 LNL a1 fun v2 =>
 BI BinOp.neq v1 v2 fun v3 =>
 CNDC v3
 (Q (AV.bool false) H nx)
 (LNL a0 fun v4 =>
 LP (zdn Q) [a1, a0, v4, AV.int IntKind.i64 0] H nx)
theorem zlt (a0 a1 : AV) (H : Heap) (nx : Nat) (Q : QT) : zgt a0 a1 H nx Q → za Tryd.prog 46 [a0, a1] H nx Q :=
  ze (lv := lvOf [(2, 4, [1, 14, 15, 16]), (2, 10, [1, 6, 7, 14, 15, 16, 64, 65])]) (c := zh Tryd.f46) zq zu mixed Tryd.func46 (by kernel_rfl) (by kernel_rfl) (by kernel_rfl) (by kernel_rfl) (by kernel_rfl)
def zeq (Q : QT) (K5 : J3) (K47 : J3) (xs48 : List AV) (H49 : Heap) (nx50 : Nat) : Prop :=
 BI BinOp.lss (nth xs48 6) (nth xs48 5) fun v51 =>
 CNDC v51
 (IA 3 (nth xs48 0) (nth xs48 2) fun v52 =>
 FA 1 v52 fun v53 =>
 LDR false 1 v53 H49 fun v54 _ =>
 IA 1 v54 (nth xs48 6) fun v56 =>
 LDR false 1 v56 H49 fun v57 _ =>
 IA 3 (nth xs48 1) (nth xs48 2) fun v59 =>
 FA 1 v59 fun v60 =>
 LDR false 1 v60 H49 fun v61 _ =>
 IA 1 v61 (nth xs48 6) fun v63 =>
 LDR false 1 v63 H49 fun v64 _ =>
 BS BinOp.neq v57 v64 fun v66 =>
 CNDC v66
 (Q (AV.bool false) H49 nx50)
 (BI BinOp.add (nth xs48 6) (AV.int IntKind.i64 1) fun v67 =>
 K47 [nth xs48 0, nth xs48 1, nth xs48 2, nth xs48 3, nth xs48 4, nth xs48 5, v67] H49 nx50))
 (BI BinOp.add (nth xs48 4) (AV.int IntKind.i64 1) fun v68 =>
 K5 [nth xs48 0, nth xs48 1, nth xs48 3, v68] H49 nx50)
def zjl (Q : QT) (H7 : Heap) (nx8 : Nat) (xs6 : List AV) (K5 : J3) (v38 : AV) (_ : List Nat) (fr40 : List Nat) (D41 : zt) : Prop :=
 UO UnOp.not v38 fun v42 =>
 CNDC v42
 (Q (AV.bool false) (H7.apply D41) (nx8 + fr40.length))
 (IA 3 (nth xs6 0) (nth xs6 3) fun v43 =>
 FA 1 v43 fun v44 =>
 LD false 1 v44 (H7.apply D41) fun v45 =>
 LNL v45 fun v46 =>
 LP (zeq Q K5) [nth xs6 0, nth xs6 1, nth xs6 3, nth xs6 2, nth xs6 3, v46, AV.int IntKind.i64 0] (H7.apply D41) (nx8 + fr40.length))
def zep (Q : QT) (K5 : J3) (xs6 : List AV) (H7 : Heap) (nx8 : Nat) : Prop :=
 BI BinOp.lss (nth xs6 3) (nth xs6 2) fun v9 =>
 CNDC v9
 (IA 3 (nth xs6 0) (nth xs6 3) fun v10 =>
 FA 0 v10 fun v11 =>
 LDR false 1 v11 H7 fun v12 _ =>
 IA 3 (nth xs6 1) (nth xs6 3) fun v14 =>
 FA 0 v14 fun v15 =>
 LDR false 1 v15 H7 fun v16 _ =>
 BS BinOp.neq v12 v16 fun v18 =>
 CND v18
 (Q (AV.bool false) H7 nx8)
 (IA 3 (nth xs6 0) (nth xs6 3) fun v19 =>
 FA 1 v19 fun v20 =>
 LDR false 1 v20 H7 fun v21 _ =>
 LNL v21 fun v23 =>
 IA 3 (nth xs6 1) (nth xs6 3) fun v24 =>
 FA 1 v24 fun v25 =>
 LDR false 1 v25 H7 fun v26 _ =>
 LNL v26 fun v28 =>
 BI BinOp.neq v23 v28 fun v29 =>
 CND v29
 (Q (AV.bool false) H7 nx8)
 (IA 3 (nth xs6 0) (nth xs6 3) fun v30 =>
 FA 2 v30 fun v31 =>
 LDR false 1 v31 H7 fun v32 _ =>
 IA 3 (nth xs6 1) (nth xs6 3) fun v34 =>
 FA 2 v34 fun v35 =>
 LDR false 1 v35 H7 fun v36 _ =>
 zj Tryd.prog (AV.clo 46 []) [v32, v36] H7 nx8 (zjl Q H7 nx8 xs6 K5))))
 (Q (AV.bool true) H7 nx8)
def zjk (a0 a1 : AV) (H : Heap) (nx : Nat) (Q : QT) : Prop :=
 LNL a0 fun v1 =>
 LNL a1 fun v2 =>
 BI BinOp.neq v1 v2 fun v3 =>
 CNDC v3
 (Q (AV.bool false) H nx)
 (LNL a0 fun v4 =>
 LP (zep Q) [a0, a1, v4, AV.int IntKind.i64 0] H nx)
theorem zmx (a0 a1 : AV) (H : Heap) (nx : Nat) (Q : QT) : zjk a0 a1 H nx Q → za Tryd.prog 22 [a0, a1] H nx Q :=
  ze (lv := lvOf [(2, 4, [0, 1, 13, 14]), (2, 9, [0, 1, 5, 13, 14, 62, 63])]) (c := zh Tryd.f22) zq zu mixed Tryd.func22 (by kernel_rfl) (by kernel_rfl) (by kernel_rfl) (by kernel_rfl) (by kernel_rfl)
def zoi (Q : QT) (K4 : J3) (xs5 : List AV) (H6 : Heap) (nx7 : Nat) : Prop :=
 BI BinOp.lss (nth xs5 2) (nth xs5 1) fun v8 =>
 CNDC v8
 (IX (nth xs5 0) (nth xs5 2) fun v9 =>
 BI BinOp.lss v9 (AV.int IntKind.u8 32) fun v10 =>
 CND v10
 (Q (AV.bool false) H6 nx7)
 (IX (nth xs5 0) (nth xs5 2) fun v11 =>
 BI BinOp.gtr v11 (AV.int IntKind.u8 126) fun v12 =>
 CND v12
 (Q (AV.bool false) H6 nx7)
 (IX (nth xs5 0) (nth xs5 2) fun v13 =>
 BI BinOp.eql v13 (AV.int IntKind.u8 39) fun v14 =>
 CNDC v14
 (Q (AV.bool false) H6 nx7)
 (BI BinOp.add (nth xs5 2) (AV.int IntKind.i64 1) fun v15 =>
 K4 [nth xs5 0, nth xs5 1, v15] H6 nx7))))
 (Q (AV.bool true) H6 nx7)
def zkq (a0 : AV) (H : Heap) (nx : Nat) (Q : QT) : Prop :=
 LNS a0 fun v1 =>
 BI BinOp.gtr v1 (AV.int IntKind.i64 12) fun v2 =>
 CNDC v2
 (Q (AV.bool false) H nx)
 (LNS a0 fun v3 =>
 LP (zoi Q) [a0, v3, AV.int IntKind.i64 0] H nx)
theorem zqk (a0 : AV) (H : Heap) (nx : Nat) (Q : QT) : zkq a0 H nx Q → za Tryd.prog 24 [a0] H nx Q :=
  ze (lv := lvOf [(2, 4, [0, 8, 9])]) (c := zh Tryd.f24) zq zu mixed Tryd.func24 (by kernel_rfl) (by kernel_rfl) (by kernel_rfl) (by kernel_rfl) (by kernel_rfl)
def zhg (v22 : AV) (Q : QT) (v25 : AV) (H26 : Heap) (nx27 : Nat) : Prop :=
 BB BinOp.eql v22 v25 fun v28 =>
 Q v28 H26 nx27
def zhf (a0 : AV) (Q : QT) (v22 : AV) (H23 : Heap) (nx24 : Nat) : Prop :=
 za Tryd.prog 25 [a0] H23 nx24 (zhg v22 Q)
def zhe (v15 : AV) (a0 : AV) (Q : QT) (v18 : AV) (H19 : Heap) (nx20 : Nat) : Prop :=
 BB BinOp.eql v15 v18 fun v21 =>
 CND v21
 (za Tryd.prog 24 [a0] H19 nx20 (zhf a0 Q))
 (Q (AV.bool false) H19 nx20)
def zhd (a0 : AV) (Q : QT) (v15 : AV) (H16 : Heap) (nx17 : Nat) : Prop :=
 za Tryd.prog 14 [a0] H16 nx17 (zhe v15 a0 Q)
def zhc (a0 : AV) (Q : QT) (v12 : AV) (H13 : Heap) (nx14 : Nat) : Prop :=
 CND v12
 (za Tryd.prog 23 [a0] H13 nx14 (zhd a0 Q))
 (Q (AV.bool false) H13 nx14)
def zhb (v5 : AV) (v4 : AV) (a0 : AV) (Q : QT) (v6 : AV) (H7 : Heap) (nx8 : Nat) : Prop :=
 EX v6 0 fun v9 =>
 EX v6 1 fun v10 =>
 BI BinOp.eql v5 v10 fun v11 =>
 CND v11
 (za Tryd.prog 22 [v4, v9] H7 nx8 (zhc a0 Q))
 (Q (AV.bool false) H7 nx8)
def zha (a0 : AV) (Q : QT) (v1 : AV) (H2 : Heap) (nx3 : Nat) : Prop :=
 EX v1 0 fun v4 =>
 EX v1 1 fun v5 =>
 za Tryd.prog 10 [a0] H2 nx3 (zhb v5 v4 a0 Q)
def zgz (a0 : AV) (H : Heap) (nx : Nat) (Q : QT) : Prop :=
 za Tryd.prog 21 [a0] H nx (zha a0 Q)
theorem zlv (a0 : AV) (H : Heap) (nx : Nat) (Q : QT) : zgz a0 H nx Q → za Tryd.prog 7 [a0] H nx Q :=
  ze (lv := lvOf []) (c := zh Tryd.f7) zq zu mixed Tryd.func7 (by kernel_rfl) (by kernel_rfl) (by kernel_rfl) (by kernel_rfl) (by kernel_rfl)
def zcn (v2 : AV) (H : Heap) (nx : Nat) (a0 : AV) (v1 : AV) (rd3 : List Nat) (rd5 : List Nat) (rd7 : List Nat) (Q : QT) (v9 : AV) (rd10 : List Nat) (fr11 : List Nat) (D12 : zt) : Prop :=
 LNL v2 fun v13 =>
 PUTH (H.apply D12) (nx + fr11.length) (AObj.row 4 [AV.int IntKind.i64 0, AV.int IntKind.i64 0, AV.str [], AV.nils]) fun H14 =>
 zam 4 56 v2 (AV.slc (nx + fr11.length) 0 1) H14 ((nx + fr11.length) + 1) fun v15 _ fr17 D18 =>
 IA 4 v15 v13 fun v19 =>
 zab 4 v19 v9 (H14.apply D18) fun _ rd21 fr22 D23 =>
 FA 2 a0 fun v24 =>
 zab 1 v24 v15 ((H14.apply D18).apply D23) fun _ rd26 fr27 D28 =>
 zg (domD D12) [] (
 SOFT v1 v2 D12 rd3 (
 zg (domD D12) [] (
 zg (domD D12) [] (
 (nx + fr11.length) ∉ [] ∧
 (nx + fr11.length) ∉ rd3 ∧
 (nx + fr11.length) ∉ rd5 ∧
 (nx + fr11.length) ∉ rd7 ∧
 (nx + fr11.length) ∉ [] ∧
 zg (domD D12) [] (
 zg (domD D12) [(nx + fr11.length)] (
 (nx + fr11.length) ∉ rd10 ∧
 (nx + fr11.length) ∉ [] ∧
 zg (domD D23) [] (
 zg (domD D23) [] (
 zg (domD D28) [] (
 zg (domD D23) rd26 (
 zg (domD D23) (domD D28) (
 zg (domD D28) rd21 (
 Q (AV.tup []) (((H14.apply D18).apply D23).apply D28) (((((nx + fr11.length) + 1) + fr17.length) + fr22.length) + fr27.length)))))))))))))
def zcm (a0 a1 a2 : AV) (H : Heap) (nx : Nat) (Q : QT) : Prop :=
 FA 2 a0 fun v1 =>
 LDR false 1 v1 H fun v2 rd3 =>
 LDR false 1 a1 H fun v4 rd5 =>
 LDR false 1 a2 H fun v6 rd7 =>
 BI BinOp.add v6 (AV.int IntKind.i64 1) fun v8 =>
 zj Tryd.prog (AV.clo 76 []) [v4, v8] H nx (zcn v2 H nx a0 v1 rd3 rd5 rd7 Q)
theorem zko (a0 a1 a2 : AV) (H : Heap) (nx : Nat) (Q : QT) : zcm a0 a1 a2 H nx Q → za Tryd.prog 75 [a0, a1, a2] H nx Q :=
  ze (lv := lvOf []) (c := zh Tryd.f75) zq zu mixed Tryd.func75 (by kernel_rfl) (by kernel_rfl) (by kernel_rfl) (by kernel_rfl) (by kernel_rfl)
def zmn (Q : QT) (v22 : AV) (H23 : Heap) (nx24 : Nat) : Prop :=
 Q (AV.str []) H23 nx24
def zmm (Q : QT) (v38 : AV) (v51 : AV) (H52 : Heap) (nx53 : Nat) : Prop :=
 Q v38 H52 nx53
def zcp (a0 : AV) (Q : QT) (v38 : AV) (v47 : AV) (H48 : Heap) (nx49 : Nat) : Prop :=
 UO UnOp.not v47 fun v50 =>
 CNDC v50
 (za Tryd.prog 63 [a0, AV.int IntKind.i64 2] H48 nx49 (zmm Q v38))
 (Q v38 H48 nx49)
def zco (a0 : AV) (H7 : Heap) (nx : Nat) (Q : QT) (v17 : AV) (_ : List Nat) (fr19 : List Nat) (D20 : zt) : Prop :=
 BI BinOp.lss v17 (AV.int IntKind.i64 0) fun v21 =>
 CNDC v21
 (za Tryd.prog 63 [a0, AV.int IntKind.i64 8] (H7.apply D20) (nx + fr19.length) (zmn Q))
 (NC a0 fun v25 =>
 FA 0 v25 fun v26 =>
 LDR false 1 v26 (H7.apply D20) fun v27 _ =>
 NC a0 fun v29 =>
 FA 1 v29 fun v30 =>
 LDR false 1 v30 (H7.apply D20) fun v31 _ =>
 NC a0 fun v33 =>
 FA 1 v33 fun v34 =>
 LDR false 1 v34 (H7.apply D20) fun v35 _ =>
 BI BinOp.add v35 v17 fun v37 =>
 SLS v27 (some v31) (some v37) fun v38 =>
 NC a0 fun v39 =>
 FA 1 v39 fun v40 =>
 LD false 1 v40 (H7.apply D20) fun v41 =>
 BI BinOp.add v17 (AV.int IntKind.i64 1) fun v42 =>
 BI BinOp.add v41 v42 fun v43 =>
 NC a0 fun v44 =>
 FA 1 v44 fun v45 =>
 ST 1 v45 v43 (H7.apply D20) fun H46 =>
 za Tryd.prog 24 [v38] H46 (nx + fr19.length) (zcp a0 Q v38))
def zfr (a0 : AV) (H : Heap) (nx : Nat) (Q : QT) : Prop :=
 NC a0 fun v1 =>
 FA 1 v1 fun v2 =>
 LD false 1 v2 H fun v3 =>
 BI BinOp.add v3 (AV.int IntKind.i64 1) fun v4 =>
 NC a0 fun v5 =>
 FA 1 v5 fun v6 =>
 ST 1 v6 v4 H fun H7 =>
 NC a0 fun v8 =>
 FA 0 v8 fun v9 =>
 LDR false 1 v9 H7 fun v10 _ =>
 NC a0 fun v12 =>
 FA 1 v12 fun v13 =>
 LDR false 1 v13 H7 fun v14 _ =>
 SLS v10 (some v14) none fun v16 =>
 zj Tryd.prog (AV.clo 96 []) [v16, AV.int IntKind.u8 39] H7 nx (zco a0 H7 nx Q)
theorem zkp (a0 : AV) (H : Heap) (nx : Nat) (Q : QT) : zfr a0 H nx Q → za Tryd.prog 85 [a0] H nx Q :=
  ze (lv := lvOf []) (c := zh Tryd.f85) zq zu mixed Tryd.func85 (by kernel_rfl) (by kernel_rfl) (by kernel_rfl) (by kernel_rfl) (by kernel_rfl)
def zny (H : Heap) (nx : Nat) (Q : QT) : Prop :=
 PUTH H nx (AObj.row 1 [AV.str [43], AV.str [45], AV.str [42], AV.str [60], AV.str [61]]) fun H1 =>
 Q (AV.slc nx 0 5) H1 (nx + 1)
theorem zqb (H : Heap) (nx : Nat) (Q : QT) : zny  H nx Q → za Tryd.prog 86 [] H nx Q :=
  ze (lv := lvOf []) (c := zh Tryd.f86) zq zu mixed Tryd.func86 (by kernel_rfl) (by kernel_rfl) (by kernel_rfl) (by kernel_rfl) (by kernel_rfl)
def zgg (nx : Nat) (Q : QT) (_ : AV) (H7 : Heap) (nx8 : Nat) : Prop :=
 LD true 4 (AV.ptr nx 0) H7 fun v9 =>
 ST 4 (AV.ptr (nx + 1) 0) v9 H7 fun H10 =>
 LD true 4 (AV.ptr (nx + 1) 0) H10 fun v11 =>
 Q v11 H10 nx8
def zdk (a0 a1 a2 : AV) (H : Heap) (nx : Nat) (Q : QT) : Prop :=
 a1.sure = true ∧
 PUTH H nx (AObj.row a1.cells.length a1.cells) fun H1 =>
 PUTH H1 (nx + 1) (AObj.row 4 [AV.int IntKind.i64 0, AV.int IntKind.i64 0, AV.str [], AV.nils]) fun H2 =>
 LD false 1 (AV.ptr nx 3) H2 fun v3 =>
 LNL v3 fun v4 =>
 BI BinOp.neq v4 a2 fun v5 =>
 CNDC v5
 (za Tryd.prog 63 [a0, AV.int IntKind.i64 5] H2 (nx + 2) (zgg nx Q))
 (LD true 4 (AV.ptr nx 0) H2 fun v12 =>
 ST 4 (AV.ptr (nx + 1) 0) v12 H2 fun H13 =>
 LD true 4 (AV.ptr (nx + 1) 0) H13 fun v14 =>
 Q v14 H13 (nx + 2))
theorem zli (a0 a1 a2 : AV) (H : Heap) (nx : Nat) (Q : QT) : zdk a0 a1 a2 H nx Q → za Tryd.prog 87 [a0, a1, a2] H nx Q :=
  ze (lv := lvOf []) (c := zh Tryd.f87) zq zu mixed Tryd.func87 (by kernel_rfl) (by kernel_rfl) (by kernel_rfl) (by kernel_rfl) (by kernel_rfl)
def zdi (xs2 : List AV) (K1 : J3) (v13 : AV) (H14 : Heap) (nx15 : Nat) : Prop :=
 BSL 1 4 [AV.int IntKind.i64 0, AV.int IntKind.i64 0, AV.str [], AV.nils] [(0, v13)] fun cells16 =>
 PUTH H14 nx15 (AObj.row 4 cells16) fun H17 =>
 APP 4 56 (nth xs2 2) (AV.slc nx15 0 1) H17 (nx15 + 1) fun v18 H19 nx20 =>
 K1 [nth xs2 0, nth xs2 1, v18] H19 nx20
def zbl (Q : QT) (xs2 : List AV) (v21 : AV) (H22 : Heap) (nx23 : Nat) : Prop :=
 Q (nth xs2 2) H22 nx23
def zdh (xs2 : List AV) (K1 : J3) (Q : QT) (v9 : AV) (H10 : Heap) (nx11 : Nat) : Prop :=
 BI BinOp.neq v9 (AV.int IntKind.u8 41) fun v12 =>
 CNDC v12
 (za Tryd.prog 76 [nth xs2 0, nth xs2 1] H10 nx11 (zdi xs2 K1))
 (za Tryd.prog 43 [nth xs2 0, AV.int IntKind.u8 41] H10 nx11 (zbl Q xs2))
def zbk (Q : QT) (K1 : J3) (xs2 : List AV) (H3 : Heap) (nx4 : Nat) : Prop :=
 NC (nth xs2 0) fun v5 =>
 FA 2 v5 fun v6 =>
 LD false 1 v6 H3 fun v7 =>
 BI BinOp.eql v7 (AV.int IntKind.i64 0) fun v8 =>
 CND v8
 (za Tryd.prog 42 [nth xs2 0] H3 nx4 (zdh xs2 K1 Q))
 (za Tryd.prog 43 [nth xs2 0, AV.int IntKind.u8 41] H3 nx4 (zbl Q xs2))
def zgc (a0 a1 : AV) (H : Heap) (nx : Nat) (Q : QT) : Prop :=
 LP (zbk Q) [a0, a1, AV.nils] H nx
theorem zlh (a0 a1 : AV) (H : Heap) (nx : Nat) (Q : QT) : zgc a0 a1 H nx Q → za Tryd.prog 88 [a0, a1] H nx Q :=
  ze (lv := lvOf [(2, 2, [0, 1, 5])]) (c := zh Tryd.f88) zq zu mixed Tryd.func88 (by kernel_rfl) (by kernel_rfl) (by kernel_rfl) (by kernel_rfl) (by kernel_rfl)
def zhy (nx : Nat) (Q : QT) (v12 : AV) (H13 : Heap) (nx14 : Nat) : Prop :=
 BD (zl tab [(3, 0), (3, 1), (9, 2), (88, 3)]) [AV.int IntKind.i64 0, AV.int IntKind.i64 0, AV.str [], AV.nils] [(0, AV.int IntKind.i64 2), (2, v12)] fun v15 =>
 ST 4 (AV.ptr nx 0) v15 H13 fun H16 =>
 LD true 4 (AV.ptr nx 0) H16 fun v17 =>
 Q v17 H16 nx14
def zhx (xs34 : List AV) (Q : QT) (v47 : AV) (H48 : Heap) (nx49 : Nat) : Prop :=
 ST 4 (nth xs34 2) v47 H48 fun H50 =>
 LD true 4 (nth xs34 2) H50 fun v51 =>
 Q v51 H50 nx49
def zhw (v41 : AV) (xs34 : List AV) (Q : QT) (v43 : AV) (H44 : Heap) (nx45 : Nat) : Prop :=
 BD (zl tab [(3, 0), (3, 1), (9, 2), (88, 3)]) [AV.int IntKind.i64 0, AV.int IntKind.i64 0, AV.str [], AV.nils] [(0, AV.int IntKind.i64 4), (1, v41), (3, v43)] fun v46 =>
 za Tryd.prog 87 [nth xs34 0, v46, AV.int IntKind.i64 2] H44 nx45 (zhx xs34 Q)
def zhv (xs56 : List AV) (H63 : Heap) (D72 : zt) (nx58 : Nat) (v66 : AV) (rd67 : List Nat) (rd75 : List Nat) (Q : QT) (fr71 : List Nat) (v76 : AV) (_ : List Nat) (fr78 : List Nat) (D79 : zt) : Prop :=
 zab 4 (nth xs56 2) v76 ((H63.apply D72).apply D79) fun _ _ fr82 D83 =>
 zg (domD D72) [] (
 zg (domD D72) [] (
 SOFT (AV.ptr nx58 1) v66 D72 rd67 (
 zg (domD D72) [] (
 zg (domD D72) [] (
 zg (domD D72) rd75 (
 zg (domD D72) [] (
 LD true 4 (nth xs56 2) (((H63.apply D72).apply D79).apply D83) fun v84 =>
 Q v84 (((H63.apply D72).apply D79).apply D83) ((((nx58 + 1) + fr71.length) + fr78.length) + fr82.length))))))))
def zhu (v66 : AV) (nx58 : Nat) (H63 : Heap) (xs56 : List AV) (rd67 : List Nat) (Q : QT) (v69 : AV) (_ : List Nat) (fr71 : List Nat) (D72 : zt) : Prop :=
 BD (zl tab [(3, 0), (3, 1), (9, 2), (88, 3)]) [AV.int IntKind.i64 0, AV.int IntKind.i64 0, AV.str [], AV.nils] [(0, v66), (3, v69)] fun v73 =>
 LDR false 1 (AV.ptr nx58 2) (H63.apply D72) fun v74 rd75 =>
 zj Tryd.prog (AV.clo 87 []) [nth xs56 0, v73, v74] (H63.apply D72) ((nx58 + 1) + fr71.length) (zhv xs56 H63 D72 nx58 v66 rd67 rd75 Q fr71)
def zht (nx96 : Nat) (xs56 : List AV) (Q : QT) (_ : AV) (H104 : Heap) (nx105 : Nat) : Prop :=
 LD true 4 (AV.ptr nx96 0) H104 fun v106 =>
 ST 4 (nth xs56 2) v106 H104 fun H107 =>
 LD true 4 (nth xs56 2) H107 fun v108 =>
 Q v108 H107 nx105
def zas (xs56 : List AV) (Q : QT) (v94 : AV) (H95 : Heap) (nx96 : Nat) : Prop :=
 BD (zl tab [(3, 0), (3, 1), (9, 2), (88, 3)]) [AV.int IntKind.i64 0, AV.int IntKind.i64 0, AV.str [], AV.nils] [(0, AV.int IntKind.i64 11), (2, nth xs56 3), (3, v94)] fun v97 =>
 PUTH H95 nx96 (AObj.row 4 [AV.int IntKind.i64 0, AV.int IntKind.i64 0, AV.str [], AV.nils]) fun H98 =>
 ST 4 (AV.ptr nx96 0) v97 H98 fun H99 =>
 LD false 1 (AV.ptr nx96 3) H99 fun v100 =>
 LNL v100 fun v101 =>
 BI BinOp.gtr v101 (AV.int IntKind.i64 4) fun v102 =>
 CNDC v102
 (za Tryd.prog 63 [nth xs56 0, AV.int IntKind.i64 5] H99 (nx96 + 1) (zht nx96 xs56 Q))
 (LD true 4 (AV.ptr nx96 0) H99 fun v109 =>
 ST 4 (nth xs56 2) v109 H99 fun H110 =>
 LD true 4 (nth xs56 2) H110 fun v111 =>
 Q v111 H110 (nx96 + 1))
def zhs (xs56 : List AV) (Q : QT) (_ : AV) (H91 : Heap) (nx92 : Nat) : Prop :=
 BI BinOp.add (nth xs56 1) (AV.int IntKind.i64 1) fun v93 =>
 za Tryd.prog 88 [nth xs56 0, v93] H91 nx92 (zas xs56 Q)
def zcg (xs56 : List AV) (Q : QT) (v86 : AV) (H87 : Heap) (nx88 : Nat) : Prop :=
 UO UnOp.not v86 fun v89 =>
 CNDC v89
 (za Tryd.prog 63 [nth xs56 0, AV.int IntKind.i64 7] H87 nx88 (zhs xs56 Q))
 (BI BinOp.add (nth xs56 1) (AV.int IntKind.i64 1) fun v112 =>
 za Tryd.prog 88 [nth xs56 0, v112] H87 nx88 (zas xs56 Q))
def zcf (Q : QT) (K55 : J3) (xs56 : List AV) (H57 : Heap) (nx58 : Nat) : Prop :=
 BI BinOp.lss (nth xs56 6) (nth xs56 5) fun v59 =>
 CNDC v59
 (IA 3 (nth xs56 4) (nth xs56 6) fun v60 =>
 LD true 3 v60 H57 fun v61 =>
 PUTH H57 nx58 (AObj.row 3 [AV.str [], AV.int IntKind.i64 0, AV.int IntKind.i64 0]) fun H62 =>
 ST 3 (AV.ptr nx58 0) v61 H62 fun H63 =>
 LD false 1 (AV.ptr nx58 0) H63 fun v64 =>
 BS BinOp.eql (nth xs56 3) v64 fun v65 =>
 CNDC v65
 (LDR false 1 (AV.ptr nx58 1) H63 fun v66 rd67 =>
 BI BinOp.add (nth xs56 1) (AV.int IntKind.i64 1) fun v68 =>
 zj Tryd.prog (AV.clo 88 []) [nth xs56 0, v68] H63 (nx58 + 1) (zhu v66 nx58 H63 xs56 rd67 Q))
 (BI BinOp.add (nth xs56 6) (AV.int IntKind.i64 1) fun v85 =>
 K55 [nth xs56 0, nth xs56 1, nth xs56 2, nth xs56 3, nth xs56 4, nth xs56 5, v85] H63 (nx58 + 1)))
 (za Tryd.prog 23 [nth xs56 3] H57 nx58 (zcg xs56 Q))
def zar (Q : QT) (K33 : J3) (xs34 : List AV) (H35 : Heap) (nx36 : Nat) : Prop :=
 BI BinOp.lss (nth xs34 6) (nth xs34 5) fun v37 =>
 CNDC v37
 (IA 1 (nth xs34 4) (nth xs34 6) fun v38 =>
 LD false 1 v38 H35 fun v39 =>
 BS BinOp.eql (nth xs34 3) v39 fun v40 =>
 CNDC v40
 (BI BinOp.add (nth xs34 6) (AV.int IntKind.i64 1) fun v41 =>
 BI BinOp.add (nth xs34 1) (AV.int IntKind.i64 1) fun v42 =>
 za Tryd.prog 88 [nth xs34 0, v42] H35 nx36 (zhw v41 xs34 Q))
 (BI BinOp.add (nth xs34 6) (AV.int IntKind.i64 1) fun v52 =>
 K33 [nth xs34 0, nth xs34 1, nth xs34 2, nth xs34 3, nth xs34 4, nth xs34 5, v52] H35 nx36))
 (PUTH H35 nx36 (AObj.row 3 [AV.str [99, 101, 108, 108], AV.int IntKind.i64 5, AV.int IntKind.i64 2, AV.str [108, 101, 102, 116], AV.int IntKind.i64 6, AV.int IntKind.i64 1, AV.str [114, 105, 103, 104, 116], AV.int IntKind.i64 7, AV.int IntKind.i64 1, AV.str [97, 115, 107], AV.int IntKind.i64 8, AV.int IntKind.i64 1, AV.str [104, 101, 114, 101], AV.int IntKind.i64 9, AV.int IntKind.i64 0, AV.str [103, 111], AV.int IntKind.i64 10, AV.int IntKind.i64 1]) fun H53 =>
 LNL (AV.slc nx36 0 6) fun v54 =>
 LP (zcf Q) [nth xs34 0, nth xs34 1, nth xs34 2, nth xs34 3, AV.slc nx36 0 6, v54, AV.int IntKind.i64 0] H53 (nx36 + 1))
def zgf (Q : QT) (a0 : AV) (a1 : AV) (nx : Nat) (v26 : AV) (v29 : AV) (H30 : Heap) (nx31 : Nat) : Prop :=
 LNL v29 fun v32 =>
 LP (zar Q) [a0, a1, AV.ptr nx 0, v26, v29, v32, AV.int IntKind.i64 0] H30 nx31
def zge (Q : QT) (a0 : AV) (a1 : AV) (nx : Nat) (v26 : AV) (H27 : Heap) (nx28 : Nat) : Prop :=
 za Tryd.prog 86 [] H27 nx28 (zgf Q a0 a1 nx v26)
def zbp (v137 : AV) (nx : Nat) (Q : QT) (_ : AV) (H146 : Heap) (nx147 : Nat) : Prop :=
 BD (zl tab [(3, 0), (3, 1), (9, 2), (88, 3)]) [AV.int IntKind.i64 0, AV.int IntKind.i64 0, AV.str [], AV.nils] [(0, AV.int IntKind.i64 1), (1, v137)] fun v148 =>
 ST 4 (AV.ptr nx 0) v148 H146 fun H149 =>
 LD true 4 (AV.ptr nx 0) H149 fun v150 =>
 Q v150 H149 nx147
def zgd (v131 : AV) (nx : Nat) (Q : QT) (_ : AV) (H166 : Heap) (nx167 : Nat) : Prop :=
 BD (zl tab [(3, 0), (3, 1), (9, 2), (88, 3)]) [AV.int IntKind.i64 0, AV.int IntKind.i64 0, AV.str [], AV.nils] [(0, AV.int IntKind.i64 3), (2, v131)] fun v168 =>
 ST 4 (AV.ptr nx 0) v168 H166 fun H169 =>
 LD true 4 (AV.ptr nx 0) H169 fun v170 =>
 Q v170 H169 nx167
def zai (a0 : AV) (v131 : AV) (nx : Nat) (Q : QT) (v161 : AV) (H162 : Heap) (nx163 : Nat) : Prop :=
 UO UnOp.not v161 fun v164 =>
 CNDC v164
 (za Tryd.prog 63 [a0, AV.int IntKind.i64 7] H162 nx163 (zgd v131 nx Q))
 (BD (zl tab [(3, 0), (3, 1), (9, 2), (88, 3)]) [AV.int IntKind.i64 0, AV.int IntKind.i64 0, AV.str [], AV.nils] [(0, AV.int IntKind.i64 3), (2, v131)] fun v171 =>
 ST 4 (AV.ptr nx 0) v171 H162 fun H172 =>
 LD true 4 (AV.ptr nx 0) H172 fun v173 =>
 Q v173 H172 nx163)
def zah (v131 : AV) (v137 : AV) (a0 : AV) (nx : Nat) (Q : QT) (v140 : AV) (H141 : Heap) (nx142 : Nat) : Prop :=
 BS BinOp.eql v140 v131 fun v143 =>
 CNDC v143
 (BI BinOp.lss v137 (AV.int IntKind.i64 (-1073741824)) fun v144 =>
 CND v144
 (za Tryd.prog 63 [a0, AV.int IntKind.i64 3] H141 nx142 (zbp v137 nx Q))
 (BI BinOp.gtr v137 (AV.int IntKind.i64 1073741824) fun v151 =>
 CNDC v151
 (za Tryd.prog 63 [a0, AV.int IntKind.i64 3] H141 nx142 (zbp v137 nx Q))
 (BD (zl tab [(3, 0), (3, 1), (9, 2), (88, 3)]) [AV.int IntKind.i64 0, AV.int IntKind.i64 0, AV.str [], AV.nils] [(0, AV.int IntKind.i64 1), (1, v137)] fun v158 =>
 ST 4 (AV.ptr nx 0) v158 H141 fun H159 =>
 LD true 4 (AV.ptr nx 0) H159 fun v160 =>
 Q v160 H159 nx142)))
 (za Tryd.prog 23 [v131] H141 nx142 (zai a0 v131 nx Q))
def zbo (v131 : AV) (a0 : AV) (nx : Nat) (Q : QT) (v134 : AV) (H135 : Heap) (nx136 : Nat) : Prop :=
 EX v134 0 fun v137 =>
 EX v134 1 fun v138 =>
 BF BinOp.eql v138 AV.inil fun v139 =>
 CND v139
 (za Tryd.prog 80 [v137] H135 nx136 (zah v131 v137 a0 nx Q))
 (za Tryd.prog 23 [v131] H135 nx136 (zai a0 v131 nx Q))
def zdj (a0 : AV) (nx : Nat) (Q : QT) (v131 : AV) (H132 : Heap) (nx133 : Nat) : Prop :=
 za Tryd.prog 79 [v131] H132 nx133 (zbo v131 a0 nx Q)
def zbn (a0 : AV) (nx : Nat) (Q : QT) (a1 : AV) (v8 : AV) (H9 : Heap) (nx10 : Nat) : Prop :=
 BI BinOp.eql v8 (AV.int IntKind.u8 39) fun v11 =>
 CNDC v11
 (za Tryd.prog 85 [a0] H9 nx10 (zhy nx Q))
 (BI BinOp.eql v8 (AV.int IntKind.u8 40) fun v18 =>
 CNDC v18
 (NC a0 fun v19 =>
 FA 1 v19 fun v20 =>
 LD false 1 v20 H9 fun v21 =>
 BI BinOp.add v21 (AV.int IntKind.i64 1) fun v22 =>
 NC a0 fun v23 =>
 FA 1 v23 fun v24 =>
 ST 1 v24 v22 H9 fun H25 =>
 za Tryd.prog 64 [a0] H25 nx10 (zge Q a0 a1 nx))
 (za Tryd.prog 64 [a0] H9 nx10 (zdj a0 nx Q)))
def zbm (nx : Nat) (Q : QT) (a0 : AV) (a1 : AV) (v2 : AV) (H3 : Heap) (nx4 : Nat) : Prop :=
 UO UnOp.not v2 fun v5 =>
 CNDC v5
 (ST 4 (AV.ptr nx 0) (AV.agg [AV.int IntKind.i64 0, AV.int IntKind.i64 0, AV.str [], AV.nils]) H3 fun H6 =>
 LD true 4 (AV.ptr nx 0) H6 fun v7 =>
 Q v7 H6 nx4)
 (za Tryd.prog 42 [a0] H3 nx4 (zbn a0 nx Q a1))
def zdw (a0 a1 : AV) (H : Heap) (nx : Nat) (Q : QT) : Prop :=
 PUTH H nx (AObj.row 4 [AV.int IntKind.i64 0, AV.int IntKind.i64 0, AV.str [], AV.nils]) fun H1 =>
 za Tryd.prog 74 [a0, a1] H1 (nx + 1) (zbm nx Q a0 a1)
theorem zez (a0 a1 : AV) (H : Heap) (nx : Nat) (Q : QT) : zdw a0 a1 H nx Q → za Tryd.prog 76 [a0, a1] H nx Q :=
  ze (lv := lvOf [(2, 19, [0, 1, 4, 8, 70, 71, 72]), (2, 26, [0, 1, 4, 8, 97, 98, 99])]) (c := zh Tryd.f76) zq zu mixed Tryd.func76 (by kernel_rfl) (by kernel_rfl) (by kernel_rfl) (by kernel_rfl) (by kernel_rfl)
end Go.Proofs.YtpllgpgdcbgalaaDoor
set_option maxRecDepth 8000
namespace Go.Proofs.YtpllgpgdcbgalaaDoor
open Go Go.RowKit
def PT (s : Str) (st : VM.St) : AObj := .row 3 [.str s, .int .i64 ((s.length - st.1.length : Nat) : Int), .int .i64 st.2]
theorem zil (a t : Str) (e : Int) : PT (a ++ t) (t, e) = .row 3 [.str (a ++ t), .int .i64 (a.length : Int), .int .i64 e] := by
  unfold PT
  simp only [List.length_append]
  rw [Nat.add_sub_cancel]
theorem zbd {s t : Str} (h : t <:+ s) : VM.trim t <:+ s := by
  unfold VM.trim
  exact (List.dropWhile_suffix _).trans h
section
variable {g : Nat} {s : Str} {st : VM.St} {H : Heap} {n : Nat} {Q : QT}
theorem zaw {e : Int} (hg : H g = some (PT s st)) (hq : Q (.tup []) (H.put g (some (PT s (VM.badF e st)))) n) : za Tryd.prog 63 [.ptr g 0, .int .i64 e] H n Q := by
  refine zma _ _ _ _ _ ?_
  unfold VM.badF at hq
  have hg' : H g = some (.row 3 [.str s, .int .i64 ((s.length - st.1.length : Nat) : Int), .int .i64 st.2]) := hg
  by_cases h : st.2 = 0
  · simp only [if_pos h, PT] at hq
    simp [zdv, hg', h, hq]
  · simp only [if_neg h, PT] at hq
    rw [Heap.put_same hg'] at hq
    simp [zdv, hg', h, hq]
theorem zrv (hl : s.length ≤ 1500) (hs : st.1 <:+ s) (hg : H g = some (PT s st)) (hq : Q (.tup []) (H.put g (some (PT s (VM.trim st.1, st.2)))) n) : za Tryd.prog 62 [.ptr g 0] H n Q := by
  refine zlk _ _ _ _ ?_
  unfold zgj
  refine LP.mk (fun m xs H' n' => xs = [.ptr g 0] ∧ n' = n ∧ ∃ t, m = t.length ∧ t <:+ s ∧ VM.trim t = VM.trim st.1 ∧ H' = H.put g (some (PT s (t, st.2)))) st.1.length ⟨rfl, rfl, st.1, rfl, hs, rfl, (Heap.put_same hg).symm⟩ ?_
  rintro m xs H' n' ⟨rfl, rfl, t, rfl, ⟨a, rfl⟩, ht, rfl⟩
  rw [← ht] at hq
  have hg' : (H.put g (some (PT (a ++ t) (t, st.2)))) g = some (.row 3 [.str (a ++ t), .int .i64 (a.length : Int), .int .i64 st.2]) := by rw [Heap.put_at, zil]
  generalize hX : Heap.put H g (some (PT (a ++ t) (t, st.2))) = HX at hg'
  have hP : ∀ o, HX.put g o = H.put g o := fun o => by rw [← hX, Heap.put_put]
  cases t with
  | nil =>
    have hq' : Q (.tup []) HX n' := by rw [← hX]; exact hq
    simp [zaj, hg']
    simpa using hq'
  | cons c r =>
    have hlt : (a.length : Int) < a.length + (r.length + 1) := by omega
    have hx : (a ++ c :: r)[a.length]? = some c := by simp
    have hgd : (a ++ c :: r).getD a.length 0 = c := by rw [List.getD_eq_getElem?_getD, hx]; rfl
    have h0 : (0 : Int) ≤ a.length := by omega
    have hal : a.length ≤ 1500 := by rw [List.length_append] at hl; omega
    have hwr : IntKind.i64.wrap ((a.length : Int) + 1) = (a.length : Int) + 1 := i64w (by omega)
    have step : VM.blank c = true → r.length < (c :: r).length ∧ r <:+ a ++ c :: r ∧ VM.trim r = VM.trim st.1 ∧ H.put g (some (.row 3 [.str (a ++ c :: r), .int .i64 ((a.length : Int) + 1), .int .i64 st.2])) = H.put g (some (PT (a ++ c :: r) (r, st.2))) := fun hb => by
      refine ⟨by simp, ⟨a ++ [c], by simp⟩, by rw [← ht, zed, if_pos hb], ?_⟩
      have := zil (a ++ [c]) r st.2
      rw [List.append_assoc] at this
      simp only [List.cons_append, List.nil_append, List.length_append, List.length_cons, List.length_nil] at this
      rw [this]
      simp
    by_cases h32 : c = 32
    · subst h32
      obtain ⟨q1, q2, q3, q4⟩ := step rfl
      simp [zaj, hg', hlt, hwr, hP]
      rw [q4]
      exact ⟨r.length, by omega, r, rfl, q2, q3, rfl⟩
    by_cases h10 : c = 10
    · subst h10
      obtain ⟨q1, q2, q3, q4⟩ := step rfl
      simp [zaj, hg', hlt, hwr, hP]
      rw [q4]
      exact ⟨r.length, by omega, r, rfl, q2, q3, rfl⟩
    have n32 : ¬ (c.toNat : Int) = 32 := zcj h32 rfl
    have n10 : ¬ (c.toNat : Int) = 10 := zcj h10 rfl
    have htr : VM.trim (c :: r) = c :: r := by rw [zed, if_neg]; simp [VM.blank, h32, h10]
    rw [htr] at hq
    have hq' : Q (.tup []) HX n' := by rw [← hX]; exact hq
    simp [zaj, hg', hlt, n32, n10]
    exact hq'
theorem zia (hl : s.length ≤ 1500) (hs : st.1 <:+ s) (hg : H g = some (PT s st)) (hq : Q (.int .u8 (VM.nxt st.1)) (H.put g (some (PT s (VM.trim st.1, st.2)))) n) : za Tryd.prog 42 [.ptr g 0] H n Q := by
  refine zly _ _ _ _ ?_
  unfold zho
  refine zrv hl hs hg ?_
  have hs' := zbd hs
  have hnx : VM.nxt st.1 = VM.nxt (VM.trim st.1) := (VM.nxt_trim _).symm
  have htt := VM.trim_trim st.1
  rw [hnx] at hq
  generalize VM.trim st.1 = t at *
  obtain ⟨a, rfl⟩ := hs'
  have hg' : (H.put g (some (PT (a ++ t) (t, st.2)))) g = some (.row 3 [.str (a ++ t), .int .i64 (a.length : Int), .int .i64 st.2]) := by rw [Heap.put_at, zil]
  generalize Heap.put H g (some (PT (a ++ t) (t, st.2))) = HX at *
  cases t with
  | nil =>
    have hq' : Q (.int .u8 0) HX n := hq
    simp [zce, hg', hq']
  | cons c r =>
    have hx : (a ++ c :: r)[a.length]? = some c := by simp
    have hnx' : VM.nxt (c :: r) = if c = 0 then 1 else (c.toNat : Int) := by unfold VM.nxt; rw [htt]
    rw [hnx'] at hq
    have hle : ¬ ((a.length : Int) + (r.length + 1) ≤ a.length) := by omega
    have hlt : (a.length : Int) < a.length + (r.length + 1) := by omega
    by_cases h0 : c = 0
    · subst h0
      rw [if_pos rfl] at hq
      simp [zce, hg', hle, hlt]
      exact hq
    · have n0 := zcj h0 (z := 0) rfl
      have hmx : max (c.toNat : Int) 1 = c.toNat := by omega
      rw [if_neg h0] at hq
      simp [zce, hg', hle, hlt, hmx]
      exact hq
theorem zec {c : Int} (hc : c ≠ 0) (hl : s.length ≤ 1500) (hs : st.1 <:+ s) (hg : H g = some (PT s st)) (hq : Q (.tup []) (H.put g (some (PT s (VM.mustF c st)))) n) : za Tryd.prog 43 [.ptr g 0, .int .u8 c] H n Q := by
  refine zlx _ _ _ _ _ ?_
  unfold zhj
  refine zia hl hs hg ?_
  have hs' := zbd hs
  unfold VM.mustF at hq
  have hg2 : (H.put g (some (PT s (VM.trim st.1, st.2)))) g = some (PT s (VM.trim st.1, st.2)) := Heap.put_at _ _ _
  have hP : ∀ o, (H.put g (some (PT s (VM.trim st.1, st.2)))).put g o = H.put g o := fun o => Heap.put_put ..
  generalize H.put g (some (PT s (VM.trim st.1, st.2))) = HX at *
  by_cases h1 : VM.nxt st.1 = c
  · obtain ⟨x, r, ha⟩ := zem (by rw [h1]; exact hc)
    rw [if_pos h1, ha] at hq
    rw [ha] at hg2 hs'
    obtain ⟨a, rfl⟩ := hs'
    have hg' : HX g = some (.row 3 [.str (a ++ x :: r), .int .i64 (a.length : Int), .int .i64 st.2]) := by rw [hg2, zil]
    have hal : a.length ≤ 1500 := by rw [List.length_append] at hl; omega
    have hwr : IntKind.i64.wrap ((a.length : Int) + 1) = (a.length : Int) + 1 := i64w (by omega)
    have e : PT (a ++ x :: r) (r, st.2) = .row 3 [.str (a ++ x :: r), .int .i64 ((a.length : Int) + 1), .int .i64 st.2] := by
      have := zil (a ++ [x]) r st.2
      rw [List.append_assoc] at this
      simp only [List.cons_append, List.nil_append, List.length_append, List.length_cons, List.length_nil] at this
      rw [this]
      simp
    have hq' : Q (.tup []) (H.put g (some (.row 3 [.str (a ++ x :: r), .int .i64 ((a.length : Int) + 1), .int .i64 st.2]))) n := by rw [← e]; exact hq
    simp [zcc, h1, hg', hP, hwr]
    exact hq'
  · rw [if_neg h1] at hq
    by_cases h0 : VM.nxt st.1 = 0
    · rw [if_pos h0] at hq
      have h01 : ¬ 0 = c := fun e => hc e.symm
      simp [zcc, h0, h01]
      refine zaw hg2 ?_
      rw [hP]; exact hq
    · rw [if_neg h0] at hq
      simp [zcc, h1, h0]
      refine zaw hg2 ?_
      rw [hP]; exact hq
theorem znf {d : Int} (hg : H g = some (PT s st)) (hq : Q (.bool (decide (d ≤ 10) && decide (st.2 = 0))) (H.put g (some (PT s (if d ≤ 10 then st else VM.badF 9 st)))) n) : za Tryd.prog 74 [.ptr g 0, .int .i64 d] H n Q := by
  refine zmb _ _ _ _ _ ?_
  by_cases h : d ≤ 10
  · rw [if_pos h, Heap.put_same hg] at hq
    have hg' : H g = some (.row 3 [.str s, .int .i64 ((s.length - st.1.length : Nat) : Int), .int .i64 st.2]) := hg
    have h' : ¬ 10 < d := by omega
    simp [h] at hq
    simp [zdx, h', hg', hq]
  · rw [if_neg h] at hq
    have h' : 10 < d := by omega
    simp [h] at hq
    simp [zdx, h']
    refine zaw hg ?_
    have hg' : (H.put g (some (PT s (VM.badF 9 st)))) g = some (.row 3 [.str s, .int .i64 ((s.length - (VM.badF 9 st).1.length : Nat) : Int), .int .i64 (VM.badF 9 st).2]) := Heap.put_at _ _ _
    have he : ¬ (VM.badF 9 st).2 = 0 := by
      unfold VM.badF
      by_cases e : st.2 = 0 <;> simp [e]
    generalize H.put g (some (PT s (VM.badF 9 st))) = HX at *
    simp [zhz, hg', he, hq]
end
end Go.Proofs.YtpllgpgdcbgalaaDoor
