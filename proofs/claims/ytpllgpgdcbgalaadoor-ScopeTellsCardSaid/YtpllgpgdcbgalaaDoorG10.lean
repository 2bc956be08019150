/- scope: expressions. scope: expressions. scope: names of one's own. scope: blocks. scope: statements. scope: blocks as a whole. scope: a statement's expressions, and blocks. scope: Check. scope: Check, as a whole. The document's Check: its memory. The document's Check: expressions. The document's Check: expressions, one behind the other. The document's Check: statements. The document's Check: a statement behind its expressions. -/
import Derived.Test.YtpllgpgdcbgalaaDoorG9
set_option linter.unusedSimpArgs false
set_option linter.unusedVariables false
set_option maxRecDepth 8000
namespace Go.Proofs.YtpllgpgdcbgalaaDoor
open Go Go.RowKit
theorem zqu {xs : List (List AV)} {esz : Nat} {ki : IntKind} {b : Int} {H : Heap} {k : AV → Prop} : SL esz (.ro xs) none (some (.int ki b)) H k = (0 ≤ b ∧ b ≤ xs.length ∧ (∀ x ∈ xs, x.length = esz) ∧ k (.ro (xs.take b.toNat))) := by
  simp [SL, ziw, lohi, PURE, qk]
theorem zsh (l : List Str) (hl : l.length ≤ 4611686018427387904) : QC Tryd.prog 33 [.ro (l.map strC)] (.bool (VM.unlike l)) := by
  intro H n
  refine zkw _ _ _ _ ?_
  simp [zip]
  refine LP.mk (fun m xs H' n' => ∃ i : Nat, i ≤ l.length ∧ m = l.length - i ∧ xs = [.ro (l.map strC), .ro (l.map strC), .int .i64 l.length, .int .i64 i] ∧ H' = H ∧ n' = n ∧ ∀ j, j < i → l.getD j [] ∉ l.take j) l.length ⟨0, by omega, by omega, rfl, rfl, rfl, by omega⟩ ?_
  rintro m xs H' n' ⟨i, hi, rfl, rfl, rfl, rfl, hno⟩
  by_cases h : i < l.length
  · have hx : l[i]? = some l[i] := List.getElem?_eq_getElem h
    have hgd : l.getD i [] = l[i] := by rw [List.getD_eq_getElem?_getD, hx]; rfl
    have hi0 : (0 : Int) ≤ i := by omega
    have hile : (i : Int) ≤ l.length := by omega
    simp [zfl, h, strC]
    rw [zqu]
    refine ⟨hi0, by rw [List.length_map]; exact hile, zhx, ?_⟩
    rw [Int.toNat_natCast, ← List.map_take]
    refine (zmm (l.take i) l[i] (by rw [List.length_take]; omega)).call ?_
    by_cases e : l[i] ∈ l.take i
    · have hu : VM.unlike l = false := by
        unfold VM.unlike
        rw [List.all_eq_false]
        exact ⟨i, List.mem_range.2 h, by rw [hgd]; simp [e]⟩
      simp [zfm, e, hu]
    · have hw : IntKind.i64.wrap ((i : Int) + 1) = (i : Int) + 1 := i64w (by omega)
      simp [zfm, e, hw]
      refine ⟨l.length - (i + 1), by omega, i + 1, by omega, rfl, by simp, fun j hj => ?_⟩
      by_cases hji : j = i
      · subst hji
        have := hgd
        rw [List.getD_eq_getElem?_getD] at this
        rw [this]; exact e
      · have := hno j (by omega)
        rw [List.getD_eq_getElem?_getD] at this
        exact this
  · have e : i = l.length := by omega
    subst e
    have hu : VM.unlike l = true := by
      unfold VM.unlike
      rw [List.all_eq_true]
      intro j hj
      exact decide_eq_true (hno j (List.mem_range.1 hj))
    simp [zfl, hu]
def owns : AV → List Nat
  | .slc g _ _ => [g]
  | _ => []
structure LkM (gk gm : Nat) (fns : List (Str × Nat)) (vars : Int) (ws : List Str) (A : AV) (H : Heap) (m : Nat) : Prop where
  row : H gk = some (.row 3 [.amap gm, .int .i64 vars, A])
  wr : RowS strC 1 H (gk + 1) m ws A
  map : H gm = some (.mp (fns.map fun p => (.str p.1, .int .i64 p.2)))
  gg : gm < gk
  gn : gk < m
structure Ext (gk : Nat) (A : AV) (H : Heap) (m : Nat) (A' : AV) (H' : Heap) (m' : Nat) : Prop where
  le : m ≤ m'
  keep : ∀ y, y < m → y ≠ gk → y ∉ owns A → H' y = H y
  own : ∀ y ∈ owns A', y ∈ owns A ∨ m ≤ y
theorem Ext.refl (gk : Nat) (A : AV) (H : Heap) (m : Nat) : Ext gk A H m A H m := ⟨Nat.le_refl _, fun _ _ _ _ => rfl, fun _ h => .inl h⟩
theorem Ext.trans {gk m1 m2 m3 : Nat} {A1 A2 A3 : AV} {H1 H2 H3 : Heap} (h : Ext gk A1 H1 m1 A2 H2 m2) (k : Ext gk A2 H2 m2 A3 H3 m3) : Ext gk A1 H1 m1 A3 H3 m3 := by
  have h1 := h.le
  have h2 := k.le
  refine ⟨by omega, fun y hy hne hno => ?_, fun y hy => ?_⟩
  · rw [k.keep y (by omega) hne fun hy2 => (h.own y hy2).elim hno (by omega)]
    exact h.keep y hy hne hno
  · rcases k.own y hy with h3 | h3
    · exact h.own y h3
    · exact .inr (by omega)
structure NmA (gk : Nat) (A : AV) (names : List Str) (H : Heap) (m : Nat) (a : AV) : Prop where
  arg : zu H m 1 (names.map strC) a
  far : ∀ y ∈ owns a, y ≠ gk ∧ y ∉ owns A
theorem NmA.ext {gk m m' : Nat} {A A' : AV} {H H' : Heap} {names : List Str} {a : AV} (h : NmA gk A names H m a) (e : Ext gk A H m A' H' m') : NmA gk A' names H' m' a := by
  have hle := e.le
  obtain ⟨h1, h2⟩ := h
  cases h1 with
  | ro => exact ⟨.ro, fun y hy => by simp [owns] at hy⟩
  | nils h => exact ⟨.nils h, fun y hy => by simp [owns] at hy⟩
  | slc g q1 q2 =>
    have hg := h2 g (by simp [owns])
    refine ⟨.slc g (by omega) (by rw [e.keep g q1 hg.1 hg.2]; exact q2), fun y hy => ?_⟩
    simp [owns] at hy
    subst hy
    exact ⟨hg.1, fun hy2 => (e.own _ hy2).elim hg.2 (by omega)⟩
theorem zwd {gk gm m : Nat} {fns : List (Str × Nat)} {vars : Int} {ws : List Str} {A : AV} {H : Heap} {w : Str} {Q : QT} (h : LkM gk gm fns vars ws A H m) (hw : ws.length ≤ 4294967296)
    (hq : ∀ A' H' m', LkM gk gm fns vars (VM.addW ws w) A' H' m' → Ext gk A H m A' H' m' → Q (.tup []) H' m') : za Tryd.prog 71 [.ptr gk 0, .str w] H m Q := by
  refine zij _ _ _ _ _ ?_
  have row := h.row
  have ra := h.wr
  have hgg := h.gg
  have hgn := h.gn
  have hmap := h.map
  have hra : zu H m 1 (ws.map strC) A := by
    cases ra with
    | nil => exact .nils rfl
    | row h1 h2 h3 => have := zu.slc (xs := ws.map strC) (sz := 1) _ h2 h3; rw [List.length_map] at this; exact this
  simp [zfn, row]
  refine zge (by omega) hra ?_
  by_cases hin : w ∈ ws
  · have e : VM.addW ws w = ws := by unfold VM.addW; rw [if_pos hin]
    rw [e] at hq
    simp [zbg, hin]
    exact hq A H m h (Ext.refl _ _ _ _)
  · have e : VM.addW ws w = ws ++ [w] := by unfold VM.addW; rw [if_neg hin]
    rw [e] at hq
    cases ra with
    | nil =>
      have ne_0 : gk ≠ gm ∧ gm ≠ gk ∧ gk ≠ m ∧ m ≠ gk ∧ gk ≠ m + 1 ∧ m + 1 ≠ gk ∧ gm ≠ m ∧ m ≠ gm ∧ gm ≠ m + 1 ∧ m + 1 ≠ gm := ⟨by omega, by omega, by omega, by omega, by omega, by omega, by omega, by omega, by omega, by omega⟩
      simp [zbg, hin, row, ne_0]
      refine hq _ _ _ ⟨Heap.put_at _ _ _, ?_, ?_, hgg, by omega⟩ ⟨by omega, fun y hy hne _ => ?_, fun y hy => ?_⟩
      · exact RowS.row (l := [w]) (by omega) (by omega) (by rw [Heap.put_ne _ _ (by omega), Heap.put_at]; rfl)
      · rw [Heap.put_ne _ _ (by omega), Heap.put_ne _ _ (by omega), Heap.put_ne _ _ (by omega)]; exact hmap
      · rw [Heap.put_ne _ _ hne, Heap.put_ne _ _ (by omega), Heap.put_ne _ _ (by omega)]
      · simp [owns] at hy; exact .inr (by omega)
    | @row ws ga a1 a2 a3 =>
      have rl := zcw (f := strC) (sz := 1) (fun _ => rfl) ws
      have h1 : (ws.length + 1) * 16 ≤ 140737488355328 := by omega
      generalize hrr : (ws.map strC).flatten = rr at rl a3
      have h3 : rr.take ws.length = rr := List.take_of_length_le (by omega)
      have ne_1 : gk ≠ gm ∧ gm ≠ gk ∧ gk ≠ ga ∧ ga ≠ gk ∧ gm ≠ ga ∧ ga ≠ gm ∧ gk ≠ m ∧ m ≠ gk ∧ gk ≠ m + 1 ∧ m + 1 ≠ gk ∧ gm ≠ m ∧ m ≠ gm ∧ gm ≠ m + 1 ∧ m + 1 ≠ gm ∧ ga ≠ m ∧ m ≠ ga ∧ ga ≠ m + 1 ∧ m + 1 ≠ ga := ⟨by omega, by omega, by omega, by omega, by omega, by omega, by omega, by omega, by omega, by omega, by omega, by omega, by omega, by omega, by omega, by omega, by omega, by omega⟩
      simp [zbg, hin, row, a3, rl, h1, h3, ne_1]
      refine hq _ _ _ ⟨Heap.put_at _ _ _, ?_, ?_, hgg, by omega⟩ ⟨by omega, fun y hy hne hno => ?_, fun y hy => ?_⟩
      · have := RowS.row (f := strC) (sz := 1) (H := (((H.put m (some (.row 1 [.str w]))).put ga none).put (m + 1) (some (.row 1 (rr ++ [.str w])))).put gk (some (.row 3 [.amap gm, .int .i64 vars, .slc (m + 1) 0 (ws.length + 1)]))) (lo := gk + 1) (hi := m + 1 + 1) (l := ws ++ [w]) (ga := m + 1) (by omega) (by omega) (by rw [Heap.put_ne _ _ (by omega), Heap.put_at, zcg, hrr]; rfl)
        rw [List.length_append] at this
        exact this
      · rw [Heap.put_ne _ _ (by omega), Heap.put_ne _ _ (by omega), Heap.put_ne _ _ (by omega), Heap.put_ne _ _ (by omega)]; exact hmap
      · simp [owns] at hno
        rw [Heap.put_ne _ _ hne, Heap.put_ne _ _ (by omega), Heap.put_ne _ _ hno, Heap.put_ne _ _ (by omega)]
      · simp [owns] at hy; exact .inr (by omega)
end Go.Proofs.YtpllgpgdcbgalaaDoor
set_option maxRecDepth 8000
namespace Go.Proofs.YtpllgpgdcbgalaaDoor
open Go Go.RowKit
namespace VM
mutual
def exW : Ex → Nat
  | .mk _ _ _ ar => 1 + exWL ar
def exWL : List Ex → Nat
  | [] => 0
  | x :: r => exW x + exWL r
end
theorem exW_pos : ∀ x : Ex, 1 ≤ exW x
  | .mk _ _ _ _ => by unfold exW; omega
theorem len_exWL : ∀ l : List Ex, l.length ≤ exWL l
  | [] => by simp
  | x :: r => by have := exW_pos x; have := len_exWL r; unfold exWL; rw [List.length_cons]; omega
theorem addW_le (ws : List Str) (w : Str) : (addW ws w).length ≤ ws.length + 1 := by
  unfold addW
  split
  · omega
  · rw [List.length_append]; simp
theorem cond_le (ws : List Str) (w : Str) (k : Int) : (if k = 2 then addW ws w else ws).length ≤ ws.length + 1 := by
  split
  · exact addW_le ws w
  · omega
mutual
theorem exC_le (fns : List (Str × Nat)) (names : List Str) : ∀ (x : Ex) (ws : List Str), (exC fns names x ws).1.length ≤ ws.length + exW x
  | .mk k n t ar, ws => by
    have h1 := cond_le ws t k
    have h2 := exCL_le fns names ar (if k = 2 then addW ws t else ws)
    unfold exC exW
    split
    · simp only; omega
    · omega
theorem exCL_le (fns : List (Str × Nat)) (names : List Str) : ∀ (l : List Ex) (ws : List Str), (exCL fns names l ws).1.length ≤ ws.length + exWL l
  | [], ws => by unfold exCL exWL; simp
  | x :: r, ws => by
    have h1 := exC_le fns names x ws
    have h2 := exCL_le fns names r (exC fns names x ws).1
    unfold exCL exWL
    split
    · omega
    · omega
end
end VM
theorem zhj (t : Str) : ∀ fns : List (Str × Nat), ∃ r, zy (.str t) (fns.map fun p => (AV.str p.1, AV.int .i64 p.2)) = some r ∧ (match r with | some (_, v) => fns.lookup t ≠ none ∧ v = .int .i64 ((fns.lookup t).getD 0 : Nat) | none => fns.lookup t = none)
  | [] => ⟨none, by simp, rfl⟩
  | (w, n) :: r => by
    obtain ⟨q, h1, h2⟩ := zhj t r
    rw [List.map_cons, zoj, List.lookup_cons]
    by_cases h : t = w
    · subst h
      exact ⟨some (0, .int .i64 n), by simp, by simp⟩
    · have hb : (t == w) = false := by simpa using h
      rw [if_neg h, h1, hb]
      cases q with
      | none => exact ⟨none, rfl, h2⟩
      | some p => exact ⟨some (p.1 + 1, p.2), rfl, h2⟩
def LExC (gk gm : Nat) (fns : List (Str × Nat)) (names : List Str) (x : Ex) : Prop := ∀ (vars : Int) (ws : List Str) (A a : AV) (H : Heap) (m : Nat) (Q : QT), LkM gk gm fns vars ws A H m → NmA gk A names H m a → ws.length + VM.exW x ≤ 4294967296 →
  (∀ A' H' m', LkM gk gm fns vars (VM.exC fns names x ws).1 A' H' m' → Ext gk A H m A' H' m' → Q (.int .i64 (VM.exC fns names x ws).2) H' m') → za Tryd.prog 54 [.ptr gk 0, .rop x.avs 0, a] H m Q
set_option maxHeartbeats 1000000 in
theorem zui {gk gm : Nat} {fns : List (Str × Nat)} {names : List Str} {k z : Int} {t : Str} {ar : List Ex} (hE : ∀ x ∈ ar, LExC gk gm fns names x) {vars : Int} {ws : List Str} {A a : AV} {H : Heap} {m : Nat} {Q : QT} (h : LkM gk gm fns vars ws A H m) (hn : NmA gk A names H m a) (hw : ws.length + VM.exWL ar ≤ 4294967296) (hl : ar.length ≤ 4294967296)
    (hq : ∀ A' H' m', LkM gk gm fns vars (VM.exCL fns names ar ws).1 A' H' m' → Ext gk A H m A' H' m' → Q (.int .i64 (VM.exCL fns names ar ws).2) H' m') :
    LP (zp Q) [.ptr gk 0, .rop (Ex.mk k z t ar).avs 0, a, .int .i64 ar.length, .int .i64 0] H m := by
  rw [zif]
  refine LP.mk (fun j xs H' m' => ∃ (i : Nat) (ws' : List Str) (A' : AV), i + j = ar.length ∧ xs = [.ptr gk 0, .rop [.int .i64 k, .int .i64 z, .str t, .ro (ar.map Ex.avs)] 0, a, .int .i64 ar.length, .int .i64 i] ∧ LkM gk gm fns vars ws' A' H' m' ∧ Ext gk A H m A' H' m' ∧ ws'.length + VM.exWL (ar.drop i) ≤ 4294967296 ∧ VM.exCL fns names ar ws = VM.exCL fns names (ar.drop i) ws') ar.length ⟨0, ws, A, by omega, rfl, h, Ext.refl _ _ _ _, by simpa using hw, by simp⟩ ?_
  rintro j xs H' m' ⟨i, ws', A', hij, rfl, h', he, hw', hgo⟩
  generalize hJ : (fun (xs : List AV) (H' : Heap) (m' : Nat) => ∃ j', j' < j ∧ ∃ (i : Nat) (ws' : List Str) (A' : AV), i + j' = ar.length ∧ xs = [.ptr gk 0, .rop [.int .i64 k, .int .i64 z, .str t, .ro (ar.map Ex.avs)] 0, a, .int .i64 ar.length, .int .i64 i] ∧ LkM gk gm fns vars ws' A' H' m' ∧ Ext gk A H m A' H' m' ∧ ws'.length + VM.exWL (ar.drop i) ≤ 4294967296 ∧ VM.exCL fns names ar ws = VM.exCL fns names (ar.drop i) ws') = J
  cases j with
  | zero =>
    have e : i = ar.length := by omega
    subst e
    rw [List.drop_length] at hgo
    rw [hgo] at hq
    simp only [VM.exCL] at hq
    simp [zp]
    exact hq A' H' m' h' he
  | succ j =>
    have hlt : i < ar.length := by omega
    have hx : ar[i]? = some ar[i] := List.getElem?_eq_getElem hlt
    have hdr : ar.drop i = ar[i] :: ar.drop (i + 1) := List.drop_eq_getElem_cons hlt
    have hxl := zcx ar[i]
    have hwi : IntKind.i64.wrap ((i : Int) + 1) = (i : Int) + 1 := i64w (by omega)
    rw [hdr] at hgo hw'
    simp only [VM.exCL, VM.exWL] at hgo hw'
    simp [zp, hlt, hxl]
    refine hE ar[i] (List.getElem_mem hlt) vars ws' A' a H' m' _ h' (hn.ext he) (by omega) fun A2 H2 m2 h2 e2 => ?_
    have hle := VM.exC_le fns names ar[i] ws'
    by_cases hz : (VM.exC fns names ar[i] ws').2 = 0
    · rw [if_neg (by simpa using hz)] at hgo
      simp [zcv, hz, hwi]
      rw [← hJ]
      exact ⟨j, by omega, i + 1, _, _, by omega, rfl, h2, he.trans e2, by omega, hgo⟩
    · rw [if_pos hz] at hgo
      rw [hgo] at hq
      simp [zcv, hz]
      exact hq A2 H2 m2 h2 (he.trans e2)
set_option maxHeartbeats 1000000 in
theorem zta {gk gm : Nat} {fns : List (Str × Nat)} {names : List Str} (hnl : names.length ≤ 4294967296) {k z : Int} {t : Str} {ar : List Ex} (hE : ∀ y ∈ ar, LExC gk gm fns names y) : LExC gk gm fns names (.mk k z t ar) := by
  intro vars ws A a H m Q h hn hw hq
  have hcl := VM.cond_le ws t k
  simp only [VM.exW] at hw
  have hl : ar.length ≤ 4294967296 := by have := VM.len_exWL ar; omega
  unfold VM.exC at hq
  refine zik _ _ _ _ _ _ ?_
  have row := h.row
  have hmap := h.map
  have rest : ∀ ws1 A1 H1 m1, LkM gk gm fns vars ws1 A1 H1 m1 → Ext gk A H m A1 H1 m1 → VM.headE fns names k t ar.length = 0 → ws1 = (if k = 2 then VM.addW ws t else ws) → LP (zp Q) [.ptr gk 0, .rop (Ex.mk k z t ar).avs 0, a, .int .i64 ar.length, .int .i64 0] H1 m1 := by
    intro ws1 A1 H1 m1 h1 e1 h0 hw1
    rw [if_neg (by rw [h0]; simp), ← hw1] at hq
    exact zui hE h1 (hn.ext e1) (by rw [hw1]; omega) hl fun A' H' m' h' e' => hq A' H' m' h' (e1.trans e')
  rw [zif] at rest ⊢
  by_cases h2 : k = 2
  · subst h2
    simp [zam]
    refine zwd h (by omega) fun A1 H1 m1 h1 e1 => ?_
    simp [zfo]
    exact rest _ A1 H1 m1 h1 e1 (by unfold VM.headE; simp) (by simp)
  · by_cases h3 : k = 3
    · subst h3
      simp [zam]
      refine zge (by omega) hn.arg ?_
      by_cases hin : t ∈ names
      · simp [zcu, hin]
        exact rest ws A H m h (Ext.refl _ _ _ _) (by unfold VM.headE; simp [hin]) (by simp)
      · have e6 : VM.headE fns names 3 t ar.length = 6 := by unfold VM.headE; simp [hin]
        rw [if_pos (by rw [e6]; decide), e6] at hq
        simp [zcu, hin]
        exact hq A H m (by simpa using h) (Ext.refl _ _ _ _)
    · by_cases h11 : k = 11
      · subst h11
        obtain ⟨r, f1, f2⟩ := zhj t fns
        simp [zam, row, hmap, f1]
        cases r with
        | none =>
          simp only at f2
          have e6 : VM.headE fns names 11 t ar.length = 6 := by unfold VM.headE; rw [f2]; rfl
          rw [if_pos (by rw [e6]; decide), e6] at hq
          simp
          exact hq A H m (by simpa using h) (Ext.refl _ _ _ _)
        | some p =>
          obtain ⟨i, v⟩ := p
          simp only at f2
          obtain ⟨f3, rfl⟩ := f2
          obtain ⟨q, hq2⟩ := Option.ne_none_iff_exists'.1 f3
          rw [hq2]
          by_cases hql : q = ar.length
          · have e0 : VM.headE fns names 11 t ar.length = 0 := by unfold VM.headE; rw [hq2]; simp [hql]
            simp [hql]
            exact rest ws A H m h (Ext.refl _ _ _ _) e0 (by simp)
          · have e5 : VM.headE fns names 11 t ar.length = 5 := by unfold VM.headE; rw [hq2]; simp [hql]
            rw [if_pos (by rw [e5]; decide), e5] at hq
            have hqi : ¬ (q : Int) = ar.length := by omega
            simp [hqi]
            exact hq A H m (by simpa using h) (Ext.refl _ _ _ _)
      · simp [zam, h2, h3, h11]
        exact rest ws A H m h (Ext.refl _ _ _ _) (by unfold VM.headE; simp [h3, h11]) (by simp [h2])
mutual
theorem zpn {gk gm : Nat} {fns : List (Str × Nat)} {names : List Str} (hnl : names.length ≤ 4294967296) : ∀ x : Ex, LExC gk gm fns names x
  | .mk _ _ _ ar => zta hnl (zog hnl ar)
theorem zog {gk gm : Nat} {fns : List (Str × Nat)} {names : List Str} (hnl : names.length ≤ 4294967296) : ∀ l : List Ex, ∀ x ∈ l, LExC gk gm fns names x
  | [], x, h => absurd h (by simp)
  | y :: r, x, h => (List.mem_cons.1 h).elim (fun e => e ▸ zpn hnl y) fun h => zog hnl r x h
end
end Go.Proofs.YtpllgpgdcbgalaaDoor
set_option maxRecDepth 8000
namespace Go.Proofs.YtpllgpgdcbgalaaDoor
open Go Go.RowKit
theorem RowS.arg {H : Heap} {lo m : Nat} {names : List Str} {a : AV} (h : RowS strC 1 H lo m names a) : zu H m 1 (names.map strC) a := by
  cases h with
  | nil => exact .nils rfl
  | row h1 h2 h3 => have := zu.slc (xs := names.map strC) (sz := 1) _ h2 h3; rw [List.length_map] at this; exact this
structure OwN (gk : Nat) (A : AV) (lo : Nat) (names : List Str) (H : Heap) (m : Nat) (a : AV) : Prop where
  row : RowS strC 1 H lo m names a
  far : ∀ y ∈ owns a, y ≠ gk ∧ y ∉ owns A
theorem OwN.nma {gk lo m : Nat} {A a : AV} {names : List Str} {H : Heap} (h : OwN gk A lo names H m a) : NmA gk A names H m a := ⟨h.row.arg, h.far⟩
theorem OwN.ext {gk lo m m' : Nat} {A A' a : AV} {H H' : Heap} {names : List Str} (h : OwN gk A lo names H m a) (e : Ext gk A H m A' H' m') : OwN gk A' lo names H' m' a := by
  have hle := e.le
  obtain ⟨h1, h2⟩ := h
  cases h1 with
  | nil => exact ⟨.nil, fun y hy => by simp [owns] at hy⟩
  | row q0 q1 q2 =>
    rename_i ga
    have hg := h2 ga (by simp [owns])
    refine ⟨.row q0 (by omega) (by rw [e.keep _ q1 hg.1 hg.2]; exact q2), fun y hy => ?_⟩
    simp [owns] at hy
    subst hy
    exact ⟨hg.1, fun hy2 => (e.own _ hy2).elim hg.2 (by omega)⟩
theorem LkM.old {gk gm m m' : Nat} {fns : List (Str × Nat)} {vars : Int} {ws : List Str} {A : AV} {H H' : Heap} (h : LkM gk gm fns vars ws A H m) (hm : m ≤ m') (hk : ∀ y, y < m → H' y = H y) : LkM gk gm fns vars ws A H' m' := by
  have h1 := h.gg
  have h2 := h.gn
  exact ⟨by rw [hk _ h2]; exact h.row, h.wr.keep hm fun y _ hy => hk y hy, by rw [hk _ (by omega)]; exact h.map, h1, by omega⟩
theorem LkM.ownA {gk gm m : Nat} {fns : List (Str × Nat)} {vars : Int} {ws : List Str} {A : AV} {H : Heap} (h : LkM gk gm fns vars ws A H m) : ∀ y ∈ owns A, gk < y ∧ y < m := by
  intro y hy
  have := h.wr
  cases this with
  | nil => simp [owns] at hy
  | row h1 h2 h3 => simp [owns] at hy; omega
set_option maxHeartbeats 1000000 in
theorem zvq {gk m : Nat} {A a : AV} {names : List Str} {H : Heap} {Q : QT} (hA : ∀ y ∈ owns A, y < m) (hgk : gk < m) (h : NmA gk A names H m a) (hl : names.length ≤ 4294967296)
    (hq : ∀ a' H' m', OwN gk A m names H' m' a' → m ≤ m' → (∀ y, y < m → H' y = H y) → Q a' H' m') : za Tryd.prog 53 [a] H m Q := by
  refine zfb _ _ _ _ ?_
  have nilq : names = [] → Q .nils H m := fun e => by
    subst e
    exact hq .nils H m ⟨.nil, fun y hy => by simp [owns] at hy⟩ (Nat.le_refl _) fun _ _ => rfl
  have hh : (names.length : Nat) * 16 ≤ 140737488355328 := by omega
  have rl := zcw (f := strC) (sz := 1) (fun _ => rfl) names
  have ones : ∀ x ∈ (names.map strC).flatten, x.one = true := by
    intro x hx
    obtain ⟨y, hy, hx⟩ := List.mem_flatten.1 hx
    obtain ⟨z, _, rfl⟩ := List.mem_map.1 hy
    rw [List.mem_singleton.1 hx]; rfl
  have rowq : ∀ H2, H2 (m + 1) = some (.row 1 (names.map strC).flatten) → (∀ y, y < m → H2 y = H y) → Q (.slc (m + 1) 0 names.length) H2 (m + 2) := fun H2 h1 h2 =>
    hq _ H2 (m + 2) ⟨.row (by omega) (by omega) h1, fun y hy => by
      simp [owns] at hy
      refine ⟨by omega, fun hy2 => ?_⟩
      have := hA y hy2
      omega⟩ (by omega) h2
  have ha := h.arg
  cases ha with
  | nils e => simp [zaf]; exact nilq (by simpa using e)
  | ro =>
    have hsrc := zpe (H := H.put m (some (.row 1 []))) (zhx (l := names))
    simp [zaf, hsrc]
    have o2 : ∀ x ∈ names, ∀ v ∈ strC x, v.one = true := fun x _ v hv => by rw [List.mem_singleton.1 hv]; rfl
    have q := rowq ((H.put m none).put (m + 1) (some (.row 1 (names.map strC).flatten))) (Heap.put_at _ _ _) fun y hy => by rw [Heap.put_ne _ _ (by omega), Heap.put_ne _ _ (by omega)]
    exact ⟨fun e => ⟨nilq e, o2, hh, q⟩, fun _ => ⟨o2, hh, q⟩⟩
  | slc g h1 h2 =>
    have hgm : ¬ g = m := by omega
    generalize hrr : (names.map strC).flatten = rr at *
    have h3 : rr.take names.length = rr := List.take_of_length_le (by omega)
    have h4 : names.length ≤ rr.length := by omega
    simp [zaf, h2, hgm, h3, h4]
    have q := rowq ((H.put m none).put (m + 1) (some (.row 1 rr))) (Heap.put_at _ _ _) fun y hy => by rw [Heap.put_ne _ _ (by omega), Heap.put_ne _ _ (by omega)]
    exact ⟨fun e => ⟨nilq e, ones, hh, q⟩, fun _ => ⟨ones, hh, q⟩⟩
end Go.Proofs.YtpllgpgdcbgalaaDoor
set_option maxRecDepth 8000
namespace Go.Proofs.YtpllgpgdcbgalaaDoor
open Go Go.RowKit
namespace VM
mutual
def smW : Sm → Nat
  | .mk _ _ ar t e => 1 + exWL ar + smWL t + smWL e
def smWL : List Sm → Nat
  | [] => 0
  | x :: r => smW x + smWL r
end
end VM
def LBlC (gk gm : Nat) (fns : List (Str × Nat)) (l : List Sm) : Prop := ∀ (names : List Str) (vars : Int) (ws : List Str) (A a : AV) (H : Heap) (m : Nat) (Q : QT), LkM gk gm fns vars ws A H m → NmA gk A names H m a → ws.length + VM.smWL l ≤ 4294967296 → names.length + VM.smWL l ≤ 4294967296 → 0 ≤ vars → vars ≤ 8 →
  (∀ A' H' m', LkM gk gm fns (VM.smCL fns names l (vars, ws)).1.1 (VM.smCL fns names l (vars, ws)).1.2 A' H' m' → Ext gk A H m A' H' m' → Q (.int .i64 (VM.smCL fns names l (vars, ws)).2) H' m') → za Tryd.prog 34 [.ptr gk 0, .ro (l.map Sm.avs), a] H m Q
def VM.pairC (fns : List (Str × Nat)) (names : List Str) (t e : List Sm) (s : VM.ScS) : VM.ScS × Int := if (VM.smCL fns names t s).2 ≠ 0 then VM.smCL fns names t s else VM.smCL fns names e (VM.smCL fns names t s).1
set_option maxHeartbeats 1000000 in
theorem zwl {gk gm gp lo : Nat} {fns : List (Str × Nat)} {names : List Str} {t e : List Sm} (hT : LBlC gk gm fns t) (hE : LBlC gk gm fns e) {vars : Int} {ws : List Str} {A a L : AV} {H : Heap} {m len i : Nat} {Q : QT} {K : J3} (h : LkM gk gm fns vars ws A H m) (hn : OwN gk A lo names H m a) (hg : gp < m) (hg2 : gp ≠ gk) (hg3 : gp ∉ owns A) (hp : H gp = some (.row 1 [.ro (t.map Sm.avs), .ro (e.map Sm.avs)])) (hi : i < 4294967296)
    (hw : ws.length + VM.smWL t + VM.smWL e ≤ 4294967296) (hnl : names.length + VM.smWL t + VM.smWL e ≤ 4294967296) (hv : 0 ≤ vars) (hv8 : vars ≤ 8)
    (hmid : (VM.smCL fns names t (vars, ws)).2 = 0 → 0 ≤ (VM.smCL fns names t (vars, ws)).1.1 ∧ (VM.smCL fns names t (vars, ws)).1.1 ≤ 8 ∧ (VM.smCL fns names t (vars, ws)).1.2.length ≤ ws.length + VM.smWL t)
    (hbad : (VM.pairC fns names t e (vars, ws)).2 ≠ 0 → ∀ A' H' m', LkM gk gm fns (VM.pairC fns names t e (vars, ws)).1.1 (VM.pairC fns names t e (vars, ws)).1.2 A' H' m' → Ext gk A H m A' H' m' → Q (.int .i64 (VM.pairC fns names t e (vars, ws)).2) H' m')
    (hok : (VM.pairC fns names t e (vars, ws)).2 = 0 → ∀ A' H' m', LkM gk gm fns (VM.pairC fns names t e (vars, ws)).1.1 (VM.pairC fns names t e (vars, ws)).1.2 A' H' m' → Ext gk A H m A' H' m' → K [.ptr gk 0, L, a, .int .i64 len, .int .i64 ((i : Int) + 1)] H' m') :
    LP (zn Q K) [.ptr gk 0, L, a, .int .i64 len, .int .i64 i, .slc gp 0 2, .int .i64 2, .int .i64 0] H m := by
  have hwi : IntKind.i64.wrap ((i : Int) + 1) = (i : Int) + 1 := i64w (by omega)
  refine LP.mk (fun j xs H' m' => (j = 2 ∧ xs = [.ptr gk 0, L, a, .int .i64 len, .int .i64 i, .slc gp 0 2, .int .i64 2, .int .i64 0] ∧ H' = H ∧ m' = m)
    ∨ (j = 1 ∧ (VM.smCL fns names t (vars, ws)).2 = 0 ∧ xs = [.ptr gk 0, L, a, .int .i64 len, .int .i64 i, .slc gp 0 2, .int .i64 2, .int .i64 1] ∧ ∃ A', LkM gk gm fns (VM.smCL fns names t (vars, ws)).1.1 (VM.smCL fns names t (vars, ws)).1.2 A' H' m' ∧ Ext gk A H m A' H' m')
    ∨ (j = 0 ∧ (VM.pairC fns names t e (vars, ws)).2 = 0 ∧ xs = [.ptr gk 0, L, a, .int .i64 len, .int .i64 i, .slc gp 0 2, .int .i64 2, .int .i64 2] ∧ ∃ A', LkM gk gm fns (VM.pairC fns names t e (vars, ws)).1.1 (VM.pairC fns names t e (vars, ws)).1.2 A' H' m' ∧ Ext gk A H m A' H' m')) 2 (.inl ⟨rfl, rfl, rfl, rfl⟩) ?_
  rintro j xs H' m' hI
  generalize hJ : (fun (xs : List AV) (H' : Heap) (m' : Nat) => ∃ j', j' < j ∧ ((j' = 2 ∧ xs = [.ptr gk 0, L, a, .int .i64 len, .int .i64 i, .slc gp 0 2, .int .i64 2, .int .i64 0] ∧ H' = H ∧ m' = m)
    ∨ (j' = 1 ∧ (VM.smCL fns names t (vars, ws)).2 = 0 ∧ xs = [.ptr gk 0, L, a, .int .i64 len, .int .i64 i, .slc gp 0 2, .int .i64 2, .int .i64 1] ∧ ∃ A', LkM gk gm fns (VM.smCL fns names t (vars, ws)).1.1 (VM.smCL fns names t (vars, ws)).1.2 A' H' m' ∧ Ext gk A H m A' H' m')
    ∨ (j' = 0 ∧ (VM.pairC fns names t e (vars, ws)).2 = 0 ∧ xs = [.ptr gk 0, L, a, .int .i64 len, .int .i64 i, .slc gp 0 2, .int .i64 2, .int .i64 2] ∧ ∃ A', LkM gk gm fns (VM.pairC fns names t e (vars, ws)).1.1 (VM.pairC fns names t e (vars, ws)).1.2 A' H' m' ∧ Ext gk A H m A' H' m'))) = J
  rcases hI with ⟨rfl, rfl, rfl, rfl⟩ | ⟨rfl, h0, rfl, A', h', ex⟩ | ⟨rfl, h0, rfl, A', h', ex⟩
  · simp [zn, hp]
    refine hT names vars ws A a H' m' _ h hn.nma (by omega) (by omega) hv hv8 fun A2 H2 m2 h2 e2 => ?_
    by_cases hz : (VM.smCL fns names t (vars, ws)).2 = 0
    · simp [zo, hz]
      rw [← hJ]
      exact ⟨1, by omega, .inr (.inl ⟨rfl, hz, rfl, A2, h2, e2⟩)⟩
    · have ep : VM.pairC fns names t e (vars, ws) = VM.smCL fns names t (vars, ws) := by unfold VM.pairC; rw [if_pos hz]
      rw [ep] at hbad
      simp [zo, hz]
      exact hbad hz A2 H2 m2 h2 e2
  · have ep : VM.pairC fns names t e (vars, ws) = VM.smCL fns names e (VM.smCL fns names t (vars, ws)).1 := by unfold VM.pairC; rw [if_neg (by simpa using h0)]
    have hp' : H' gp = some (.row 1 [.ro (t.map Sm.avs), .ro (e.map Sm.avs)]) := by rw [ex.keep gp hg hg2 hg3]; exact hp
    obtain ⟨hm1, hm2, hm3⟩ := hmid h0
    simp [zn, hp']
    refine hE names _ _ A' a H' m' _ h' (hn.ext ex).nma (by omega) (by omega) hm1 hm2 fun A2 H2 m2 h2 e2 => ?_
    rw [← ep] at h2 ⊢
    by_cases hz : (VM.pairC fns names t e (vars, ws)).2 = 0
    · simp [zo, hz]
      rw [← hJ]
      exact ⟨0, by omega, .inr (.inr ⟨rfl, hz, rfl, A2, h2, ex.trans e2⟩)⟩
    · simp [zo, hz]
      exact hbad hz A2 H2 m2 h2 (ex.trans e2)
  · simp [zn, hwi]
    exact hok h0 A' H' m' h' ex
end Go.Proofs.YtpllgpgdcbgalaaDoor
set_option maxRecDepth 8000
namespace Go.Proofs.YtpllgpgdcbgalaaDoor
open Go Go.RowKit
namespace VM
def restC (fns : List (Str × Nat)) (names : List Str) (k : Int) (nm : Str) (t e : List Sm) (s : ScS) : ScS × Int × List Str :=
  if k = 1 ∧ nm ∈ names then (s, 7, names)
  else if k = 1 ∧ 8 < s.1 + 1 then ((s.1 + 1, s.2), 4, names)
  else if k = 2 ∧ nm ∉ names then (s, 6, names)
  else ((pairC fns (if k = 1 then names ++ [nm] else names) t e (if k = 1 then s.1 + 1 else s.1, s.2)).1, (pairC fns (if k = 1 then names ++ [nm] else names) t e (if k = 1 then s.1 + 1 else s.1, s.2)).2, if k = 1 then names ++ [nm] else names)
theorem smC_rest (fns : List (Str × Nat)) (names : List Str) (k : Int) (nm : Str) (ar : List Ex) (t e : List Sm) (s : ScS) : smC fns names (.mk k nm ar t e) s = if (exCL fns names ar s.2).2 ≠ 0 then ((s.1, (exCL fns names ar s.2).1), (exCL fns names ar s.2).2, names) else restC fns names k nm t e (s.1, (exCL fns names ar s.2).1) := by
  simp only [smC, restC, pairC]
  split
  · rfl
  · split
    · rfl
    · split
      · rfl
      · split
        · rfl
        · split <;> (split <;> rfl)
end VM
theorem RowS.keepO {α : Type} {f : α → List AV} {sz : Nat} {H H' : Heap} {lo hi hi' : Nat} {l : List α} {A : AV} (h : RowS f sz H lo hi l A) (hh : hi ≤ hi') (hk : ∀ y ∈ owns A, H' y = H y) : RowS f sz H' lo hi' l A := by
  cases h with
  | nil => exact .nil
  | row h1 h2 h4 => exact .row h1 (by omega) (by rw [hk _ (by simp [owns])]; exact h4)
theorem Ext.old {gk m0 m m' : Nat} {A0 A : AV} {H0 H H' : Heap} (h : Ext gk A0 H0 m0 A H m) (hm : m ≤ m') (hk : ∀ y, y < m0 → y ≠ gk → H' y = H y) : Ext gk A0 H0 m0 A H' m' := by
  have h1 := h.le
  exact ⟨by omega, fun y hy hne hno => by rw [hk y hy hne]; exact h.keep y hy hne hno, h.own⟩
structure BkS (gk gm : Nat) (fns : List (Str × Nat)) (A0 : AV) (H0 : Heap) (m0 : Nat) (names : List Str) (vars : Int) (ws : List Str) (A a : AV) (H : Heap) (m : Nat) : Prop where
  lk : LkM gk gm fns vars ws A H m
  nm : OwN gk A m0 names H m a
  ext : Ext gk A0 H0 m0 A H m
  gk0 : gk < m0
  v0 : 0 ≤ vars
  v8 : vars ≤ 8
def zlr (t e : List Sm) : AObj := .row 1 [.ro (t.map Sm.avs), .ro (e.map Sm.avs)]
set_option maxHeartbeats 1000000 in
theorem ziq {gk gm m0 : Nat} {fns : List (Str × Nat)} {names : List Str} {t e : List Sm} (hT : LBlC gk gm fns t) (hE : LBlC gk gm fns e) {A0 : AV} {H0 : Heap} {vars : Int} {ws : List Str} {A a L : AV} {H : Heap} {m len i : Nat} {Q : QT} {K : J3} (h : BkS gk gm fns A0 H0 m0 names vars ws A a H m) (hi : i < 4294967296)
    (hw : ws.length + VM.smWL t + VM.smWL e ≤ 4294967296) (hnl : names.length + VM.smWL t + VM.smWL e ≤ 4294967296)
    (hmid : (VM.smCL fns names t (vars, ws)).2 = 0 → 0 ≤ (VM.smCL fns names t (vars, ws)).1.1 ∧ (VM.smCL fns names t (vars, ws)).1.1 ≤ 8 ∧ (VM.smCL fns names t (vars, ws)).1.2.length ≤ ws.length + VM.smWL t)
    (hbad : (VM.pairC fns names t e (vars, ws)).2 ≠ 0 → ∀ A' H' m', LkM gk gm fns (VM.pairC fns names t e (vars, ws)).1.1 (VM.pairC fns names t e (vars, ws)).1.2 A' H' m' → Ext gk A0 H0 m0 A' H' m' → Q (.int .i64 (VM.pairC fns names t e (vars, ws)).2) H' m')
    (hok : (VM.pairC fns names t e (vars, ws)).2 = 0 → ∀ A' H' m', LkM gk gm fns (VM.pairC fns names t e (vars, ws)).1.1 (VM.pairC fns names t e (vars, ws)).1.2 A' H' m' → Ext gk A0 H0 m0 A' H' m' → OwN gk A' m0 names H' m' a → K [.ptr gk 0, L, a, .int .i64 len, .int .i64 ((i : Int) + 1)] H' m') :
    LP (zn Q K) [.ptr gk 0, L, a, .int .i64 len, .int .i64 i, .slc m 0 2, .int .i64 2, .int .i64 0] (H.put m (some (zlr t e))) (m + 1) := by
  have hgn := h.lk.gn
  have hle := h.ext.le
  have hA := h.lk.ownA
  have keep : ∀ y, y < m → (H.put m (some (zlr t e))) y = H y := fun y hy => Heap.put_ne _ _ (by omega)
  have e1 : Ext gk A H m A (H.put m (some (zlr t e))) (m + 1) := ⟨by omega, fun y hy _ _ => keep y hy, fun y hy => .inl hy⟩
  refine zwl hT hE (h.lk.old (by omega) keep) (h.nm.ext e1) (by omega) (by omega) (fun hm => by have := hA m hm; omega) (Heap.put_at _ _ _) hi hw hnl h.v0 h.v8 hmid (fun hz A' H' m' h' e' => hbad hz A' H' m' h' ((h.ext.trans e1).trans e')) fun hz A' H' m' h' e' => hok hz A' H' m' h' ((h.ext.trans e1).trans e') ((h.nm.ext e1).ext e')
set_option maxHeartbeats 2000000 in
theorem zsk {gk gm m0 : Nat} {fns : List (Str × Nat)} {names : List Str} {k : Int} {nm : Str} {ar : List Ex} {t e : List Sm} (hT : LBlC gk gm fns t) (hE : LBlC gk gm fns e) {A0 : AV} {H0 : Heap} {vars : Int} {ws : List Str} {A a L : AV} {H : Heap} {m len i : Nat} {Q : QT} {K K15 : J3} (h : BkS gk gm fns A0 H0 m0 names vars ws A a H m) (hi : i < 4294967296)
    (hw : ws.length + VM.smWL t + VM.smWL e ≤ 4294967296) (hnl : names.length + 1 + VM.smWL t + VM.smWL e ≤ 4294967296)
    (hmid : ∀ names1 vars1, 0 ≤ vars1 → vars1 ≤ 8 → (VM.smCL fns names1 t (vars1, ws)).2 = 0 → 0 ≤ (VM.smCL fns names1 t (vars1, ws)).1.1 ∧ (VM.smCL fns names1 t (vars1, ws)).1.1 ≤ 8 ∧ (VM.smCL fns names1 t (vars1, ws)).1.2.length ≤ ws.length + VM.smWL t)
    (hbad : (VM.restC fns names k nm t e (vars, ws)).2.1 ≠ 0 → ∀ A' H' m', LkM gk gm fns (VM.restC fns names k nm t e (vars, ws)).1.1 (VM.restC fns names k nm t e (vars, ws)).1.2 A' H' m' → Ext gk A0 H0 m0 A' H' m' → Q (.int .i64 (VM.restC fns names k nm t e (vars, ws)).2.1) H' m')
    (hok : (VM.restC fns names k nm t e (vars, ws)).2.1 = 0 → ∀ A' a' H' m', LkM gk gm fns (VM.restC fns names k nm t e (vars, ws)).1.1 (VM.restC fns names k nm t e (vars, ws)).1.2 A' H' m' → Ext gk A0 H0 m0 A' H' m' → OwN gk A' m0 (VM.restC fns names k nm t e (vars, ws)).2.2 H' m' a' → K [.ptr gk 0, L, a', .int .i64 len, .int .i64 ((i : Int) + 1)] H' m') :
    zt Q K K15 [.ptr gk 0, L, a, .rop (Sm.mk k nm ar t e).avs 0, .int .i64 len, .int .i64 i, .int .i64 ar.length, .int .i64 ar.length] H m := by
  have lk := h.lk
  have row := lk.row
  have hgn := lk.gn
  have hpr : AObj.row 1 [.ro (t.map Sm.avs), .ro (e.map Sm.avs)] = zlr t e := rfl
  have hin := h.nm.nma.arg
  unfold VM.restC at hbad hok
  rw [zbz]
  by_cases h1 : k = 1
  · subst h1
    simp [zt]
    refine zge (by omega) hin ?_
    by_cases hn : nm ∈ names
    · rw [if_pos ⟨rfl, hn⟩] at hbad
      simp [zak, hn]
      exact hbad (by simp) A H m lk h.ext
    · rw [if_neg (by simp [hn])] at hbad hok
      have hv0 := h.v0
      have hv8 := h.v8
      have hwr : IntKind.i64.wrap (vars + 1) = vars + 1 := i64w (by omega)
      have hmap := lk.map
      have hgg := lk.gg
      have hle := h.ext.le
      have hA := lk.ownA
      by_cases hm : 8 < vars + 1
      · rw [if_pos ⟨rfl, hm⟩] at hbad
        simp [zak, hn, row, hwr, hm]
        refine hbad (by simp) A _ m ⟨Heap.put_at _ _ _, lk.wr.keep (Nat.le_refl _) fun y hy _ => Heap.put_ne _ _ (by omega), by rw [Heap.put_ne _ _ (by omega)]; exact hmap, hgg, hgn⟩ (h.ext.old (Nat.le_refl _) fun y _ hne => Heap.put_ne _ _ hne)
      · rw [if_neg (fun h => hm h.2), if_neg (by simp)] at hbad hok
        simp at hbad hok
        have nr := h.nm.row
        have nf := h.nm.far
        cases nr with
        | nil =>
          have ne_0 : gk ≠ gm ∧ gm ≠ gk ∧ gk ≠ m ∧ m ≠ gk ∧ gk ≠ m + 1 ∧ m + 1 ≠ gk ∧ gm ≠ m ∧ m ≠ gm ∧ gm ≠ m + 1 ∧ m + 1 ≠ gm := ⟨by omega, by omega, by omega, by omega, by omega, by omega, by omega, by omega, by omega, by omega⟩
          simp [zak, hn, row, hwr, hm, ne_0]
          simp only [hpr]
          have hB : BkS gk gm fns A0 H0 m0 ([] ++ [nm]) (vars + 1) ws A (.slc (m + 1) 0 1) (((H.put gk (some (.row 3 [.amap gm, .int .i64 (vars + 1), A]))).put m (some (.row 1 [.str nm]))).put (m + 1) (some (.row 1 [.str nm]))) (m + 2) := by
            refine ⟨⟨by rw [Heap.put_ne _ _ (by omega), Heap.put_ne _ _ (by omega), Heap.put_at], lk.wr.keepO (by omega) fun y hy => by have := hA y hy; rw [Heap.put_ne _ _ (by omega), Heap.put_ne _ _ (by omega), Heap.put_ne _ _ (by omega)], by rw [Heap.put_ne _ _ (by omega), Heap.put_ne _ _ (by omega), Heap.put_ne _ _ (by omega)]; exact hmap, hgg, by omega⟩, ⟨?_, fun y hy => ?_⟩, h.ext.old (by omega) fun y hy hne => by rw [Heap.put_ne _ _ (by omega), Heap.put_ne _ _ (by omega), Heap.put_ne _ _ hne], h.gk0, by omega, by omega⟩
            · exact RowS.row (l := [nm]) (by omega) (by omega) (Heap.put_at _ _ _)
            · simp [owns] at hy
              exact ⟨by omega, fun hy2 => by have := hA y hy2; omega⟩
          exact ziq hT hE hB hi hw (by simp at hnl ⊢; omega) (hmid _ _ (by omega) (by omega)) hbad fun hz A' H' m' q1 q2 q3 => hok hz A' _ H' m' q1 q2 q3
        | @row names ga a1 a2 a3 =>
          have hga := nf ga (by simp [owns])
          have hgm : ga ≠ gm := by have := h.gk0; omega
          have rl := zcw (f := strC) (sz := 1) (fun _ => rfl) names
          have hb16 : (names.length + 1) * 16 ≤ 140737488355328 := by omega
          generalize hrr : (names.map strC).flatten = rr at rl a3
          have h3 : rr.take names.length = rr := List.take_of_length_le (by omega)
          have hgk := hga.1
          have ne_1 : gk ≠ gm ∧ gm ≠ gk ∧ gk ≠ ga ∧ ga ≠ gk ∧ gm ≠ ga ∧ ga ≠ gm ∧ gk ≠ m ∧ m ≠ gk ∧ gk ≠ m + 1 ∧ m + 1 ≠ gk ∧ gm ≠ m ∧ m ≠ gm ∧ gm ≠ m + 1 ∧ m + 1 ≠ gm ∧ ga ≠ m ∧ m ≠ ga ∧ ga ≠ m + 1 ∧ m + 1 ≠ ga := ⟨by omega, by omega, by omega, by omega, by omega, by omega, by omega, by omega, by omega, by omega, by omega, by omega, by omega, by omega, by omega, by omega, by omega, by omega⟩
          simp [zak, hn, row, hwr, hm, a3, rl, hb16, h3, ne_1]
          simp only [hpr]
          have hB : BkS gk gm fns A0 H0 m0 (names ++ [nm]) (vars + 1) ws A (.slc (m + 1) 0 (names.length + 1)) ((((H.put gk (some (.row 3 [.amap gm, .int .i64 (vars + 1), A]))).put m (some (.row 1 [.str nm]))).put ga none).put (m + 1) (some (.row 1 (rr ++ [.str nm])))) (m + 2) := by
            refine ⟨⟨by rw [Heap.put_ne _ _ (by omega), Heap.put_ne _ _ (by omega), Heap.put_ne _ _ (by omega), Heap.put_at], lk.wr.keepO (by omega) fun y hy => by have := hA y hy; have hyg : y ≠ ga := (fun e => hga.2 (by rw [← e]; exact hy)); rw [Heap.put_ne _ _ (by omega), Heap.put_ne _ _ hyg, Heap.put_ne _ _ (by omega), Heap.put_ne _ _ (by omega)], by rw [Heap.put_ne _ _ (by omega), Heap.put_ne _ _ (by omega), Heap.put_ne _ _ (by omega), Heap.put_ne _ _ (by omega)]; exact hmap, hgg, by omega⟩, ⟨?_, fun y hy => ?_⟩, h.ext.old (by omega) fun y hy hne => by rw [Heap.put_ne _ _ (by omega), Heap.put_ne _ _ (by omega), Heap.put_ne _ _ (by omega), Heap.put_ne _ _ hne], h.gk0, by omega, by omega⟩
            · have := RowS.row (f := strC) (sz := 1) (H := (((H.put gk (some (.row 3 [.amap gm, .int .i64 (vars + 1), A]))).put m (some (.row 1 [.str nm]))).put ga none).put (m + 1) (some (.row 1 (rr ++ [.str nm])))) (lo := m0) (hi := m + 2) (l := names ++ [nm]) (ga := m + 1) (by omega) (by omega) (by rw [Heap.put_at, zcg, hrr]; rfl)
              rw [List.length_append] at this
              exact this
            · simp [owns] at hy
              exact ⟨by omega, fun hy2 => by have := hA y hy2; omega⟩
          exact ziq hT hE hB hi hw (by simp at hnl ⊢; omega) (hmid _ _ (by omega) (by omega)) hbad fun hz A' H' m' q1 q2 q3 => hok hz A' _ H' m' q1 q2 q3
  · by_cases h2 : k = 2
    · subst h2
      simp [zt]
      refine zge (by omega) hin ?_
      by_cases hn : nm ∈ names
      · rw [if_neg (by simp), if_neg (by simp), if_neg (by simp [hn])] at hbad hok
        simp [zcc, hn]
        simp only [hpr]
        simp at hbad hok
        exact ziq hT hE h hi hw (by omega) (hmid names vars h.v0 h.v8) hbad fun hz A' H' m' q1 q2 q3 => hok hz A' a H' m' q1 q2 q3
      · rw [if_neg (by simp), if_neg (by simp), if_pos ⟨rfl, hn⟩] at hbad
        simp [zcc, hn]
        exact hbad (by simp) A H m lk h.ext
    · rw [if_neg (fun h => h1 h.1), if_neg (fun h => h1 h.1), if_neg (fun h => h2 h.1), if_neg h1, if_neg h1] at hbad hok
      simp [zt, h1, h2]
      simp only [hpr]
      simp only at hbad hok
      exact ziq hT hE h hi hw (by omega) (hmid names vars h.v0 h.v8) hbad fun hz A' H' m' q1 q2 q3 => hok hz A' a H' m' q1 q2 q3
end Go.Proofs.YtpllgpgdcbgalaaDoor
set_option maxRecDepth 8000
namespace Go.Proofs.YtpllgpgdcbgalaaDoor
open Go Go.RowKit
namespace VM
def Good (s s' : ScS) (w : Nat) : Prop := 0 ≤ s'.1 ∧ s'.1 ≤ 8 ∧ s'.2.length ≤ s.2.length + w
mutual
theorem smC_good (fns : List (Str × Nat)) : ∀ (x : Sm) (names : List Str) (s : ScS), 0 ≤ s.1 → s.1 ≤ 8 → (smC fns names x s).2.1 = 0 → Good s (smC fns names x s).1 (smW x) ∧ (smC fns names x s).2.2.length ≤ names.length + 1
  | .mk k nm ar t e, names, s, h0, h8, hz => by
    have ha := exCL_le fns names ar s.2
    rw [smC_rest] at hz ⊢
    unfold restC at hz ⊢
    split at hz
    · rename_i h; exact absurd hz h
    · rename_i hx
      rw [if_neg hx]
      split at hz
      · cases hz
      · rename_i c1
        rw [if_neg c1]
        split at hz
        · cases hz
        · rename_i c2
          rw [if_neg c2]
          split at hz
          · cases hz
          · rename_i c3
            rw [if_neg c3]
            have hv : 0 ≤ (if k = 1 then s.1 + 1 else s.1) ∧ (if k = 1 then s.1 + 1 else s.1) ≤ 8 := by
              split
              · rename_i hk
                have : ¬ 8 < s.1 + 1 := fun h => c2 ⟨hk, h⟩
                omega
              · omega
            have hn : (if k = 1 then names ++ [nm] else names).length ≤ names.length + 1 := by
              split
              · rw [List.length_append]; simp
              · omega
            generalize (if k = 1 then s.1 + 1 else s.1) = v at *
            generalize (if k = 1 then names ++ [nm] else names) = nms at *
            simp only at hz ⊢
            refine ⟨?_, hn⟩
            unfold pairC at hz ⊢
            split at hz
            · rename_i h; exact absurd hz h
            · rename_i ht
              rw [if_neg ht]
              have g1 := smCL_good fns t nms (v, (exCL fns names ar s.2).1) hv.1 hv.2 (by simpa using ht)
              have g2 := smCL_good fns e nms _ g1.1 g1.2.1 hz
              unfold smW
              exact ⟨g2.1, g2.2.1, by have := g2.2.2; have := g1.2.2; simp only at *; omega⟩
theorem smCL_good (fns : List (Str × Nat)) : ∀ (l : List Sm) (names : List Str) (s : ScS), 0 ≤ s.1 → s.1 ≤ 8 → (smCL fns names l s).2 = 0 → Good s (smCL fns names l s).1 (smWL l)
  | [], names, s, h0, h8, hz => by unfold smCL smWL; exact ⟨h0, h8, by simp⟩
  | x :: r, names, s, h0, h8, hz => by
    unfold smCL at hz ⊢
    split at hz
    · rename_i h; exact absurd hz h
    · rename_i h
      rw [if_neg h]
      have g1 := (smC_good fns x names s h0 h8 (by simpa using h)).1
      have g2 := smCL_good fns r (smC fns names x s).2.2 _ g1.1 g1.2.1 hz
      unfold smWL
      exact ⟨g2.1, g2.2.1, by have := g2.2.2; have := g1.2.2; omega⟩
end
end VM
end Go.Proofs.YtpllgpgdcbgalaaDoor
set_option maxRecDepth 8000
namespace Go.Proofs.YtpllgpgdcbgalaaDoor
open Go Go.RowKit
set_option maxHeartbeats 2000000 in
theorem zwe {gk gm m0 : Nat} {fns : List (Str × Nat)} {names : List Str} {k : Int} {nm : Str} {ar : List Ex} {t e : List Sm} (hT : LBlC gk gm fns t) (hE : LBlC gk gm fns e) {A0 : AV} {H0 : Heap} {vars : Int} {ws : List Str} {A a L : AV} {H : Heap} {m len i : Nat} {Q : QT} {K : J3} (h : BkS gk gm fns A0 H0 m0 names vars ws A a H m) (hi : i < 4294967296)
    (hw : ws.length + VM.smW (.mk k nm ar t e) ≤ 4294967296) (hnl : names.length + VM.smW (.mk k nm ar t e) ≤ 4294967296)
    (hbad : (VM.smC fns names (.mk k nm ar t e) (vars, ws)).2.1 ≠ 0 → ∀ A' H' m', LkM gk gm fns (VM.smC fns names (.mk k nm ar t e) (vars, ws)).1.1 (VM.smC fns names (.mk k nm ar t e) (vars, ws)).1.2 A' H' m' → Ext gk A0 H0 m0 A' H' m' → Q (.int .i64 (VM.smC fns names (.mk k nm ar t e) (vars, ws)).2.1) H' m')
    (hok : (VM.smC fns names (.mk k nm ar t e) (vars, ws)).2.1 = 0 → ∀ A' a' H' m', LkM gk gm fns (VM.smC fns names (.mk k nm ar t e) (vars, ws)).1.1 (VM.smC fns names (.mk k nm ar t e) (vars, ws)).1.2 A' H' m' → Ext gk A0 H0 m0 A' H' m' → OwN gk A' m0 (VM.smC fns names (.mk k nm ar t e) (vars, ws)).2.2 H' m' a' → K [.ptr gk 0, L, a', .int .i64 len, .int .i64 ((i : Int) + 1)] H' m') :
    LP (zt Q K) [.ptr gk 0, L, a, .rop (Sm.mk k nm ar t e).avs 0, .int .i64 len, .int .i64 i, .int .i64 ar.length, .int .i64 0] H m := by
  simp only [VM.smW] at hw hnl
  have hlen := VM.len_exWL ar
  rw [VM.smC_rest] at hbad hok
  refine LP.mk (fun j xs H' m' => ∃ (q : Nat) (ws' : List Str) (A' : AV), q + j = ar.length ∧ xs = [.ptr gk 0, L, a, .rop (Sm.mk k nm ar t e).avs 0, .int .i64 len, .int .i64 i, .int .i64 ar.length, .int .i64 q] ∧ BkS gk gm fns A0 H0 m0 names vars ws' A' a H' m' ∧ ws'.length + VM.exWL (ar.drop q) ≤ ws.length + VM.exWL ar ∧ VM.exCL fns names ar ws = VM.exCL fns names (ar.drop q) ws') ar.length ⟨0, ws, A, by omega, rfl, h, by simp, by simp⟩ ?_
  rintro j xs H' m' ⟨q, ws', A', hqj, rfl, h', hw', hgo⟩
  generalize hJ : (fun (xs : List AV) (H' : Heap) (m' : Nat) => ∃ j', j' < j ∧ ∃ (q : Nat) (ws' : List Str) (A' : AV), q + j' = ar.length ∧ xs = [.ptr gk 0, L, a, .rop (Sm.mk k nm ar t e).avs 0, .int .i64 len, .int .i64 i, .int .i64 ar.length, .int .i64 q] ∧ BkS gk gm fns A0 H0 m0 names vars ws' A' a H' m' ∧ ws'.length + VM.exWL (ar.drop q) ≤ ws.length + VM.exWL ar ∧ VM.exCL fns names ar ws = VM.exCL fns names (ar.drop q) ws') = J
  cases j with
  | zero =>
    have eq : q = ar.length := by omega
    subst eq
    rw [List.drop_length] at hgo hw'
    have e0 : VM.exCL fns names [] ws' = (ws', 0) := by simp only [VM.exCL]
    simp only [VM.exWL] at hw'
    rw [hgo, e0, if_neg (show ¬ ((ws', (0 : Int)).2 ≠ 0) by simp)] at hbad hok
    exact zsk hT hE h' hi (by omega) (by omega) (fun nms v h0 h8 hz => VM.smCL_good fns t nms (v, ws') h0 h8 hz) hbad hok
  | succ j =>
    have hlt : q < ar.length := by omega
    have hx : ar[q]? = some ar[q] := List.getElem?_eq_getElem hlt
    have hdr : ar.drop q = ar[q] :: ar.drop (q + 1) := List.drop_eq_getElem_cons hlt
    have hxl := zcx ar[q]
    have hwi : IntKind.i64.wrap ((q : Int) + 1) = (q : Int) + 1 := i64w (by omega)
    rw [hdr] at hgo hw'
    simp only [VM.exCL, VM.exWL] at hgo hw'
    rw [zbz]
    simp [zt, hlt, hxl]
    refine zpn (by omega) ar[q] vars ws' A' a H' m' _ h'.lk h'.nm.nma (by omega) fun A2 H2 m2 h2 e2 => ?_
    have hle := VM.exC_le fns names ar[q] ws'
    by_cases hz : (VM.exC fns names ar[q] ws').2 = 0
    · rw [if_neg (by simpa using hz)] at hgo
      simp [zo, hz, hwi]
      rw [← hJ, zbz]
      exact ⟨j, by omega, q + 1, _, _, by omega, rfl, ⟨h2, h'.nm.ext e2, h'.ext.trans e2, h'.gk0, h'.v0, h'.v8⟩, by omega, hgo⟩
    · rw [if_pos hz] at hgo
      rw [hgo, if_pos hz] at hbad
      simp [zo, hz]
      exact hbad hz A2 H2 m2 h2 (h'.ext.trans e2)
set_option maxHeartbeats 2000000 in
theorem ztq {gk gm : Nat} {fns : List (Str × Nat)} {l : List Sm} (hS : ∀ x ∈ l, ∀ k nm ar t e, x = .mk k nm ar t e → LBlC gk gm fns t ∧ LBlC gk gm fns e) (hl : l.length ≤ VM.smWL l) : LBlC gk gm fns l := by
  intro names vars ws A a H m Q h hn hw hnl h0 h8 hq
  refine zhz _ _ _ _ _ _ ?_
  unfold zew
  have hgn := h.gn
  refine zvq (gk := gk) (A := A) (fun y hy => (h.ownA y hy).2) hgn hn (by omega) fun a' H1 m1 hn1 hm1 hk1 => ?_
  have e1 : Ext gk A H m A H1 m1 := ⟨hm1, fun y hy _ _ => hk1 y hy, fun y hy => .inl hy⟩
  have b1 : BkS gk gm fns A H m names vars ws A a' H1 m1 := ⟨h.old hm1 hk1, hn1, e1, hgn, h0, h8⟩
  simp [zex]
  refine LP.mk (fun j xs H' m' => ∃ (i : Nat) (nms : List Str) (v : Int) (ws' : List Str) (A' a2 : AV), i + j = l.length ∧ xs = [.ptr gk 0, .ro (l.map Sm.avs), a2, .int .i64 l.length, .int .i64 i] ∧ BkS gk gm fns A H m nms v ws' A' a2 H' m' ∧ ws'.length + VM.smWL (l.drop i) ≤ 4294967296 ∧ nms.length + VM.smWL (l.drop i) ≤ 4294967296 ∧ VM.smCL fns names l (vars, ws) = VM.smCL fns nms (l.drop i) (v, ws')) l.length ⟨0, names, vars, ws, A, a', by omega, rfl, b1, by simpa using hw, by simpa using hnl, by simp⟩ ?_
  rintro j xs H' m' ⟨i, nms, v, ws', A', a2, hij, rfl, b', hw', hn', hgo⟩
  generalize hJ : (fun (xs : List AV) (H' : Heap) (m' : Nat) => ∃ j', j' < j ∧ ∃ (i : Nat) (nms : List Str) (v : Int) (ws' : List Str) (A' a2 : AV), i + j' = l.length ∧ xs = [.ptr gk 0, .ro (l.map Sm.avs), a2, .int .i64 l.length, .int .i64 i] ∧ BkS gk gm fns A H m nms v ws' A' a2 H' m' ∧ ws'.length + VM.smWL (l.drop i) ≤ 4294967296 ∧ nms.length + VM.smWL (l.drop i) ≤ 4294967296 ∧ VM.smCL fns names l (vars, ws) = VM.smCL fns nms (l.drop i) (v, ws')) = J
  cases j with
  | zero =>
    have ei : i = l.length := by omega
    subst ei
    rw [List.drop_length] at hgo
    rw [hgo] at hq
    simp only [VM.smCL] at hq
    simp [zcb]
    exact hq A' H' m' b'.lk b'.ext
  | succ j =>
    have hlt : i < l.length := by omega
    have hdr : l.drop i = l[i] :: l.drop (i + 1) := List.drop_eq_getElem_cons hlt
    have hxl := zji l[i]
    rw [hdr] at hgo hw' hn'
    simp only [VM.smCL, VM.smWL] at hgo hw' hn'
    have hS' := hS l[i] (List.getElem_mem hlt)
    simp [zcb, hlt, hxl]
    generalize l[i] = x at *
    obtain ⟨k, nm, ar, t, e⟩ := x
    obtain ⟨hT, hE⟩ := hS' k nm ar t e rfl
    have hsa := zbz k nm ar t e
    have h2 : ∀ hh : 2 < (Sm.mk k nm ar t e).avs.length, (Sm.mk k nm ar t e).avs[2]'hh = .ro (ar.map Ex.avs) := by
      rw [hsa]; intro hh; rfl
    rw [h2]
    simp
    refine zwe hT hE b' (by omega) (by omega) (by omega) (fun hz A2 H2 m2 q1 q2 => ?_) fun hz A2 a3 H2 m2 q1 q2 q3 => ?_
    · rw [if_pos hz] at hgo
      rw [hgo] at hq
      exact hq A2 H2 m2 q1 q2
    · rw [if_neg (by simpa using hz)] at hgo
      have g := VM.smC_good fns (.mk k nm ar t e) nms (v, ws') b'.v0 b'.v8 hz
      have hp : 1 ≤ VM.smW (.mk k nm ar t e) := by unfold VM.smW; omega
      rw [← hJ]
      exact ⟨j, by omega, i + 1, _, _, _, A2, a3, by omega, rfl, ⟨q1, q3, q2, b'.gk0, g.1.1, g.1.2.1⟩, by have := g.1.2.2; simp only at this; omega, by have := g.2; omega, hgo⟩
theorem zwi : ∀ x : Sm, 1 ≤ VM.smW x
  | .mk _ _ _ _ _ => by unfold VM.smW; omega
theorem zmv : ∀ l : List Sm, l.length ≤ VM.smWL l
  | [] => by simp
  | x :: r => by have := zwi x; have := zmv r; unfold VM.smWL; rw [List.length_cons]; omega
def SubC (gk gm : Nat) (fns : List (Str × Nat)) : Sm → Prop
  | .mk _ _ _ t e => LBlC gk gm fns t ∧ LBlC gk gm fns e
theorem zmy {gk gm : Nat} {fns : List (Str × Nat)} {l : List Sm} (h : ∀ x ∈ l, SubC gk gm fns x) : LBlC gk gm fns l :=
  ztq (fun x hx k nm ar t e hh => by have := h x hx; rw [hh] at this; exact this) (zmv l)
mutual
theorem zxe (gk gm : Nat) (fns : List (Str × Nat)) : ∀ x : Sm, SubC gk gm fns x
  | .mk _ _ _ t e => ⟨zmy (zlq gk gm fns t), zmy (zlq gk gm fns e)⟩
theorem zlq (gk gm : Nat) (fns : List (Str × Nat)) : ∀ l : List Sm, ∀ x ∈ l, SubC gk gm fns x
  | [], x, h => absurd h (by simp)
  | y :: r, x, h => (List.mem_cons.1 h).elim (fun e => e ▸ zxe gk gm fns y) fun h => zlq gk gm fns r x h
end
theorem zvu (gk gm : Nat) (fns : List (Str × Nat)) (l : List Sm) : LBlC gk gm fns l := zmy (zlq gk gm fns l)
end Go.Proofs.YtpllgpgdcbgalaaDoor
set_option maxRecDepth 8000
namespace Go.Proofs.YtpllgpgdcbgalaaDoor
open Go Go.RowKit
def zbc : List Fnc → Nat
  | [] => 0
  | f :: r => f.params.length + VM.smWL f.body + zbc r
set_option maxHeartbeats 2000000 in
theorem zvt {gk gm : Nat} {fns : List (Str × Nat)} {l : List Fnc} {vars : Int} {A : AV} {H : Heap} {m : Nat} {Q : QT} (h : LkM gk gm fns vars [] A H m) (hw : zbc l ≤ 4294967296) (hp : ∀ f ∈ l, f.params.length ≤ 4) (hl : l.length ≤ 4294967296)
    (hbad : (VM.bodiesC fns l []).2 ≠ 0 → ∀ H' m', (∀ y, y < gm → H' y = H y) → Q (.int .i64 (VM.bodiesC fns l []).2) H' m')
    (hok : (VM.bodiesC fns l []).2 = 0 → ∀ H' m', (∀ y, y < gm → H' y = H y) → Q (.int .i64 (if 16 < (VM.bodiesC fns l []).1.length then 4 else 0)) H' m') :
    LP (zbi Q) [.ptr gk 0, .ro (l.map Fnc.avs), .int .i64 l.length, .int .i64 0] H m := by
  refine LP.mk (fun j xs H' m' => ∃ (i : Nat) (ws' : List Str) (v : Int) (A' : AV), i + j = l.length ∧ xs = [.ptr gk 0, .ro (l.map Fnc.avs), .int .i64 l.length, .int .i64 i] ∧ LkM gk gm fns v ws' A' H' m' ∧ (∀ y, y < gm → H' y = H y) ∧ ws'.length + zbc (l.drop i) ≤ 4294967296 ∧ VM.bodiesC fns l [] = VM.bodiesC fns (l.drop i) ws') l.length ⟨0, [], vars, A, by omega, rfl, h, fun _ _ => rfl, by simpa using hw, by simp⟩ ?_
  rintro j xs H' m' ⟨i, ws', v, A', hij, rfl, h', hk, hw', hgo⟩
  generalize hJ : (fun (xs : List AV) (H' : Heap) (m' : Nat) => ∃ j', j' < j ∧ ∃ (i : Nat) (ws' : List Str) (v : Int) (A' : AV), i + j' = l.length ∧ xs = [.ptr gk 0, .ro (l.map Fnc.avs), .int .i64 l.length, .int .i64 i] ∧ LkM gk gm fns v ws' A' H' m' ∧ (∀ y, y < gm → H' y = H y) ∧ ws'.length + zbc (l.drop i) ≤ 4294967296 ∧ VM.bodiesC fns l [] = VM.bodiesC fns (l.drop i) ws') = J
  have row := h'.row
  cases j with
  | zero =>
    have ei : i = l.length := by omega
    subst ei
    rw [List.drop_length] at hgo
    have e0 : VM.bodiesC fns [] ws' = (ws', 0) := rfl
    rw [hgo, e0] at hok
    have hln := fun k => h'.wr.lnl (k := k)
    by_cases h16 : 16 < ws'.length
    · have h16' : (16 : Int) < ws'.length := by omega
      have := hok rfl H' m' hk
      simp only at this
      rw [if_pos h16] at this
      simp [zbi, row, hln, h16', this]
    · have h16' : ¬ (16 : Int) < ws'.length := by omega
      have := hok rfl H' m' hk
      simp only at this
      rw [if_neg h16] at this
      simp [zbi, row, hln, h16', this]
  | succ j =>
    have hlt : i < l.length := by omega
    have hdr : l.drop i = l[i] :: l.drop (i + 1) := List.drop_eq_getElem_cons hlt
    have hf4 := hp l[i] (List.getElem_mem hlt)
    rw [hdr] at hgo hw'
    simp only [VM.bodiesC, zbc] at hgo hw'
    have hgn := h'.gn
    have hgg := h'.gg
    simp [zbi, hlt, zhi]
    generalize l[i] = f at *
    obtain ⟨fnm, ps, body⟩ := f
    dsimp only [Fnc.avs]
    have ne_0 : gk ≠ gm ∧ gm ≠ gk ∧ gk ≠ m' ∧ m' ≠ gk ∧ gm ≠ m' ∧ m' ≠ gm := ⟨by omega, by omega, by omega, by omega, by omega, by omega⟩
    simp [row, ne_0]
    show LNL (.ro (ps.map strC)) _
    simp
    have hA := h'.ownA
    have hL : LkM gk gm fns (ps.length : Int) ws' A' ((H'.put m' (some (.row 3 [.str fnm, .ro (ps.map strC), .ro (body.map Sm.avs)]))).put gk (some (.row 3 [.amap gm, .int .i64 (ps.length : Int), A']))) (m' + 1) :=
      ⟨Heap.put_at _ _ _, h'.wr.keepO (by omega) fun y hy => by have := hA y hy; rw [Heap.put_ne _ _ (by omega), Heap.put_ne _ _ (by omega)], by rw [Heap.put_ne _ _ (by omega), Heap.put_ne _ _ (by omega)]; exact h'.map, hgg, by omega⟩
    have hkk : ∀ y, y < gm → ((H'.put m' (some (.row 3 [.str fnm, .ro (ps.map strC), .ro (body.map Sm.avs)]))).put gk (some (.row 3 [.amap gm, .int .i64 (ps.length : Int), A']))) y = H y := fun y hy => by rw [Heap.put_ne _ _ (by omega), Heap.put_ne _ _ (by omega)]; exact hk y hy
    have hE : za Tryd.prog 34 [.ptr gk 0, .ro (body.map Sm.avs), .ro (ps.map strC)] ((H'.put m' (some (.row 3 [.str fnm, .ro (ps.map strC), .ro (body.map Sm.avs)]))).put gk (some (.row 3 [.amap gm, .int .i64 (ps.length : Int), A']))) (m' + 1) (zdo Q [.ptr gk 0, .ro (l.map Fnc.avs), .int .i64 l.length, .int .i64 i] J) := by
      generalize Heap.put (Heap.put H' m' _) gk _ = HX at hL hkk ⊢
      simp only at hf4 hw' hgo
      refine zvu gk gm fns body ps (ps.length : Int) ws' A' (.ro (ps.map strC)) HX (m' + 1) _ hL ⟨.ro, fun y hy => by simp [owns] at hy⟩ (by omega) (by omega) (by omega) (by omega) fun A2 H2 m2 h2 e2 => ?_
      have hwi : IntKind.i64.wrap ((i : Int) + 1) = (i : Int) + 1 := i64w (by omega)
      have hk2 : ∀ y, y < gm → H2 y = H y := fun y hy => by rw [e2.keep y (by omega) (by omega) (fun hy2 => by have := hA y hy2; omega)]; exact hkk y hy
      by_cases hz : (VM.smCL fns ps body ((ps.length : Int), ws')).2 = 0
      · rw [if_neg (by simpa using hz)] at hgo
        have g := VM.smCL_good fns body ps ((ps.length : Int), ws') (by simp only; omega) (by simp only; omega) hz
        simp [zdo, hz, hwi]
        rw [← hJ]
        exact ⟨j, by omega, i + 1, _, _, A2, by omega, rfl, h2, hk2, by have := g.2.2; simp only at this; omega, hgo⟩
      · rw [if_pos hz] at hgo
        rw [hgo] at hbad
        simp [zdo, hz]
        exact hbad hz H2 m2 hk2
    exact hE
end Go.Proofs.YtpllgpgdcbgalaaDoor
set_option maxRecDepth 8000
namespace Go.Proofs.YtpllgpgdcbgalaaDoor
open Go Go.RowKit
theorem zld : ∀ {l : List Fnc} {f : Fnc}, f ∈ l → f.params.length ≤ zbc l
  | g :: r, f, h => by
    unfold zbc
    rcases List.mem_cons.1 h with rfl | h
    · omega
    · have := zld h; omega
set_option maxHeartbeats 2000000 in
theorem zvs {gk gm : Nat} {f0 : Fnc} {l0 l : List Fnc} (hl0 : l = f0 :: l0) {H : Heap} {m : Nat} {Q : QT} (h : LkM gk gm [] 0 [] .nils H m) (hw : zbc l ≤ 4294967296) (hl : l.length ≤ 5)
    (hq : ∀ H' m', (∀ y, y < gm → H' y = H y) → Q (.int .i64 (VM.checkC l)) H' m') :
    LP (zdn Q) [.ro (l.map Fnc.avs), .ptr gk 0, .ro (l.map Fnc.avs), .int .i64 l.length, .int .i64 0] H m := by
  refine LP.mk (fun j xs H' m' => ∃ (i : Nat) (fns : List (Str × Nat)), i + j = l.length ∧ xs = [.ro (l.map Fnc.avs), .ptr gk 0, .ro (l.map Fnc.avs), .int .i64 l.length, .int .i64 i] ∧ LkM gk gm fns 0 [] .nils H' m' ∧ (∀ y, y < gm → H' y = H y) ∧ (∀ f ∈ l.take i, f.params.length ≤ 4) ∧ VM.fnsC [] l = VM.fnsC fns (l.drop i)) l.length ⟨0, [], by omega, rfl, h, fun _ _ => rfl, by simp, by simp⟩ ?_
  rintro j xs H' m' ⟨i, fns, hij, rfl, h', hk, h4, hgo⟩
  generalize hJ : (fun (xs : List AV) (H' : Heap) (m' : Nat) => ∃ j', j' < j ∧ ∃ (i : Nat) (fns : List (Str × Nat)), i + j' = l.length ∧ xs = [.ro (l.map Fnc.avs), .ptr gk 0, .ro (l.map Fnc.avs), .int .i64 l.length, .int .i64 i] ∧ LkM gk gm fns 0 [] .nils H' m' ∧ (∀ y, y < gm → H' y = H y) ∧ (∀ f ∈ l.take i, f.params.length ≤ 4) ∧ VM.fnsC [] l = VM.fnsC fns (l.drop i)) = J
  have hcheck : ∀ z, z ≠ 0 → (VM.fnsC [] l).2 = z → VM.checkC l = z := by
    intro z hz e
    subst hl0
    unfold VM.checkC
    simp only
    rw [if_neg (by simp only [List.length_cons] at hl; omega), if_pos (by rw [e]; exact hz), e]
  have row := h'.row
  have hmap := h'.map
  have hgn := h'.gn
  have hgg := h'.gg
  cases j with
  | zero =>
    have ei : i = l.length := by omega
    subst ei
    rw [List.drop_length] at hgo
    rw [List.take_length] at h4
    have e0 : VM.fnsC fns [] = (fns, 0) := rfl
    rw [e0] at hgo
    subst hl0
    have hc : VM.checkC (f0 :: l0) = if 0 < f0.params.length then 10 else if (VM.bodiesC fns (f0 :: l0) []).2 ≠ 0 then (VM.bodiesC fns (f0 :: l0) []).2 else if 16 < (VM.bodiesC fns (f0 :: l0) []).1.length then 4 else 0 := by
      unfold VM.checkC
      simp only
      rw [if_neg (by simp only [List.length_cons] at hl; omega), hgo, if_neg (by simp)]
    rw [hc] at hq
    simp [zdn]
    refine ⟨zhi f0, ?_⟩
    show OPTK (some (AV.ro (f0.params.map strC))) _
    simp
    by_cases hp0 : 0 < f0.params.length
    · rw [if_pos hp0] at hq
      have hne : ¬ f0.params = [] := fun e => by rw [e] at hp0; simp at hp0
      have := hq H' m' hk
      simp [hp0, hne]
      exact this
    · rw [if_neg hp0] at hq
      have hnil : f0.params = [] := List.length_eq_zero_iff.1 (by omega)
      have hfin : LP (zbi Q) [.ptr gk 0, .ro ((f0 :: l0).map Fnc.avs), .int .i64 (f0 :: l0).length, .int .i64 0] H' m' :=
        zvt h' hw h4 (by omega) (fun hz H2 m2 hk2 => by
          have := hq H2 m2 fun y hy => (hk2 y hy).trans (hk y hy)
          rw [if_pos hz] at this
          exact this) fun hz H2 m2 hk2 => by
          have := hq H2 m2 fun y hy => (hk2 y hy).trans (hk y hy)
          rw [if_neg (by simpa using hz)] at this
          exact this
      simp [hnil]
      simp at hfin
      exact hfin
  | succ j =>
    have hlt : i < l.length := by omega
    have hdr : l.drop i = l[i] :: l.drop (i + 1) := List.drop_eq_getElem_cons hlt
    rw [hdr] at hgo
    have hpl := zld (List.getElem_mem hlt)
    have hts : l.take (i + 1) = l.take i ++ [l[i]] := List.take_succ_eq_append_getElem hlt
    simp only [VM.fnsC] at hgo
    simp [zdn, hlt, zhi]
    generalize l[i] = f at *
    obtain ⟨fnm, ps, body⟩ := f
    obtain ⟨r, f1, f2⟩ := zhj fnm fns
    dsimp only [Fnc.avs]
    have ne_0 : gk ≠ gm ∧ gm ≠ gk ∧ gk ≠ m' ∧ m' ≠ gk ∧ gm ≠ m' ∧ m' ≠ gm := ⟨by omega, by omega, by omega, by omega, by omega, by omega⟩
    simp [row, hmap, f1, ne_0]
    show zm .str (.str fnm) = true ∧ OPTK (zy (.str fnm) _) _
    rw [f1]
    simp
    have e7 : ((fns.lookup fnm).isSome ∨ VM.unlike ps = false) → VM.checkC l = 7 := fun hh => hcheck 7 (by decide) (by rw [hgo]; simp only; rw [if_pos hh])
    have hkk : ∀ y, y < gm → (H'.put m' (some (.row 3 [.str fnm, .ro (ps.map strC), .ro (body.map Sm.avs)]))) y = H y := fun y hy => by rw [Heap.put_ne _ _ (by omega)]; exact hk y hy
    cases r with
    | some p =>
      obtain ⟨q, v⟩ := p
      simp only at f2
      have := hq _ (m' + 1) hkk
      rw [e7 (.inl (Option.isSome_iff_ne_none.2 f2.1))] at this
      simp
      exact this
    | none =>
      simp only at f2
      simp
      simp only at hpl
      refine (zsh ps (by omega)).call ?_
      by_cases hu : VM.unlike ps = true
      · have hnn : ¬ ((fns.lookup fnm).isSome = true ∨ VM.unlike ps = false) := by rw [f2, hu]; simp
        simp only at hgo
        rw [if_neg hnn] at hgo
        by_cases h5 : 4 < ps.length
        · have h5' : (4 : Int) < ps.length := by omega
          rw [if_pos h5] at hgo
          have := hq _ (m' + 1) hkk
          rw [hcheck 5 (by decide) (by rw [hgo])] at this
          simp [zdp, hu, h5']
          exact this
        · have h5' : ¬ (4 : Int) < ps.length := by omega
          rw [if_neg h5] at hgo
          have hwi : IntKind.i64.wrap ((i : Int) + 1) = (i : Int) + 1 := i64w (by omega)
          have ne_1 : gk ≠ gm ∧ gm ≠ gk ∧ gk ≠ m' ∧ m' ≠ gk ∧ gm ≠ m' ∧ m' ≠ gm := ⟨by omega, by omega, by omega, by omega, by omega, by omega⟩
          simp [zdp, hu, h5', row, hmap, f1, hwi, ne_1]
          rw [← hJ]
          refine ⟨j, by omega, i + 1, fns ++ [(fnm, ps.length)], by omega, rfl, ⟨?_, ?_, ?_, hgg, by omega⟩, fun y hy => ?_, fun f hf => ?_, hgo⟩
          · rw [Heap.put_ne _ _ (by omega), Heap.put_ne _ _ (by omega)]; exact row
          · exact .nil
          · rw [Heap.put_at, List.map_append]; rfl
          · rw [Heap.put_ne _ _ (by omega), Heap.put_ne _ _ (by omega)]; exact hk y hy
          · rw [hts] at hf
            rcases List.mem_append.1 hf with hf | hf
            · exact h4 f hf
            · rw [List.mem_singleton.1 hf]; simp only; omega
      · have hu' : VM.unlike ps = false := by simpa using hu
        have := hq _ (m' + 1) hkk
        rw [e7 (.inr hu')] at this
        simp [zdp, hu']
        exact this
theorem zvr (l : List Fnc) (hw : zbc l ≤ 4294967296) : QC Tryd.prog 11 [.ro (l.map Fnc.avs)] (.int .i64 (VM.checkC l)) := by
  refine QC.of' fun H n => ?_
  suffices main : ∀ Q : QT, (∀ H' n', Keep n H' H → Q (.int .i64 (VM.checkC l)) H' n') → za Tryd.prog 11 [.ro (l.map Fnc.avs)] H n Q from main _ fun H' n' b => ⟨by simp, b⟩
  intro Q hq
  refine zmg _ _ _ _ ?_
  have hK : Keep n H H := by simp
  cases l with
  | nil =>
    have := hq H n hK
    simp [zdm]
    exact this
  | cons f0 l0 =>
    by_cases h5 : 5 < l0.length + 1
    · have e : VM.checkC (f0 :: l0) = 5 := by unfold VM.checkC; simp only; rw [if_pos h5]
      have h5' : (5 : Int) < l0.length + 1 := by omega
      have h1 : ¬ (l0.length : Int) + 1 < 1 := by omega
      have := hq H n hK
      rw [e] at this
      simp [zdm, h5', h1]
      exact this
    · have h5' : ¬ (5 : Int) < l0.length + 1 := by omega
      have h1 : ¬ (l0.length : Int) + 1 < 1 := by omega
      have hL : LkM (n + 1) n [] 0 [] .nils ((H.put n (some (.mp []))).put (n + 1) (some (.row 3 [.amap n, .int .i64 0, .nils]))) (n + 2) :=
        ⟨Heap.put_at _ _ _, .nil, by rw [Heap.put_ne _ _ (by omega), Heap.put_at]; rfl, by omega, by omega⟩
      have fin := zvs (l := f0 :: l0) (Q := Q) rfl hL hw (by simp only [List.length_cons]; omega) fun H' m' hk => hq H' m' fun y hy => by rw [hk y hy, Heap.put_ne _ _ (by omega), Heap.put_ne _ _ (by omega)]
      simp [zdm, h5', h1]
      simp at fin
      exact fin
end Go.Proofs.YtpllgpgdcbgalaaDoor
set_option maxRecDepth 8000
namespace Go.Proofs.YtpllgpgdcbgalaaDoor
open Go Go.RowKit
def wRow (ws : List Str) : List (AV × AV) := ws.map fun w => (AV.str w, AV.bool true)
theorem ztd (t : Str) : ∀ ws : List Str, ∃ r, zy (.str t) (wRow ws) = some r ∧ (match r with | some (i, _) => t ∈ ws ∧ (wRow ws).set i (.str t, .bool true) = wRow ws | none => t ∉ ws)
  | [] => ⟨none, by simp [wRow], by simp⟩
  | w :: r => by
    obtain ⟨q, h1, h2⟩ := ztd t r
    have hc : wRow (w :: r) = (AV.str w, AV.bool true) :: wRow r := rfl
    rw [hc, zoj]
    by_cases h : t = w
    · subst h
      exact ⟨some (0, .bool true), by simp, by simp⟩
    · rw [if_neg h, h1]
      cases q with
      | none => exact ⟨none, rfl, by simp at h2 ⊢; exact ⟨h, h2⟩⟩
      | some p =>
        obtain ⟨i, v⟩ := p
        exact ⟨some (i + 1, v), rfl, by simp at h2 ⊢; exact ⟨.inr h2.1, h2.2⟩⟩
structure RfM (gk gf gw : Nat) (fns : List (Str × Nat)) (vars : Int) (ws : List Str) (H : Heap) (m : Nat) : Prop where
  row : H gk = some (.row 3 [.amap gf, .int .i64 vars, .amap gw])
  map : H gf = some (.mp (fns.map fun p => (.str p.1, .int .i64 p.2)))
  wds : H gw = some (.mp (wRow ws))
  gf0 : gf < gw
  gw0 : gw < gk
  gn : gk < m
end Go.Proofs.YtpllgpgdcbgalaaDoor
set_option maxRecDepth 8000
namespace Go.Proofs.YtpllgpgdcbgalaaDoor
open Go Go.RowKit
structure RExt (gk gw : Nat) (H : Heap) (m : Nat) (H' : Heap) (m' : Nat) : Prop where
  le : m ≤ m'
  keep : ∀ y, y < m → y ≠ gk → y ≠ gw → H' y = H y
theorem RExt.refl (gk gw : Nat) (H : Heap) (m : Nat) : RExt gk gw H m H m := ⟨Nat.le_refl _, fun _ _ _ _ => rfl⟩
theorem RExt.trans {gk gw m1 m2 m3 : Nat} {H1 H2 H3 : Heap} (h : RExt gk gw H1 m1 H2 m2) (k : RExt gk gw H2 m2 H3 m3) : RExt gk gw H1 m1 H3 m3 := by
  have h1 := h.le
  have h2 := k.le
  exact ⟨by omega, fun y hy a b => by rw [k.keep y (by omega) a b]; exact h.keep y hy a b⟩
structure RNm (gk gw : Nat) (names : List Str) (H : Heap) (m : Nat) (a : AV) : Prop where
  arg : zu H m 1 (names.map strC) a
  far : ∀ y ∈ owns a, y ≠ gk ∧ y ≠ gw
theorem RNm.ext {gk gw m m' : Nat} {H H' : Heap} {names : List Str} {a : AV} (h : RNm gk gw names H m a) (e : RExt gk gw H m H' m') : RNm gk gw names H' m' a := by
  have hle := e.le
  obtain ⟨h1, h2⟩ := h
  cases h1 with
  | ro => exact ⟨.ro, h2⟩
  | nils h => exact ⟨.nils h, h2⟩
  | slc g q1 q2 =>
    have hg := h2 g (by simp [owns])
    exact ⟨.slc g (by omega) (by rw [e.keep g q1 hg.1 hg.2]; exact q2), h2⟩
def RExC (gk gf gw : Nat) (fns : List (Str × Nat)) (names : List Str) (x : Ex) : Prop := ∀ (vars : Int) (ws : List Str) (a : AV) (H : Heap) (m : Nat) (Q : QT), RfM gk gf gw fns vars ws H m → RNm gk gw names H m a → VM.exW x ≤ 4294967296 →
  (∀ H' m', RfM gk gf gw fns vars (VM.exC fns names x ws).1 H' m' → RExt gk gw H m H' m' → Q (.int .i64 (VM.exC fns names x ws).2) H' m') → za Tryd.prog 55 [.ptr gk 0, .agg x.avs, a] H m Q
end Go.Proofs.YtpllgpgdcbgalaaDoor
set_option maxRecDepth 8000
namespace Go.Proofs.YtpllgpgdcbgalaaDoor
open Go Go.RowKit
set_option maxHeartbeats 1000000 in
theorem zpj {gk gf gw : Nat} {fns : List (Str × Nat)} {names : List Str} {ar : List Ex} (hE : ∀ x ∈ ar, RExC gk gf gw fns names x) {vars : Int} {ws : List Str} {a : AV} {H : Heap} {m : Nat} {Q : QT} (h : RfM gk gf gw fns vars ws H m) (hn : RNm gk gw names H m a) (hw : VM.exWL ar ≤ 4294967296) (hl : ar.length ≤ 4294967296)
    (hq : ∀ H' m', RfM gk gf gw fns vars (VM.exCL fns names ar ws).1 H' m' → RExt gk gw H m H' m' → Q (.int .i64 (VM.exCL fns names ar ws).2) H' m') :
    LP (zi Q) [.ptr gk 0, a, .ro (ar.map Ex.avs), .int .i64 ar.length, .int .i64 0] H m := by
  refine LP.mk (fun j xs H' m' => ∃ (i : Nat) (ws' : List Str), i + j = ar.length ∧ xs = [.ptr gk 0, a, .ro (ar.map Ex.avs), .int .i64 ar.length, .int .i64 i] ∧ RfM gk gf gw fns vars ws' H' m' ∧ RExt gk gw H m H' m' ∧ VM.exWL (ar.drop i) ≤ 4294967296 ∧ VM.exCL fns names ar ws = VM.exCL fns names (ar.drop i) ws') ar.length ⟨0, ws, by omega, rfl, h, RExt.refl _ _ _ _, by simpa using hw, by simp⟩ ?_
  rintro j xs H' m' ⟨i, ws', hij, rfl, h', he, hw', hgo⟩
  generalize hJ : (fun (xs : List AV) (H' : Heap) (m' : Nat) => ∃ j', j' < j ∧ ∃ (i : Nat) (ws' : List Str), i + j' = ar.length ∧ xs = [.ptr gk 0, a, .ro (ar.map Ex.avs), .int .i64 ar.length, .int .i64 i] ∧ RfM gk gf gw fns vars ws' H' m' ∧ RExt gk gw H m H' m' ∧ VM.exWL (ar.drop i) ≤ 4294967296 ∧ VM.exCL fns names ar ws = VM.exCL fns names (ar.drop i) ws') = J
  cases j with
  | zero =>
    have e : i = ar.length := by omega
    subst e
    rw [List.drop_length] at hgo
    rw [hgo] at hq
    simp only [VM.exCL] at hq
    simp [zi]
    exact hq H' m' h' he
  | succ j =>
    have hlt : i < ar.length := by omega
    have hdr : ar.drop i = ar[i] :: ar.drop (i + 1) := List.drop_eq_getElem_cons hlt
    have hxl := zcx ar[i]
    have hwi : IntKind.i64.wrap ((i : Int) + 1) = (i : Int) + 1 := i64w (by omega)
    rw [hdr] at hgo hw'
    simp only [VM.exCL, VM.exWL] at hgo hw'
    simp [zi, hlt, hxl]
    rw [List.take_of_length_le (l := ar[i].avs) (by omega), List.take_of_length_le (l := ar[i].avs) (by omega)]
    refine ⟨zjn _, ?_⟩
    have hgf := h'.gf0
    have hgw := h'.gw0
    have hgn := h'.gn
    have e1 : RExt gk gw H' m' (H'.put m' (some (.row 4 ar[i].avs))) (m' + 1) := ⟨by omega, fun y hy _ _ => Heap.put_ne _ _ (by omega)⟩
    have h1 : RfM gk gf gw fns vars ws' (H'.put m' (some (.row 4 ar[i].avs))) (m' + 1) := ⟨by rw [Heap.put_ne _ _ (by omega)]; exact h'.row, by rw [Heap.put_ne _ _ (by omega)]; exact h'.map, by rw [Heap.put_ne _ _ (by omega)]; exact h'.wds, hgf, hgw, by omega⟩
    refine hE ar[i] (List.getElem_mem hlt) vars ws' a _ (m' + 1) _ h1 ((hn.ext he).ext e1) (by omega) fun H2 m2 h2 e2 => ?_
    by_cases hz : (VM.exC fns names ar[i] ws').2 = 0
    · rw [if_neg (by simpa using hz)] at hgo
      simp [zev, hz, hwi]
      rw [← hJ]
      exact ⟨j, by omega, i + 1, _, by omega, rfl, h2, (he.trans e1).trans e2, by omega, hgo⟩
    · rw [if_pos hz] at hgo
      rw [hgo] at hq
      simp [zev, hz]
      exact hq H2 m2 h2 ((he.trans e1).trans e2)
set_option maxHeartbeats 1000000 in
theorem zsp {gk gf gw : Nat} {fns : List (Str × Nat)} {names : List Str} (hnl : names.length ≤ 4294967296) {k z : Int} {t : Str} {ar : List Ex} (hE : ∀ y ∈ ar, RExC gk gf gw fns names y) : RExC gk gf gw fns names (.mk k z t ar) := by
  intro vars ws a H m Q h hn hw hq
  simp only [VM.exW] at hw
  have hl : ar.length ≤ 4294967296 := by have := VM.len_exWL ar; omega
  unfold VM.exC at hq
  refine zkr _ _ _ _ _ _ ?_
  have row := h.row
  have hmap := h.map
  have hgf := h.gf0
  have hgw := h.gw0
  have hgn := h.gn
  obtain ⟨r, f1, f2⟩ := zhj t fns
  obtain ⟨rw_, w1, w2⟩ := ztd t ws
  have hwds := h.wds
  rw [zif]
  have ne_0 : gk ≠ gf ∧ gf ≠ gk ∧ gk ≠ gw ∧ gw ≠ gk ∧ gf ≠ gw ∧ gw ≠ gf ∧ gk ≠ m ∧ m ≠ gk ∧ gf ≠ m ∧ m ≠ gf ∧ gw ≠ m ∧ m ≠ gw := ⟨by omega, by omega, by omega, by omega, by omega, by omega, by omega, by omega, by omega, by omega, by omega, by omega⟩
  by_cases h2 : k = 2
  · subst h2
    simp [zw, row, hmap, f1, hwds, w1, ne_0]
    have e0 : VM.headE fns names 2 t ar.length = 0 := by unfold VM.headE; simp
    rw [if_neg (by rw [e0]; simp)] at hq
    simp only [if_true] at hq
    have fin := zpj hE (H := (H.put m (some (.row 4 [.int .i64 2, .int .i64 z, .str t, .ro (ar.map Ex.avs)]))).put gw (some (.mp (wRow (VM.addW ws t))))) (m := m + 1) (a := a) (vars := vars) (ws := VM.addW ws t) (Q := Q)
      ⟨by rw [Heap.put_ne _ _ (by omega), Heap.put_ne _ _ (by omega)]; exact row, by rw [Heap.put_ne _ _ (by omega), Heap.put_ne _ _ (by omega)]; exact hmap, Heap.put_at _ _ _, hgf, hgw, by omega⟩
      (hn.ext ⟨by omega, fun y hy _ hne => by rw [Heap.put_ne _ _ hne, Heap.put_ne _ _ (by omega)]⟩) (by omega) hl fun H' m' h' e' => hq H' m' h' (RExt.trans ⟨by omega, fun y hy _ hne => by rw [Heap.put_ne _ _ hne, Heap.put_ne _ _ (by omega)]⟩ e')
    cases rw_ with
    | none =>
      simp only at w2
      have e : wRow (VM.addW ws t) = wRow ws ++ [(.str t, .bool true)] := by unfold VM.addW; rw [if_neg w2]; simp [wRow]
      rw [e] at fin
      cases r with
      | none => simp; exact fin
      | some p => obtain ⟨i, v⟩ := p; simp; exact fin
    | some q =>
      obtain ⟨i0, v0⟩ := q
      simp only at w2
      have e : wRow (VM.addW ws t) = wRow ws := by unfold VM.addW; rw [if_pos w2.1]
      rw [e] at fin
      cases r with
      | none => simp [w2.2]; exact fin
      | some p => obtain ⟨i, v⟩ := p; simp [w2.2]; exact fin
  · simp only [if_neg h2] at hq
    have ext1 : RExt gk gw H m (H.put m (some (.row 4 [.int .i64 k, .int .i64 z, .str t, .ro (ar.map Ex.avs)]))) (m + 1) := ⟨by omega, fun y hy _ _ => Heap.put_ne _ _ (by omega)⟩
    have rf1 : RfM gk gf gw fns vars ws (H.put m (some (.row 4 [.int .i64 k, .int .i64 z, .str t, .ro (ar.map Ex.avs)]))) (m + 1) := ⟨by rw [Heap.put_ne _ _ (by omega)]; exact row, by rw [Heap.put_ne _ _ (by omega)]; exact hmap, by rw [Heap.put_ne _ _ (by omega)]; exact hwds, hgf, hgw, by omega⟩
    have hn1 := hn.ext ext1
    have hm1 : (H.put m (some (.row 4 [.int .i64 k, .int .i64 z, .str t, .ro (ar.map Ex.avs)]))) m = some (.row 4 [.int .i64 k, .int .i64 z, .str t, .ro (ar.map Ex.avs)]) := Heap.put_at _ _ _
    have fin : VM.headE fns names k t ar.length = 0 → LP (zi Q) [.ptr gk 0, a, .ro (ar.map Ex.avs), .int .i64 ar.length, .int .i64 0] (H.put m (some (.row 4 [.int .i64 k, .int .i64 z, .str t, .ro (ar.map Ex.avs)]))) (m + 1) := fun e0 => by
      rw [if_neg (by rw [e0]; simp)] at hq
      exact zpj hE rf1 hn1 (by omega) hl fun H' m' h' e' => hq H' m' h' (ext1.trans e')
    have bad : ∀ e, e ≠ 0 → VM.headE fns names k t ar.length = e → Q (.int .i64 e) (H.put m (some (.row 4 [.int .i64 k, .int .i64 z, .str t, .ro (ar.map Ex.avs)]))) (m + 1) := fun e he e0 => by
      rw [if_pos (by rw [e0]; exact he), e0] at hq
      exact hq _ _ rf1 ext1
    by_cases h3 : k = 3
    · subst h3
      have yes : t ∈ names → LP (zi Q) [.ptr gk 0, a, .ro (ar.map Ex.avs), .int .i64 ar.length, .int .i64 0] (H.put m (some (.row 4 [.int .i64 3, .int .i64 z, .str t, .ro (ar.map Ex.avs)]))) (m + 1) := fun hin => fin (by unfold VM.headE; simp [hin])
      have no : t ∉ names → Q (.int .i64 6) (H.put m (some (.row 4 [.int .i64 3, .int .i64 z, .str t, .ro (ar.map Ex.avs)]))) (m + 1) := fun hin => bad 6 (by decide) (by unfold VM.headE; simp [hin])
      cases r with
      | none =>
        simp [zw, row, hmap, f1, ne_0]
        refine znk (by omega) hn1.arg ?_
        by_cases hin : t ∈ names
        · have := yes hin
          simp [zbp, hin]
          exact this
        · have := no hin
          simp [zbp, hin]
          exact this
      | some p =>
        obtain ⟨i, v⟩ := p
        simp [zw, row, hmap, f1, ne_0]
        refine znk (by omega) hn1.arg ?_
        by_cases hin : t ∈ names
        · have := yes hin
          simp [zbp, hin]
          exact this
        · have := no hin
          simp [zbp, hin]
          exact this
    · by_cases h11 : k = 11
      · subst h11
        cases r with
        | none =>
          simp only at f2
          have := bad 6 (by decide) (by unfold VM.headE; rw [f2]; rfl)
          simp [zw, row, hmap, f1, ne_0]
          exact this
        | some p =>
          obtain ⟨i, v⟩ := p
          simp only at f2
          obtain ⟨f3, rfl⟩ := f2
          obtain ⟨q, hq2⟩ := Option.ne_none_iff_exists'.1 f3
          by_cases hql : q = ar.length
          · have := fin (by unfold VM.headE; rw [hq2]; simp [hql])
            simp [zw, row, hmap, f1, hq2, hql, ne_0]
            exact this
          · have := bad 5 (by decide) (by unfold VM.headE; rw [hq2]; simp [hql])
            have hqi : ¬ (q : Int) = ar.length := by omega
            simp [zw, row, hmap, f1, hq2, hqi, ne_0]
            exact this
      · have e0 : VM.headE fns names k t ar.length = 0 := by unfold VM.headE; simp [h3, h11]
        have fin' := fin e0
        cases r with
        | none => simp [zw, row, hmap, f1, h2, h3, h11, ne_0]; exact fin'
        | some p => obtain ⟨i, v⟩ := p; simp [zw, row, hmap, f1, h2, h3, h11, ne_0]; exact fin'
end Go.Proofs.YtpllgpgdcbgalaaDoor
set_option maxRecDepth 8000
namespace Go.Proofs.YtpllgpgdcbgalaaDoor
open Go Go.RowKit
mutual
theorem zpk {gk gf gw : Nat} {fns : List (Str × Nat)} {names : List Str} (hnl : names.length ≤ 4294967296) : ∀ x : Ex, RExC gk gf gw fns names x
  | .mk _ _ _ ar => zsp hnl (zof hnl ar)
theorem zof {gk gf gw : Nat} {fns : List (Str × Nat)} {names : List Str} (hnl : names.length ≤ 4294967296) : ∀ l : List Ex, ∀ x ∈ l, RExC gk gf gw fns names x
  | [], x, h => absurd h (by simp)
  | y :: r, x, h => (List.mem_cons.1 h).elim (fun e => e ▸ zpk hnl y) fun h => zof hnl r x h
end
def RBlC (gk gf gw : Nat) (fns : List (Str × Nat)) (l : List Sm) : Prop := ∀ (names : List Str) (vars : Int) (ws : List Str) (a : AV) (H : Heap) (m : Nat) (Q : QT), RfM gk gf gw fns vars ws H m → RNm gk gw names H m a → names.length + VM.smWL l ≤ 4294967296 → 0 ≤ vars → vars ≤ 8 →
  (∀ H' m', RfM gk gf gw fns (VM.smCL fns names l (vars, ws)).1.1 (VM.smCL fns names l (vars, ws)).1.2 H' m' → RExt gk gw H m H' m' → Q (.int .i64 (VM.smCL fns names l (vars, ws)).2) H' m') → za Tryd.prog 36 [.ptr gk 0, .ro (l.map Sm.avs), a] H m Q
structure RbS (gk gf gw : Nat) (fns : List (Str × Nat)) (H0 : Heap) (m0 : Nat) (names : List Str) (vars : Int) (ws : List Str) (a : AV) (H : Heap) (m : Nat) : Prop where
  rf : RfM gk gf gw fns vars ws H m
  nm : RNm gk gw names H m a
  ext : RExt gk gw H0 m0 H m
  v0 : 0 ≤ vars
  v8 : vars ≤ 8
theorem RbS.ext' {gk gf gw : Nat} {fns : List (Str × Nat)} {H0 H H' : Heap} {m0 m m' : Nat} {names : List Str} {vars vars' : Int} {ws ws' : List Str} {a : AV} (h : RbS gk gf gw fns H0 m0 names vars ws a H m) (e : RExt gk gw H m H' m') (r : RfM gk gf gw fns vars' ws' H' m') (h0 : 0 ≤ vars') (h8 : vars' ≤ 8) : RbS gk gf gw fns H0 m0 names vars' ws' a H' m' :=
  ⟨r, h.nm.ext e, h.ext.trans e, h0, h8⟩
set_option maxHeartbeats 1000000 in
theorem zxf {gk gf gw m0 s : Nat} {fns : List (Str × Nat)} {names : List Str} {k : Int} {nm : Str} {ar : List Ex} {t e : List Sm} (hT : RBlC gk gf gw fns t) (hE : RBlC gk gf gw fns e) {H0 : Heap} {vars : Int} {ws : List Str} {a a0 L A1 A2 A3 : AV} {H : Heap} {m len i : Nat} {Q : QT} {K : J3} (h : RbS gk gf gw fns H0 m0 names vars ws a H m)
    (hs : H s = some (.row 5 (Sm.mk k nm ar t e).avs)) (hgs : gk < s) (hsm : s < m) (hi : i < 4294967296) (hnl : names.length + VM.smWL t ≤ 4294967296) (hnl2 : names.length + VM.smWL e ≤ 4294967296)
    (hbad : (VM.pairC fns names t e (vars, ws)).2 ≠ 0 → ∀ H' m', RfM gk gf gw fns (VM.pairC fns names t e (vars, ws)).1.1 (VM.pairC fns names t e (vars, ws)).1.2 H' m' → RExt gk gw H0 m0 H' m' → Q (.int .i64 (VM.pairC fns names t e (vars, ws)).2) H' m')
    (hok : (VM.pairC fns names t e (vars, ws)).2 = 0 → ∀ H' m', RbS gk gf gw fns H0 m0 names (VM.pairC fns names t e (vars, ws)).1.1 (VM.pairC fns names t e (vars, ws)).1.2 a H' m' → K [.ptr gk 0, a, L, .int .i64 len, .int .i64 ((i : Int) + 1)] H' m') :
    za Tryd.prog 36 [.ptr gk 0, .ro (t.map Sm.avs), a] H m (zbf Q [.ptr gk 0, a0, .ptr s 0, L, .int .i64 len, .int .i64 i, A1, A2, A3] a K) := by
  have hwi : IntKind.i64.wrap ((i : Int) + 1) = (i : Int) + 1 := i64w (by omega)
  have hgw := h.rf.gw0
  rw [zbz] at hs
  refine hT names vars ws a H m _ h.rf h.nm hnl h.v0 h.v8 fun H1 m1 h1 e1 => ?_
  have hs1 : H1 s = some (.row 5 [.int .i64 k, .str nm, .ro (ar.map Ex.avs), .ro (t.map Sm.avs), .ro (e.map Sm.avs)]) := by rw [e1.keep s hsm (by omega) (by omega)]; exact hs
  by_cases hz : (VM.smCL fns names t (vars, ws)).2 = 0
  · have ep : VM.pairC fns names t e (vars, ws) = VM.smCL fns names e (VM.smCL fns names t (vars, ws)).1 := by unfold VM.pairC; rw [if_neg (by simpa using hz)]
    have g1 := VM.smCL_good fns t names (vars, ws) h.v0 h.v8 hz
    have b1 := h.ext' e1 h1 g1.1 g1.2.1
    simp [zbf, hz, hs1]
    refine hE names _ _ a H1 m1 _ h1 b1.nm hnl2 g1.1 g1.2.1 fun H2 m2 h2 e2 => ?_
    rw [← ep] at h2 ⊢
    by_cases hz2 : (VM.pairC fns names t e (vars, ws)).2 = 0
    · have g2 := VM.smCL_good fns e names (VM.smCL fns names t (vars, ws)).1 g1.1 g1.2.1 (by rw [← ep]; exact hz2)
      rw [← ep] at g2
      simp [zec, hz2, hwi]
      exact hok hz2 H2 m2 (b1.ext' e2 h2 g2.1 g2.2.1)
    · simp [zec, hz2]
      exact hbad hz2 H2 m2 h2 (b1.ext.trans e2)
  · have ep : VM.pairC fns names t e (vars, ws) = VM.smCL fns names t (vars, ws) := by unfold VM.pairC; rw [if_pos hz]
    rw [ep] at hbad
    simp [zbf, hz]
    exact hbad hz H1 m1 h1 (h.ext.trans e1)
set_option maxHeartbeats 1000000 in
theorem zsn {gk gf gw m0 s : Nat} {fns : List (Str × Nat)} {names : List Str} {k : Int} {nm : Str} {ar : List Ex} {t e : List Sm} (hT : RBlC gk gf gw fns t) (hE : RBlC gk gf gw fns e) {H0 : Heap} {vars : Int} {ws : List Str} {a L A1 A2 A3 : AV} {H : Heap} {m len i : Nat} {Q : QT} {K : J3} (h : RbS gk gf gw fns H0 m0 names vars ws a H m)
    (hs : H s = some (.row 5 (Sm.mk k nm ar t e).avs)) (hgs : gk < s) (hsm : s < m) (hi : i < 4294967296) (hnl : names.length + VM.smWL t ≤ 4294967296) (hnl2 : names.length + VM.smWL e ≤ 4294967296)
    (hbad : (VM.pairC fns names t e (vars, ws)).2 ≠ 0 → ∀ H' m', RfM gk gf gw fns (VM.pairC fns names t e (vars, ws)).1.1 (VM.pairC fns names t e (vars, ws)).1.2 H' m' → RExt gk gw H0 m0 H' m' → Q (.int .i64 (VM.pairC fns names t e (vars, ws)).2) H' m')
    (hok : (VM.pairC fns names t e (vars, ws)).2 = 0 → ∀ H' m', RbS gk gf gw fns H0 m0 names (VM.pairC fns names t e (vars, ws)).1.1 (VM.pairC fns names t e (vars, ws)).1.2 a H' m' → K [.ptr gk 0, a, L, .int .i64 len, .int .i64 ((i : Int) + 1)] H' m') :
    za Tryd.prog 36 [.ptr gk 0, .ro (t.map Sm.avs), a] H m (zbe Q [.ptr gk 0, a, .ptr s 0, L, .int .i64 len, .int .i64 i, A1, A2, A3] K) := by
  have hwi : IntKind.i64.wrap ((i : Int) + 1) = (i : Int) + 1 := i64w (by omega)
  have hgw := h.rf.gw0
  rw [zbz] at hs
  refine hT names vars ws a H m _ h.rf h.nm hnl h.v0 h.v8 fun H1 m1 h1 e1 => ?_
  have hs1 : H1 s = some (.row 5 [.int .i64 k, .str nm, .ro (ar.map Ex.avs), .ro (t.map Sm.avs), .ro (e.map Sm.avs)]) := by rw [e1.keep s hsm (by omega) (by omega)]; exact hs
  by_cases hz : (VM.smCL fns names t (vars, ws)).2 = 0
  · have ep : VM.pairC fns names t e (vars, ws) = VM.smCL fns names e (VM.smCL fns names t (vars, ws)).1 := by unfold VM.pairC; rw [if_neg (by simpa using hz)]
    have g1 := VM.smCL_good fns t names (vars, ws) h.v0 h.v8 hz
    have b1 := h.ext' e1 h1 g1.1 g1.2.1
    simp [zbe, hz, hs1]
    refine hE names _ _ a H1 m1 _ h1 b1.nm hnl2 g1.1 g1.2.1 fun H2 m2 h2 e2 => ?_
    rw [← ep] at h2 ⊢
    by_cases hz2 : (VM.pairC fns names t e (vars, ws)).2 = 0
    · have g2 := VM.smCL_good fns e names (VM.smCL fns names t (vars, ws)).1 g1.1 g1.2.1 (by rw [← ep]; exact hz2)
      rw [← ep] at g2
      simp [zeb, hz2, hwi]
      exact hok hz2 H2 m2 (b1.ext' e2 h2 g2.1 g2.2.1)
    · simp [zeb, hz2]
      exact hbad hz2 H2 m2 h2 (b1.ext.trans e2)
  · have ep : VM.pairC fns names t e (vars, ws) = VM.smCL fns names t (vars, ws) := by unfold VM.pairC; rw [if_pos hz]
    rw [ep] at hbad
    simp [zbe, hz]
    exact hbad hz H1 m1 h1 (h.ext.trans e1)
end Go.Proofs.YtpllgpgdcbgalaaDoor
set_option maxRecDepth 8000
namespace Go.Proofs.YtpllgpgdcbgalaaDoor
open Go Go.RowKit
theorem RfM.old {gk gf gw m m' : Nat} {fns : List (Str × Nat)} {vars : Int} {ws : List Str} {H H' : Heap} (h : RfM gk gf gw fns vars ws H m) (hm : m ≤ m') (hk : ∀ y, y < m → H' y = H y) : RfM gk gf gw fns vars ws H' m' := by
  have h1 := h.gf0
  have h2 := h.gw0
  have h3 := h.gn
  exact ⟨by rw [hk _ h3]; exact h.row, by rw [hk _ (by omega)]; exact h.map, by rw [hk _ (by omega)]; exact h.wds, h1, h2, by omega⟩
theorem RExt.old {gk gw m m' : Nat} {H H' : Heap} (hm : m ≤ m') (hk : ∀ y, y < m → H' y = H y) : RExt gk gw H m H' m' := ⟨hm, fun y hy _ _ => hk y hy⟩
theorem RExt.gk {gk gw m m' : Nat} {H H' : Heap} (hm : m ≤ m') (hk : ∀ y, y < m → y ≠ gk → H' y = H y) : RExt gk gw H m H' m' := ⟨hm, fun y hy h _ => hk y hy h⟩
theorem zsz {H : Heap} {m : Nat} {names : List Str} {a : AV} (h : zu H m 1 (names.map strC) a) {H' : Heap} (hk : ∀ y, y < m → H' y = H y) : ∃ rd, zh 1 H' a = some (names.length, (names.map strC).flatten, rd) ∧ ∀ y ∈ rd, y < m := by
  have rl := zcw (f := strC) (sz := 1) (fun _ => rfl) names
  cases h with
  | ro =>
    refine ⟨[], ?_, by simp⟩
    rw [zpe (zhx (l := names)), List.length_map]
  | nils e =>
    have e : names = [] := by simpa using e
    subst e
    exact ⟨[], rfl, by simp⟩
  | slc g h1 h2 =>
    refine ⟨[g], ?_, by simpa using h1⟩
    have h3 : H' g = _ := (hk g h1).trans h2
    simp only [zh, h3]
    rw [List.length_map, if_pos (by omega)]
    simp only [List.drop_zero]
    rw [List.take_of_length_le (by omega)]
set_option maxHeartbeats 2000000 in
theorem zrg {gk gf gw m0 s : Nat} {fns : List (Str × Nat)} {names : List Str} {k : Int} {nm : Str} {ar : List Ex} {t e : List Sm} (hT : RBlC gk gf gw fns t) (hE : RBlC gk gf gw fns e) {H0 : Heap} {vars : Int} {ws : List Str} {a L A1 : AV} {H : Heap} {m len i : Nat} {Q : QT} {K K13 : J3} (h : RbS gk gf gw fns H0 m0 names vars ws a H m)
    (hs : H s = some (.row 5 (Sm.mk k nm ar t e).avs)) (hgs : gk < s) (hsm : s < m) (hi : i < 4294967296) (hnl : names.length + 1 + VM.smWL t + VM.smWL e ≤ 4294967296)
    (hbad : (VM.restC fns names k nm t e (vars, ws)).2.1 ≠ 0 → ∀ H' m', RfM gk gf gw fns (VM.restC fns names k nm t e (vars, ws)).1.1 (VM.restC fns names k nm t e (vars, ws)).1.2 H' m' → RExt gk gw H0 m0 H' m' → Q (.int .i64 (VM.restC fns names k nm t e (vars, ws)).2.1) H' m')
    (hok : (VM.restC fns names k nm t e (vars, ws)).2.1 = 0 → ∀ a' H' m', RbS gk gf gw fns H0 m0 (VM.restC fns names k nm t e (vars, ws)).2.2 (VM.restC fns names k nm t e (vars, ws)).1.1 (VM.restC fns names k nm t e (vars, ws)).1.2 a' H' m' → K [.ptr gk 0, a', L, .int .i64 len, .int .i64 ((i : Int) + 1)] H' m') :
    zag Q K K13 [.ptr gk 0, a, .ptr s 0, L, .int .i64 len, .int .i64 i, A1, .int .i64 ar.length, .int .i64 ar.length] H m := by
  have rf := h.rf
  have row := rf.row
  have hgf := rf.gf0
  have hgw := rf.gw0
  have hgn := rf.gn
  have hin := h.nm.arg
  have hs0 := hs
  unfold VM.restC at hbad hok
  rw [zbz] at hs
  by_cases h1 : k = 1
  · subst h1
    simp [zag, hs]
    refine znk (by omega) hin ?_
    by_cases hn : nm ∈ names
    · rw [if_pos ⟨rfl, hn⟩] at hbad
      simp [zby, hn]
      exact hbad (by simp) H m rf h.ext
    · rw [if_neg (by simp [hn])] at hbad hok
      have hv0 := h.v0
      have hv8 := h.v8
      have hwr : IntKind.i64.wrap (vars + 1) = vars + 1 := i64w (by omega)
      have hsg : s ≠ gk := by omega
      have rf1 : RfM gk gf gw fns (vars + 1) ws (H.put gk (some (.row 3 [.amap gf, .int .i64 (vars + 1), .amap gw]))) m :=
        ⟨Heap.put_at _ _ _, by rw [Heap.put_ne _ _ (by omega)]; exact rf.map, by rw [Heap.put_ne _ _ (by omega)]; exact rf.wds, hgf, hgw, hgn⟩
      have ex1 : RExt gk gw H m (H.put gk (some (.row 3 [.amap gf, .int .i64 (vars + 1), .amap gw]))) m := RExt.gk (Nat.le_refl _) fun y _ hy => Heap.put_ne _ _ hy
      by_cases hm : 8 < vars + 1
      · rw [if_pos ⟨rfl, hm⟩] at hbad
        simp [zby, hn, row, hwr, hm]
        exact hbad (by simp) _ m rf1 (h.ext.trans ex1)
      · rw [if_neg (fun h => hm h.2), if_neg (by simp)] at hbad hok
        simp at hbad hok
        have hs1 : (H.put gk (some (.row 3 [.amap gf, .int .i64 (vars + 1), .amap gw]))) s = some (.row 5 [.int .i64 1, .str nm, .ro (ar.map Ex.avs), .ro (t.map Sm.avs), .ro (e.map Sm.avs)]) := by rw [Heap.put_ne _ _ hsg]; exact hs
        have b1 : RbS gk gf gw fns H0 m0 names (vars + 1) ws a (H.put gk (some (.row 3 [.amap gf, .int .i64 (vars + 1), .amap gw]))) m := h.ext' ex1 rf1 (by omega) (by omega)
        simp [zby, hn, row, hwr, hm]
        generalize (H.put gk (some (.row 3 [.amap gf, .int .i64 (vars + 1), .amap gw]))) = HX at *
        obtain ⟨rd, src, hrd⟩ := zsz b1.nm.arg (H' := HX.put m (some (.row 1 []))) fun y hy => Heap.put_ne _ _ (by omega)
        have rl := zcw (f := strC) (sz := 1) (fun _ => rfl) names
        have h16 : names.length * 16 ≤ 140737488355328 := by omega
        have h16' : (names.length + 1) * 16 ≤ 140737488355328 := by omega
        have ones : ∀ x ∈ (names.map strC).flatten, x.one = true := by
          intro x hx
          obtain ⟨y, hy, hx⟩ := List.mem_flatten.1 hx
          obtain ⟨z, _, rfl⟩ := List.mem_map.1 hy
          rw [List.mem_singleton.1 hx]; rfl
        have hmrd2 : m + 2 ∉ rd := fun hm => by have := hrd _ hm; omega
        have snoc : ((names ++ [nm]).map strC).flatten = (names.map strC).flatten ++ [.str nm] := by simp [strC]
        generalize hrr : (names.map strC).flatten = rr at *
        have h3 : rr.take names.length = rr := List.take_of_length_le (by omega)
        have hb2 : RbS gk gf gw fns H0 m0 (names ++ [nm]) (vars + 1) ws (.slc (m + 3) 0 (names.length + 1)) (((((((HX.put m (some (.row 1 []))).put m none).put (m + 1) (some (.row 1 rr))).put (m + 2) (some (.row 1 [.str nm])))).put (m + 1) none).put (m + 3) (some (.row 1 (rr ++ [.str nm])))) (m + 4) := by
          have keep : ∀ y, y < m → (((((((HX.put m (some (.row 1 []))).put m none).put (m + 1) (some (.row 1 rr))).put (m + 2) (some (.row 1 [.str nm])))).put (m + 1) none).put (m + 3) (some (.row 1 (rr ++ [.str nm])))) y = HX y := fun y hy => by
            rw [Heap.put_ne _ _ (by omega), Heap.put_ne _ _ (by omega), Heap.put_ne _ _ (by omega), Heap.put_ne _ _ (by omega), Heap.put_ne _ _ (by omega), Heap.put_ne _ _ (by omega)]
          refine ⟨b1.rf.old (by omega) keep, ⟨?_, ?_⟩, b1.ext.trans (RExt.old (by omega) keep), by omega, by omega⟩
          · have := zu.slc (H := (((((((HX.put m (some (.row 1 []))).put m none).put (m + 1) (some (.row 1 rr))).put (m + 2) (some (.row 1 [.str nm])))).put (m + 1) none).put (m + 3) (some (.row 1 (rr ++ [.str nm]))))) (nx := m + 4) (xs := (names ++ [nm]).map strC) (sz := 1) (m + 3) (by omega) (by rw [Heap.put_at, snoc])
            rw [List.length_map, List.length_append] at this
            exact this
          · intro y hy
            simp [owns] at hy
            omega
        have hs2 : (((((((HX.put m (some (.row 1 []))).put m none).put (m + 1) (some (.row 1 rr))).put (m + 2) (some (.row 1 [.str nm])))).put (m + 1) none).put (m + 3) (some (.row 1 (rr ++ [.str nm])))) s = some (.row 5 (Sm.mk 1 nm ar t e).avs) := by
          rw [Heap.put_ne _ _ (by omega), Heap.put_ne _ _ (by omega), Heap.put_ne _ _ (by omega), Heap.put_ne _ _ (by omega), Heap.put_ne _ _ (by omega), Heap.put_ne _ _ (by omega), hs1, zbz]
        have fin := zxf (Q := Q) (K := K) (a0 := a) (L := L) (A1 := A1) (A2 := .int .i64 ar.length) (A3 := .int .i64 ar.length) (len := len) (i := i) hT hE hb2 hs2 hgs (by omega) hi (by rw [List.length_append]; simp only [List.length_cons, List.length_nil]; omega) (by rw [List.length_append]; simp only [List.length_cons, List.length_nil]; omega) (fun hz H' m' q1 q2 => hbad hz H' m' q1 q2) fun hz H' m' q => hok hz _ H' m' q
        have hsm1 : ¬ m = s := by omega
        have hsm2 : ¬ m + 1 = s := by omega
        have hsm5 : ¬ m = m + 1 + 1 := by omega
        have hsm6 : ¬ m + 1 + 1 = m := by omega
        have hsm7 : ¬ s = m := by omega
        have hsm8 : ¬ s = m + 1 := by omega
        have hsm9 : ¬ s = m + 1 + 1 := by omega
        have hsm10 : ¬ s = m + 1 + 1 + 1 := by omega
        have hmrd3 : m + 1 + 1 ∉ rd := hmrd2
        simp [src, h16, h16', rl, h3]
        refine ⟨ones, ?_⟩
        simp [hs, hsg, hsm1, hsm2, hsm5, hsm6, hsm7, hsm8, hsm9, hsm10, hmrd3]
        simp at fin
        exact fin
  · by_cases h2 : k = 2
    · subst h2
      simp [zag, hs]
      refine znk (by omega) hin ?_
      by_cases hn : nm ∈ names
      · rw [if_neg (by simp), if_neg (by simp), if_neg (by simp [hn])] at hbad hok
        simp at hbad hok
        have fin := zsn (Q := Q) (K := K) (L := L) (A1 := A1) (A2 := .int .i64 ar.length) (A3 := .int .i64 ar.length) (len := len) (i := i) hT hE h hs0 hgs hsm hi (by omega) (by omega) hbad fun hz H' m' q => hok hz _ H' m' q
        simp [zea, hn, hs]
        exact fin
      · rw [if_neg (by simp), if_neg (by simp), if_pos ⟨rfl, hn⟩] at hbad
        simp [zea, hn]
        exact hbad (by simp) H m rf h.ext
    · rw [if_neg (fun h => h1 h.1), if_neg (fun h => h1 h.1), if_neg (fun h => h2 h.1), if_neg h1, if_neg h1] at hbad hok
      simp only at hbad hok
      have fin := zsn (Q := Q) (K := K) (L := L) (A1 := A1) (A2 := .int .i64 ar.length) (A3 := .int .i64 ar.length) (len := len) (i := i) hT hE h hs0 hgs hsm hi (by omega) (by omega) hbad fun hz H' m' q => hok hz _ H' m' q
      simp [zag, hs, h1, h2]
      exact fin
end Go.Proofs.YtpllgpgdcbgalaaDoor
