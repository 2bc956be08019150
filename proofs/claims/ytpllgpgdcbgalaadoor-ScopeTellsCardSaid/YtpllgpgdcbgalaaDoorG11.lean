/- The document's Check: a statement's expressions, and blocks. The document's Check, as a whole. The document's Check, as a whole. How much there is in what was parsed: no more than the text has bytes; the laws on chapter 4. The library's laid variables, where a row lists five of them: three tables, two errors. -/
import Derived.Test.YtpllgpgdcbgalaaDoorG10
import Derived.Test.YtpllgpgdcbgalaaDoorG1
import Derived.Stop.LaidErr
set_option linter.unusedSimpArgs false
set_option linter.unusedVariables false
set_option maxRecDepth 8000
namespace Go.Proofs.YtpllgpgdcbgalaaDoor
open Go Go.RowKit
set_option maxHeartbeats 2000000 in
theorem zuc {gk gf gw m0 s : Nat} {fns : List (Str × Nat)} {names : List Str} {k : Int} {nm : Str} {ar : List Ex} {t e : List Sm} (hT : RBlC gk gf gw fns t) (hE : RBlC gk gf gw fns e) {H0 : Heap} {vars : Int} {ws : List Str} {a L : AV} {H : Heap} {m len i : Nat} {Q : QT} {K : J3} (h : RbS gk gf gw fns H0 m0 names vars ws a H m)
    (hs : H s = some (.row 5 (Sm.mk k nm ar t e).avs)) (hgs : gk < s) (hsm : s < m) (hi : i < 4294967296) (hnl : names.length + VM.smW (.mk k nm ar t e) ≤ 4294967296)
    (hbad : (VM.smC fns names (.mk k nm ar t e) (vars, ws)).2.1 ≠ 0 → ∀ H' m', RfM gk gf gw fns (VM.smC fns names (.mk k nm ar t e) (vars, ws)).1.1 (VM.smC fns names (.mk k nm ar t e) (vars, ws)).1.2 H' m' → RExt gk gw H0 m0 H' m' → Q (.int .i64 (VM.smC fns names (.mk k nm ar t e) (vars, ws)).2.1) H' m')
    (hok : (VM.smC fns names (.mk k nm ar t e) (vars, ws)).2.1 = 0 → ∀ a' H' m', RbS gk gf gw fns H0 m0 (VM.smC fns names (.mk k nm ar t e) (vars, ws)).2.2 (VM.smC fns names (.mk k nm ar t e) (vars, ws)).1.1 (VM.smC fns names (.mk k nm ar t e) (vars, ws)).1.2 a' H' m' → K [.ptr gk 0, a', L, .int .i64 len, .int .i64 ((i : Int) + 1)] H' m') :
    LP (zag Q K) [.ptr gk 0, a, .ptr s 0, L, .int .i64 len, .int .i64 i, .ro (ar.map Ex.avs), .int .i64 ar.length, .int .i64 0] H m := by
  simp only [VM.smW] at hnl
  have hlen := VM.len_exWL ar
  rw [VM.smC_rest] at hbad hok
  refine LP.mk (fun j xs H' m' => ∃ (q : Nat) (ws' : List Str), q + j = ar.length ∧ xs = [.ptr gk 0, a, .ptr s 0, L, .int .i64 len, .int .i64 i, .ro (ar.map Ex.avs), .int .i64 ar.length, .int .i64 q] ∧ RbS gk gf gw fns H0 m0 names vars ws' a H' m' ∧ H' s = some (.row 5 (Sm.mk k nm ar t e).avs) ∧ s < m' ∧ VM.exWL (ar.drop q) ≤ VM.exWL ar ∧ VM.exCL fns names ar ws = VM.exCL fns names (ar.drop q) ws') ar.length ⟨0, ws, by omega, rfl, h, hs, hsm, by simp, by simp⟩ ?_
  rintro j xs H' m' ⟨q, ws', hqj, rfl, h', hs', hsm', hw', hgo⟩
  generalize hJ : (fun (xs : List AV) (H' : Heap) (m' : Nat) => ∃ j', j' < j ∧ ∃ (q : Nat) (ws' : List Str), q + j' = ar.length ∧ xs = [.ptr gk 0, a, .ptr s 0, L, .int .i64 len, .int .i64 i, .ro (ar.map Ex.avs), .int .i64 ar.length, .int .i64 q] ∧ RbS gk gf gw fns H0 m0 names vars ws' a H' m' ∧ H' s = some (.row 5 (Sm.mk k nm ar t e).avs) ∧ s < m' ∧ VM.exWL (ar.drop q) ≤ VM.exWL ar ∧ VM.exCL fns names ar ws = VM.exCL fns names (ar.drop q) ws') = J
  cases j with
  | zero =>
    have eq : q = ar.length := by omega
    subst eq
    rw [List.drop_length] at hgo hw'
    have e0 : VM.exCL fns names [] ws' = (ws', 0) := by simp only [VM.exCL]
    rw [hgo, e0, if_neg (show ¬ ((ws', (0 : Int)).2 ≠ 0) by simp)] at hbad hok
    exact zrg hT hE h' hs' hgs hsm' hi (by omega) hbad hok
  | succ j =>
    have hlt : q < ar.length := by omega
    have hdr : ar.drop q = ar[q] :: ar.drop (q + 1) := List.drop_eq_getElem_cons hlt
    have hxl := zcx ar[q]
    have hwi : IntKind.i64.wrap ((q : Int) + 1) = (q : Int) + 1 := i64w (by omega)
    rw [hdr] at hgo hw'
    simp only [VM.exCL, VM.exWL] at hgo hw'
    simp [zag, hlt, hxl]
    rw [List.take_of_length_le (l := ar[q].avs) (by omega), List.take_of_length_le (l := ar[q].avs) (by omega)]
    refine ⟨zjn _, ?_⟩
    have keep : ∀ y, y < m' → (H'.put m' (some (.row 4 ar[q].avs))) y = H' y := fun y hy => Heap.put_ne _ _ (by omega)
    have e1 : RExt gk gw H' m' (H'.put m' (some (.row 4 ar[q].avs))) (m' + 1) := RExt.old (by omega) keep
    have hgw := h'.rf.gw0
    refine zpk (by omega) ar[q] vars ws' a _ (m' + 1) _ (h'.rf.old (by omega) keep) (h'.nm.ext e1) (by omega) fun H2 m2 h2 e2 => ?_
    by_cases hz : (VM.exC fns names ar[q] ws').2 = 0
    · rw [if_neg (by simpa using hz)] at hgo
      simp [zed, hz, hwi]
      rw [← hJ]
      have hle := e2.le
      refine ⟨j, by omega, q + 1, _, by omega, rfl, h'.ext' (e1.trans e2) h2 h'.v0 h'.v8, ?_, by omega, by omega, hgo⟩
      rw [e2.keep s (by omega) (by omega) (by omega), keep s hsm']
      exact hs'
    · rw [if_pos hz] at hgo
      rw [hgo, if_pos hz] at hbad
      simp [zed, hz]
      exact hbad hz H2 m2 h2 (h'.ext.trans (e1.trans e2))
set_option maxHeartbeats 2000000 in
theorem zri {gk gf gw : Nat} {fns : List (Str × Nat)} {l : List Sm} (hS : ∀ x ∈ l, ∀ k nm ar t e, x = .mk k nm ar t e → RBlC gk gf gw fns t ∧ RBlC gk gf gw fns e) (hl : l.length ≤ VM.smWL l) : RBlC gk gf gw fns l := by
  intro names vars ws a H m Q h hn hnl h0 h8 hq
  refine zju _ _ _ _ _ _ ?_
  simp [zgz]
  have b1 : RbS gk gf gw fns H m names vars ws a H m := ⟨h, hn, RExt.refl _ _ _ _, h0, h8⟩
  refine LP.mk (fun j xs H' m' => ∃ (i : Nat) (nms : List Str) (v : Int) (ws' : List Str) (a2 : AV), i + j = l.length ∧ xs = [.ptr gk 0, a2, .ro (l.map Sm.avs), .int .i64 l.length, .int .i64 i] ∧ RbS gk gf gw fns H m nms v ws' a2 H' m' ∧ nms.length + VM.smWL (l.drop i) ≤ 4294967296 ∧ VM.smCL fns names l (vars, ws) = VM.smCL fns nms (l.drop i) (v, ws')) l.length ⟨0, names, vars, ws, a, by omega, rfl, b1, by simpa using hnl, by simp⟩ ?_
  rintro j xs H' m' ⟨i, nms, v, ws', a2, hij, rfl, b', hn', hgo⟩
  generalize hJ : (fun (xs : List AV) (H' : Heap) (m' : Nat) => ∃ j', j' < j ∧ ∃ (i : Nat) (nms : List Str) (v : Int) (ws' : List Str) (a2 : AV), i + j' = l.length ∧ xs = [.ptr gk 0, a2, .ro (l.map Sm.avs), .int .i64 l.length, .int .i64 i] ∧ RbS gk gf gw fns H m nms v ws' a2 H' m' ∧ nms.length + VM.smWL (l.drop i) ≤ 4294967296 ∧ VM.smCL fns names l (vars, ws) = VM.smCL fns nms (l.drop i) (v, ws')) = J
  cases j with
  | zero =>
    have ei : i = l.length := by omega
    subst ei
    rw [List.drop_length] at hgo
    rw [hgo] at hq
    simp only [VM.smCL] at hq
    simp [zdz]
    exact hq H' m' b'.rf b'.ext
  | succ j =>
    have hlt : i < l.length := by omega
    have hdr : l.drop i = l[i] :: l.drop (i + 1) := List.drop_eq_getElem_cons hlt
    have hxl := zji l[i]
    rw [hdr] at hgo hn'
    simp only [VM.smCL, VM.smWL] at hgo hn'
    have hS' := hS l[i] (List.getElem_mem hlt)
    simp [zdz, hlt, hxl]
    generalize l[i] = x at *
    obtain ⟨k, nm, ar, t, e⟩ := x
    obtain ⟨hT, hE⟩ := hS' k nm ar t e rfl
    have hp : 1 ≤ VM.smW (.mk k nm ar t e) := by unfold VM.smW; omega
    have keep : ∀ y, y < m' → (H'.put m' (some (.row 5 (Sm.mk k nm ar t e).avs))) y = H' y := fun y hy => Heap.put_ne _ _ (by omega)
    have hgn := b'.rf.gn
    have e1 : RExt gk gw H' m' (H'.put m' (some (.row 5 (Sm.mk k nm ar t e).avs))) (m' + 1) := RExt.old (by omega) keep
    have fin := zuc (L := .ro (l.map Sm.avs)) (len := l.length) (i := i) (Q := Q) (K := J) hT hE (b'.ext' e1 (b'.rf.old (by omega) keep) b'.v0 b'.v8) (Heap.put_at _ _ _) hgn (by omega) (by omega) (by omega) (fun hz H2 m2 q1 q2 => by
      rw [if_pos hz] at hgo
      rw [hgo] at hq
      exact hq H2 m2 q1 q2) fun hz a3 H2 m2 q => by
      rw [if_neg (by simpa using hz)] at hgo
      have g := VM.smC_good fns (.mk k nm ar t e) nms (v, ws') b'.v0 b'.v8 hz
      rw [← hJ]
      exact ⟨j, by omega, i + 1, _, _, _, a3, by omega, rfl, q, by have := g.2; omega, hgo⟩
    have h2 : ∀ hh : 2 < (Sm.mk k nm ar t e).avs.length, (Sm.mk k nm ar t e).avs[2]'hh = .ro (ar.map Ex.avs) := by
      rw [zbz]; intro hh; rfl
    rw [h2, List.take_of_length_le (l := (Sm.mk k nm ar t e).avs) (by omega)]
    simp
    exact ⟨zpf _, fin⟩
def zsg (gk gf gw : Nat) (fns : List (Str × Nat)) : Sm → Prop
  | .mk _ _ _ t e => RBlC gk gf gw fns t ∧ RBlC gk gf gw fns e
theorem zla {gk gf gw : Nat} {fns : List (Str × Nat)} {l : List Sm} (h : ∀ x ∈ l, zsg gk gf gw fns x) : RBlC gk gf gw fns l :=
  zri (fun x hx k nm ar t e hh => by have := h x hx; rw [hh] at this; exact this) (zmv l)
mutual
theorem zwj (gk gf gw : Nat) (fns : List (Str × Nat)) : ∀ x : Sm, zsg gk gf gw fns x
  | .mk _ _ _ t e => ⟨zla (zka gk gf gw fns t), zla (zka gk gf gw fns e)⟩
theorem zka (gk gf gw : Nat) (fns : List (Str × Nat)) : ∀ l : List Sm, ∀ x ∈ l, zsg gk gf gw fns x
  | [], x, h => absurd h (by simp)
  | y :: r, x, h => (List.mem_cons.1 h).elim (fun e => e ▸ zwj gk gf gw fns y) fun h => zka gk gf gw fns r x h
end
theorem zsu (gk gf gw : Nat) (fns : List (Str × Nat)) (l : List Sm) : RBlC gk gf gw fns l := zla (zka gk gf gw fns l)
end Go.Proofs.YtpllgpgdcbgalaaDoor
set_option maxRecDepth 8000
namespace Go.Proofs.YtpllgpgdcbgalaaDoor
open Go Go.RowKit
@[simp ↓] theorem zafm {g : Nat} {H : Heap} {k : AV → Prop} : LNM (.amap g) H k = MAPK (H g) fun es => k (.int .i64 (es.length : Int)) := by
  simp only [LNM, LENM, MAPK]
  cases hg : H g with
  | none => simp
  | some o => cases o <;> simp [qk]
set_option maxHeartbeats 2000000 in
theorem zss {gk gf gw : Nat} {fns : List (Str × Nat)} {l : List Fnc} {vars : Int} {H : Heap} {m : Nat} {Q : QT} (h : RfM gk gf gw fns vars [] H m) (hw : zbc l ≤ 4294967296) (hp : ∀ f ∈ l, f.params.length ≤ 4) (hl : l.length ≤ 4294967296)
    (hbad : (VM.bodiesC fns l []).2 ≠ 0 → ∀ H' m', (∀ y, y < gf → H' y = H y) → Q (.int .i64 (VM.bodiesC fns l []).2) H' m')
    (hok : (VM.bodiesC fns l []).2 = 0 → ∀ H' m', (∀ y, y < gf → H' y = H y) → Q (.int .i64 (if 16 < (VM.bodiesC fns l []).1.length then 4 else 0)) H' m') :
    LP (zbb Q) [.ptr gk 0, .ro (l.map Fnc.avs), .int .i64 l.length, .int .i64 0] H m := by
  refine LP.mk (fun j xs H' m' => ∃ (i : Nat) (ws' : List Str) (v : Int), i + j = l.length ∧ xs = [.ptr gk 0, .ro (l.map Fnc.avs), .int .i64 l.length, .int .i64 i] ∧ RfM gk gf gw fns v ws' H' m' ∧ (∀ y, y < gf → H' y = H y) ∧ zbc (l.drop i) ≤ 4294967296 ∧ VM.bodiesC fns l [] = VM.bodiesC fns (l.drop i) ws') l.length ⟨0, [], vars, by omega, rfl, h, fun _ _ => rfl, by simpa using hw, by simp⟩ ?_
  rintro j xs H' m' ⟨i, ws', v, hij, rfl, h', hk, hw', hgo⟩
  generalize hJ : (fun (xs : List AV) (H' : Heap) (m' : Nat) => ∃ j', j' < j ∧ ∃ (i : Nat) (ws' : List Str) (v : Int), i + j' = l.length ∧ xs = [.ptr gk 0, .ro (l.map Fnc.avs), .int .i64 l.length, .int .i64 i] ∧ RfM gk gf gw fns v ws' H' m' ∧ (∀ y, y < gf → H' y = H y) ∧ zbc (l.drop i) ≤ 4294967296 ∧ VM.bodiesC fns l [] = VM.bodiesC fns (l.drop i) ws') = J
  have row := h'.row
  have wds := h'.wds
  cases j with
  | zero =>
    have ei : i = l.length := by omega
    subst ei
    rw [List.drop_length] at hgo
    have e0 : VM.bodiesC fns [] ws' = (ws', 0) := rfl
    rw [hgo, e0] at hok
    have hln : (wRow ws').length = ws'.length := by simp [wRow]
    by_cases h16 : 16 < ws'.length
    · have h16' : (16 : Int) < ws'.length := by omega
      have := hok rfl H' m' hk
      simp only at this
      rw [if_pos h16] at this
      simp [zbb, row, wds, hln, h16', this]
    · have h16' : ¬ (16 : Int) < ws'.length := by omega
      have := hok rfl H' m' hk
      simp only at this
      rw [if_neg h16] at this
      simp [zbb, row, wds, hln, h16', this]
  | succ j =>
    have hlt : i < l.length := by omega
    have hdr : l.drop i = l[i] :: l.drop (i + 1) := List.drop_eq_getElem_cons hlt
    have hf4 := hp l[i] (List.getElem_mem hlt)
    rw [hdr] at hgo hw'
    simp only [VM.bodiesC, zbc] at hgo hw'
    have hgn := h'.gn
    have hgf := h'.gf0
    have hgw := h'.gw0
    simp [zbb, hlt, zhi]
    generalize l[i] = f at *
    obtain ⟨fnm, ps, body⟩ := f
    dsimp only [Fnc.avs]
    have ne_0 : gk ≠ gf ∧ gf ≠ gk ∧ gk ≠ gw ∧ gw ≠ gk ∧ gf ≠ gw ∧ gw ≠ gf ∧ gk ≠ m' ∧ m' ≠ gk ∧ gf ≠ m' ∧ m' ≠ gf ∧ gw ≠ m' ∧ m' ≠ gw := ⟨by omega, by omega, by omega, by omega, by omega, by omega, by omega, by omega, by omega, by omega, by omega, by omega⟩
    simp [row, ne_0]
    show LNL (.ro (ps.map strC)) _
    simp
    have hL : RfM gk gf gw fns (ps.length : Int) ws' ((H'.put m' (some (.row 3 [.str fnm, .ro (ps.map strC), .ro (body.map Sm.avs)]))).put gk (some (.row 3 [.amap gf, .int .i64 (ps.length : Int), .amap gw]))) (m' + 1) :=
      ⟨Heap.put_at _ _ _, by rw [Heap.put_ne _ _ (by omega), Heap.put_ne _ _ (by omega)]; exact h'.map, by rw [Heap.put_ne _ _ (by omega), Heap.put_ne _ _ (by omega)]; exact wds, hgf, hgw, by omega⟩
    have hkk : ∀ y, y < gf → ((H'.put m' (some (.row 3 [.str fnm, .ro (ps.map strC), .ro (body.map Sm.avs)]))).put gk (some (.row 3 [.amap gf, .int .i64 (ps.length : Int), .amap gw]))) y = H y := fun y hy => by rw [Heap.put_ne _ _ (by omega), Heap.put_ne _ _ (by omega)]; exact hk y hy
    have hE : za Tryd.prog 36 [.ptr gk 0, .ro (body.map Sm.avs), .ro (ps.map strC)] ((H'.put m' (some (.row 3 [.str fnm, .ro (ps.map strC), .ro (body.map Sm.avs)]))).put gk (some (.row 3 [.amap gf, .int .i64 (ps.length : Int), .amap gw]))) (m' + 1) (zdd Q [.ptr gk 0, .ro (l.map Fnc.avs), .int .i64 l.length, .int .i64 i] J) := by
      generalize Heap.put (Heap.put H' m' _) gk _ = HX at hL hkk ⊢
      simp only at hf4 hw' hgo
      refine zsu gk gf gw fns body ps (ps.length : Int) ws' (.ro (ps.map strC)) HX (m' + 1) _ hL ⟨.ro, fun y hy => by simp [owns] at hy⟩ (by omega) (by omega) (by omega) fun H2 m2 h2 e2 => ?_
      have hwi : IntKind.i64.wrap ((i : Int) + 1) = (i : Int) + 1 := i64w (by omega)
      have hk2 : ∀ y, y < gf → H2 y = H y := fun y hy => by rw [e2.keep y (by omega) (by omega) (by omega)]; exact hkk y hy
      by_cases hz : (VM.smCL fns ps body ((ps.length : Int), ws')).2 = 0
      · rw [if_neg (by simpa using hz)] at hgo
        simp [zdd, hz, hwi]
        rw [← hJ]
        exact ⟨j, by omega, i + 1, _, _, by omega, rfl, h2, hk2, by omega, hgo⟩
      · rw [if_pos hz] at hgo
        rw [hgo] at hbad
        simp [zdd, hz]
        exact hbad hz H2 m2 hk2
    exact hE
def VM.unlikeTo (l : List Str) (j : Nat) : Bool := (List.range j).all fun i => decide (l.getD i [] ∉ l.take i)
theorem zov (l : List Str) (j : Nat) : VM.unlikeTo l (j + 1) = (VM.unlikeTo l j && decide (l.getD j [] ∉ l.take j)) := by
  unfold VM.unlikeTo
  rw [List.range_succ, List.all_append]
  simp
set_option maxHeartbeats 2000000 in
theorem zst {gk gf gw s : Nat} {fns : List (Str × Nat)} {fnm : Str} {ps : List Str} {body : List Sm} {A0 L : AV} {had : Bool} {len i : Nat} {H : Heap} {m : Nat} {Q : QT} {K : J3} (h : RfM gk gf gw fns 0 [] H m) (hs : H s = some (.row 3 (Fnc.mk fnm ps body).avs)) (hp : ps.length ≤ 4294967296) (hi : i < 4294967296)
    (h7 : (had || !VM.unlike ps) = true → Q (.int .i64 7) H m)
    (h5 : (had || !VM.unlike ps) = false → 4 < ps.length → Q (.int .i64 5) H m)
    (hok : (had || !VM.unlike ps) = false → ¬ 4 < ps.length → ∀ es, (match zy (.str fnm) (fns.map fun p => (.str p.1, .int .i64 p.2)) with | some (some (q, _)) => some ((fns.map fun p => (AV.str p.1, AV.int .i64 (p.2 : Int))).set q (.str fnm, .int .i64 (ps.length : Int))) | some none => some ((fns.map fun p => (AV.str p.1, AV.int .i64 (p.2 : Int))) ++ [(.str fnm, .int .i64 (ps.length : Int))]) | none => none) = some es →
      K [A0, .ptr gk 0, L, .int .i64 len, .int .i64 ((i : Int) + 1)] (H.put gf (some (.mp es))) m) :
    LP (zah Q K) [A0, .ptr gk 0, .ptr s 0, .bool had, L, .int .i64 len, .int .i64 i, .ro (ps.map strC), .int .i64 ps.length, .int .i64 0] H m := by
  have row := h.row
  have hmap := h.map
  have hgf := h.gf0
  have hgw := h.gw0
  refine LP.mk (fun q xs H' m' => ∃ j : Nat, j + q = ps.length ∧ xs = [A0, .ptr gk 0, .ptr s 0, .bool (had || !VM.unlikeTo ps j), L, .int .i64 len, .int .i64 i, .ro (ps.map strC), .int .i64 ps.length, .int .i64 j] ∧ H' = H ∧ m' = m) ps.length ⟨0, by omega, by simp [VM.unlikeTo], rfl, rfl⟩ ?_
  rintro q xs H' m' ⟨j, hj, rfl, rfl, rfl⟩
  generalize hJ : (fun (xs : List AV) (H2 : Heap) (m2 : Nat) => ∃ q', q' < q ∧ ∃ j : Nat, j + q' = ps.length ∧ xs = [A0, .ptr gk 0, .ptr s 0, .bool (had || !VM.unlikeTo ps j), L, .int .i64 len, .int .i64 i, .ro (ps.map strC), .int .i64 ps.length, .int .i64 j] ∧ H2 = H' ∧ m2 = m') = J
  cases q with
  | zero =>
    have ej : j = ps.length := by omega
    subst ej
    have eu : VM.unlikeTo ps ps.length = VM.unlike ps := rfl
    rw [eu]
    cases hb : (had || !VM.unlike ps) with
    | true => have := h7 hb; simp [zah, this]
    | false =>
      dsimp only [Fnc.avs] at hs
      by_cases h4 : 4 < ps.length
      · have h4' : (4 : Int) < ps.length := by omega
        have := h5 hb h4
        simp [zah, hs, h4', this]
      · have h4' : ¬ (4 : Int) < ps.length := by omega
        have hwi : IntKind.i64.wrap ((i : Int) + 1) = (i : Int) + 1 := i64w (by omega)
        obtain ⟨r, f1, f2⟩ := zhj fnm fns
        have ok := hok hb h4
        rw [f1] at ok
        simp [zah, hs, h4', row, hmap, f1, hwi]
        cases r with
        | none => simp; exact ok _ rfl
        | some p => obtain ⟨q, v⟩ := p; simp; exact ok _ rfl
  | succ q =>
    have hlt : j < ps.length := by omega
    have hx : ps[j]? = some ps[j] := List.getElem?_eq_getElem hlt
    have hgd : ps.getD j [] = ps[j] := by rw [List.getD_eq_getElem?_getD, hx]; rfl
    have hwj : IntKind.i64.wrap ((j : Int) + 1) = (j : Int) + 1 := i64w (by omega)
    have hj0 : (0 : Int) ≤ j := by omega
    have hjle : (j : Int) ≤ ps.length := by omega
    have eu : (had || !VM.unlikeTo ps (j + 1)) = ((had || !VM.unlikeTo ps j) || decide (ps[j] ∈ ps.take j)) := by
      rw [zov, hgd]
      cases had <;> cases VM.unlikeTo ps j <;> simp
    dsimp only [Fnc.avs] at hs
    cases hb : (had || !VM.unlikeTo ps j) with
    | true =>
      rw [hb] at eu
      simp [zah, hlt, strC, hwj]
      rw [← hJ]
      exact ⟨q, by omega, j + 1, by omega, by rw [eu]; rfl, rfl, rfl⟩
    | false =>
      rw [hb, Bool.false_or] at eu
      simp [zah, hlt, strC, hs]
      rw [zqu]
      refine ⟨hj0, by rw [List.length_map]; exact hjle, zhx, ?_⟩
      rw [Int.toNat_natCast, ← List.map_take]
      refine (ztb (ps.take j) ps[j] (by rw [List.length_take]; omega)).call ?_
      simp [zio, hwj]
      rw [← hJ]
      exact ⟨q, by omega, j + 1, by omega, by rw [eu]; rfl, rfl, rfl⟩
end Go.Proofs.YtpllgpgdcbgalaaDoor
set_option maxRecDepth 8000
namespace Go.Proofs.YtpllgpgdcbgalaaDoor
open Go Go.RowKit
set_option maxHeartbeats 2000000 in
theorem zsr {gk gf gw : Nat} {f0 : Fnc} {l0 l : List Fnc} (hl0 : l = f0 :: l0) {H : Heap} {m : Nat} {Q : QT} (h : RfM gk gf gw [] 0 [] H m) (hw : zbc l ≤ 4294967296) (hl : l.length ≤ 5)
    (hq : ∀ H' m', (∀ y, y < gf → H' y = H y) → Q (.int .i64 (VM.checkC l)) H' m') :
    LP (zdc Q) [.ro (l.map Fnc.avs), .ptr gk 0, .ro (l.map Fnc.avs), .int .i64 l.length, .int .i64 0] H m := by
  refine LP.mk (fun j xs H' m' => ∃ (i : Nat) (fns : List (Str × Nat)), i + j = l.length ∧ xs = [.ro (l.map Fnc.avs), .ptr gk 0, .ro (l.map Fnc.avs), .int .i64 l.length, .int .i64 i] ∧ RfM gk gf gw fns 0 [] H' m' ∧ (∀ y, y < gf → H' y = H y) ∧ (∀ f ∈ l.take i, f.params.length ≤ 4) ∧ VM.fnsC [] l = VM.fnsC fns (l.drop i)) l.length ⟨0, [], by omega, rfl, h, fun _ _ => rfl, by simp, by simp⟩ ?_
  rintro j xs H' m' ⟨i, fns, hij, rfl, h', hk, h4, hgo⟩
  generalize hJ : (fun (xs : List AV) (H' : Heap) (m' : Nat) => ∃ j', j' < j ∧ ∃ (i : Nat) (fns : List (Str × Nat)), i + j' = l.length ∧ xs = [.ro (l.map Fnc.avs), .ptr gk 0, .ro (l.map Fnc.avs), .int .i64 l.length, .int .i64 i] ∧ RfM gk gf gw fns 0 [] H' m' ∧ (∀ y, y < gf → H' y = H y) ∧ (∀ f ∈ l.take i, f.params.length ≤ 4) ∧ VM.fnsC [] l = VM.fnsC fns (l.drop i)) = J
  have hcheck : ∀ z, z ≠ 0 → (VM.fnsC [] l).2 = z → VM.checkC l = z := by
    intro z hz e
    subst hl0
    unfold VM.checkC
    simp only
    rw [if_neg (by simp only [List.length_cons] at hl; omega), if_pos (by rw [e]; exact hz), e]
  have row := h'.row
  have hmap := h'.map
  have hgn := h'.gn
  have hgf := h'.gf0
  have hgw := h'.gw0
  cases j with
  | zero =>
    have ei : i = l.length := by omega
    subst ei
    rw [List.drop_length] at hgo
    rw [List.take_length] at h4
    have e0 : VM.fnsC fns [] = (fns, 0) := rfl
    rw [e0] at hgo
    subst hl0
    have hc : VM.checkC (f0 :: l0) = if 0 < f0.params.length then 10 else if (VM.bodiesC fns (f0 :: l0) []).2 ≠ 0 then (VM.bodiesC fns (f0 :: l0) []).2 else if 16 < (VM.bodiesC fns (f0 :: l0) []).1.length then 4 else 0 := by
      unfold VM.checkC
      simp only
      rw [if_neg (by simp only [List.length_cons] at hl; omega), hgo, if_neg (by simp)]
    rw [hc] at hq
    simp [zdc]
    refine ⟨zhi f0, ?_⟩
    show OPTK (some (AV.ro (f0.params.map strC))) _
    simp
    by_cases hp0 : 0 < f0.params.length
    · rw [if_pos hp0] at hq
      have hne : ¬ f0.params = [] := fun e => by rw [e] at hp0; simp at hp0
      have hne2 : ¬ (f0.params.length : Int) = 0 := by omega
      have := hq H' m' hk
      simp [hne, this]
    · rw [if_neg hp0] at hq
      have hnil : f0.params = [] := List.length_eq_zero_iff.1 (by omega)
      have hfin : LP (zbb Q) [.ptr gk 0, .ro ((f0 :: l0).map Fnc.avs), .int .i64 (f0 :: l0).length, .int .i64 0] H' m' :=
        zss h' hw h4 (by omega) (fun hz H2 m2 hk2 => by
          have := hq H2 m2 fun y hy => (hk2 y hy).trans (hk y hy)
          rw [if_pos hz] at this
          exact this) fun hz H2 m2 hk2 => by
          have := hq H2 m2 fun y hy => (hk2 y hy).trans (hk y hy)
          rw [if_neg (by simpa using hz)] at this
          exact this
      simp [hnil]
      simp at hfin
      exact hfin
  | succ j =>
    have hlt : i < l.length := by omega
    have hdr : l.drop i = l[i] :: l.drop (i + 1) := List.drop_eq_getElem_cons hlt
    rw [hdr] at hgo
    have hpl := zld (List.getElem_mem hlt)
    have hts : l.take (i + 1) = l.take i ++ [l[i]] := List.take_succ_eq_append_getElem hlt
    simp only [VM.fnsC] at hgo
    simp [zdc, hlt, zhi]
    generalize l[i] = f at *
    obtain ⟨fnm, ps, body⟩ := f
    obtain ⟨r, f1, f2⟩ := zhj fnm fns
    dsimp only [Fnc.avs]
    have ne_0 : gk ≠ gf ∧ gf ≠ gk ∧ gk ≠ gw ∧ gw ≠ gk ∧ gf ≠ gw ∧ gw ≠ gf ∧ gk ≠ m' ∧ m' ≠ gk ∧ gf ≠ m' ∧ m' ≠ gf ∧ gw ≠ m' ∧ m' ≠ gw := ⟨by omega, by omega, by omega, by omega, by omega, by omega, by omega, by omega, by omega, by omega, by omega, by omega⟩
    simp [row, hmap, ne_0]
    show zm .str (.str fnm) = true ∧ OPTK (zy (.str fnm) _) _
    rw [f1]
    simp
    simp only at hgo hpl
    have hHm : (H'.put m' (some (.row 3 [.str fnm, .ro (ps.map fun w => [.str w]), .ro (body.map Sm.avs)]))) m' = some (.row 3 (Fnc.mk fnm ps body).avs) := Heap.put_at _ _ _
    have keep : ∀ y, y < m' → (H'.put m' (some (.row 3 [.str fnm, .ro (ps.map fun w => [.str w]), .ro (body.map Sm.avs)]))) y = H' y := fun y hy => Heap.put_ne _ _ (by omega)
    have hkk : ∀ y, y < gf → (H'.put m' (some (.row 3 [.str fnm, .ro (ps.map fun w => [.str w]), .ro (body.map Sm.avs)]))) y = H y := fun y hy => by rw [Heap.put_ne _ _ (by omega)]; exact hk y hy
    have rf1 := h'.old (m' := m' + 1) (by omega) keep
    have hsome : (fns.lookup fnm).isSome = r.isSome := by
      cases r with
      | none => simp only at f2; simp [f2]
      | some p => simp only at f2; rw [Option.isSome_some]; exact Option.isSome_iff_ne_none.2 f2.1
    have fin : ∀ v, LP (zah Q J) [.ro (l.map Fnc.avs), .ptr gk 0, .ptr m' 0, .bool r.isSome, .ro (l.map Fnc.avs), .int .i64 l.length, .int .i64 i, .ro (ps.map strC), .int .i64 ps.length, .int .i64 0] (H'.put m' (some (.row 3 [.str fnm, .ro (ps.map fun w => [.str w]), .ro (body.map Sm.avs)]))) (m' + 1) ∨ v = true := fun v => .inl <| by
      refine zst rf1 hHm (by omega) (by omega) (fun hb => ?_) (fun hb h5 => ?_) fun hb h5 es hes => ?_
      · have := hq _ (m' + 1) hkk
        rw [hcheck 7 (by decide) (by
          rw [hgo, if_pos (by
            rw [← hsome] at hb
            simpa using hb)])] at this
        exact this
      · have hnn : ¬ ((fns.lookup fnm).isSome = true ∨ VM.unlike ps = false) := fun hc => by
          rw [← hsome] at hb
          rcases hc with hc | hc <;> rw [hc] at hb <;> simp at hb
        rw [if_neg hnn, if_pos h5] at hgo
        have := hq _ (m' + 1) hkk
        rw [hcheck 5 (by decide) (by rw [hgo])] at this
        exact this
      · have hnn : ¬ ((fns.lookup fnm).isSome = true ∨ VM.unlike ps = false) := fun hc => by
          rw [← hsome] at hb
          rcases hc with hc | hc <;> rw [hc] at hb <;> simp at hb
        rw [if_neg hnn, if_neg h5] at hgo
        cases r with
        | some p => simp at hb
        | none =>
          rw [f1] at hes
          simp only [Option.some.injEq] at hes
          subst hes
          rw [← hJ]
          refine ⟨j, by omega, i + 1, fns ++ [(fnm, ps.length)], by omega, rfl, ⟨?_, ?_, ?_, hgf, hgw, by omega⟩, fun y hy => ?_, fun f hf => ?_, hgo⟩
          · rw [Heap.put_ne _ _ (by omega)]; exact rf1.row
          · rw [Heap.put_at, List.map_append]; rfl
          · rw [Heap.put_ne _ _ (by omega)]; exact rf1.wds
          · rw [Heap.put_ne _ _ (by omega)]; exact hkk y hy
          · rw [hts] at hf
            rcases List.mem_append.1 hf with hf | hf
            · exact h4 f hf
            · rw [List.mem_singleton.1 hf]; simp only; omega
    have fin := (fin false).resolve_right (by simp)
    cases r with
    | none => simp at fin ⊢; exact fin
    | some p => obtain ⟨q, v⟩ := p; simp at fin ⊢; exact fin
theorem zsq (l : List Fnc) (hw : zbc l ≤ 4294967296) : QC Tryd.prog 12 [.ro (l.map Fnc.avs)] (.int .i64 (VM.checkC l)) := by
  refine QC.of' fun H n => ?_
  suffices main : ∀ Q : QT, (∀ H' n', Keep n H' H → Q (.int .i64 (VM.checkC l)) H' n') → za Tryd.prog 12 [.ro (l.map Fnc.avs)] H n Q from main _ fun H' n' b => ⟨by simp, b⟩
  intro Q hq
  refine zku _ _ _ _ ?_
  have hK : Keep n H H := by simp
  cases l with
  | nil =>
    have := hq H n hK
    simp [zdb]
    exact this
  | cons f0 l0 =>
    have h1 : ¬ (l0.length : Int) + 1 = 0 := by omega
    by_cases h5 : 5 < l0.length + 1
    · have e : VM.checkC (f0 :: l0) = 5 := by unfold VM.checkC; simp only; rw [if_pos h5]
      have h5' : (5 : Int) < l0.length + 1 := by omega
      have := hq H n hK
      rw [e] at this
      simp [zdb, h5', h1]
      exact this
    · have h5' : ¬ (5 : Int) < l0.length + 1 := by omega
      have hL : RfM (n + 2) n (n + 1) [] 0 [] (((H.put n (some (.mp []))).put (n + 1) (some (.mp []))).put (n + 2) (some (.row 3 [.amap n, .int .i64 0, .amap (n + 1)]))) (n + 3) :=
        ⟨Heap.put_at _ _ _, by rw [Heap.put_ne _ _ (by omega), Heap.put_ne _ _ (by omega), Heap.put_at]; rfl, by rw [Heap.put_ne _ _ (by omega), Heap.put_at]; rfl, by omega, by omega, by omega⟩
      have fin := zsr (l := f0 :: l0) (Q := Q) rfl hL hw (by simp only [List.length_cons]; omega) fun H' m' hk => hq H' m' fun y hy => by rw [hk y hy, Heap.put_ne _ _ (by omega), Heap.put_ne _ _ (by omega), Heap.put_ne _ _ (by omega)]
      simp [zdb, h5', h1]
      simp at fin
      exact fin
end Go.Proofs.YtpllgpgdcbgalaaDoor
set_option maxRecDepth 8000
namespace Go.Proofs.YtpllgpgdcbgalaaDoor
open Go Go.RowKit
namespace VM
theorem exWL_sum : ∀ l : List Ex, exWL l = (l.map exW).sum
  | [] => by simp [exWL]
  | x :: r => by simp [exWL, exWL_sum r]
theorem smWL_sum : ∀ l : List Sm, smWL l = (l.map smW).sum
  | [] => by simp [smWL]
  | x :: r => by simp [smWL, smWL_sum r]
def Fits {α : Type} (m : St → α × St) (w : α → Nat) : Prop := ∀ st, (m st).2.2 = 0 → w (m st).1 + (m st).2.1.length ≤ st.1.length
theorem until_zero {α : Type} {m : St → α × St} : ∀ (k : Nat) (st : St), (untilF m k st).2.2 = 0 → st.2 = 0
  | 0, st, h => h
  | k + 1, st, h => by
    unfold untilF at h
    split at h
    · rename_i hc; exact hc.1
    · exact not_zero must_stuck h
theorem Fits.until {α : Type} {m : St → α × St} {w : α → Nat} (hf : Fits m w) : ∀ (k : Nat) (st : St), (untilF m k st).2.2 = 0 → ((untilF m k st).1.map w).sum + (untilF m k st).2.1.length ≤ st.1.length
  | 0, st, _ => by simp [untilF]
  | k + 1, st, h => by
    unfold untilF at h ⊢
    split
    · rename_i hc
      rw [if_pos hc] at h
      have h1 := hf.until k _ h
      have h2 := hf (trim st.1, 0) (until_zero k _ h)
      have h3 := trim_le st.1
      simp only [List.map_cons, List.sum_cons] at *
      omega
    · have := must_le 41 st
      simp only [List.map_nil, List.sum_nil]
      omega
theorem Fits.many {α : Type} {m : St → α × St} {w : α → Nat} (hf : Fits m w) : Fits (manyF m) (fun l => (l.map w).sum) := fun st h => hf.until _ st h
theorem fits_one {α : Type} {m : St → α × St} (hm : Nice m) : Fits m (fun _ => 1) := fun st h => by
  have := hm.eats st (not_zero (hm.stuck st) h) h
  show 1 + _ ≤ _
  omega
theorem Fits.times {α : Type} {m : St → α × St} {w : α → Nat} (hm : Nice m) (hf : Fits m w) : ∀ (k : Nat), Fits (timesF m k) (fun l => (l.map w).sum)
  | 0 => fun st _ => by simp [timesF]
  | k + 1 => fun st h => by
    unfold timesF at h ⊢
    have h1 := Fits.times hm hf k _ h
    have h2 := hf st ((flow_times hm k _).2 h)
    simp only [List.map_cons, List.sum_cons] at *
    omega
theorem fits_form {m : St → Ex × St} (hm : Nice m) (hf : Fits m exW) (w : Str) (st : St) (h : (formF m w st).2.2 = 0) : exW (formF m w st).1 + (formF m w st).2.1.length ≤ st.1.length + 1 := by
  have key : ∀ s : St, (manyF m s).2.2 = 0 → exWL (manyF m s).1 + (manyF m s).2.1.length ≤ s.1.length := fun s h => by rw [exWL_sum]; exact hf.many s h
  unfold formF at *
  cases hw : headOf w with
  | some p =>
    obtain ⟨k, n, want⟩ := p
    rw [hw] at h
    dsimp only at *
    split at h
    · rename_i hc; rw [if_pos hc]; have := key _ h; unfold exW; omega
    · exact absurd h (bad_err (by decide))
  | none =>
    rw [hw] at h
    dsimp only at *
    have hs : (if name w then st else badF 7 st).1.length = st.1.length := by split <;> rfl
    generalize (if name w = true then st else badF 7 st) = s at *
    split at h
    · rename_i hc; rw [if_pos hc]; have := key _ h; unfold exW; omega
    · exact absurd h (bad_err (by decide))
theorem leaf_quoted (t : Str) (e : Int) : exW (quotedF t e).1 = 1 := by
  unfold quotedF
  split <;> simp [exW, exWL]
theorem leaf_plain (st : St) : exW (plainF st).1 = 1 := by
  unfold plainF
  split <;> simp [exW, exWL]
theorem fits_expr : ∀ d, Fits (exprF d) exW
  | 0 => fun st h => absurd h (bad_err (by decide))
  | d + 1 => fun st h => by
    have ih := fits_expr d
    have eats := (nice_expr (d + 1)).eats st (not_zero ((nice_expr (d + 1)).stuck st) h) h
    have ht := trim_le st.1
    unfold exprF at *
    split at h
    · rename_i hc; exact absurd h hc
    · rename_i hc
      rw [if_neg hc] at *
      split at h
      · rename_i h2
        rw [if_pos h2] at *
        rw [leaf_quoted]; omega
      · rename_i h2
        rw [if_neg h2] at *
        split at h
        · rename_i h3
          rw [if_pos h3] at *
          rw [leaf_plain]; omega
        · rename_i h3
          rw [if_neg h3] at *
          have h4 := fits_form (nice_expr d) ih _ _ h
          have h5 := w_eats (form_zero (nice_expr d) h)
          simp only [List.length_drop] at h5
          have h6 : nxt st.1 = 40 := by simpa using h3
          have h7 : nxt st.1 ≠ 0 := by rw [h6]; decide
          have : 0 < (trim st.1).length := by
            obtain ⟨c, r, hc⟩ := zhh h7
            rw [hc]; simp
          omega
theorem fits_stmt : ∀ d, Fits (stmtF d) smW
  | 0 => fun st h => absurd h (bad_err (by decide))
  | d + 1 => fun st h => by
    have ih := fits_stmt d
    have hM : ∀ s : St, (manyF (stmtF d) s).2.2 = 0 → smWL (manyF (stmtF d) s).1 + (manyF (stmtF d) s).2.1.length ≤ s.1.length := fun s h => by rw [smWL_sum]; exact ih.many s h
    have fM : ∀ s : St, Flow s (manyF (stmtF d) s).2 := fun s => (nice_many (nice_stmt d)).flow s
    by_cases hc : st.2 ≠ 0
    · unfold stmtF at h; rw [if_pos hc] at h; exact absurd h hc
    · simp only [stmtF] at h ⊢
      rw [if_neg hc] at h ⊢
      have f1 := flow_w (mustF 40 st)
      have w1 := w_eats (st := mustF 40 st)
      have m1 := must_le 40 st
      generalize wF (mustF 40 st) = w at *
      have f2 : Flow w.2 (if stKind w.1 = 0 then badF 1 w.2 else w.2) := by
        split
        · exact flow_bad 1 _
        · exact .refl _
      generalize (if stKind w.1 = 0 then badF 1 w.2 else w.2) = s1 at *
      have f3 := flow_nm (stKind w.1) s1
      generalize nmF (stKind w.1) s1 = nm at *
      have f4 := flow_times (nice_expr d) (argsOf (stKind w.1)) nm.2
      have e4 := (fits_expr d).times (nice_expr d) (argsOf (stKind w.1)) nm.2
      generalize timesF (exprF d) (argsOf (stKind w.1)) nm.2 = a at *
      have f5 := (f2.trans f3).trans f4
      simp only [← exWL_sum] at e4
      have fin : a.2.2 = 0 → 1 + exWL a.1 + a.2.1.length ≤ st.1.length := fun ha => by
        have h1 := e4 ha
        have h2 := w1 (f5.2 ha)
        have h3 := (f2.trans f3).1
        omega
      by_cases h3 : stKind w.1 = 3
      · rw [if_pos h3] at h ⊢
        simp only [smW]
        have g1 := (flow_must 41 _).2 h
        have g2 := hM _ g1
        have g3 := (flow_must 40 _).2 ((fM _).2 g1)
        have g4 := hM _ g3
        have g5 := (flow_must 40 _).2 ((fM _).2 g3)
        have g6 := fin g5
        have q1 := must_le 41 (manyF (stmtF d) (mustF 40 (manyF (stmtF d) (mustF 40 a.2)).2)).2
        have q2 := must_le 40 (manyF (stmtF d) (mustF 40 a.2)).2
        have q3 := must_le 40 a.2
        omega
      · rw [if_neg h3] at h ⊢
        by_cases h4 : stKind w.1 = 4
        · rw [if_pos h4] at h ⊢
          simp only [smW, smWL]
          have g1 := hM _ h
          have g2 := fin ((fM _).2 h)
          omega
        · rw [if_neg h4] at h ⊢
          simp only [smW, smWL]
          have g2 := fin ((flow_must 41 _).2 h)
          have q1 := must_le 41 a.2
          omega
def fncW (f : Fnc) : Nat := f.params.length + smWL f.body
theorem sum_one {α : Type} (l : List α) : (l.map fun _ => 1).sum = l.length := by
  induction l with
  | nil => rfl
  | cons x r ih => simp [ih]; omega
theorem fits_fn : Fits fnF fncW := fun st h => by
  unfold fnF at *
  simp only [fncW] at *
  have b1 := (fits_stmt 11).many _ h
  have b2 := (fits_one nice_n).many _ ((nice_many (nice_stmt 11)).flow _ |>.2 h)
  have b3 := must_le 40 (nF (mustF 40 st)).2
  have b4 := (zvx (mustF 40 st)).2
  have b5 := must_le 40 st
  simp only [← smWL_sum] at b1
  simp only [sum_one] at b2
  omega
theorem fits_fns : ∀ (k : Nat) (st : St), (fnsF k st).2.2 = 0 → zbc (fnsF k st).1 + (fnsF k st).2.1.length ≤ st.1.length
  | 0, st, _ => by simp [fnsF, zbc]
  | k + 1, st, h => by
    unfold fnsF at h ⊢
    have zero : ∀ (k : Nat) (st : St), (fnsF k st).2.2 = 0 → st.2 = 0 := fun k st h => by
      cases k with
      | zero => exact h
      | succ k =>
        unfold fnsF at h
        split at h
        · rename_i hc; exact hc.1
        · exact h
    split
    · rename_i hc
      rw [if_pos hc] at h
      have h1 := fits_fns k _ h
      have h2 := fits_fn (trim st.1, 0) (zero k _ h)
      have h3 := trim_le st.1
      simp only [zbc, fncW] at *
      omega
    · have h3 := trim_le st.1
      simp only [zbc]
      split <;> (try simp only) <;> omega
theorem parse_fits (s : Str) (h : (parseF s).2 = 0) : zbc (parseF s).1 ≤ 1500 := by
  unfold parseF at *
  split at h
  · cases h
  · rename_i h1
    rw [if_neg h1] at *
    split at h
    · rename_i h2; exact absurd h h2
    · rename_i h2
      rw [if_neg h2]
      have := fits_fns (s.length + 2) (s, 0) (by simpa using h2)
      simp only at *
      omega
end VM
theorem zow (s : Str) : QC Tryd.prog 3 [.str s] (.bool true) := by
  intro H n
  refine zii _ _ _ _ ?_
  unfold zfi
  refine (zug s).call ?_
  by_cases h : (VM.parseF s).2 = 0
  · have hw := VM.parse_fits s h
    simp [zct, h]
    refine (zvr _ (by omega)).call ?_
    unfold zfj
    refine (zsq _ (by omega)).call ?_
    simp [zfk]
  · simp [zct, h]
end Go.Proofs.YtpllgpgdcbgalaaDoor
namespace Go.Proofs.YtpllgpgdcbgalaaDoor
open Go Go.RowKit
theorem LayE.of_var {n : String} {w : World} {t : TypeId} {p : Value} (h : w.var? Tryd.prog n = some #[.iface t p]) : LayE n (fun b => w.heap[b]?) := fun g hg => by
  unfold World.var? at h
  rw [hg, Option.bind_some] at h
  split at h
  · rename_i cs e m hc
    cases h
    exact ⟨_, _, e, m, hc⟩
  · cases h
theorem zpo : "*" ++ "errors.errorString" = "*errors.errorString" := by decide
theorem zqy (u : TypeId) (h : Tryd.prog.typeName? 3 u = some "*errors.errorString") : u = 160 :=
  typeName_ptr_named (nm := "errors.errorString") (by rw [zpo]; kernel_rfl) (by kernel_rfl) (by decide) u (by rw [zpo]; exact h)
theorem zrp {r : List (String × DataW Unit)} {text : List UInt8} {W : World} (h : laidMet Tryd.prog (("strconv.ErrRange", .iface "*errors.errorString" (.ptr (.agg [.lit (.string text)]))) :: r) W) : LayE "strconv.ErrRange" (fun b => W.heap[b]?) := by
  obtain ⟨a, s, h1, _⟩ := laid_sentinel (g := 2) (ti := 120) (tp := 160) (te := 162) (ts := 9) h (by kernel_rfl) (by kernel_rfl) Tryd.underlying120 zqy Tryd.underlying160 Tryd.underlying162 rfl rfl Tryd.underlying9 (by kernel_rfl) (by kernel_rfl)
  exact .of_var h1
theorem zqj {r : List (String × DataW Unit)} {text : List UInt8} {W : World} (h : laidMet Tryd.prog (("strconv.ErrSyntax", .iface "*errors.errorString" (.ptr (.agg [.lit (.string text)]))) :: r) W) : LayE "strconv.ErrSyntax" (fun b => W.heap[b]?) := by
  obtain ⟨a, s, h1, _⟩ := laid_sentinel (g := 1) (ti := 120) (tp := 160) (te := 162) (ts := 9) h (by kernel_rfl) (by kernel_rfl) Tryd.underlying120 zqy Tryd.underlying160 Tryd.underlying162 rfl rfl Tryd.underlying9 (by kernel_rfl) (by kernel_rfl)
  exact .of_var h1
end Go.Proofs.YtpllgpgdcbgalaaDoor
