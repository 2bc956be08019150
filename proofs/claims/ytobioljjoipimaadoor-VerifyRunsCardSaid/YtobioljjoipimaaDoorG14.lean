/- The document's machine: setting out, saying, calling, coming back. Rows of one's own, by value from now on: cell by cell. The document's machine: calling. The document's machine: coming back. The document's machine: each instruction does what the plain machine does. The document's machine: a step. The laws of chapter 6: who begins is right; what is right never gets stuck. The library's laid variables, where a row lists five of them: three tables, two errors. -/
import Derived.Test.YtobioljjoipimaaDoorG13
import Derived.Test.YtobioljjoipimaaDoorG9
import Derived.Test.YtobioljjoipimaaDoorG10
import Derived.Test.YtobioljjoipimaaDoorG12
import Derived.Test.YtobioljjoipimaaDoorG1
import Derived.Stop.LaidErr
set_option linter.unusedSimpArgs false
set_option linter.unusedVariables false
set_option maxRecDepth 8000
namespace Go.Proofs.YtobioljjoipimaaDoor
open Go Go.RowKit
section
variable {H0 H : Heap} {nx n ga : Nat} {b : Agt} {s : Spt} {fs : List Frm} {f : Frm} {ins : List Val} {i : Ins} {g : Frm} {ia ib : Int}
theorem zacv {zero : List AV} {k : IntKind} {n : Int} (h : 0 ≤ n ∧ n ≤ 140737488355328) : zsrc zero (.int k n) = .ro (List.replicate n.toNat zero) := by
  unfold zsrc; simp only; rw [if_pos h]
theorem zfy.of {r : Agt × Evt} {v : AV} {e : AV} {HF : Heap} (g : Good HF nx v r.1) (he : e = .agg r.2.avs) (hk : Keep nx HF H0) : zfy H0 nx r (.tup [v, e]) HF n := by
  obtain ⟨xs, h1, h2, h3, h4, h5⟩ := g
  subst he
  exact ⟨Frz.tup2 (h5 HF fun g _ => rfl) (.same _ (zwv _)), hk⟩
set_option maxRecDepth 20000 in
set_option maxHeartbeats 1000000 in
theorem zagp (R : VSt H0 H nx n ga b s fs f ins ⟨13, ia, ib⟩) {x : Val} (hi : ins = [x]) (hk : x.kind = 1) (hh : 0 < b.permit.hops) (hm : b.permit.hops ≤ 4096) : Then H0 H nx n ga b fs ins (VM.toF { b with permit := { b.permit with hops := b.permit.hops - 1 } } fs f, ⟨3, x.text, 0⟩) := by
  unfold Then
  have r0 := R.r0
  have r1 := R.r1
  have r4 := R.r4
  have r5 := R.r5
  have ri := R.ri
  have self := R.self
  have g1 := R.ga1
  subst hi
  have ri' : H (nx + 7) = some (.row 3 [.int .i64 x.kind, .int .i64 x.n, .str x.text]) := by rw [ri, zbo]; rfl
  have hw : IntKind.i64.wrap (b.permit.hops - 1) = b.permit.hops - 1 := i64w (by omega)
  have ne_0 : nx ≠ nx + 1 ∧ nx + 1 ≠ nx ∧ nx ≠ nx + 4 ∧ nx + 4 ≠ nx ∧ nx ≠ nx + 5 ∧ nx + 5 ≠ nx ∧ nx ≠ nx + 7 ∧ nx + 7 ≠ nx ∧ nx + 1 ≠ nx + 4 ∧ nx + 4 ≠ nx + 1 ∧ nx + 1 ≠ nx + 5 ∧ nx + 5 ≠ nx + 1 ∧ nx + 1 ≠ nx + 7 ∧ nx + 7 ≠ nx + 1 ∧ nx + 4 ≠ nx + 5 ∧ nx + 5 ≠ nx + 4 ∧ nx + 4 ≠ nx + 7 ∧ nx + 7 ≠ nx + 4 ∧ nx + 5 ≠ nx + 7 ∧ nx + 7 ≠ nx + 5 ∧ nx ≠ n ∧ n ≠ nx ∧ nx + 1 ≠ n ∧ n ≠ nx + 1 ∧ nx + 4 ≠ n ∧ n ≠ nx + 4 ∧ nx + 5 ≠ n ∧ n ≠ nx + 5 ∧ nx + 7 ≠ n ∧ n ≠ nx + 7 := ⟨by omega, by omega, by omega, by omega, by omega, by omega, by omega, by omega, by omega, by omega, by omega, by omega, by omega, by omega, by omega, by omega, by omega, by omega, by omega, by omega, by omega, by omega, by omega, by omega, by omega, by omega, by omega, by omega, by omega, by omega⟩
  simp [ze, r0, zc, r4, r5, self, Ins.avs]
  refine JN.same ?_
  simp [zm]
  simp [zl]
  refine JN.same ?_
  simp [zw]
  simp [zu, r0, zc, r4, r5, Ins.avs, ri', hk, hh, hw, CALL, ne_0]
  generalize hX : Heap.put H nx _ = HX
  have xk : ∀ g, g ≠ nx → HX g = H g := fun g hg => by rw [← hX, Heap.put_ne _ _ hg]
  obtain ⟨z, z1, z2⟩ := R.o.r2
  obtain ⟨y, y1, y2⟩ := R.o.r3
  have x2 := (xk (nx + 2) (by omega)).trans z1
  have x3 := (xk (nx + 3) (by omega)).trans y1
  have x7 := (xk (nx + 7) (by omega)).trans ri'
  refine zx.withD (id := b.id) (trip := b.trip) (p := b.prog) (h := b.heap) (m := Pmt.mk b.permit.fuel b.permit.room (b.permit.hops - 1)) R.hk (by rw [xk ga (by omega)]; exact R.ra) ⟨rfl, rfl, rfl, rfl⟩ (by rw [xk _ (by omega), R.rv]; rfl) (by rw [xk _ (by omega), R.rs]; rfl) ?_
  have ne_1 : nx ≠ nx + 1 ∧ nx + 1 ≠ nx ∧ nx ≠ nx + 2 ∧ nx + 2 ≠ nx ∧ nx ≠ nx + 3 ∧ nx + 3 ≠ nx ∧ nx ≠ nx + 4 ∧ nx + 4 ≠ nx ∧ nx ≠ nx + 5 ∧ nx + 5 ≠ nx ∧ nx ≠ nx + 7 ∧ nx + 7 ≠ nx ∧ nx + 1 ≠ nx + 2 ∧ nx + 2 ≠ nx + 1 ∧ nx + 1 ≠ nx + 3 ∧ nx + 3 ≠ nx + 1 ∧ nx + 1 ≠ nx + 4 ∧ nx + 4 ≠ nx + 1 ∧ nx + 1 ≠ nx + 5 ∧ nx + 5 ≠ nx + 1 ∧ nx + 1 ≠ nx + 7 ∧ nx + 7 ≠ nx + 1 ∧ nx + 2 ≠ nx + 3 ∧ nx + 3 ≠ nx + 2 ∧ nx + 2 ≠ nx + 4 ∧ nx + 4 ≠ nx + 2 ∧ nx + 2 ≠ nx + 5 ∧ nx + 5 ≠ nx + 2 ∧ nx + 2 ≠ nx + 7 ∧ nx + 7 ≠ nx + 2 ∧ nx + 3 ≠ nx + 4 ∧ nx + 4 ≠ nx + 3 ∧ nx + 3 ≠ nx + 5 ∧ nx + 5 ≠ nx + 3 ∧ nx + 3 ≠ nx + 7 ∧ nx + 7 ≠ nx + 3 ∧ nx + 4 ≠ nx + 5 ∧ nx + 5 ≠ nx + 4 ∧ nx + 4 ≠ nx + 7 ∧ nx + 7 ≠ nx + 4 ∧ nx + 5 ≠ nx + 7 ∧ nx + 7 ≠ nx + 5 ∧ nx ≠ n ∧ n ≠ nx ∧ nx + 1 ≠ n ∧ n ≠ nx + 1 ∧ nx + 2 ≠ n ∧ n ≠ nx + 2 ∧ nx + 3 ≠ n ∧ n ≠ nx + 3 ∧ nx + 4 ≠ n ∧ n ≠ nx + 4 ∧ nx + 5 ≠ n ∧ n ≠ nx + 5 ∧ nx + 7 ≠ n ∧ n ≠ nx + 7 := ⟨by omega, by omega, by omega, by omega, by omega, by omega, by omega, by omega, by omega, by omega, by omega, by omega, by omega, by omega, by omega, by omega, by omega, by omega, by omega, by omega, by omega, by omega, by omega, by omega, by omega, by omega, by omega, by omega, by omega, by omega, by omega, by omega, by omega, by omega, by omega, by omega, by omega, by omega, by omega, by omega, by omega, by omega, by omega, by omega, by omega, by omega, by omega, by omega, by omega, by omega, by omega, by omega, by omega, by omega, by omega, by omega⟩
  simp [zjj, zc, x2, x3, x7, z2, y2, ne_1]
  generalize hF : Heap.put _ (nx + 3) _ = HF
  have fk : ∀ g, g ≠ n → g ≠ nx + 2 → g ≠ nx + 3 → HF g = HX g := fun g h1 h2 h3 => by rw [← hF, Heap.put_ne _ _ h3, Heap.put_ne _ _ h2, Heap.put_ne _ _ h1]
  have fn : HF n = some (.row 4 ((fs.map Frm.avs).flatten ++ [.int .i64 f.fn, .int .i64 f.at_, .slc (nx + 11) 0 f.vars.length, .slc (nx + 9) 0 f.stack.length])) := by rw [← hF, Heap.put_ne _ _ (by omega), Heap.put_ne _ _ (by omega), Heap.put_at]
  refine zfy.of (zih (n := n) (m := Pmt.mk b.permit.fuel b.permit.room (b.permit.hops - 1)) (by omega) fn (.row (by rw [fk _ (by omega) (by omega) (by omega), xk _ (by omega)]; exact R.rv) (by omega) (by omega)) (.row (by rw [fk _ (by omega) (by omega) (by omega), xk _ (by omega)]; exact R.rs) (by omega) (by omega)) (.ro (zab _))) rfl fun g hg => ?_
  rw [fk g (by omega) (by omega) (by omega), xk g (by omega)]; exact R.o.keep g hg
set_option maxRecDepth 20000 in
set_option maxHeartbeats 1000000 in
theorem zago (R : VSt H0 H nx n ga b s fs f ins ⟨14, ia, ib⟩) {x : Val} (hi : ins = [x]) (hc : zgm b.heap) (hx : VM.WrongOk x b.heap.length) : Then H0 H nx n ga b fs ins (VM.toF b fs f, ⟨2, VM.vshow b.heap 4 x, 0⟩) := by
  unfold Then
  have r0 := R.r0
  have r1 := R.r1
  have r4 := R.r4
  have r5 := R.r5
  have ri := R.ri
  have self := R.self
  have g1 := R.ga1
  subst hi
  have ri' : H (nx + 7) = some (.row 3 [.int .i64 x.kind, .int .i64 x.n, .str x.text]) := by rw [ri, zbo]; rfl
  have ne_2 : nx ≠ nx + 1 ∧ nx + 1 ≠ nx ∧ nx ≠ nx + 4 ∧ nx + 4 ≠ nx ∧ nx ≠ nx + 5 ∧ nx + 5 ≠ nx ∧ nx ≠ nx + 7 ∧ nx + 7 ≠ nx ∧ nx + 1 ≠ nx + 4 ∧ nx + 4 ≠ nx + 1 ∧ nx + 1 ≠ nx + 5 ∧ nx + 5 ≠ nx + 1 ∧ nx + 1 ≠ nx + 7 ∧ nx + 7 ≠ nx + 1 ∧ nx + 4 ≠ nx + 5 ∧ nx + 5 ≠ nx + 4 ∧ nx + 4 ≠ nx + 7 ∧ nx + 7 ≠ nx + 4 ∧ nx + 5 ≠ nx + 7 ∧ nx + 7 ≠ nx + 5 ∧ nx ≠ n ∧ n ≠ nx ∧ nx + 1 ≠ n ∧ n ≠ nx + 1 ∧ nx + 4 ≠ n ∧ n ≠ nx + 4 ∧ nx + 5 ≠ n ∧ n ≠ nx + 5 ∧ nx + 7 ≠ n ∧ n ≠ nx + 7 := ⟨by omega, by omega, by omega, by omega, by omega, by omega, by omega, by omega, by omega, by omega, by omega, by omega, by omega, by omega, by omega, by omega, by omega, by omega, by omega, by omega, by omega, by omega, by omega, by omega, by omega, by omega, by omega, by omega, by omega, by omega⟩
  simp [ze, r0, zc, r4, r5, self, Ins.avs]
  refine JN.same ?_
  simp [zm]
  simp [zl]
  refine JN.same ?_
  simp [zw]
  simp [zu, r0, zc, r4, r5, Ins.avs, ri', ne_2]
  obtain ⟨z, z1, z2⟩ := R.o.r2
  obtain ⟨y, y1, y2⟩ := R.o.r3
  refine zx.withD (id := b.id) (trip := b.trip) (p := b.prog) (h := b.heap) (m := b.permit) R.hk R.ra ⟨rfl, rfl, rfl, rfl⟩ (by rw [R.rv]; rfl) (by rw [R.rs]; rfl) ?_
  have ne_3 : nx ≠ nx + 1 ∧ nx + 1 ≠ nx ∧ nx ≠ nx + 2 ∧ nx + 2 ≠ nx ∧ nx ≠ nx + 3 ∧ nx + 3 ≠ nx ∧ nx ≠ nx + 4 ∧ nx + 4 ≠ nx ∧ nx ≠ nx + 5 ∧ nx + 5 ≠ nx ∧ nx ≠ nx + 7 ∧ nx + 7 ≠ nx ∧ nx + 1 ≠ nx + 2 ∧ nx + 2 ≠ nx + 1 ∧ nx + 1 ≠ nx + 3 ∧ nx + 3 ≠ nx + 1 ∧ nx + 1 ≠ nx + 4 ∧ nx + 4 ≠ nx + 1 ∧ nx + 1 ≠ nx + 5 ∧ nx + 5 ≠ nx + 1 ∧ nx + 1 ≠ nx + 7 ∧ nx + 7 ≠ nx + 1 ∧ nx + 2 ≠ nx + 3 ∧ nx + 3 ≠ nx + 2 ∧ nx + 2 ≠ nx + 4 ∧ nx + 4 ≠ nx + 2 ∧ nx + 2 ≠ nx + 5 ∧ nx + 5 ≠ nx + 2 ∧ nx + 2 ≠ nx + 7 ∧ nx + 7 ≠ nx + 2 ∧ nx + 3 ≠ nx + 4 ∧ nx + 4 ≠ nx + 3 ∧ nx + 3 ≠ nx + 5 ∧ nx + 5 ≠ nx + 3 ∧ nx + 3 ≠ nx + 7 ∧ nx + 7 ≠ nx + 3 ∧ nx + 4 ≠ nx + 5 ∧ nx + 5 ≠ nx + 4 ∧ nx + 4 ≠ nx + 7 ∧ nx + 7 ≠ nx + 4 ∧ nx + 5 ≠ nx + 7 ∧ nx + 7 ≠ nx + 5 ∧ nx ≠ n ∧ n ≠ nx ∧ nx + 1 ≠ n ∧ n ≠ nx + 1 ∧ nx + 2 ≠ n ∧ n ≠ nx + 2 ∧ nx + 3 ≠ n ∧ n ≠ nx + 3 ∧ nx + 4 ≠ n ∧ n ≠ nx + 4 ∧ nx + 5 ≠ n ∧ n ≠ nx + 5 ∧ nx + 7 ≠ n ∧ n ≠ nx + 7 := ⟨by omega, by omega, by omega, by omega, by omega, by omega, by omega, by omega, by omega, by omega, by omega, by omega, by omega, by omega, by omega, by omega, by omega, by omega, by omega, by omega, by omega, by omega, by omega, by omega, by omega, by omega, by omega, by omega, by omega, by omega, by omega, by omega, by omega, by omega, by omega, by omega, by omega, by omega, by omega, by omega, by omega, by omega, by omega, by omega, by omega, by omega, by omega, by omega, by omega, by omega, by omega, by omega, by omega, by omega, by omega, by omega⟩
  simp [zjh, r0, zc, ri', ne_3]
  refine zx.of_qc (zma hc 4 x 4 hx rfl (by omega) (by omega)) (.str _) ?_
  simp [zji, z1, y1, z2, y2, ne_3]
  generalize hF : Heap.put _ (nx + 3) _ = HF
  have fk : ∀ g, g ≠ n → g ≠ nx + 2 → g ≠ nx + 3 → HF g = H g := fun g h1 h2 h3 => by rw [← hF, Heap.put_ne _ _ h3, Heap.put_ne _ _ h2, Heap.put_ne _ _ h1]
  have fn : HF n = some (.row 4 ((fs.map Frm.avs).flatten ++ [.int .i64 f.fn, .int .i64 f.at_, .slc (nx + 11) 0 f.vars.length, .slc (nx + 9) 0 f.stack.length])) := by rw [← hF, Heap.put_ne _ _ (by omega), Heap.put_ne _ _ (by omega), Heap.put_at]
  refine zfy.of (zih (n := n) (m := b.permit) (by omega) fn (.row (by rw [fk _ (by omega) (by omega) (by omega)]; exact R.rv) (by omega) (by omega)) (.row (by rw [fk _ (by omega) (by omega) (by omega)]; exact R.rs) (by omega) (by omega)) (.ro (zab _))) rfl fun g hg => ?_
  rw [fk g (by omega) (by omega) (by omega)]; exact R.o.keep g hg
set_option maxRecDepth 20000 in
set_option maxHeartbeats 1000000 in
theorem zado (R : VSt H0 H nx n ga b s fs f ins ⟨17, ia, ib⟩) (hf : 12 ≤ fs.length + 1) (hi : ins.length ≤ 4096) : Then H0 H nx n ga b fs ins (VM.toF b fs { f with stack := f.stack ++ ins }, VM.dead 9) := by
  unfold Then
  have r0 := R.r0
  have r1 := R.r1
  have r4 := R.r4
  have r5 := R.r5
  have ri := R.ri
  have self := R.self
  have g1 := R.ga1
  have hf' : (12 : Int) ≤ (fs.length : Int) + 1 := by omega
  have t1 : (rowV f.stack).take (f.stack.length * 3) = rowV f.stack := List.take_of_length_le (by simp)
  have t2 : (rowV ins).take (ins.length * 3) = rowV ins := List.take_of_length_le (by simp)
  have rs := R.rs
  have ne_4 : nx ≠ nx + 1 ∧ nx + 1 ≠ nx ∧ nx ≠ nx + 4 ∧ nx + 4 ≠ nx ∧ nx ≠ nx + 5 ∧ nx + 5 ≠ nx ∧ nx ≠ nx + 7 ∧ nx + 7 ≠ nx ∧ nx ≠ nx + 9 ∧ nx + 9 ≠ nx ∧ nx + 1 ≠ nx + 4 ∧ nx + 4 ≠ nx + 1 ∧ nx + 1 ≠ nx + 5 ∧ nx + 5 ≠ nx + 1 ∧ nx + 1 ≠ nx + 7 ∧ nx + 7 ≠ nx + 1 ∧ nx + 1 ≠ nx + 9 ∧ nx + 9 ≠ nx + 1 ∧ nx + 4 ≠ nx + 5 ∧ nx + 5 ≠ nx + 4 ∧ nx + 4 ≠ nx + 7 ∧ nx + 7 ≠ nx + 4 ∧ nx + 4 ≠ nx + 9 ∧ nx + 9 ≠ nx + 4 ∧ nx + 5 ≠ nx + 7 ∧ nx + 7 ≠ nx + 5 ∧ nx + 5 ≠ nx + 9 ∧ nx + 9 ≠ nx + 5 ∧ nx + 7 ≠ nx + 9 ∧ nx + 9 ≠ nx + 7 ∧ nx ≠ n ∧ n ≠ nx ∧ nx + 1 ≠ n ∧ n ≠ nx + 1 ∧ nx + 4 ≠ n ∧ n ≠ nx + 4 ∧ nx + 5 ≠ n ∧ n ≠ nx + 5 ∧ nx + 7 ≠ n ∧ n ≠ nx + 7 ∧ nx + 9 ≠ n ∧ n ≠ nx + 9 := ⟨by omega, by omega, by omega, by omega, by omega, by omega, by omega, by omega, by omega, by omega, by omega, by omega, by omega, by omega, by omega, by omega, by omega, by omega, by omega, by omega, by omega, by omega, by omega, by omega, by omega, by omega, by omega, by omega, by omega, by omega, by omega, by omega, by omega, by omega, by omega, by omega, by omega, by omega, by omega, by omega, by omega, by omega⟩
  simp [ze, r0, zc, r4, r5, self, Ins.avs]
  refine JN.same ?_
  simp [zm]
  simp [zl]
  refine JN.same ?_
  simp [zw]
  simp [zu, r0, zc, r4, r5, Ins.avs, ri, rs, hf', t1, t2, CALL, ne_4]
  refine ⟨fun c hc => zaj (zgq _ c hc), by have := R.hst; omega, ?_⟩
  generalize hX : Heap.put _ (nx + 4) _ = HX
  have xk : ∀ g, g ≠ n → g ≠ nx + 9 → g ≠ nx + 4 → HX g = H g := fun g h1 h2 h3 => by rw [← hX, Heap.put_ne _ _ h3, Heap.put_ne _ _ h1, Heap.put_ne _ _ h2]
  have xn : HX n = some (.row 3 (rowV (f.stack ++ ins))) := by rw [← hX, Heap.put_ne _ _ (by omega), Heap.put_at]; simp [rowV]
  have ps : Part HX nx (n + 1) (.slc n 0 (f.stack.length + ins.length)) (.ro ((f.stack ++ ins).map Val.avs)) := by
    have := Part.row (nx := nx) (n := n + 1) xn (by omega) (by omega)
    simpa using this
  refine zcf (f := { f with stack := f.stack ++ ins }) (by omega) R.hk (by omega) (by rw [xk ga (by omega) (by omega) (by omega)]; exact R.ra) ⟨rfl, rfl, rfl, rfl⟩ (.row (by rw [xk _ (by omega) (by omega) (by omega)]; exact R.rv) (by omega) (by omega)) ps (.ro (zab _)) fun H' n' g' h1 h2 kp hr gd => ?_
  have q0 : H' nx = some (.row 9 (zc b.id b.trip b.prog (.slc ga 0 (fs.length + 1)) (.ro (b.heap.map Cl.avs)) b.permit)) := by rw [kp _ (by omega), xk _ (by omega) (by omega) (by omega)]; exact r0
  simp [zjg, q0, zc, CALL]
  refine zzt 9 (Heap.put_at _ _ _) rfl (fun x hx => ?_) (by omega) fun H2 hk2 => ?_
  · simp at hx
    rcases hx with rfl | rfl | rfl | rfl | rfl | rfl | rfl | rfl | rfl <;> rfl
  · have z : ∀ g, g < n' → g ≠ nx → H2 g = H' g := fun g h1 h2 => (hk2 g h1).trans (Heap.put_ne _ _ h2)
    have y : ∀ g, g < n + 1 → g ≠ nx → H2 g = HX g := fun g h1 h2 => (z g (by omega) h2).trans (kp g h1)
    refine retE (r := (VM.toF b fs { f with stack := f.stack ++ ins }, VM.dead 9)) (zih (n := n') (f := { f with stack := f.stack ++ ins }) (by omega) (by rw [z g' h2 (by omega)]; exact hr) (.row (by rw [y _ (by omega) (by omega), xk _ (by omega) (by omega) (by omega)]; exact R.rv) (by omega) (by omega)) ?_ (.ro (zab _))) (R.o.more fun g hg h1 h2 => by rw [y g (by omega) h1, xk g (by omega) (by omega) (by omega)])
    have := Part.row (nx := nx) (n := n') ((y n (by omega) (by omega)).trans xn) (by omega) (by omega)
    simpa using this
end
end Go.Proofs.YtobioljjoipimaaDoor
set_option maxRecDepth 8000
namespace Go.Proofs.YtobioljjoipimaaDoor
open Go Go.RowKit
inductive FL (H : Heap) (nx : Nat) : List AV → List AV → Prop
  | nil : FL H nx [] []
  | cons {u v : AV} {us vs : List AV} : Frz H nx u v → FL H nx us vs → FL H nx (u :: us) (v :: vs)
section
variable {H : Heap} {nx : Nat}
theorem FL.append : ∀ {us vs us' vs' : List AV}, FL H nx us vs → FL H nx us' vs' → FL H nx (us ++ us') (vs ++ vs')
  | _, _, _, _, .nil, k => k
  | _, _, _, _, .cons a b, k => .cons a (b.append k)
theorem FL.same : ∀ {l : List AV}, (∀ c ∈ l, Bel (· < nx) c) → FL H nx l l
  | [], _ => .nil
  | c :: r, h => .cons (.same _ (h c (by simp))) (FL.same fun x hx => h x (by simp [hx]))
theorem FL.get : ∀ {us vs : List AV}, FL H nx us vs → ∀ {j : Nat} {v : AV}, vs[j]? = some v → ∃ u, us[j]? = some u ∧ Frz H nx u v
  | _, _, .nil, j, v, h => by simp at h
  | _, _, .cons a b, 0, v, h => by simp at h; subst h; exact ⟨_, rfl, a⟩
  | _, _, .cons a b, j + 1, v, h => by simpa using b.get (j := j) (by simpa using h)
theorem FL.len : ∀ {us vs : List AV}, FL H nx us vs → us.length = vs.length
  | _, _, .nil => rfl
  | _, _, .cons a b => by simp [b.len]
theorem Frz.rowL {g off len sz : Nat} {cells : List AV} {xs : List (List AV)} (hg : nx ≤ g) (hH : H g = some (.row sz cells)) (hl : xs.length = len) (hs : ∀ x ∈ xs, x.length = sz) (hb : off + len * sz ≤ cells.length) (hc : FL H nx ((cells.drop off).take (len * sz)) xs.flatten) :
    Frz H nx (.slc g off len) (.ro xs) := by
  have key : ∀ (i : Nat) (x : List AV) (j : Nat) (v : AV), xs[i]? = some x → x[j]? = some v → ∃ u, cells[off + i * sz + j]? = some u ∧ Frz H nx u v := fun i x j v hx hv => by
    have e1 := zfb hs hx
    have hj : j < sz := by rw [← hs x (List.mem_of_getElem? hx)]; exact (List.getElem?_eq_some_iff.1 hv).1
    have hv2 : xs.flatten[i * sz + j]? = some v := by
      have e2 := congrArg (·[j]?) e1
      simp only [List.getElem?_take, List.getElem?_drop, hj, if_true] at e2
      rw [e2]; exact hv
    obtain ⟨u, q1, q2⟩ := hc.get hv2
    refine ⟨u, ?_, q2⟩
    rw [List.getElem?_take] at q1
    split at q1
    · rw [List.getElem?_drop] at q1; rw [Nat.add_assoc]; exact q1
    · cases q1
  refine .slc g off _ sz cells _ hg hH hb hl hs (fun i j => (cells[off + i * sz + j]?).getD .junk) (fun i x j v hx hv => ?_) (fun i x j v hx hv => ?_)
  · obtain ⟨u, q1, q2⟩ := key i x j v hx hv; rw [q1]; rfl
  · obtain ⟨u, q1, q2⟩ := key i x j v hx hv; rw [q1]; exact q2
theorem Frz.rowW {g len sz : Nat} {cells : List AV} {xs : List (List AV)} (hg : nx ≤ g) (hH : H g = some (.row sz cells)) (hl : xs.length = len) (hs : ∀ x ∈ xs, x.length = sz) (hc : FL H nx cells xs.flatten) : Frz H nx (.slc g 0 len) (.ro xs) := by
  have e : cells.length = len * sz := by rw [hc.len, zat hs, hl]
  refine .rowL hg hH hl hs (by omega) ?_
  rw [List.drop_zero, List.take_of_length_le (by omega)]; exact hc
theorem FL.agg {us vs : List AV} (h : FL H nx us vs) : Frz H nx (.agg us) (.agg vs) := by
  refine .agg _ _ h.len.symm fun j v u hv hu => ?_
  obtain ⟨w, q1, q2⟩ := h.get hu
  rw [hv] at q1; cases q1; exact q2
theorem FL.tup {us vs : List AV} (h : FL H nx us vs) : Frz H nx (.tup us) (.tup vs) := by
  refine .tup _ _ h.len.symm fun j v u hv hu => ?_
  obtain ⟨w, q1, q2⟩ := h.get hu
  rw [hv] at q1; cases q1; exact q2
end
end Go.Proofs.YtobioljjoipimaaDoor
set_option maxRecDepth 8000
namespace Go.Proofs.YtobioljjoipimaaDoor
open Go Go.RowKit
section
variable {H0 H : Heap} {nx n ga : Nat} {b : Agt} {s : Spt} {fs : List Frm} {f : Frm} {ins : List Val} {i : Ins} {g : Frm} {ia ib : Int}
theorem zahf {H : Heap} {nx g : Nat} {fs : List Frm} {f k : Frm} {va sa vb sb : AV} (hg : nx ≤ g) (h : H g = some (.row 4 ((fs.map Frm.avs).flatten ++ [.int .i64 f.fn, .int .i64 f.at_, va, sa] ++ [.int .i64 k.fn, .int .i64 k.at_, vb, sb]))) (h1 : Frz H nx va (.ro (f.vars.map Val.avs))) (h2 : Frz H nx sa (.ro (f.stack.map Val.avs)))
    (h3 : Frz H nx vb (.ro (k.vars.map Val.avs))) (h4 : Frz H nx sb (.ro (k.stack.map Val.avs))) : Frz H nx (.slc g 0 (fs.length + 1 + 1)) (.ro ((fs ++ [f] ++ [k]).map Frm.avs)) := by
  refine Frz.rowW hg h (by simp) (zcm _) ?_
  simp only [List.map_append, List.flatten_append]
  refine ((FL.same (zke fs)).append ?_).append ?_
  · exact .cons (.same _ (.int _ _)) (.cons (.same _ (.int _ _)) (.cons h1 (.cons h2 .nil)))
  · exact .cons (.same _ (.int _ _)) (.cons (.same _ (.int _ _)) (.cons h3 (.cons h4 .nil)))
set_option maxRecDepth 20000 in
set_option maxHeartbeats 1000000 in
theorem zagl (R : VSt H0 H nx n ga b s fs f ins ⟨17, ia, ib⟩) (hf : fs.length + 1 < 12) (h0 : 0 ≤ ia) {c : Cod} (hc : b.prog.codes[ia.toNat]? = some c) (hi : ins.length ≤ 4096) (hv : ins.length ≤ c.vars) (hm : c.vars ≤ 4096) : Then H0 H nx n ga b fs ins (VM.toF b (fs ++ [f]) ⟨ia, 0, ins ++ List.replicate (c.vars - ins.length).toNat VM.vzero, []⟩, VM.ev0) := by
  unfold Then
  have r0 := R.r0
  have r1 := R.r1
  have r4 := R.r4
  have r5 := R.r5
  have ri := R.ri
  have self := R.self
  have g1 := R.ga1
  have hf' : ¬ (12 : Int) ≤ (fs.length : Int) + 1 := by omega
  obtain ⟨hlt, hce⟩ := List.getElem?_eq_some_iff.1 hc
  have hlt' : ia < b.prog.codes.length := by omega
  have hw : IntKind.i64.wrap (c.vars - (ins.length : Int)) = c.vars - ins.length := i64w (by omega)
  have t2 : (rowV ins).take (ins.length * 3) = rowV ins := List.take_of_length_le (by simp)
  obtain ⟨k, hk⟩ : ∃ k : Nat, c.vars = ins.length + k := ⟨(c.vars - ins.length).toNat, by omega⟩
  have hkn : (c.vars - (ins.length : Int)).toNat = k := by omega
  have zs := zacv (zero := [.int .i64 0, .int .i64 0, .str []]) (k := .i64) (n := c.vars - ins.length) (by omega)
  rw [hkn] at zs
  have src : ∀ (H : Heap), zg 3 H (.ro (List.replicate k [.int .i64 0, .int .i64 0, .str []])) = some (k, rowV (List.replicate k VM.vzero), []) := fun H => by
    rw [zeg (by intro x hx; rw [List.eq_of_mem_replicate hx]; rfl)]; simp [rowV, VM.vzero, Val.avs]
  have ne_0 : nx ≠ nx + 1 ∧ nx + 1 ≠ nx ∧ nx ≠ nx + 4 ∧ nx + 4 ≠ nx ∧ nx ≠ nx + 5 ∧ nx + 5 ≠ nx ∧ nx ≠ nx + 7 ∧ nx + 7 ≠ nx ∧ nx ≠ nx + 9 ∧ nx + 9 ≠ nx ∧ nx + 1 ≠ nx + 4 ∧ nx + 4 ≠ nx + 1 ∧ nx + 1 ≠ nx + 5 ∧ nx + 5 ≠ nx + 1 ∧ nx + 1 ≠ nx + 7 ∧ nx + 7 ≠ nx + 1 ∧ nx + 1 ≠ nx + 9 ∧ nx + 9 ≠ nx + 1 ∧ nx + 4 ≠ nx + 5 ∧ nx + 5 ≠ nx + 4 ∧ nx + 4 ≠ nx + 7 ∧ nx + 7 ≠ nx + 4 ∧ nx + 4 ≠ nx + 9 ∧ nx + 9 ≠ nx + 4 ∧ nx + 5 ≠ nx + 7 ∧ nx + 7 ≠ nx + 5 ∧ nx + 5 ≠ nx + 9 ∧ nx + 9 ≠ nx + 5 ∧ nx + 7 ≠ nx + 9 ∧ nx + 9 ≠ nx + 7 ∧ nx ≠ n ∧ n ≠ nx ∧ nx + 1 ≠ n ∧ n ≠ nx + 1 ∧ nx + 4 ≠ n ∧ n ≠ nx + 4 ∧ nx + 5 ≠ n ∧ n ≠ nx + 5 ∧ nx + 7 ≠ n ∧ n ≠ nx + 7 ∧ nx + 9 ≠ n ∧ n ≠ nx + 9 := ⟨by omega, by omega, by omega, by omega, by omega, by omega, by omega, by omega, by omega, by omega, by omega, by omega, by omega, by omega, by omega, by omega, by omega, by omega, by omega, by omega, by omega, by omega, by omega, by omega, by omega, by omega, by omega, by omega, by omega, by omega, by omega, by omega, by omega, by omega, by omega, by omega, by omega, by omega, by omega, by omega, by omega, by omega⟩
  simp [ze, r0, zc, r4, r5, self, Ins.avs]
  refine JN.same ?_
  simp [zm]
  simp [zl]
  refine JN.same ?_
  simp [zw]
  simp [zu, r0, zc, r4, r5, Ins.avs, ri, hf', h0, hlt, hlt', hce, hw, t2, zs, src, CALL, Cod.avs, ne_0]
  refine ⟨fun x hx => zaj (zgq _ x hx), by omega, ?_⟩
  generalize hX : Heap.put _ n _ = HX
  have xk : ∀ g, g ≠ n → g ≠ nx + 7 → HX g = H g := fun g h1 h2 => by rw [← hX, Heap.put_ne _ _ h1, Heap.put_ne _ _ h2]
  have xn : HX n = some (.row 3 (rowV (ins ++ List.replicate k VM.vzero))) := by rw [← hX, Heap.put_at]; simp [rowV]
  refine zcf (nx := nx) (n := n + 1) (f := f) (by omega) R.hk (by omega) (by rw [xk ga (by omega) (by omega)]; exact R.ra) ⟨rfl, rfl, rfl, rfl⟩ (.row (by rw [xk _ (by omega) (by omega)]; exact R.rv) (by omega) (by omega)) (.row (by rw [xk _ (by omega) (by omega)]; exact R.rs) (by omega) (by omega)) (.ro (zab _)) fun H' n' g' h1 h2 kp hr gd => ?_
  have q0 : H' nx = some (.row 9 (zc b.id b.trip b.prog (.slc ga 0 (fs.length + 1)) (.ro (b.heap.map Cl.avs)) b.permit)) := by rw [kp _ (by omega), xk _ (by omega) (by omega)]; exact r0
  have q5 : H' (nx + 5) = some (.row 3 [.int .i64 17, .int .i64 ia, .int .i64 ib]) := by rw [kp _ (by omega), xk _ (by omega) (by omega)]; exact r5
  have hlf : ((fs.map Frm.avs).flatten).length = fs.length * 4 := by rw [zat (zcm fs)]; simp
  have tk : ((fs.map Frm.avs).flatten ++ [AV.int .i64 f.fn, .int .i64 f.at_, .slc (nx + 11) 0 f.vars.length, .slc (nx + 9) 0 f.stack.length]).take ((fs.length + 1) * 4) = (fs.map Frm.avs).flatten ++ [AV.int .i64 f.fn, .int .i64 f.at_, .slc (nx + 11) 0 f.vars.length, .slc (nx + 9) 0 f.stack.length] := List.take_of_length_le (by simp [hlf]; omega)
  obtain ⟨z, z1, z2⟩ := R.o.r2
  obtain ⟨y, y1, y2⟩ := R.o.r3
  have q2 : H' (nx + 2) = some (.row 9 z) := by rw [kp _ (by omega), xk _ (by omega) (by omega)]; exact z1
  have q3 : H' (nx + 3) = some (.row 3 y) := by rw [kp _ (by omega), xk _ (by omega) (by omega)]; exact y1
  have hle : fs.length * 4 + 4 = (fs.length + 1) * 4 := by omega
  have ne_1 : nx ≠ nx + 2 ∧ nx + 2 ≠ nx ∧ nx ≠ nx + 3 ∧ nx + 3 ≠ nx ∧ nx ≠ nx + 5 ∧ nx + 5 ≠ nx ∧ nx ≠ g' ∧ g' ≠ nx ∧ nx + 2 ≠ nx + 3 ∧ nx + 3 ≠ nx + 2 ∧ nx + 2 ≠ nx + 5 ∧ nx + 5 ≠ nx + 2 ∧ nx + 2 ≠ g' ∧ g' ≠ nx + 2 ∧ nx + 3 ≠ nx + 5 ∧ nx + 5 ≠ nx + 3 ∧ nx + 3 ≠ g' ∧ g' ≠ nx + 3 ∧ nx + 5 ≠ g' ∧ g' ≠ nx + 5 ∧ nx ≠ n' ∧ n' ≠ nx ∧ nx ≠ n' + 1 ∧ n' + 1 ≠ nx ∧ nx + 2 ≠ n' ∧ n' ≠ nx + 2 ∧ nx + 2 ≠ n' + 1 ∧ n' + 1 ≠ nx + 2 ∧ nx + 3 ≠ n' ∧ n' ≠ nx + 3 ∧ nx + 3 ≠ n' + 1 ∧ n' + 1 ≠ nx + 3 ∧ nx + 5 ≠ n' ∧ n' ≠ nx + 5 ∧ nx + 5 ≠ n' + 1 ∧ n' + 1 ≠ nx + 5 ∧ g' ≠ n' ∧ n' ≠ g' ∧ g' ≠ n' + 1 ∧ n' + 1 ≠ g' := ⟨by omega, by omega, by omega, by omega, by omega, by omega, by omega, by omega, by omega, by omega, by omega, by omega, by omega, by omega, by omega, by omega, by omega, by omega, by omega, by omega, by omega, by omega, by omega, by omega, by omega, by omega, by omega, by omega, by omega, by omega, by omega, by omega, by omega, by omega, by omega, by omega, by omega, by omega, by omega, by omega⟩
  simp [zjf, q0, q5, q2, q3, z2, y2, hr, tk, hlf, hle, zc, CALL, ne_1]
  refine ⟨by omega, ?_⟩
  generalize hF : Heap.put _ (nx + 3) _ = HF
  have fk : ∀ g, g ≠ nx → g ≠ n' → g ≠ g' → g ≠ n' + 1 → g ≠ nx + 2 → g ≠ nx + 3 → HF g = H' g := fun g h1 h2 h3 h4 h5 h6 => by
    rw [← hF, Heap.put_ne _ _ h6, Heap.put_ne _ _ h5, Heap.put_ne _ _ h1, Heap.put_ne _ _ h4, Heap.put_ne _ _ h3, Heap.put_ne _ _ h2, Heap.put_ne _ _ h1]
  have ff : HF (n' + 1) = some (.row 4 ((fs.map Frm.avs).flatten ++ [.int .i64 f.fn, .int .i64 f.at_, .slc (nx + 11) 0 f.vars.length, .slc (nx + 9) 0 f.stack.length] ++ [.int .i64 ia, .int .i64 0, .slc n 0 (ins.length + k), .nils])) := by
    rw [← hF, Heap.put_ne _ _ (by omega), Heap.put_ne _ _ (by omega), Heap.put_ne _ _ (by omega), Heap.put_at]; simp
  have ek : c.vars.toNat - ins.length = k := by omega
  rw [ek]
  have fo : ∀ g, nx + 4 ≤ g → g < n + 1 → g ≠ nx + 7 → g ≠ n → HF g = H g := fun g h3 h4 h5 h6 => by
    rw [fk g (by omega) (by omega) (by omega) (by omega) (by omega) (by omega), kp g (by omega), xk g (by omega) (by omega)]
  have fn : HF n = some (.row 3 (rowV (ins ++ List.replicate k VM.vzero))) := by
    rw [fk n (by omega) (by omega) (by omega) (by omega) (by omega) (by omega), kp n (by omega)]; exact xn
  refine zfy.of ⟨_, rfl, rfl, fun x hx => ?_, ?_, fun H2 hk => ?_⟩ rfl fun g hg => ?_
  · simp at hx
    rcases hx with rfl | rfl | rfl | rfl | rfl | rfl | rfl | rfl | rfl <;> rfl
  · simp
  · have v1 : H2 (nx + 11) = some (.row 3 (rowV f.vars)) := by rw [hk _ (by omega), fo _ (by omega) (by omega) (by omega) (by omega)]; exact R.rv
    have v2 : H2 (nx + 9) = some (.row 3 (rowV f.stack)) := by rw [hk _ (by omega), fo _ (by omega) (by omega) (by omega) (by omega)]; exact R.rs
    have v3 := zsc (nx := nx) ((hk n (by omega)).trans fn) (by omega)
    have v4 := zahf (nx := nx) (k := ⟨ia, 0, ins ++ List.replicate k VM.vzero, []⟩) (by omega) ((hk (n' + 1) (by omega)).trans ff) (zsc v1 (by omega)) (zsc v2 (by omega)) (by simpa using v3) .nils
    exact zdo (fs := fs ++ [f] ++ [⟨ia, 0, ins ++ List.replicate k VM.vzero, []⟩]) (m := b.permit) v4 (.same _ (zcr (zab _)))
  · rw [fk g (by omega) (by omega) (by omega) (by omega) (by omega) (by omega), kp g (by omega), xk g (by omega) (by omega)]; exact R.o.keep g hg
end
end Go.Proofs.YtobioljjoipimaaDoor
set_option maxRecDepth 8000
namespace Go.Proofs.YtobioljjoipimaaDoor
open Go Go.RowKit
section
variable {H0 H : Heap} {nx n ga : Nat} {b : Agt} {s : Spt} {fs : List Frm} {f : Frm} {ins : List Val} {i : Ins} {g : Frm} {ia ib : Int}
set_option maxRecDepth 20000 in
set_option maxHeartbeats 1000000 in
theorem zadn (R : VSt H0 H nx n ga b s fs f ins ⟨18, ia, ib⟩) {x : Val} (hi : ins = [x]) (hc : zgm b.heap) (hx : VM.WrongOk x b.heap.length) (hf : fs = []) : Then H0 H nx n ga b fs ins ({ b with frames := [] }, ⟨4, VM.vshow b.heap 4 x, 0⟩) := by
  unfold Then
  have r0 := R.r0
  have r1 := R.r1
  have r4 := R.r4
  have r5 := R.r5
  have ri := R.ri
  have self := R.self
  have g1 := R.ga1
  subst hi
  have ri' : H (nx + 7) = some (.row 3 [.int .i64 x.kind, .int .i64 x.n, .str x.text]) := by rw [ri, zbo]; rfl
  subst hf
  have ra := R.ra
  have w0 : IntKind.i64.wrap (0 : Int) = 0 := rfl
  have gn : ga ≠ n := by omega
  have ne_0 : nx ≠ nx + 1 ∧ nx + 1 ≠ nx ∧ nx ≠ nx + 2 ∧ nx + 2 ≠ nx ∧ nx ≠ nx + 3 ∧ nx + 3 ≠ nx ∧ nx ≠ nx + 4 ∧ nx + 4 ≠ nx ∧ nx ≠ nx + 5 ∧ nx + 5 ≠ nx ∧ nx ≠ nx + 7 ∧ nx + 7 ≠ nx ∧ nx + 1 ≠ nx + 2 ∧ nx + 2 ≠ nx + 1 ∧ nx + 1 ≠ nx + 3 ∧ nx + 3 ≠ nx + 1 ∧ nx + 1 ≠ nx + 4 ∧ nx + 4 ≠ nx + 1 ∧ nx + 1 ≠ nx + 5 ∧ nx + 5 ≠ nx + 1 ∧ nx + 1 ≠ nx + 7 ∧ nx + 7 ≠ nx + 1 ∧ nx + 2 ≠ nx + 3 ∧ nx + 3 ≠ nx + 2 ∧ nx + 2 ≠ nx + 4 ∧ nx + 4 ≠ nx + 2 ∧ nx + 2 ≠ nx + 5 ∧ nx + 5 ≠ nx + 2 ∧ nx + 2 ≠ nx + 7 ∧ nx + 7 ≠ nx + 2 ∧ nx + 3 ≠ nx + 4 ∧ nx + 4 ≠ nx + 3 ∧ nx + 3 ≠ nx + 5 ∧ nx + 5 ≠ nx + 3 ∧ nx + 3 ≠ nx + 7 ∧ nx + 7 ≠ nx + 3 ∧ nx + 4 ≠ nx + 5 ∧ nx + 5 ≠ nx + 4 ∧ nx + 4 ≠ nx + 7 ∧ nx + 7 ≠ nx + 4 ∧ nx + 5 ≠ nx + 7 ∧ nx + 7 ≠ nx + 5 ∧ nx ≠ n ∧ n ≠ nx ∧ nx ≠ n + 1 ∧ n + 1 ≠ nx ∧ nx ≠ n + 2 ∧ n + 2 ≠ nx ∧ nx ≠ n + 3 ∧ n + 3 ≠ nx ∧ nx ≠ n + 4 ∧ n + 4 ≠ nx ∧ nx ≠ n + 5 ∧ n + 5 ≠ nx ∧ nx ≠ n + 6 ∧ n + 6 ≠ nx ∧ nx ≠ ga ∧ ga ≠ nx ∧ nx + 1 ≠ n ∧ n ≠ nx + 1 ∧ nx + 1 ≠ n + 1 ∧ n + 1 ≠ nx + 1 ∧ nx + 1 ≠ n + 2 ∧ n + 2 ≠ nx + 1 ∧ nx + 1 ≠ n + 3 ∧ n + 3 ≠ nx + 1 ∧ nx + 1 ≠ n + 4 ∧ n + 4 ≠ nx + 1 ∧ nx + 1 ≠ n + 5 ∧ n + 5 ≠ nx + 1 ∧ nx + 1 ≠ n + 6 ∧ n + 6 ≠ nx + 1 ∧ nx + 1 ≠ ga ∧ ga ≠ nx + 1 ∧ nx + 2 ≠ n ∧ n ≠ nx + 2 ∧ nx + 2 ≠ n + 1 ∧ n + 1 ≠ nx + 2 ∧ nx + 2 ≠ n + 2 ∧ n + 2 ≠ nx + 2 ∧ nx + 2 ≠ n + 3 ∧ n + 3 ≠ nx + 2 ∧ nx + 2 ≠ n + 4 ∧ n + 4 ≠ nx + 2 ∧ nx + 2 ≠ n + 5 ∧ n + 5 ≠ nx + 2 ∧ nx + 2 ≠ n + 6 ∧ n + 6 ≠ nx + 2 ∧ nx + 2 ≠ ga ∧ ga ≠ nx + 2 ∧ nx + 3 ≠ n ∧ n ≠ nx + 3 ∧ nx + 3 ≠ n + 1 ∧ n + 1 ≠ nx + 3 ∧ nx + 3 ≠ n + 2 ∧ n + 2 ≠ nx + 3 ∧ nx + 3 ≠ n + 3 ∧ n + 3 ≠ nx + 3 ∧ nx + 3 ≠ n + 4 ∧ n + 4 ≠ nx + 3 ∧ nx + 3 ≠ n + 5 ∧ n + 5 ≠ nx + 3 ∧ nx + 3 ≠ n + 6 ∧ n + 6 ≠ nx + 3 ∧ nx + 3 ≠ ga ∧ ga ≠ nx + 3 ∧ nx + 4 ≠ n ∧ n ≠ nx + 4 ∧ nx + 4 ≠ n + 1 ∧ n + 1 ≠ nx + 4 ∧ nx + 4 ≠ n + 2 ∧ n + 2 ≠ nx + 4 ∧ nx + 4 ≠ n + 3 ∧ n + 3 ≠ nx + 4 ∧ nx + 4 ≠ n + 4 ∧ n + 4 ≠ nx + 4 ∧ nx + 4 ≠ n + 5 ∧ n + 5 ≠ nx + 4 ∧ nx + 4 ≠ n + 6 ∧ n + 6 ≠ nx + 4 ∧ nx + 4 ≠ ga ∧ ga ≠ nx + 4 ∧ nx + 5 ≠ n ∧ n ≠ nx + 5 ∧ nx + 5 ≠ n + 1 ∧ n + 1 ≠ nx + 5 ∧ nx + 5 ≠ n + 2 ∧ n + 2 ≠ nx + 5 ∧ nx + 5 ≠ n + 3 ∧ n + 3 ≠ nx + 5 ∧ nx + 5 ≠ n + 4 ∧ n + 4 ≠ nx + 5 ∧ nx + 5 ≠ n + 5 ∧ n + 5 ≠ nx + 5 ∧ nx + 5 ≠ n + 6 ∧ n + 6 ≠ nx + 5 ∧ nx + 5 ≠ ga ∧ ga ≠ nx + 5 ∧ nx + 7 ≠ n ∧ n ≠ nx + 7 ∧ nx + 7 ≠ n + 1 ∧ n + 1 ≠ nx + 7 ∧ nx + 7 ≠ n + 2 ∧ n + 2 ≠ nx + 7 ∧ nx + 7 ≠ n + 3 ∧ n + 3 ≠ nx + 7 ∧ nx + 7 ≠ n + 4 ∧ n + 4 ≠ nx + 7 ∧ nx + 7 ≠ n + 5 ∧ n + 5 ≠ nx + 7 ∧ nx + 7 ≠ n + 6 ∧ n + 6 ≠ nx + 7 ∧ nx + 7 ≠ ga ∧ ga ≠ nx + 7 := ⟨by omega, by omega, by omega, by omega, by omega, by omega, by omega, by omega, by omega, by omega, by omega, by omega, by omega, by omega, by omega, by omega, by omega, by omega, by omega, by omega, by omega, by omega, by omega, by omega, by omega, by omega, by omega, by omega, by omega, by omega, by omega, by omega, by omega, by omega, by omega, by omega, by omega, by omega, by omega, by omega, by omega, by omega, by omega, by omega, by omega, by omega, by omega, by omega, by omega, by omega, by omega, by omega, by omega, by omega, by omega, by omega, by omega, by omega, by omega, by omega, by omega, by omega, by omega, by omega, by omega, by omega, by omega, by omega, by omega, by omega, by omega, by omega, by omega, by omega, by omega, by omega, by omega, by omega, by omega, by omega, by omega, by omega, by omega, by omega, by omega, by omega, by omega, by omega, by omega, by omega, by omega, by omega, by omega, by omega, by omega, by omega, by omega, by omega, by omega, by omega, by omega, by omega, by omega, by omega, by omega, by omega, by omega, by omega, by omega, by omega, by omega, by omega, by omega, by omega, by omega, by omega, by omega, by omega, by omega, by omega, by omega, by omega, by omega, by omega, by omega, by omega, by omega, by omega, by omega, by omega, by omega, by omega, by omega, by omega, by omega, by omega, by omega, by omega, by omega, by omega, by omega, by omega, by omega, by omega, by omega, by omega, by omega, by omega, by omega, by omega, by omega, by omega, by omega, by omega⟩
  simp [ze, r0, zc, r4, r5, self, Ins.avs]
  refine JN.same ?_
  simp [zm]
  simp [zl]
  refine JN.same ?_
  simp [zw]
  simp [zu, r0, zc, r4, r5, Ins.avs, ri', ra, gn, w0, CALL, ne_0]
  obtain ⟨z, z1, z2⟩ := R.o.r2
  obtain ⟨y, y1, y2⟩ := R.o.r3
  refine zx.of_qc (zma hc 4 x 4 hx rfl (by omega) (by omega)) (.str _) ?_
  simp [zje, z1, y1, z2, y2, ne_0]
  generalize hF : Heap.put _ (nx + 3) _ = HF
  have fk : ∀ g, g ≠ nx → g ≠ n → g ≠ n + 1 → g ≠ nx + 2 → g ≠ nx + 3 → HF g = H g := fun g h1 h2 h4 h5 h6 => by
    rw [← hF, Heap.put_ne _ _ h6, Heap.put_ne _ _ h5, Heap.put_ne _ _ h1, Heap.put_ne _ _ h4, Heap.put_ne _ _ h2, Heap.put_ne _ _ h1]
  have fn : HF (n + 1) = some (.row 4 []) := by rw [← hF, Heap.put_ne _ _ (by omega), Heap.put_ne _ _ (by omega), Heap.put_ne _ _ (by omega), Heap.put_at]
  refine zfy.of ⟨_, rfl, rfl, fun x hx => ?_, ?_, fun H2 hk => ?_⟩ rfl fun g hg => ?_
  · simp at hx
    rcases hx with rfl | rfl | rfl | rfl | rfl | rfl | rfl | rfl | rfl <;> rfl
  · simp
  · exact zdo (fs := []) (m := b.permit) (Frz.rowW (by omega) ((hk _ (by omega)).trans fn) rfl (by simp) .nil) (.same _ (zcr (zab _)))
  · rw [fk g (by omega) (by omega) (by omega) (by omega) (by omega)]; exact R.o.keep g hg
set_option maxRecDepth 20000 in
set_option maxHeartbeats 1000000 in
theorem zagk (R : VSt H0 H nx n ga b s (fs ++ [g]) f ins ⟨18, ia, ib⟩) {x : Val} (hi : ins = [x]) (hgs : g.stack.length ≤ 4096) : Then H0 H nx n ga b (fs ++ [g]) ins (VM.push b fs g g.stack x) := by
  unfold Then
  have r0 := R.r0
  have r1 := R.r1
  have r4 := R.r4
  have r5 := R.r5
  have ri := R.ri
  have self := R.self
  have g1 := R.ga1
  subst hi
  have ri' : H (nx + 7) = some (.row 3 [.int .i64 x.kind, .int .i64 x.n, .str x.text]) := by rw [ri, zbo]; rfl
  have ra := R.ra
  have gn : ga ≠ n := by omega
  have hkk := R.hk
  have hlf : ((fs.map Frm.avs).flatten).length = fs.length * 4 := by rw [zat (zcm fs)]; simp
  simp at hkk ra
  have hw : IntKind.i64.wrap ((fs.length : Int) + 1) = fs.length + 1 := i64w (by omega)
  have hw2 : IntKind.i64.wrap (fs.length : Int) = fs.length := i64w (by omega)
  have hst : g.stack.length ≤ 4096 := hgs
  have f1 : ∀ x ∈ (fs.map Frm.avs).flatten, x.one = true := fun x hx => by
    obtain ⟨l, hl, hxl⟩ := List.mem_flatten.1 hx
    exact oneF fs l hl x hxl
  have f2 := FL.same (H := fun _ => none) (nx := nx) (zke fs)
  have f3 := zke (A := fun g => g < nx) fs
  generalize hFF : (fs.map Frm.avs).flatten = F at *
  have tk : (F ++ (g.avs ++ [AV.int .i64 f.fn, .int .i64 f.at_, .slc (nx + 11) 0 f.vars.length, .slc (nx + 9) 0 f.stack.length])).take ((fs.length + 1) * 4) = F ++ g.avs := by
    rw [← List.append_assoc, List.take_append_of_le_length (by simp [hlf, Frm.avs]; omega), List.take_of_length_le (by simp [hlf, Frm.avs]; omega)]
  have tk2 : (F ++ g.avs).take ((fs.length + 1) * 4) = F ++ g.avs := List.take_of_length_le (by simp [hlf, Frm.avs]; omega)
  have tk3 : ((F ++ g.avs).drop (fs.length * 4)).take 4 = g.avs := by rw [← hlf, List.drop_left]; rfl
  have gl : g.avs.length = 4 := rfl
  have hmin : min 4 (F.length + 4 - fs.length * 4) = 4 := by omega
  have e4 : List.drop 4 [AV.int .i64 0, .int .i64 0, .nils, .nils] = [] := rfl
  have g3 : g.avs[3]'(by rw [gl]; omega) = .ro (g.stack.map Val.avs) := rfl
  have gt : g.avs.take 3 = [.int .i64 g.fn, .int .i64 g.at_, .ro (g.vars.map Val.avs)] := rfl
  have gd : g.avs.drop 4 = [] := rfl
  have tks : (rowV g.stack).take (g.stack.length * 3) = rowV g.stack := List.take_of_length_le (by simp)
  have e1 : ∀ x ∈ g.avs, x.one = true := oneF [g] g.avs (by simp)
  have src : ∀ (H : Heap), zg 3 H (.ro (g.stack.map Val.avs)) = some (g.stack.length, rowV g.stack, []) := fun H => by rw [zeg (zdt g.stack)]; simp [rowV]
  have ne_1 : nx ≠ nx + 1 ∧ nx + 1 ≠ nx ∧ nx ≠ nx + 2 ∧ nx + 2 ≠ nx ∧ nx ≠ nx + 3 ∧ nx + 3 ≠ nx ∧ nx ≠ nx + 4 ∧ nx + 4 ≠ nx ∧ nx ≠ nx + 5 ∧ nx + 5 ≠ nx ∧ nx ≠ nx + 7 ∧ nx + 7 ≠ nx ∧ nx + 1 ≠ nx + 2 ∧ nx + 2 ≠ nx + 1 ∧ nx + 1 ≠ nx + 3 ∧ nx + 3 ≠ nx + 1 ∧ nx + 1 ≠ nx + 4 ∧ nx + 4 ≠ nx + 1 ∧ nx + 1 ≠ nx + 5 ∧ nx + 5 ≠ nx + 1 ∧ nx + 1 ≠ nx + 7 ∧ nx + 7 ≠ nx + 1 ∧ nx + 2 ≠ nx + 3 ∧ nx + 3 ≠ nx + 2 ∧ nx + 2 ≠ nx + 4 ∧ nx + 4 ≠ nx + 2 ∧ nx + 2 ≠ nx + 5 ∧ nx + 5 ≠ nx + 2 ∧ nx + 2 ≠ nx + 7 ∧ nx + 7 ≠ nx + 2 ∧ nx + 3 ≠ nx + 4 ∧ nx + 4 ≠ nx + 3 ∧ nx + 3 ≠ nx + 5 ∧ nx + 5 ≠ nx + 3 ∧ nx + 3 ≠ nx + 7 ∧ nx + 7 ≠ nx + 3 ∧ nx + 4 ≠ nx + 5 ∧ nx + 5 ≠ nx + 4 ∧ nx + 4 ≠ nx + 7 ∧ nx + 7 ≠ nx + 4 ∧ nx + 5 ≠ nx + 7 ∧ nx + 7 ≠ nx + 5 ∧ nx ≠ n ∧ n ≠ nx ∧ nx ≠ n + 1 ∧ n + 1 ≠ nx ∧ nx ≠ n + 2 ∧ n + 2 ≠ nx ∧ nx ≠ n + 3 ∧ n + 3 ≠ nx ∧ nx ≠ n + 4 ∧ n + 4 ≠ nx ∧ nx ≠ n + 5 ∧ n + 5 ≠ nx ∧ nx ≠ n + 6 ∧ n + 6 ≠ nx ∧ nx ≠ ga ∧ ga ≠ nx ∧ nx + 1 ≠ n ∧ n ≠ nx + 1 ∧ nx + 1 ≠ n + 1 ∧ n + 1 ≠ nx + 1 ∧ nx + 1 ≠ n + 2 ∧ n + 2 ≠ nx + 1 ∧ nx + 1 ≠ n + 3 ∧ n + 3 ≠ nx + 1 ∧ nx + 1 ≠ n + 4 ∧ n + 4 ≠ nx + 1 ∧ nx + 1 ≠ n + 5 ∧ n + 5 ≠ nx + 1 ∧ nx + 1 ≠ n + 6 ∧ n + 6 ≠ nx + 1 ∧ nx + 1 ≠ ga ∧ ga ≠ nx + 1 ∧ nx + 2 ≠ n ∧ n ≠ nx + 2 ∧ nx + 2 ≠ n + 1 ∧ n + 1 ≠ nx + 2 ∧ nx + 2 ≠ n + 2 ∧ n + 2 ≠ nx + 2 ∧ nx + 2 ≠ n + 3 ∧ n + 3 ≠ nx + 2 ∧ nx + 2 ≠ n + 4 ∧ n + 4 ≠ nx + 2 ∧ nx + 2 ≠ n + 5 ∧ n + 5 ≠ nx + 2 ∧ nx + 2 ≠ n + 6 ∧ n + 6 ≠ nx + 2 ∧ nx + 2 ≠ ga ∧ ga ≠ nx + 2 ∧ nx + 3 ≠ n ∧ n ≠ nx + 3 ∧ nx + 3 ≠ n + 1 ∧ n + 1 ≠ nx + 3 ∧ nx + 3 ≠ n + 2 ∧ n + 2 ≠ nx + 3 ∧ nx + 3 ≠ n + 3 ∧ n + 3 ≠ nx + 3 ∧ nx + 3 ≠ n + 4 ∧ n + 4 ≠ nx + 3 ∧ nx + 3 ≠ n + 5 ∧ n + 5 ≠ nx + 3 ∧ nx + 3 ≠ n + 6 ∧ n + 6 ≠ nx + 3 ∧ nx + 3 ≠ ga ∧ ga ≠ nx + 3 ∧ nx + 4 ≠ n ∧ n ≠ nx + 4 ∧ nx + 4 ≠ n + 1 ∧ n + 1 ≠ nx + 4 ∧ nx + 4 ≠ n + 2 ∧ n + 2 ≠ nx + 4 ∧ nx + 4 ≠ n + 3 ∧ n + 3 ≠ nx + 4 ∧ nx + 4 ≠ n + 4 ∧ n + 4 ≠ nx + 4 ∧ nx + 4 ≠ n + 5 ∧ n + 5 ≠ nx + 4 ∧ nx + 4 ≠ n + 6 ∧ n + 6 ≠ nx + 4 ∧ nx + 4 ≠ ga ∧ ga ≠ nx + 4 ∧ nx + 5 ≠ n ∧ n ≠ nx + 5 ∧ nx + 5 ≠ n + 1 ∧ n + 1 ≠ nx + 5 ∧ nx + 5 ≠ n + 2 ∧ n + 2 ≠ nx + 5 ∧ nx + 5 ≠ n + 3 ∧ n + 3 ≠ nx + 5 ∧ nx + 5 ≠ n + 4 ∧ n + 4 ≠ nx + 5 ∧ nx + 5 ≠ n + 5 ∧ n + 5 ≠ nx + 5 ∧ nx + 5 ≠ n + 6 ∧ n + 6 ≠ nx + 5 ∧ nx + 5 ≠ ga ∧ ga ≠ nx + 5 ∧ nx + 7 ≠ n ∧ n ≠ nx + 7 ∧ nx + 7 ≠ n + 1 ∧ n + 1 ≠ nx + 7 ∧ nx + 7 ≠ n + 2 ∧ n + 2 ≠ nx + 7 ∧ nx + 7 ≠ n + 3 ∧ n + 3 ≠ nx + 7 ∧ nx + 7 ≠ n + 4 ∧ n + 4 ≠ nx + 7 ∧ nx + 7 ≠ n + 5 ∧ n + 5 ≠ nx + 7 ∧ nx + 7 ≠ n + 6 ∧ n + 6 ≠ nx + 7 ∧ nx + 7 ≠ ga ∧ ga ≠ nx + 7 := ⟨by omega, by omega, by omega, by omega, by omega, by omega, by omega, by omega, by omega, by omega, by omega, by omega, by omega, by omega, by omega, by omega, by omega, by omega, by omega, by omega, by omega, by omega, by omega, by omega, by omega, by omega, by omega, by omega, by omega, by omega, by omega, by omega, by omega, by omega, by omega, by omega, by omega, by omega, by omega, by omega, by omega, by omega, by omega, by omega, by omega, by omega, by omega, by omega, by omega, by omega, by omega, by omega, by omega, by omega, by omega, by omega, by omega, by omega, by omega, by omega, by omega, by omega, by omega, by omega, by omega, by omega, by omega, by omega, by omega, by omega, by omega, by omega, by omega, by omega, by omega, by omega, by omega, by omega, by omega, by omega, by omega, by omega, by omega, by omega, by omega, by omega, by omega, by omega, by omega, by omega, by omega, by omega, by omega, by omega, by omega, by omega, by omega, by omega, by omega, by omega, by omega, by omega, by omega, by omega, by omega, by omega, by omega, by omega, by omega, by omega, by omega, by omega, by omega, by omega, by omega, by omega, by omega, by omega, by omega, by omega, by omega, by omega, by omega, by omega, by omega, by omega, by omega, by omega, by omega, by omega, by omega, by omega, by omega, by omega, by omega, by omega, by omega, by omega, by omega, by omega, by omega, by omega, by omega, by omega, by omega, by omega, by omega, by omega, by omega, by omega, by omega, by omega, by omega, by omega⟩
  simp [ze, r0, zc, r4, r5, self, Ins.avs]
  refine JN.same ?_
  simp [zm]
  simp [zl]
  refine JN.same ?_
  simp [zw]
  simp [zu, r0, zc, r4, r5, Ins.avs, ri', ra, gn, hw, hw2, tk, tk2, tk3, gl, src, hmin, e4, g3, gt, gd, tks, CALL, ne_1]
  refine ⟨by omega, by omega, by omega, fun x hx => hx.elim (f1 x) (e1 x), by omega, by omega, by omega, e1, fun c hc => zaj (zgq _ c hc), by omega, by omega, ?_⟩
  generalize hX : Heap.put _ (n + 1 + 1) _ = HX
  have xk : ∀ g, g < n → g ≠ nx → HX g = H g := fun g h1 h2 => by
    rw [← hX, Heap.put_ne _ _ (by omega), Heap.put_ne _ _ (by omega), Heap.put_ne _ _ (by omega), Heap.put_ne _ _ (by omega), Heap.put_ne _ _ (by omega), Heap.put_ne _ _ (by omega), Heap.put_ne _ _ (by omega), Heap.put_ne _ _ h2, Heap.put_ne _ _ (by omega), Heap.put_ne _ _ (by omega), Heap.put_ne _ _ h2]
  have x1 : HX (n + 1) = some (.row 4 (F ++ g.avs)) := by
    rw [← hX, Heap.put_ne _ _ (by omega), Heap.put_ne _ _ (by omega), Heap.put_ne _ _ (by omega), Heap.put_ne _ _ (by omega), Heap.put_ne _ _ (by omega), Heap.put_ne _ _ (by omega), Heap.put_ne _ _ (by omega), Heap.put_ne _ _ (by omega), Heap.put_at]
  have x2 : HX (n + 1 + 1 + 2 + 1 + 1) = some (.row 3 (rowV (g.stack ++ [x]))) := by
    rw [← hX, Heap.put_ne _ _ (by omega), Heap.put_at, zom]; rfl
  have x0 : HX nx = some (.row 9 (zc b.id b.trip b.prog (.slc (n + 1) 0 (fs.length + 1)) (.ro (b.heap.map Cl.avs)) b.permit)) := by
    rw [← hX, Heap.put_ne _ _ (by omega), Heap.put_ne _ _ (by omega), Heap.put_ne _ _ (by omega), Heap.put_ne _ _ (by omega), Heap.put_ne _ _ (by omega), Heap.put_ne _ _ (by omega), Heap.put_ne _ _ (by omega), Heap.put_at]; rfl
  have ps := Part.row (nx := nx) (n := n + 7) x2 (by omega) (by omega)
  refine zcf (nx := nx) (n := n + 7) (fs := fs) (f := { g with stack := g.stack ++ [x] }) (by omega) (by omega) (by omega) (by rw [x1, hFF]; rfl) ⟨rfl, rfl, rfl, rfl⟩ (.ro (zcw _)) (by simpa using ps) (.ro (zab _)) fun H' n' g' h1 h2 kp hr gd => ?_
  exact ret (r := VM.push b fs g g.stack x) gd (R.o.more fun g hg h1 _ => by rw [kp g (by omega), xk g (by omega) h1])
end
end Go.Proofs.YtobioljjoipimaaDoor
set_option maxRecDepth 8000
namespace Go.Proofs.YtobioljjoipimaaDoor
open Go Go.RowKit
theorem ziu (st : List Val) : VM.low 0 st = st := by simp [VM.low]
theorem zjy {st : List Val} (h : 1 ≤ st.length) : st.drop (st.length - 1) = [VM.top1 st] := by
  have e := zabj h
  have hl : (VM.low 1 st).length = st.length - 1 := VM.low_len 1 st
  have : st.drop (st.length - 1) = (VM.low 1 st ++ [VM.top1 st]).drop (VM.low 1 st).length := by rw [← e, hl]
  rw [this, List.drop_left]
theorem zvf {st : List Val} (h : 2 ≤ st.length) : st.drop (st.length - 2) = [VM.top2 st, VM.top1 st] := by
  have e := zahz h
  have hl : (VM.low 2 st).length = st.length - 2 := VM.low_len 2 st
  have : st.drop (st.length - 2) = (VM.low 2 st ++ [VM.top2 st, VM.top1 st]).drop (VM.low 2 st).length := by rw [← e, hl]
  rw [this, List.drop_left]
section
variable {H0 H : Heap} {nx n ga : Nat} {a : Agt} {s : Spt} {fs : List Frm} {f : Frm}
theorem zadr {b : Agt} {f' : Frm} {ia ib : Int} {ins : List Val} {x : Val} (R : VSt H0 H nx n ga b s fs f' ins ⟨13, ia, ib⟩) (hin : ins = [x]) (hfacts : s.facts.length ≤ 4611686018427387903) (h0 : 0 ≤ b.permit.hops) (hm : b.permit.hops ≤ 4096) :
    Then H0 H nx n ga b fs ins (if x.kind ≠ 1 then (VM.toF b fs f', VM.dead 11) else if b.permit.hops = 0 then VM.push b fs f' f'.stack VM.vzero else (VM.toF { b with permit := { b.permit with hops := b.permit.hops - 1 } } fs f', ⟨3, x.text, 0⟩)) := by
  by_cases hk : x.kind = 1
  · rw [if_neg (by simpa using hk)]
    by_cases hh : b.permit.hops = 0
    · rw [if_pos hh]; exact zadp R hin hk hh hfacts
    · rw [if_neg hh]; exact zagp R hin hk (by omega) hm
  · rw [if_pos hk]; exact zadq R hin hk
set_option maxHeartbeats 4000000 in
theorem zadm (l : VM.Live a fs f) (hname : s.name.length ≤ maxLen) (hfacts : s.facts.length ≤ 4611686018427387903) {ins : List Val} {f' : Frm} {b : Agt} {i : Ins} (hi' : i = VM.insAt a.prog f) (hb' : b = { a with permit := { a.permit with fuel := a.permit.fuel - 1 } })
    (hf' : f' = { f with at_ := f.at_ + 1, stack := VM.low (VM.effect i).1.toNat f.stack }) (hin : ins = f.stack.drop (f.stack.length - (VM.effect i).1.toNat)) (R : VSt H0 H nx n ga b s fs f' ins i) :
    Then H0 H nx n ga b fs ins (VM.opDo b s fs { f with at_ := f.at_ + 1 } i) := by
  have flen := l.flen
  have ok := l.ok f (by simp)
  have nw := l.now
  rw [← hi'] at nw
  clear hi'
  obtain ⟨iop, ia, ib⟩ := i
  have hins := nw.at_
  obtain ⟨o1, o2, o3, o4⟩ := VM.numbers_ok nw.num
  have pops := nw.pops
  have slen := zjx l
  obtain ⟨crange, _, _⟩ := (zz l.prog).1 _ (VM.code_mem ok.code)
  unfold VM.codeRange at crange
  rw [decide_eq_false_iff_not] at crange
  have b1 := l.fuel
  have b2 := l.room
  have b3 := l.hops
  have b4 := l.hlen
  have oc : zgm a.heap := l.cells
  have m1 : 1 ≤ f.stack.length → VM.WrongOk (VM.top1 f.stack) a.heap.length := fun h => ok.sv _ (VM.top1_mem h)
  have m2 : 2 ≤ f.stack.length → VM.WrongOk (VM.top2 f.stack) a.heap.length := fun h => ok.sv _ (VM.top2_mem h)
  have hcell : ∀ x : Val, VM.WrongOk x a.heap.length → x.kind = 2 → 0 ≤ x.n ∧ a.heap[x.n.toNat]? = some (a.heap.getD x.n.toNat VM.cl0) := fun x hx hk => by
    obtain ⟨w1, w2⟩ := hx.cell hk
    refine ⟨w1, ?_⟩
    rw [List.getD_eq_getElem?_getD, List.getElem?_eq_getElem (by omega)]; rfl
  simp only at o1 o2 o3 o4 pops
  have hop : iop = 1 ∨ iop = 2 ∨ iop = 3 ∨ iop = 4 ∨ iop = 5 ∨ iop = 6 ∨ iop = 7 ∨ iop = 8 ∨ iop = 9 ∨ iop = 10 ∨ iop = 11 ∨ iop = 12 ∨ iop = 13 ∨ iop = 14 ∨ iop = 15 ∨ iop = 16 ∨ iop = 17 ∨ iop = 18 ∨ iop = 19 := by omega
  rcases hop with rfl | rfl | rfl | rfl | rfl | rfl | rfl | rfl | rfl | rfl | rfl | rfl | rfl | rfl | rfl | rfl | rfl | rfl | rfl
  · -- 1
    rw [show (VM.effect ⟨1, ia, ib⟩).1.toNat = 0 by simp [VM.effect]] at hf' hin
    rw [ziu] at hf'
    subst hf'
    rw [VM.opDo_1]
    exact zahy R
  · -- 2
    rw [show (VM.effect ⟨2, ia, ib⟩).1.toNat = 0 by simp [VM.effect]] at hf' hin
    rw [ziu] at hf'
    subst hf'
    have hn : 0 ≤ ia ∧ ia < a.prog.words.length := by unfold VM.numOk VM.isIn at o3; simpa using o3
    have hlt : ia.toNat < a.prog.words.length := by omega
    have hget : a.prog.words[ia.toNat]? = some (a.prog.words.getD ia.toNat []) := by rw [List.getD_eq_getElem?_getD, List.getElem?_eq_getElem hlt]; rfl
    have hwl := zuy l.prog _ (List.mem_of_getElem? hget)
    subst hb'
    rw [VM.opDo_2]
    exact zahx R hn.1 hget (by simp only [maxLen]; omega)
  · -- 3
    rw [show (VM.effect ⟨3, ia, ib⟩).1.toNat = 0 by simp [VM.effect]] at hf' hin
    rw [ziu] at hf'
    subst hf'
    have hn : 0 ≤ ia ∧ ia < (VM.codeAt a.prog f.fn).vars := by unfold VM.numOk VM.isIn at o3; simpa using o3
    have okv := ok.vars
    have hlt : ia.toNat < f.vars.length := by omega
    have hget : f.vars[ia.toNat]? = some (f.vars.getD ia.toNat VM.vzero) := by rw [List.getD_eq_getElem?_getD, List.getElem?_eq_getElem hlt]; rfl
    rw [VM.opDo_3]
    exact zahw R hn.1 hget
  · -- 4
    rw [show (VM.effect ⟨4, ia, ib⟩).1.toNat = 1 by simp [VM.effect]] at hf' hin
    have hp : 1 ≤ f.stack.length := by simp [VM.effect] at pops; omega
    rw [zjy hp] at hin
    subst hf'
    have hn : 0 ≤ ia ∧ ia < (VM.codeAt a.prog f.fn).vars := by unfold VM.numOk VM.isIn at o3; simpa using o3
    have okv := ok.vars
    rw [VM.opDo_4]
    exact zahv R hn.1 (by simp only; omega) hin
  · -- 5
    rw [show (VM.effect ⟨5, ia, ib⟩).1.toNat = 2 by simp [VM.effect]] at hf' hin
    have hp : 2 ≤ f.stack.length := by simp [VM.effect] at pops; omega
    rw [zvf hp] at hin
    subst hf'
    rw [VM.opDo_5]
    exact zahu R hin (VM.ok_wrong (m2 hp)) (VM.ok_wrong (m1 (by omega)))
  · -- 6
    rw [show (VM.effect ⟨6, ia, ib⟩).1.toNat = 2 by simp [VM.effect]] at hf' hin
    have hp : 2 ≤ f.stack.length := by simp [VM.effect] at pops; omega
    rw [zvf hp] at hin
    subst hf' hb'
    rw [VM.opDo_6]
    exact zaht R hin b2 (by simp only; omega) (by simp only; omega)
  · -- 7
    rw [show (VM.effect ⟨7, ia, ib⟩).1.toNat = 1 by simp [VM.effect]] at hf' hin
    have hp : 1 ≤ f.stack.length := by simp [VM.effect] at pops; omega
    rw [zjy hp] at hin
    subst hf' hb'
    rw [VM.opDo_7]
    by_cases hk : (VM.top1 f.stack).kind = 2
    · rw [if_neg (by simpa using hk)]
      obtain ⟨c0, c1⟩ := hcell _ (m1 hp) hk
      exact zahs R hin hk c0 c1
    · rw [if_pos hk]; exact zagi R hin hk
  · -- 8
    rw [show (VM.effect ⟨8, ia, ib⟩).1.toNat = 1 by simp [VM.effect]] at hf' hin
    have hp : 1 ≤ f.stack.length := by simp [VM.effect] at pops; omega
    rw [zjy hp] at hin
    subst hf' hb'
    rw [VM.opDo_8]
    by_cases hk : (VM.top1 f.stack).kind = 2
    · rw [if_neg (by simpa using hk)]
      obtain ⟨c0, c1⟩ := hcell _ (m1 hp) hk
      exact zahr R hin hk c0 c1
    · rw [if_pos hk]; exact zagh R hin hk
  · -- 9
    rw [show (VM.effect ⟨9, ia, ib⟩).1.toNat = 2 by simp [VM.effect]] at hf' hin
    have hp : 2 ≤ f.stack.length := by simp [VM.effect] at pops; omega
    rw [zvf hp] at hin
    subst hf' hb'
    rw [VM.opDo_9]
    by_cases hk : (VM.top2 f.stack).kind = 2
    · rw [if_neg (by simpa using hk)]
      obtain ⟨c0, c1⟩ := hcell _ (m2 hp) hk
      exact zahq R hin hk c0 (by simp only; omega) c1
    · rw [if_pos hk]; exact zagg R hin hk
  · -- 10
    rw [show (VM.effect ⟨10, ia, ib⟩).1.toNat = 2 by simp [VM.effect]] at hf' hin
    have hp : 2 ≤ f.stack.length := by simp [VM.effect] at pops; omega
    rw [zvf hp] at hin
    subst hf' hb'
    rw [VM.opDo_10]
    by_cases hk : (VM.top2 f.stack).kind = 2
    · rw [if_neg (by simpa using hk)]
      obtain ⟨c0, c1⟩ := hcell _ (m2 hp) hk
      exact zags R hin hk c0 (by simp only; omega) c1
    · rw [if_pos hk]; exact zadt R hin hk
  · -- 11
    rw [show (VM.effect ⟨11, ia, ib⟩).1.toNat = 1 by simp [VM.effect]] at hf' hin
    have hp : 1 ≤ f.stack.length := by simp [VM.effect] at pops; omega
    rw [zjy hp] at hin
    subst hf' hb'
    rw [VM.opDo_11]
    by_cases hk : (VM.top1 f.stack).kind = 1
    · rw [if_neg (by simpa using hk)]; exact zagr R hin hk hfacts
    · rw [if_pos hk]; exact zads R hin hk
  · -- 12
    rw [show (VM.effect ⟨12, ia, ib⟩).1.toNat = 0 by simp [VM.effect]] at hf' hin
    rw [ziu] at hf'
    subst hf'
    rw [VM.opDo_12]
    exact zagq R hname
  · -- 13
    rw [show (VM.effect ⟨13, ia, ib⟩).1.toNat = 1 by simp [VM.effect]] at hf' hin
    have hp : 1 ≤ f.stack.length := by simp [VM.effect] at pops; omega
    rw [zjy hp] at hin
    subst hf' hb'
    rw [VM.opDo_13]
    exact zadr R hin hfacts (by simp only; omega) (by simp only; omega)
  · -- 14
    rw [show (VM.effect ⟨14, ia, ib⟩).1.toNat = 1 by simp [VM.effect]] at hf' hin
    have hp : 1 ≤ f.stack.length := by simp [VM.effect] at pops; omega
    rw [zjy hp] at hin
    subst hf' hb'
    rw [VM.opDo_14]
    exact zago R hin oc (m1 hp)
  · -- 15
    rw [show (VM.effect ⟨15, ia, ib⟩).1.toNat = 0 by simp [VM.effect]] at hf' hin
    rw [ziu] at hf'
    subst hf'
    rw [VM.opDo_15]
    exact zagn R
  · -- 16
    rw [show (VM.effect ⟨16, ia, ib⟩).1.toNat = 1 by simp [VM.effect]] at hf' hin
    have hp : 1 ≤ f.stack.length := by simp [VM.effect] at pops; omega
    rw [zjy hp] at hin
    subst hf'
    rw [VM.opDo_16]
    exact zagm R hin fun hk => (m1 hp).non (fun h => by rw [hk] at h; cases h)
  · -- 17
    have he : (VM.effect ⟨17, ia, ib⟩).1 = ib := by simp [VM.effect]
    rw [he] at hf' hin
    have hn : VM.numOk a.prog (VM.codeAt a.prog f.fn) ⟨17, ia, ib⟩ = true := o3
    unfold VM.numOk VM.isIn at hn
    simp at hn
    have hk : (ia.toNat < a.prog.codes.length) := by omega
    have hcc : a.prog.codes[ia.toNat]? = some (VM.codeAt a.prog ia) := by unfold VM.codeAt; rw [List.getD_eq_getElem?_getD, List.getElem?_eq_getElem hk]; rfl
    have hcr := ((zz l.prog).1 _ (VM.code_mem hk)).1
    unfold VM.codeRange at hcr
    rw [decide_eq_false_iff_not] at hcr
    have hb : ib = (VM.codeAt a.prog ia).params := by
      have := hn.2
      unfold VM.codeAt
      rw [List.getD_eq_getElem?_getD]
      rw [List.getElem?_eq_getElem hk] at this ⊢
      simpa using this
    have hpp : ib ≤ f.stack.length := by rw [he] at pops; exact pops
    have hil : ins.length = ib.toNat := by rw [hin, List.length_drop]; omega
    subst hf' hb'
    rw [VM.opDo_17]
    by_cases hd : 12 ≤ fs.length + 1
    · rw [if_pos hd]
      have := zado R hd (by omega)
      have e : VM.low ib.toNat f.stack ++ ins = f.stack := by rw [hin]; exact List.take_append_drop _ _
      simp only [e] at this
      exact this
    · rw [if_neg hd]
      have := zagl R (by omega) hn.1.1 hcc (by omega) (by omega) (by omega)
      have e2 : (ins.length : Int) = ib := by omega
      rw [e2] at this
      rw [← hin]
      exact this
  · -- 18
    rw [show (VM.effect ⟨18, ia, ib⟩).1.toNat = 1 by simp [VM.effect]] at hf' hin
    have hp : 1 ≤ f.stack.length := by simp [VM.effect] at pops; omega
    rw [zjy hp] at hin
    subst hf' hb'
    rw [VM.opDo_18]
    rcases List.eq_nil_or_concat fs with rfl | ⟨gs, g, hg⟩
    · exact zadn R hin oc (m1 hp) rfl
    · rw [List.concat_eq_append] at hg
      subst hg
      have := ztz l g (by simp)
      have e1 : (gs ++ [g]).getLast? = some g := by simp
      have e2 : (gs ++ [g]).dropLast = gs := by simp
      rw [e1, e2]
      exact zagk R hin (by omega)
  · -- 19
    rw [show (VM.effect ⟨19, ia, ib⟩).1.toNat = 1 by simp [VM.effect]] at hf' hin
    subst hf'
    rw [VM.opDo_19]
    exact zagj R
end
end Go.Proofs.YtobioljjoipimaaDoor
set_option maxRecDepth 8000
namespace Go.Proofs.YtobioljjoipimaaDoor
open Go Go.RowKit
section
variable {ki : IntKind}
@[simp ↓] theorem zamz {s : Nat} {xs : List (List AV)} {a : Int} {H : Heap} {k : AV → Prop} : SL s (.ro xs) (some (.int ki a)) none H k = (0 ≤ a ∧ a ≤ xs.length ∧ (∀ x ∈ xs, x.length = s) ∧ k (.ro (xs.drop a.toNat))) := by
  simp [SL, zbv, lohi, PURE, qk]
@[simp ↓] theorem zana {s : Nat} {xs : List (List AV)} {b : Int} {H : Heap} {k : AV → Prop} : SL s (.ro xs) none (some (.int ki b)) H k = (0 ≤ b ∧ b ≤ xs.length ∧ (∀ x ∈ xs, x.length = s) ∧ k (.ro (xs.take b.toNat))) := by
  simp [SL, zbv, lohi, PURE, qk]
end
theorem zagt {H : Heap} {g : Nat} {xs ys : List AV} {k : Heap → Prop} (h : H g = some (.row 9 xs)) (h1 : xs.length = 9) (h2 : ys.length = 9) : ST 9 (.ptr g 0) (.agg ys) H k = ST 9 (.ptr g 0) (.agg ys) (H.put g (some (.row 9 ys))) k := by
  have e : ∀ o, (H.put g (some (.row 9 ys))).put g o = H.put g o := fun o => by
    funext x
    by_cases hx : x = g
    · subst hx; rw [Heap.put_at, Heap.put_at]
    · rw [Heap.put_ne _ _ hx, Heap.put_ne _ _ hx, Heap.put_ne _ _ hx]
  have t1 : xs.drop 9 = [] := List.drop_eq_nil_of_le (by omega)
  have t2 : ys.drop 9 = [] := List.drop_eq_nil_of_le (by omega)
  simp [ST, zaf, h, h1, h2, Heap.apply, zag, Heap.put_at, e, t1, t2]
section
variable {a : Agt} {s : Spt} {fs : List Frm} {f : Frm}
theorem Good.val {H : Heap} {nx : Nat} (a : Agt) : Good H nx (.agg a.avs) a := by
  refine ⟨_, rfl, rfl, fun x hx => ?_, ?_, fun H2 _ => zdo (fs := a.frames) (h := a.heap) (m := a.permit) (.same _ (zahl _)) (.same _ (zcr (zab _)))⟩
  · simp [Agt.avs] at hx
    rcases hx with rfl | rfl | rfl | rfl | rfl | rfl | rfl | rfl | rfl <;> rfl
  · simp [Agt.avs]
set_option maxRecDepth 20000 in
set_option maxHeartbeats 1000000 in
theorem zzk (l : VM.Live a fs f) (hname : s.name.length ≤ maxLen) (hfacts : s.facts.length ≤ 4611686018427387903) :
    QC Tryd.prog 17 [.agg a.avs, .agg s.avs] (.tup [.agg (VM.step a s).1.avs, .agg (VM.step a s).2.avs]) := by
  refine QC.of' fun H nx => ?_
  refine zps _ _ H nx _ ?_
  have av : (AV.agg a.avs).cells = a.avs := by simp
  have al : a.avs.length = 9 := rfl
  have sv : (AV.agg s.avs).cells = s.avs := by simp
  have sl : s.avs.length = 4 := rfl
  have hsu : (AV.agg a.avs).sure = true := by simp [Agt.avs]
  have hss : (AV.agg s.avs).sure = true := by simp [Spt.avs]
  unfold zkt
  rw [av, al, sv, sl]
  refine ⟨hsu, hss, ?_⟩
  have at6 : a.avs[6]'(by rw [al]; omega) = .int .i64 a.permit.fuel := rfl
  generalize hX : Heap.put _ (nx + 3) _ = X
  have x0 : X nx = some (.row 9 a.avs) := by rw [← hX, Heap.put_ne _ _ (by omega), Heap.put_ne _ _ (by omega), Heap.put_ne _ _ (by omega), Heap.put_at]
  have x1 : X (nx + 1) = some (.row 4 s.avs) := by rw [← hX, Heap.put_ne _ _ (by omega), Heap.put_ne _ _ (by omega), Heap.put_at]
  have o : Outs H X nx := ⟨⟨_, by rw [← hX, Heap.put_ne _ _ (by omega), Heap.put_at], rfl⟩, ⟨_, by rw [← hX, Heap.put_at], rfl⟩, fun g hg => by rw [← hX, Heap.put_ne _ _ (by omega), Heap.put_ne _ _ (by omega), Heap.put_ne _ _ (by omega), Heap.put_ne _ _ (by omega)]⟩
  by_cases hf : a.permit.fuel = 0
  · simp [x0, al, at6, hf]
    refine zzt 12 x0 rfl (fun x hx => ?_) (by omega) fun H' hk => ?_
    · simp [Agt.avs] at hx
      rcases hx with rfl | rfl | rfl | rfl | rfl | rfl | rfl | rfl | rfl <;> rfl
    · have e : VM.step a s = (a, VM.dead 12) := by unfold VM.step; rw [if_pos hf]
      rw [e]
      exact retE (n := nx + 4) (r := (a, VM.dead 12)) (Good.val a) (o.more fun g hg _ _ => hk g hg)
  · rw [zxw l hf s]
    have flen := l.flen
    have ok := l.ok f (by simp)
    have nw := l.now
    have hins := nw.at_
    have pops := nw.pops
    have slen := zjx l
    obtain ⟨crange, _, _⟩ := (zz l.prog).1 _ (VM.code_mem ok.code)
    unfold VM.codeRange at crange
    rw [decide_eq_false_iff_not] at crange
    have hcode := zahk ok.code
    have b1 := l.fuel
    have hat0 := ok.at0
    have hfn0 := ok.fn0
    have okv := ok.vars
    have hfn1 : f.fn < (a.prog.codes.length : Int) := by have := ok.code; omega
    have hat1 : f.at_ < ((VM.codeAt a.prog f.fn).ins.length : Int) := by have := ok.ins; omega
    have hw1 : IntKind.i64.wrap (f.at_ + 1) = f.at_ + 1 := i64w (by omega)
    have hw2 : IntKind.i64.wrap (a.permit.fuel - 1) = a.permit.fuel - 1 := i64w (by omega)
    have hca : (VM.codeAt a.prog f.fn).avs = [.int .i64 (VM.codeAt a.prog f.fn).params, .int .i64 (VM.codeAt a.prog f.fn).vars, .ro ((VM.codeAt a.prog f.fn).ins.map Ins.avs)] := rfl
    have hw3 : IntKind.i64.wrap (fs.length : Int) = fs.length := i64w (by omega)
    have hfr := l.fr
    have hal : a.frames.length = fs.length + 1 := by rw [hfr]; simp
    have hlast : a.frames[fs.length]'(by rw [hal]; omega) = f := by
      have : a.frames[fs.length]? = some f := by rw [hfr]; simp
      exact (List.getElem?_eq_some_iff.1 this).2
    rw [show a.avs = [.int .i64 a.id, .int .i64 a.trip, .ro (a.prog.codes.map Cod.avs), .ro (a.prog.words.map fun w => [.str w]), .ro (a.frames.map Frm.avs), .ro (a.heap.map Cl.avs), .int .i64 a.permit.fuel, .int .i64 a.permit.room, .int .i64 a.permit.hops] from rfl] at x0
    generalize hi : VM.insAt a.prog f = i at *
    obtain ⟨iop, ia, ib⟩ := i
    have ne_0 : nx ≠ nx + 1 ∧ nx + 1 ≠ nx ∧ nx ≠ nx + 2 ∧ nx + 2 ≠ nx ∧ nx ≠ nx + 3 ∧ nx + 3 ≠ nx ∧ nx ≠ nx + 4 ∧ nx + 4 ≠ nx ∧ nx ≠ nx + 5 ∧ nx + 5 ≠ nx ∧ nx ≠ nx + 6 ∧ nx + 6 ≠ nx ∧ nx ≠ nx + 7 ∧ nx + 7 ≠ nx ∧ nx ≠ nx + 8 ∧ nx + 8 ≠ nx ∧ nx ≠ nx + 9 ∧ nx + 9 ≠ nx ∧ nx ≠ nx + 10 ∧ nx + 10 ≠ nx ∧ nx ≠ nx + 11 ∧ nx + 11 ≠ nx ∧ nx + 1 ≠ nx + 2 ∧ nx + 2 ≠ nx + 1 ∧ nx + 1 ≠ nx + 3 ∧ nx + 3 ≠ nx + 1 ∧ nx + 1 ≠ nx + 4 ∧ nx + 4 ≠ nx + 1 ∧ nx + 1 ≠ nx + 5 ∧ nx + 5 ≠ nx + 1 ∧ nx + 1 ≠ nx + 6 ∧ nx + 6 ≠ nx + 1 ∧ nx + 1 ≠ nx + 7 ∧ nx + 7 ≠ nx + 1 ∧ nx + 1 ≠ nx + 8 ∧ nx + 8 ≠ nx + 1 ∧ nx + 1 ≠ nx + 9 ∧ nx + 9 ≠ nx + 1 ∧ nx + 1 ≠ nx + 10 ∧ nx + 10 ≠ nx + 1 ∧ nx + 1 ≠ nx + 11 ∧ nx + 11 ≠ nx + 1 ∧ nx + 2 ≠ nx + 3 ∧ nx + 3 ≠ nx + 2 ∧ nx + 2 ≠ nx + 4 ∧ nx + 4 ≠ nx + 2 ∧ nx + 2 ≠ nx + 5 ∧ nx + 5 ≠ nx + 2 ∧ nx + 2 ≠ nx + 6 ∧ nx + 6 ≠ nx + 2 ∧ nx + 2 ≠ nx + 7 ∧ nx + 7 ≠ nx + 2 ∧ nx + 2 ≠ nx + 8 ∧ nx + 8 ≠ nx + 2 ∧ nx + 2 ≠ nx + 9 ∧ nx + 9 ≠ nx + 2 ∧ nx + 2 ≠ nx + 10 ∧ nx + 10 ≠ nx + 2 ∧ nx + 2 ≠ nx + 11 ∧ nx + 11 ≠ nx + 2 ∧ nx + 3 ≠ nx + 4 ∧ nx + 4 ≠ nx + 3 ∧ nx + 3 ≠ nx + 5 ∧ nx + 5 ≠ nx + 3 ∧ nx + 3 ≠ nx + 6 ∧ nx + 6 ≠ nx + 3 ∧ nx + 3 ≠ nx + 7 ∧ nx + 7 ≠ nx + 3 ∧ nx + 3 ≠ nx + 8 ∧ nx + 8 ≠ nx + 3 ∧ nx + 3 ≠ nx + 9 ∧ nx + 9 ≠ nx + 3 ∧ nx + 3 ≠ nx + 10 ∧ nx + 10 ≠ nx + 3 ∧ nx + 3 ≠ nx + 11 ∧ nx + 11 ≠ nx + 3 ∧ nx + 4 ≠ nx + 5 ∧ nx + 5 ≠ nx + 4 ∧ nx + 4 ≠ nx + 6 ∧ nx + 6 ≠ nx + 4 ∧ nx + 4 ≠ nx + 7 ∧ nx + 7 ≠ nx + 4 ∧ nx + 4 ≠ nx + 8 ∧ nx + 8 ≠ nx + 4 ∧ nx + 4 ≠ nx + 9 ∧ nx + 9 ≠ nx + 4 ∧ nx + 4 ≠ nx + 10 ∧ nx + 10 ≠ nx + 4 ∧ nx + 4 ≠ nx + 11 ∧ nx + 11 ≠ nx + 4 ∧ nx + 5 ≠ nx + 6 ∧ nx + 6 ≠ nx + 5 ∧ nx + 5 ≠ nx + 7 ∧ nx + 7 ≠ nx + 5 ∧ nx + 5 ≠ nx + 8 ∧ nx + 8 ≠ nx + 5 ∧ nx + 5 ≠ nx + 9 ∧ nx + 9 ≠ nx + 5 ∧ nx + 5 ≠ nx + 10 ∧ nx + 10 ≠ nx + 5 ∧ nx + 5 ≠ nx + 11 ∧ nx + 11 ≠ nx + 5 ∧ nx + 6 ≠ nx + 7 ∧ nx + 7 ≠ nx + 6 ∧ nx + 6 ≠ nx + 8 ∧ nx + 8 ≠ nx + 6 ∧ nx + 6 ≠ nx + 9 ∧ nx + 9 ≠ nx + 6 ∧ nx + 6 ≠ nx + 10 ∧ nx + 10 ≠ nx + 6 ∧ nx + 6 ≠ nx + 11 ∧ nx + 11 ≠ nx + 6 ∧ nx + 7 ≠ nx + 8 ∧ nx + 8 ≠ nx + 7 ∧ nx + 7 ≠ nx + 9 ∧ nx + 9 ≠ nx + 7 ∧ nx + 7 ≠ nx + 10 ∧ nx + 10 ≠ nx + 7 ∧ nx + 7 ≠ nx + 11 ∧ nx + 11 ≠ nx + 7 ∧ nx + 8 ≠ nx + 9 ∧ nx + 9 ≠ nx + 8 ∧ nx + 8 ≠ nx + 10 ∧ nx + 10 ≠ nx + 8 ∧ nx + 8 ≠ nx + 11 ∧ nx + 11 ≠ nx + 8 ∧ nx + 9 ≠ nx + 10 ∧ nx + 10 ≠ nx + 9 ∧ nx + 9 ≠ nx + 11 ∧ nx + 11 ≠ nx + 9 ∧ nx + 10 ≠ nx + 11 ∧ nx + 11 ≠ nx + 10 ∧ nx ≠ nx + 12 ∧ nx + 12 ≠ nx ∧ nx + 1 ≠ nx + 12 ∧ nx + 12 ≠ nx + 1 ∧ nx + 2 ≠ nx + 12 ∧ nx + 12 ≠ nx + 2 ∧ nx + 3 ≠ nx + 12 ∧ nx + 12 ≠ nx + 3 ∧ nx + 4 ≠ nx + 12 ∧ nx + 12 ≠ nx + 4 ∧ nx + 5 ≠ nx + 12 ∧ nx + 12 ≠ nx + 5 ∧ nx + 6 ≠ nx + 12 ∧ nx + 12 ≠ nx + 6 ∧ nx + 7 ≠ nx + 12 ∧ nx + 12 ≠ nx + 7 ∧ nx + 8 ≠ nx + 12 ∧ nx + 12 ≠ nx + 8 ∧ nx + 9 ≠ nx + 12 ∧ nx + 12 ≠ nx + 9 ∧ nx + 10 ≠ nx + 12 ∧ nx + 12 ≠ nx + 10 ∧ nx + 11 ≠ nx + 12 ∧ nx + 12 ≠ nx + 11 := ⟨by omega, by omega, by omega, by omega, by omega, by omega, by omega, by omega, by omega, by omega, by omega, by omega, by omega, by omega, by omega, by omega, by omega, by omega, by omega, by omega, by omega, by omega, by omega, by omega, by omega, by omega, by omega, by omega, by omega, by omega, by omega, by omega, by omega, by omega, by omega, by omega, by omega, by omega, by omega, by omega, by omega, by omega, by omega, by omega, by omega, by omega, by omega, by omega, by omega, by omega, by omega, by omega, by omega, by omega, by omega, by omega, by omega, by omega, by omega, by omega, by omega, by omega, by omega, by omega, by omega, by omega, by omega, by omega, by omega, by omega, by omega, by omega, by omega, by omega, by omega, by omega, by omega, by omega, by omega, by omega, by omega, by omega, by omega, by omega, by omega, by omega, by omega, by omega, by omega, by omega, by omega, by omega, by omega, by omega, by omega, by omega, by omega, by omega, by omega, by omega, by omega, by omega, by omega, by omega, by omega, by omega, by omega, by omega, by omega, by omega, by omega, by omega, by omega, by omega, by omega, by omega, by omega, by omega, by omega, by omega, by omega, by omega, by omega, by omega, by omega, by omega, by omega, by omega, by omega, by omega, by omega, by omega, by omega, by omega, by omega, by omega, by omega, by omega, by omega, by omega, by omega, by omega, by omega, by omega, by omega, by omega, by omega, by omega, by omega, by omega, by omega, by omega, by omega, by omega, by omega, by omega⟩
    simp [x0, hf, hw1, hw2, hw3, hal, hlast, hcode, hca, hins, Ins.avs, Frm.avs, ne_0]
    refine ⟨by omega, hfn0, hfn1, hat0, hat1, ?_⟩
    refine QC.call (zady ⟨iop, ia, ib⟩) ?_
    have hbd := zgv ⟨iop, ia, ib⟩ fun h17 => ((zz l.prog).1 _ (VM.code_mem ok.code)).2.1 _ (List.mem_of_getElem? hins) h17
    obtain ⟨p, hp⟩ : ∃ p : Nat, (VM.effect ⟨iop, ia, ib⟩).1 = p := ⟨_, (Int.toNat_of_nonneg hbd.1).symm⟩
    rw [hp] at pops
    have hpt : (VM.effect ⟨iop, ia, ib⟩).1.toNat = p := by rw [hp]; rfl
    have hw5 : IntKind.i64.wrap ((f.stack.length : Int) - p) = ((f.stack.length - p : Nat) : Int) := by rw [i64w (by omega)]; omega
    have srcV : ∀ (H : Heap) (l : List Val), zg 3 H (.ro (l.map Val.avs)) = some (l.length, rowV l, []) := fun H l => by rw [zeg (zdt l)]; simp [rowV]
    have srcD : ∀ (H : Heap) (l : List Val) (k : Nat), zg 3 H (.ro ((l.map Val.avs).drop k)) = some (l.length - k, rowV (l.drop k), []) := fun H l k => by rw [← List.map_drop, srcV, List.length_drop]
    have srcT : ∀ (H : Heap) (l : List Val) (k : Nat), zg 3 H (.ro ((l.map Val.avs).take k)) = some (min k l.length, rowV (l.take k), []) := fun H l k => by rw [← List.map_take, srcV, List.length_take]
    have al3 := zdt f.stack
    simp [zjd, hp, hw5, srcV, srcD, srcT, ne_0]
    have om : ∀ l : List Val, ∀ x ∈ rowV l, x.one = true := fun l x hx => zaj (zgq l x hx)
    refine ⟨om _, by omega, om _, by omega, om _, by omega, ?_⟩
    generalize hY : Heap.put _ (nx + 4) _ = Y
    have yk : ∀ g, g < nx + 4 → g ≠ nx → Y g = X g := fun g h1 h2 => by
      rw [← hY]; repeat rw [Heap.put_ne _ _ (by omega)]
    have y0 : Y nx = some (.row 9 (zc a.id a.trip a.prog (.ro (a.frames.map Frm.avs)) (.ro (a.heap.map Cl.avs)) { a.permit with fuel := a.permit.fuel - 1 })) := by
      rw [← hY, Heap.put_ne _ _ (by omega), Heap.put_ne _ _ (by omega), Heap.put_ne _ _ (by omega), Heap.put_ne _ _ (by omega), Heap.put_ne _ _ (by omega), Heap.put_ne _ _ (by omega), Heap.put_ne _ _ (by omega), Heap.put_ne _ _ (by omega), Heap.put_ne _ _ (by omega), Heap.put_ne _ _ (by omega), Heap.put_ne _ _ (by omega), Heap.put_at]; rfl
    have y4 : Y (nx + 4) = some (.row 4 [.int .i64 f.fn, .int .i64 (f.at_ + 1), .slc (nx + 11) 0 f.vars.length, .slc (nx + 9) 0 (f.stack.length - p)]) := by rw [← hY, Heap.put_at]
    have y5 : Y (nx + 5) = some (.row 3 [.int .i64 iop, .int .i64 ia, .int .i64 ib]) := by
      rw [← hY, Heap.put_ne _ _ (by omega), Heap.put_ne _ _ (by omega), Heap.put_ne _ _ (by omega), Heap.put_ne _ _ (by omega), Heap.put_ne _ _ (by omega), Heap.put_ne _ _ (by omega), Heap.put_ne _ _ (by omega), Heap.put_ne _ _ (by omega), Heap.put_ne _ _ (by omega), Heap.put_at]
    have y7 : Y (nx + 7) = some (.row 3 (rowV (f.stack.drop (f.stack.length - p)))) := by
      rw [← hY, Heap.put_ne _ _ (by omega), Heap.put_ne _ _ (by omega), Heap.put_ne _ _ (by omega), Heap.put_ne _ _ (by omega), Heap.put_ne _ _ (by omega), Heap.put_ne _ _ (by omega), Heap.put_at]
    have y9 : Y (nx + 9) = some (.row 3 (rowV (VM.low p f.stack))) := by
      rw [← hY, Heap.put_ne _ _ (by omega), Heap.put_ne _ _ (by omega), Heap.put_ne _ _ (by omega), Heap.put_ne _ _ (by omega), Heap.put_at]; rfl
    have y11 : Y (nx + 11) = some (.row 3 (rowV f.vars)) := by
      rw [← hY, Heap.put_ne _ _ (by omega), Heap.put_at]
    have cp : zcu Y (nx + 12) 4 (fs.length + 1) ((a.frames.map Frm.avs).flatten) (.ro (a.frames.map Frm.avs)) := by rw [← hal]; exact zqa a.frames
    refine zpj (va := .slc (nx + 11) 0 f.vars.length) (sa := .slc (nx + 9) 0 (f.stack.length - p)) (ha := .ro (a.heap.map Cl.avs)) (m := { a.permit with fuel := a.permit.fuel - 1 }) cp (by omega) ⟨rfl, rfl, rfl⟩ ⟨rfl, rfl⟩ ⟨rfl, rfl⟩ fun H' n' g' h1 h2 kp hr => ?_
    rw [hfr, zsj] at hr
    generalize hin : f.stack.drop (f.stack.length - p) = ins at *
    have hil : ins.length = f.stack.length - (f.stack.length - p) := by rw [← hin, List.length_drop]
    have q0 := (kp nx (by omega)).trans y0
    generalize hH : H'.put nx (some (.row 9 (zc a.id a.trip a.prog (.slc g' 0 (fs.length + 1)) (.ro (a.heap.map Cl.avs)) { a.permit with fuel := a.permit.fuel - 1 }))) = HH
    have hk : ∀ g, g ≠ nx → HH g = H' g := fun g hg => by rw [← hH, Heap.put_ne _ _ hg]
    have R : VSt H HH nx n' g' { a with permit := { a.permit with fuel := a.permit.fuel - 1 } } s fs { f with at_ := f.at_ + 1, stack := VM.low (VM.effect ⟨iop, ia, ib⟩).1.toNat f.stack } ins ⟨iop, ia, ib⟩ := by
      rw [hpt]
      have ll : (VM.low p f.stack).length = f.stack.length - p := VM.low_len p f.stack
      refine ⟨o.more fun g hg e1 e2 => by rw [hk g e1, kp g (by omega), yk g hg e1], by rw [← hH, Heap.put_at], ?_, ?_, ?_, ?_, ?_, ?_, ?_, ⟨h1, h2⟩, by omega, by simp only; omega⟩
      · rw [hk _ (by omega), kp _ (by omega), yk _ (by omega) (by omega)]; exact x1
      · rw [hk _ (by omega), kp _ (by omega)]; simp only [ll]; exact y4
      · rw [hk _ (by omega), kp _ (by omega)]; exact y5
      · rw [hk _ (by omega)]; simp only [ll]; exact hr
      · rw [hk _ (by omega), kp _ (by omega)]; exact y11
      · rw [hk _ (by omega), kp _ (by omega)]; exact y9
      · rw [hk _ (by omega), kp _ (by omega)]; exact y7
    have := zadm l hname hfacts hi.symm rfl rfl (by rw [hpt, hin]) R
    unfold Then ze at this
    rw [hil, ← hH, ← zagt q0 rfl rfl] at this
    exact this
end
end Go.Proofs.YtobioljjoipimaaDoor
set_option maxRecDepth 8000
namespace Go.Proofs.YtobioljjoipimaaDoor
open Go Go.RowKit
def zie (s : Spt) : Bool := decide (12 < s.name.length) || s.facts.any fun f => decide (VM.wrong f.val 0 ≠ 0)
theorem zvb {α : Type} {p : α → Bool} {l : List α} {i : Nat} {x : α} (h : l[i]? = some x) : (l.take (i + 1)).any p = ((l.take i).any p || p x) := by
  obtain ⟨hi, rfl⟩ := List.getElem?_eq_some_iff.1 h
  rw [List.take_succ_eq_append_getElem hi, List.any_append, List.any_cons, List.any_nil, Bool.or_false]
def zfw (s : Spt) (i : Nat) : Bool := decide (12 < s.name.length) || (s.facts.take i).any fun f => decide (VM.wrong f.val 0 ≠ 0)
theorem zaaq (s : Spt) : zfw s 0 = decide ((12 : Int) < (s.name.length : Int)) := by
  have : decide ((12 : Int) < (s.name.length : Int)) = decide (12 < s.name.length) := by rw [decide_eq_decide]; omega
  rw [this]; simp [zfw]
theorem zaar {s : Spt} {i : Nat} {c : Fct} (h : s.facts[i]? = some c) : zfw s (i + 1) = (zfw s i || decide (VM.wrong c.val 0 ≠ 0)) := by
  unfold zfw
  rw [zvb h, Bool.or_assoc]
theorem zacp {s : Spt} {i : Nat} (h : s.facts.length ≤ i) : zfw s i = zie s := by
  unfold zfw zie
  rw [List.take_of_length_le h]
set_option maxRecDepth 20000 in
set_option maxHeartbeats 1000000 in
theorem zagu (s : Spt) (hname : s.name.length ≤ maxLen) (hf : s.facts.length ≤ 4611686018427387903) : QC Tryd.prog 16 [.agg s.avs] (.bool (zie s)) := by
  refine QC.of' fun H nx => ?_
  suffices main : ∀ Q : AV → Heap → Nat → Prop, (∀ H' n', Keep nx H' H → Q (.bool (zie s)) H' n') → za Tryd.prog 16 [.agg s.avs] H nx Q from main _ fun H' n' h => ⟨zwf, h⟩
  intro Q hQ
  refine zpv _ H nx _ ?_
  have sl : s.avs = [.str s.name, .ro (s.facts.map Fct.avs), .int .i64 s.fuel, .int .i64 s.cells] := rfl
  unfold zlb
  rw [sl]
  refine ⟨by simp, ?_⟩
  generalize hX : Heap.put _ nx _ = X
  have x0 : X nx = some (.row 4 [.str s.name, .ro (s.facts.map Fct.avs), .int .i64 s.fuel, .int .i64 s.cells]) := by rw [← hX, Heap.put_at]; rfl
  have xk : Keep nx X H := fun g hg => by rw [← hX, Heap.put_ne _ _ (by omega)]
  clear hX
  simp [x0]
  refine LP.mk (fun k xs H' n' => ∃ i : Nat, xs = [.bool (zfw s i), .ro (s.facts.map Fct.avs), .int .i64 s.facts.length, .int .i64 i] ∧ i ≤ s.facts.length ∧ k = s.facts.length - i ∧ (∀ g, g < nx + 1 → H' g = X g) ∧ nx + 1 ≤ n') s.facts.length ⟨0, by rw [zaaq]; rfl, by omega, by omega, fun _ _ => rfl, by omega⟩ ?_
  rintro k xs H' n' ⟨i, rfl, hi, rfl, hk, hn⟩
  by_cases hlt : i < s.facts.length
  · have hadd : IntKind.i64.wrap ((i : Int) + 1) = ((i + 1 : Nat) : Int) := by rw [i64w (by omega)]; rfl
    have hnext := zaar (List.getElem?_eq_getElem hlt)
    generalize hcc : s.facts[i] = c at *
    cases hb : zfw s i with
    | true =>
      rw [hb] at hnext
      simp [zdv, hlt, hcc, Fct.avs, Val.avs, hadd]
      refine ⟨s.facts.length - (i + 1), by omega, i + 1, ⟨by rw [hnext]; rfl, by omega⟩, by omega, rfl, fun g hg => ?_, by omega⟩
      simp only [show ¬ g = n' by omega, if_false]; exact hk g hg
    | false =>
      rw [hb, Bool.false_or] at hnext
      simp [zdv, hlt, hcc, Fct.avs, Val.avs]
      refine QC.call (zabf c.val 0) ?_
      by_cases hw : VM.wrong c.val 0 = 0
      · have e : zfw s (i + 1) = false := by rw [hnext]; simp [hw]
        simp [zge, hadd, hw]
        refine ⟨s.facts.length - (i + 1), by omega, i + 1, ⟨by rw [e], by omega⟩, by omega, rfl, fun g hg => ?_, by omega⟩
        simp only [show ¬ g = n' by omega, if_false]; exact hk g hg
      · have e : zfw s (i + 1) = true := by rw [hnext]; simp [hw]
        simp [zge, hadd, hw]
        refine ⟨s.facts.length - (i + 1), by omega, i + 1, ⟨by rw [e], by omega⟩, by omega, rfl, fun g hg => ?_, by omega⟩
        simp only [show ¬ g = n' by omega, if_false]; exact hk g hg
  · have hge : ¬ (i : Int) < s.facts.length := by omega
    rw [zacp (by omega)]
    simp [zdv, hge]
    exact hQ H' n' fun g hg => (hk g (by omega)).trans (xk g hg)
set_option maxRecDepth 20000 in
set_option maxHeartbeats 2000000 in
theorem zuw (a : Agt) (s : Spt) (n yes : Int) (ha : a.prog.ok) (hname : s.name.length ≤ maxLen) (hf : s.facts.length ≤ 4611686018427387903) : QC Tryd.prog 4 [.agg a.avs, .agg s.avs, .int .i64 n, .int .i64 yes] (.bool true) := by
  refine QC.of' fun H nx => ?_
  suffices main : ∀ Q : AV → Heap → Nat → Prop, (∀ H' n', Keep nx H' H → Q (.bool true) H' n') → za Tryd.prog 4 [.agg a.avs, .agg s.avs, .int .i64 n, .int .i64 yes] H nx Q from main _ fun H' n' h => ⟨zwf, h⟩
  intro Q hQ
  refine zjc _ _ _ _ H nx _ ?_
  obtain ⟨ad, at9, al⟩ := zkh a
  have sl : s.avs.length = 4 := rfl
  have st4 : s.avs.take 4 = s.avs := rfl
  have hsu : (AV.agg a.avs).sure = true := by simp [Agt.avs]
  have hss : (AV.agg s.avs).sure = true := by simp [Spt.avs]
  unfold zfh
  refine ⟨hsu, hss, ?_⟩
  generalize hX : Heap.put _ (nx + 1) _ = X
  have x0 : X nx = some (.row 9 a.avs) := by rw [← hX, Heap.put_ne _ _ (by omega), Heap.put_at]; rfl
  have x1 : X (nx + 1) = some (.row 4 s.avs) := by rw [← hX, Heap.put_at]; rfl
  have xk : Keep nx X H := fun g hg => by rw [← hX, Heap.put_ne _ _ (by omega), Heap.put_ne _ _ (by omega)]
  clear hX
  refine QC.call zacu ?_
  simp [zfi, x0, al, at9]
  refine QC.call (zmt a false ha) ?_
  have fin := fun n' => hQ X n' xk
  by_cases h0 : VM.agent a false = 0
  case neg => simp [zaw, h0]; exact fin _
  by_cases h1 : n < 0
  · simp [zaw, h0, h1]; exact fin _
  by_cases h2 : 300 < n
  · simp [zaw, h0, h1, h2]; exact fin _
  simp [zaw, h0, h1, h2, x1, sl, st4]
  refine QC.call (zagu s hname hf) ?_
  by_cases h3 : zie s = true
  · simp [zax, h3]; exact fin _
  by_cases h4 : yes < 0
  · simp [zax, h3, h4]; exact fin _
  by_cases h5 : 1 < yes
  · simp [zax, h3, h4, h5]; exact fin _
  have hw : ∀ x ∈ s.facts, VM.WrongOk x.val (0 : Int) := fun x hx => by
    unfold zie at h3
    simp only [Bool.or_eq_true, not_or, List.any_eq_true, not_exists, not_and, decide_eq_true_eq, ne_eq, Classical.not_not] at h3
    exact VM.wrong_ok (h3.2 x hx)
  simp [zax, h3, h4, h5]
  obtain ⟨fs0, f0, l0⟩ := VM.agent_live h0
  refine LP.mk (fun k xs H' n' => ∃ (i : Nat) (b : Agt) (gs : List Frm) (g : Frm), xs = [.int .i64 yes, .ptr nx 0, .ptr (nx + 1) 0, .int .i64 n, .int .i64 i] ∧ (i : Int) ≤ n ∧ k = n.toNat - i ∧ VM.Live b gs g ∧ b.prog = a.prog ∧ H' nx = some (.row 9 b.avs) ∧ H' (nx + 1) = some (.row 4 s.avs) ∧ Keep nx H' H ∧ nx + 2 ≤ n') n.toNat ⟨0, a, fs0, f0, rfl, by omega, by omega, l0, rfl, x0, x1, xk, by omega⟩ ?_
  rintro k xs H' n' ⟨i, b, gs, g, rfl, hi, rfl, l, hbp, y0, y1, yk, hn'⟩
  by_cases hlt : (i : Int) < n
  case neg =>
    simp [zcz, hlt]
    exact hQ _ _ yk
  have hadd : IntKind.i64.wrap ((i : Int) + 1) = ((i + 1 : Nat) : Int) := by rw [i64w (by omega)]; rfl
  obtain ⟨bd, bt, bl⟩ := zkh b
  simp [zcz, hlt, y0, y1, bl, bt, sl, st4]
  refine QC.call (zzk l hname hf) ?_
  have sf := zabh l s
  generalize hx : VM.step b s = x
  have hxp : x.1.prog = a.prog := by rw [← hx, sf.prog, hbp]
  have xok : x.1.prog.ok := by rw [hxp]; exact ha
  obtain ⟨xd, xt, xl⟩ := zkh x.1
  have ox := zxx x.1
  have sx : ((AV.agg x.1.avs).sure = true) := by simp [Agt.avs]
  have ne1 : nx ≠ n' ∧ n' ≠ nx ∧ nx ≠ n' + 1 ∧ n' + 1 ≠ nx ∧ nx + 1 ≠ n' ∧ n' ≠ nx + 1 ∧ nx + 1 ≠ n' + 1 ∧ n' + 1 ≠ nx + 1 ∧ n' ≠ n' + 1 ∧ n' + 1 ≠ n' := by omega
  have hXk : ∀ (Z : Heap), Z = (((H'.put n' (some (AObj.row 9 [AV.int IntKind.i64 0, AV.int IntKind.i64 0, AV.nils, AV.nils, AV.nils, AV.nils, AV.int IntKind.i64 0, AV.int IntKind.i64 0, AV.int IntKind.i64 0]))).put (n' + 1) (some (AObj.row 3 [AV.int IntKind.i64 0, AV.str [], AV.int IntKind.i64 0]))).put n' (some (AObj.row 9 x.1.avs))).put (n' + 1) (some (AObj.row 3 [AV.int IntKind.i64 x.2.kind, AV.str x.2.text, AV.int IntKind.i64 x.2.err])) →
      Z nx = some (.row 9 b.avs) ∧ Z (nx + 1) = some (.row 4 s.avs) ∧ Keep nx Z H ∧ Z n' = some (.row 9 x.1.avs) := by
    rintro Z rfl
    refine ⟨?_, ?_, fun g hg => ?_, ?_⟩
    · rw [Heap.put_ne _ _ (by omega), Heap.put_ne _ _ (by omega), Heap.put_ne _ _ (by omega), Heap.put_ne _ _ (by omega)]; exact y0
    · rw [Heap.put_ne _ _ (by omega), Heap.put_ne _ _ (by omega), Heap.put_ne _ _ (by omega), Heap.put_ne _ _ (by omega)]; exact y1
    · rw [Heap.put_ne _ _ (by omega), Heap.put_ne _ _ (by omega), Heap.put_ne _ _ (by omega), Heap.put_ne _ _ (by omega)]; exact yk g hg
    · rw [Heap.put_ne _ _ (by omega), Heap.put_at]
  by_cases k4 : x.2.kind = 4
  · simp [zay, k4, xl, xt, sx, eavs, ne1]
    refine ⟨ox, ?_⟩
    have := hXk _ rfl
    rw [k4] at this
    exact hQ _ _ this.2.2.1
  by_cases k5 : x.2.kind = 5
  · simp [zay, k5, xl, xt, sx, eavs, ne1]
    refine ⟨ox, ?_⟩
    have := hXk _ rfl
    rw [k5] at this
    exact hQ _ _ this.2.2.1
  by_cases k3 : x.2.kind = 3
  · obtain ⟨g1, hg1, hlen, g2, l2⟩ := VM.step_goes l (s := s) (by rw [hx]; exact k3) (yes := yes) (by omega)
    rw [hx] at hg1 l2
    have ga := VM.gone_agent hg1
    have la := VM.live_agent l2
    simp [zay, k3, xl, xt, sx, eavs, ne1]
    refine ⟨ox, ?_⟩
    have hZ := hXk _ rfl
    rw [k3] at hZ
    generalize hZZ : Heap.put _ (n' + 1) (some (AObj.row 3 [AV.int IntKind.i64 3, AV.str x.2.text, AV.int IntKind.i64 x.2.err])) = Z at hZ ⊢
    obtain ⟨z0, z1, zk, z2⟩ := hZ
    refine QC.call (zmt x.1 true xok) ?_
    simp [zfk, ga, z2, xl, xt]
    have fl := l.flen
    have stl := zjx l
    refine QC.call (zwb hg1.fr (by omega) (by omega)) ?_
    have hanp : (VM.answer x.1 yes).prog = a.prog := by rw [zuu hg1.fr]; exact hxp
    generalize han : VM.answer x.1 yes = u at l2 la hanp
    obtain ⟨ud, ut, ul⟩ := zkh u
    have ou := zxx u
    have su : ((AV.agg u.avs).sure = true) := by simp [Agt.avs]
    simp [zfl, z2, xl, ul, ut, su, xd]
    refine ⟨ou, ?_⟩
    refine QC.call (zmt u false (by rw [hanp]; exact ha)) ?_
    simp [zfm, la, z0, ul, ut, su, bl, bd, hadd, ne1]
    refine ⟨ou, n.toNat - (i + 1), by omega, i + 1, ?_⟩
    refine ⟨by omega, by omega, rfl, u, ⟨gs, g2, l2⟩, hanp, rfl, z1, fun y hy => ?_, by omega⟩
    rw [Heap.put_ne _ _ (by omega)]; exact zk y hy
  · have hlv : ∃ gs' g', VM.Live x.1 gs' g' := by
      have kk : x.2.kind = 0 ∨ x.2.kind = 2 := by
        have := VM.step_kinds b s
        rw [hx] at this
        omega
      rcases kk with k | k
      · have := VM.step_live l hw (by rw [hx]; exact k)
        rwa [hx] at this
      · have := VM.step_says l (s := s) (by rw [hx]; exact k)
        rwa [hx] at this
    obtain ⟨gs', g', l'⟩ := hlv
    have la := VM.live_agent l'
    simp [zay, k3, k4, k5, xl, xt, sx, eavs, ne1]
    refine ⟨ox, ?_⟩
    have hZ := hXk _ rfl
    generalize hZZ : Heap.put _ (n' + 1) (some (AObj.row 3 [AV.int IntKind.i64 x.2.kind, AV.str x.2.text, AV.int IntKind.i64 x.2.err])) = Z at hZ ⊢
    obtain ⟨z0, z1, zk, z2⟩ := hZ
    refine QC.call (zmt x.1 false xok) ?_
    simp [zfj, la, z0, z2, xl, xt, sx, bl, bd, hadd]
    refine ⟨ox, n.toNat - (i + 1), by omega, i + 1, by omega, by omega, rfl, x.1, ⟨gs', g', l'⟩, hxp, rfl, z1, fun y hy => ?_, by omega⟩
    first
      | exact zk y hy
      | (rw [Heap.put_ne _ _ (by omega)]; exact zk y hy)
end Go.Proofs.YtobioljjoipimaaDoor
namespace Go.Proofs.YtobioljjoipimaaDoor
open Go Go.RowKit
theorem LayE.of_var {n : String} {w : World} {t : TypeId} {p : Value} (h : w.var? Tryd.prog n = some #[.iface t p]) : LayE n (fun b => w.heap[b]?) := fun g hg => by
  unfold World.var? at h
  rw [hg, Option.bind_some] at h
  split at h
  · rename_i cs e m hc
    cases h
    exact ⟨_, _, e, m, hc⟩
  · cases h
theorem zwi : "*" ++ "errors.errorString" = "*errors.errorString" := by decide
theorem zyc (u : TypeId) (h : Tryd.prog.typeName? 3 u = some "*errors.errorString") : u = 216 :=
  typeName_ptr_named (nm := "errors.errorString") (by rw [zwi]; kernel_rfl) (by kernel_rfl) (by decide) u (by rw [zwi]; exact h)
theorem zzx {r : List (String × DataW Unit)} {text : List UInt8} {W : World} (h : laidMet Tryd.prog (("strconv.ErrRange", .iface "*errors.errorString" (.ptr (.agg [.lit (.string text)]))) :: r) W) : LayE "strconv.ErrRange" (fun b => W.heap[b]?) := by
  obtain ⟨a, s, h1, _⟩ := laid_sentinel (g := 2) (ti := 180) (tp := 216) (te := 218) (ts := 9) h (by kernel_rfl) (by kernel_rfl) Tryd.underlying180 zyc Tryd.underlying216 Tryd.underlying218 rfl rfl Tryd.underlying9 (by kernel_rfl) (by kernel_rfl)
  exact .of_var h1
theorem zxj {r : List (String × DataW Unit)} {text : List UInt8} {W : World} (h : laidMet Tryd.prog (("strconv.ErrSyntax", .iface "*errors.errorString" (.ptr (.agg [.lit (.string text)]))) :: r) W) : LayE "strconv.ErrSyntax" (fun b => W.heap[b]?) := by
  obtain ⟨a, s, h1, _⟩ := laid_sentinel (g := 1) (ti := 180) (tp := 216) (te := 218) (ts := 9) h (by kernel_rfl) (by kernel_rfl) Tryd.underlying180 zyc Tryd.underlying216 Tryd.underlying218 rfl rfl Tryd.underlying9 (by kernel_rfl) (by kernel_rfl)
  exact .of_var h1
end Go.Proofs.YtobioljjoipimaaDoor
