/- code: Make, function by function. code: Make tells the plain function's program. Programs, and agents, as they lie in memory. Words, and instructions: what the document's functions make of them. Plain laws of what is wrong with programs. Rows of numbers. Heights: what the document's function makes of a code. Programs: what the document's function says is wrong with them. What the library's functions on texts answer: strings.Contains, strings.IndexByte. The program's parser: its small functions. The program's parser: words, names, quoted texts. The program's parser: lists of expressions. The program's parser: expressions. The program's parser: forms; expressions as a whole. The program's parser: a statement's expressions. The program's parser: statements. The program's parser: statements, as a whole. The program's parser: statements, as a whole. The program's parser: texts as a whole. Functions that are the same are told so; TextTells. CodeRight. The library's laid variables, where a row lists five of them: three tables, two errors. The wrap of a law's row that lists variables, the world's shape kept. -/
import Derived.Test.YtpllgpgdcbgalaaDoorG11
import Derived.Test.YtpllgpgdcbgalaaDoorG10
import Derived.Test.YtpllgpgdcbgalaaDoorG5
import Derived.Test.YtpllgpgdcbgalaaDoorG9
import Derived.Test.YtpllgpgdcbgalaaDoorG7
import Derived.Test.YtpllgpgdcbgalaaDoorG8
import Derived.Test.YtpllgpgdcbgalaaDoorG1
import Derived.Stop.LaidErr
import Derived.Handed
import Derived.HandedShaped
import Derived.Shelf.Vars
set_option linter.unusedSimpArgs false
set_option linter.unusedVariables false
set_option maxRecDepth 8000
namespace Go.Proofs.YtpllgpgdcbgalaaDoor
open Go Go.RowKit
set_option maxHeartbeats 2000000 in
theorem zvu {H0 H : Heap} {n m i : Nat} {fns : List Fnc} {ws : List Str} {A C : AV} {cs : List (Cod × AV)} {Q : QT} {K : J3} (h : MaL H0 n fns ws A C cs H m) (hi : i < fns.length)
    (hq : ∀ H1, MkM (n + 1) fns fns[i].params.length 0 ws A [] .nils H1 (m + 1) → Off (n + 1) A .nils (m + 1) m → H1 m = some (.row 3 fns[i].avs) → H1 n = some (.row 2 [.nils, .nils]) → H1 (n + 2) = some (.row 2 [C, .nils]) → CdS (Ours n A m) H1 cs C → (∀ y, y < n → H1 y = H0 y) →
      LP (zdo Q K) [.ptr n 0, .ptr (n + 1) 0, .ptr (n + 2) 0, .ptr m 0, .nilp, .ro (fns.map Fnc.avs), .int .i64 fns.length, .int .i64 i, .ro (fns[i].params.map strC), .int .i64 fns[i].params.length, .int .i64 0] H1 (m + 1)) :
    zfp Q K [.ptr n 0, .ptr (n + 1) 0, .ptr (n + 2) 0, .ro (fns.map Fnc.avs), .int .i64 fns.length, .int .i64 i] H m := by
  obtain ⟨vars, high, out, B, mk⟩ := h.mx
  have row := mk.row
  have hbm := h.bm
  have hxl := zks fns[i]
  have hxt : fns[i].avs.take 3 = fns[i].avs := List.take_of_length_le (by omega)
  have e0 : fns[i].avs = [.str fns[i].name, .ro (fns[i].params.map strC), .ro (fns[i].body.map Sm.avs)] := rfl
  have hsl := fun H => zrd (H := H) (zlm (l := fns[i].params))
  have ne_0 : n ≠ n + 1 ∧ n + 1 ≠ n ∧ n ≠ n + 2 ∧ n + 2 ≠ n ∧ n + 1 ≠ n + 2 ∧ n + 2 ≠ n + 1 ∧ n ≠ m ∧ m ≠ n ∧ n + 1 ≠ m ∧ m ≠ n + 1 ∧ n + 2 ≠ m ∧ m ≠ n + 2 := ⟨by omega, by omega, by omega, by omega, by omega, by omega, by omega, by omega, by omega, by omega, by omega, by omega⟩
  simp [zfp, hi, hxl, hxt, row, e0, ne_0]
  obtain ⟨n1, n2, n3⟩ := mk.new (.row 3 [.str fns[i].name, .ro (fns[i].params.map strC), .ro (fns[i].body.map Sm.avs)])
  have cd := h.cd
  have op := h.op
  refine hq _ (n1.reset _ (Heap.put_at _ _ _) fun y hy => Heap.put_ne _ _ hy) ⟨by omega, by omega, n3.2.2.1, by simp [owns]⟩ (by rw [Heap.put_ne _ _ (by omega), Heap.put_at]; rfl) ?_ ?_ (cd.mono fun g hg => ⟨hg, ?_⟩) fun y hy => ?_
  · rw [Heap.put_ne _ _ (by omega), Heap.put_ne _ _ (by omega)]; exact h.r0
  · rw [Heap.put_ne _ _ (by omega), Heap.put_ne _ _ (by omega)]; exact h.rp
  · obtain ⟨g1, g2, g3, _⟩ := hg
    rw [Heap.put_ne _ _ (by omega), Heap.put_ne _ _ (by omega)]
  · rw [Heap.put_ne _ _ (by omega), Heap.put_ne _ _ (by omega)]; exact h.keep y hy
set_option maxHeartbeats 2000000 in
theorem zvv {H1 : Heap} {n m i : Nat} {fns : List Fnc} (hfl : fns.length ≤ 4294967296) {ws : List Str} {A : AV} {Q : QT} {K : J3} (hi : i < fns.length) (hnm : n + 2 < m)
    (hw : ws.length + VM.smWL fns[i].body ≤ 2147483000) (hv : fns[i].params.length + VM.smWL fns[i].body ≤ 2147483000)
    (h1 : MkM (n + 1) fns fns[i].params.length 0 ws A [] .nils H1 (m + 1)) (hf : Off (n + 1) A .nils (m + 1) m) (hr : H1 m = some (.row 3 fns[i].avs)) (hop : n + 2 ∉ owns A)
    (hq : ∀ a v e A' B' H' m', e = VM.stIL (fns.map (·.name)) (VM.penv fns[i].params 0 []) 0 fns[i].body (ws, fns[i].params.length) → MkM (n + 1) fns e.1.2 (VM.hiL fns[i].body) e.1.1 A' (e.2 ++ [⟨1, 0, 0⟩, ⟨18, 0, 0⟩]) B' H' m' → MExt (n + 1) A .nils H1 (m + 1) A' B' H' m' →
      zbp [.ptr n 0, .ptr (n + 1) 0, .ptr (n + 2) 0, .ptr m 0, a, .ro (fns.map Fnc.avs), .int .i64 fns.length, .int .i64 i, .ro (fns[i].params.map strC), .int .i64 fns[i].params.length, .int .i64 fns[i].params.length] Q K v H' m') :
    LP (zdo Q K) [.ptr n 0, .ptr (n + 1) 0, .ptr (n + 2) 0, .ptr m 0, .nilp, .ro (fns.map Fnc.avs), .int .i64 fns.length, .int .i64 i, .ro (fns[i].params.map strC), .int .i64 fns[i].params.length, .int .i64 0] H1 (m + 1) := by
  generalize hps : fns[i].params = ps at *
  refine LP.mk (fun j xs H' m' => ∃ (p : Nat) (a : AV), p + j = ps.length ∧ xs = [.ptr n 0, .ptr (n + 1) 0, .ptr (n + 2) 0, .ptr m 0, a, .ro (fns.map Fnc.avs), .int .i64 fns.length, .int .i64 i, .ro (ps.map strC), .int .i64 ps.length, .int .i64 p] ∧ MkM (n + 1) fns ps.length 0 ws A [] .nils H' m' ∧ MExt (n + 1) A .nils H1 (m + 1) A .nils H' m' ∧ Chn (Off (n + 1) A .nils m') H' (VM.penv (ps.take p) 0 []) a) ps.length ⟨0, .nilp, by omega, rfl, h1, MExt.refl _ _ _ _ _, .nil⟩ ?_
  rintro j xs H' m' ⟨p, a, hpj, rfl, mk, he, ch⟩
  have hr' : H' m = some (.row 3 fns[i].avs) := by rw [(he.off hf).2]; exact hr
  have e0 : fns[i].avs = [.str fns[i].name, .ro (fns[i].params.map strC), .ro (fns[i].body.map Sm.avs)] := rfl
  generalize hJ : (fun (xs : List AV) (H' : Heap) (m' : Nat) => ∃ j', j' < j ∧ ∃ (p : Nat) (a : AV), p + j' = ps.length ∧ xs = [.ptr n 0, .ptr (n + 1) 0, .ptr (n + 2) 0, .ptr m 0, a, .ro (fns.map Fnc.avs), .int .i64 fns.length, .int .i64 i, .ro (ps.map strC), .int .i64 ps.length, .int .i64 p] ∧ MkM (n + 1) fns ps.length 0 ws A [] .nils H' m' ∧ MExt (n + 1) A .nils H1 (m + 1) A .nils H' m' ∧ Chn (Off (n + 1) A .nils m') H' (VM.penv (ps.take p) 0 []) a) = J
  cases j with
  | zero =>
    obtain rfl : p = ps.length := by omega
    rw [List.take_length] at ch
    have hin := VM.inWL_le fns[i].body
    obtain ⟨w1, w2, w3⟩ := VM.stIL_le (fns.map (·.name)) fns[i].body (VM.penv ps 0 []) 0 (ws, ps.length)
    simp [zdo, hr', e0]
    refine zlp (zju hfl _) _ _ _ _ _ A .nils a H' m' _ mk ch (by omega) (by omega) (by simp; omega) fun A2 B2 H2 m2 h2 e2 => ?_
    simp [zna]
    simp only [List.length_nil, List.nil_append, Nat.zero_max] at h2
    refine zdl h2 (by omega) fun B3 H3 m3 h3 e3 => ?_
    simp [znb]
    refine zdl h3 (by simp; omega) fun B4 H4 m4 h4 e4 => ?_
    exact hq a _ _ A2 B4 H4 m4 rfl (by simpa using h4) (((he.trans e2).trans e3).trans e4)
  | succ j =>
    have hlt : p < ps.length := by omega
    have hx : ps[p]? = some ps[p] := List.getElem?_eq_getElem hlt
    have hwi : IntKind.i64.wrap ((p : Int) + 1) = (p : Int) + 1 := i64w (by omega)
    obtain ⟨n1, n2, n3⟩ := mk.new (.row 3 [.str ps[p], .int .i64 p, a])
    have c1 : Chn (Off (n + 1) A .nils (m' + 1)) (H'.put m' (some (.row 3 [.str ps[p], .int .i64 p, a]))) (VM.penv (ps.take (p + 1)) 0 []) (.ptr m' 0) := by
      have e : ps.take (p + 1) = ps.take p ++ [ps[p]] := List.take_succ_eq_append_getElem hlt
      rw [e, ztg, List.length_take, Nat.min_eq_left (by omega), Nat.zero_add]
      exact .node n3 (Heap.put_at _ _ _) (ch.ext n2)
    obtain ⟨ha1, ha2, ha3⟩ := zsc ch
    simp [zdo, hlt, strC, hwi, ha1, ha2, ha3]
    rw [← hJ]
    exact ⟨j, by omega, p + 1, .ptr m' 0, by omega, by simp, n1, he.trans n2, c1⟩
theorem zro {H0 H H' : Heap} {n m gb : Nat} {fns : List Fnc} {ws' : List Str} {vars high : Nat} {out : List Ins} {A C : AV} {cs : List (Cod × AV)} {c : Cod} (hc : c.ins = out)
    (h1 : MkM (n + 1) fns vars high ws' A out (.slc gb 0 out.length) H m) (q1 : n + 2 < gb) (q2 : gb < m) (q3 : H gb = some (.row 3 (out.map Ins.avs).flatten)) (on : Off (n + 1) A (.slc gb 0 out.length) m n) (op : Off (n + 1) A (.slc gb 0 out.length) m (n + 2))
    (cd : CdS (fun y => n + 2 < y ∧ Off (n + 1) A (.slc gb 0 out.length) m y) H cs C) (k0 : ∀ y, y < n → H y = H0 y) (r0 : H n = some (.row 2 [.nils, .nils]))
    (old : ∀ y, y < m → y ≠ n + 2 → y ∉ owns C → H' y = H y) (rp : H' (n + 2) = some (.row 2 [.slc (m + 1) 0 (cs.length + 1), .nils])) (nw : H' (m + 1) = some (.row 3 ((cs ++ [(c, AV.slc gb 0 out.length)]).map rawC).flatten)) :
    MaL H0 n fns ws' A (.slc (m + 1) 0 (cs.length + 1)) (cs ++ [(c, .slc gb 0 out.length)]) H' (m + 1 + 1) := by
  obtain ⟨lA, lB⟩ := h1.lt
  have hgn := h1.gn
  have hC : ∀ y ∈ owns C, n + 2 < y ∧ Off (n + 1) A (.slc gb 0 out.length) m y := by
    intro y hy
    rcases cd.row with ⟨rfl, _⟩ | ⟨gc, rfl, h2, _⟩
    · simp [owns] at hy
    · simp [owns] at hy; subst hy; exact h2
  have hgC : gb ∉ owns C := fun hy => (hC gb hy).2.2.2.2 (by simp [owns])
  refine ⟨⟨vars, high, out, _, h1.same (by omega) fun y hy => ?_⟩, ?_, rp, op.2.2.1, ⟨?_, fun p hp => ?_⟩, fun y hy => ?_, by omega⟩
  · rcases hy with rfl | hy | hy
    · exact old _ hgn (by omega) fun hy => absurd (hC _ hy).1 (by omega)
    · exact old y (lA y hy).2 (fun e => op.2.2.1 (e ▸ hy)) fun hy2 => (hC y hy2).2.2.2.1 hy
    · exact old y (lB y hy).2 (fun e => op.2.2.2 (e ▸ hy)) fun hy2 => (hC y hy2).2.2.2.2 hy
  · rw [old n on.1 (by omega) fun hy => absurd (hC _ hy).1 (by omega)]; exact r0
  · exact .inr ⟨m + 1, by simp, ⟨by omega, by omega, by omega, fun hy => absurd (lA _ hy).2 (by omega), by simp [owns]⟩, nw⟩
  · rcases List.mem_append.1 hp with hp | hp
    · obtain ⟨gi, e1, ⟨e2, e3⟩, e4, e5⟩ := cd.ent p hp
      have := e3.1
      exact ⟨gi, e1, ⟨e2, by omega, e3.2.1, e3.2.2.1, by simp [owns]⟩, by rw [old gi e3.1 (by omega) e5]; exact e4, by simp [owns]; omega⟩
    · rw [List.mem_singleton.1 hp]
      refine ⟨gb, by rw [hc], ⟨q1, by omega, by omega, fun hy => h1.far gb hy (by simp [owns]), by simp [owns]⟩, by rw [old gb q2 (by omega) hgC, hc]; exact q3, by simp [owns]; omega⟩
  · rw [old y (by omega) (by omega) fun hy2 => absurd (hC _ hy2).1 (by omega)]; exact k0 y hy
set_option maxHeartbeats 2000000 in
theorem zvt {H0 H1 H : Heap} {n m m1 i : Nat} {fns : List Fnc} (hfl : fns.length ≤ 4294967296) {ws' : List Str} {vars high : Nat} {out : List Ins} {A B C A1 a v x : AV} {cs : List (Cod × AV)} {Q : QT} {K : J3} (hi : i < fns.length) (hcl : cs.length ≤ 4294967296) (hol : out.length ≤ 4294967296) (hon : out ≠ [])
    (h1 : MkM (n + 1) fns vars high ws' A out B H m) (he : MExt (n + 1) A1 .nils H1 m1 A B H m) (hnm : n + 2 < m1) (hf : ∃ g, g < m1 ∧ Off (n + 1) A1 .nils m1 g ∧ n + 2 < g ∧ H1 g = some (.row 3 fns[i].avs) ∧ x = AV.ptr g 0) (hop : n + 2 ∉ owns A1) (hon2 : n ∉ owns A1)
    (hr0 : H1 n = some (.row 2 [.nils, .nils])) (hrp : H1 (n + 2) = some (.row 2 [C, .nils])) (cd : CdS (Ours n A1 m1) H1 cs C) (hk0 : ∀ y, y < n → H1 y = H0 y) (hAn : ∀ y, y < n → y ∉ owns A1)
    (hbad : 200 < out.length ∨ 16 < high → ∀ H' m', (∀ y, y < n → H' y = H0 y) → Q (.tup [.agg [.nils, .nils], .int .i64 4]) H' m')
    (hok : ¬ (200 < out.length ∨ 16 < high) → ∀ C' B' H' m', MaL H0 n fns ws' A C' (cs ++ [(⟨(fns[i].params.length : Int), (vars : Int), out⟩, B')]) H' m' → K [.ptr n 0, .ptr (n + 1) 0, .ptr (n + 2) 0, .ro (fns.map Fnc.avs), .int .i64 fns.length, .int .i64 ((i : Int) + 1)] H' m') :
    zbp [.ptr n 0, .ptr (n + 1) 0, .ptr (n + 2) 0, x, a, .ro (fns.map Fnc.avs), .int .i64 fns.length, .int .i64 i, .ro (fns[i].params.map strC), .int .i64 fns[i].params.length, .int .i64 fns[i].params.length] Q K v H m := by
  have row := h1.row
  have hle := he.le
  have on : Off (n + 1) A1 .nils m1 n := ⟨by omega, by omega, hon2, by simp [owns]⟩
  have op : Off (n + 1) A1 .nils m1 (n + 2) := ⟨by omega, by omega, hop, by simp [owns]⟩
  have k0 : ∀ y, y < n → H y = H0 y := fun y hy => by rw [(he.off ⟨by omega, by omega, hAn y hy, by simp [owns]⟩).2]; exact hk0 y hy
  obtain ⟨on', en⟩ := he.off on
  obtain ⟨op', ep⟩ := he.off op
  rw [hr0] at en
  rw [hrp] at ep
  obtain ⟨g, g1, g2, g3, g4, rfl⟩ := hf
  obtain ⟨og', eg⟩ := he.off g2
  rw [g4] at eg
  have cd' : CdS (fun y => n + 2 < y ∧ Off (n + 1) A B m y) H cs C := cd.mono fun y hy => ⟨⟨hy.1, (he.off hy.2).1⟩, (he.off hy.2).2⟩
  have hwi : IntKind.i64.wrap ((i : Int) + 1) = (i : Int) + 1 := i64w (by omega)
  have lnl := h1.lnl
  have e0 : fns[i].avs = [.str fns[i].name, .ro (fns[i].params.map strC), .ro (fns[i].body.map Sm.avs)] := rfl
  rw [e0] at eg
  by_cases b1 : 200 < out.length
  · have b1' : (200 : Int) < out.length := by omega
    simp [zbp, row, lnl, b1', en]
    exact hbad (.inl b1) _ _ fun y hy => by rw [Heap.put_ne _ _ (by omega)]; exact k0 y hy
  by_cases b2 : 16 < high
  · have b1' : ¬ (200 : Int) < out.length := by omega
    have b2' : (16 : Int) < high := by omega
    simp [zbp, row, lnl, b1', b2', en]
    exact hbad (.inr b2) _ _ fun y hy => by rw [Heap.put_ne _ _ (by omega)]; exact k0 y hy
  have b1' : ¬ (200 : Int) < out.length := by omega
  have b2' : ¬ (16 : Int) < high := by omega
  have hB : ∃ gb, B = .slc gb 0 out.length ∧ n + 2 < gb ∧ gb < m ∧ H gb = some (.row 3 (out.map Ins.avs).flatten) := by
    have hir := h1.ir
    cases hir with
    | nil => exact absurd rfl hon
    | @row l gb a b c =>
      refine ⟨gb, rfl, ?_, b, c⟩
      have := op'.2.2.2
      simp [owns] at this
      omega
  obtain ⟨gb, rfl, q1, q2, q3⟩ := hB
  rcases cd'.row with ⟨rfl, rfl⟩ | ⟨gc, rfl, ⟨c1, c2⟩, c3⟩
  · have _u := b1
    have ne_1 : n ≠ n + 1 ∧ n + 1 ≠ n ∧ n ≠ n + 2 ∧ n + 2 ≠ n ∧ n + 1 ≠ n + 2 ∧ n + 2 ≠ n + 1 ∧ n ≠ m ∧ m ≠ n ∧ n ≠ m + 1 ∧ m + 1 ≠ n ∧ n + 1 ≠ m ∧ m ≠ n + 1 ∧ n + 1 ≠ m + 1 ∧ m + 1 ≠ n + 1 ∧ n + 2 ≠ m ∧ m ≠ n + 2 ∧ n + 2 ≠ m + 1 ∧ m + 1 ≠ n + 2 := ⟨by omega, by omega, by omega, by omega, by omega, by omega, by omega, by omega, by omega, by omega, by omega, by omega, by omega, by omega, by omega, by omega, by omega, by omega⟩
    simp [zbp, row, b1', b2', eg, ep, hwi, ne_1]
    refine hok (by omega) _ _ _ _ (zro rfl h1 q1 q2 q3 on' op' cd' k0 en (fun y y1 y2 _ => ?_) (Heap.put_at _ _ _) ?_)
    · rw [Heap.put_ne _ _ y2, Heap.put_ne _ _ (by omega), Heap.put_ne _ _ (by omega)]
    · rw [Heap.put_ne _ _ (by omega), Heap.put_at]; rfl
  · have hgb : gc ≠ gb := fun e => c2.2.2.2 (by simp [owns, e])
    have hcm := c2.1
    have rl := zca (f := rawC) (sz := 3) zxf cs
    have h1b : (cs.length + 1) * 40 ≤ 140737488355328 := by omega
    have hsn := zbu (f := rawC) cs (⟨(fns[i].params.length : Int), (vars : Int), out⟩, .slc gb 0 out.length)
    generalize (cs.map rawC).flatten = rr at *
    have h3 : rr.take (cs.length * 3) = rr := List.take_of_length_le (by omega)
    have ne_2 : n ≠ n + 1 ∧ n + 1 ≠ n ∧ n ≠ n + 2 ∧ n + 2 ≠ n ∧ n ≠ gc ∧ gc ≠ n ∧ n + 1 ≠ n + 2 ∧ n + 2 ≠ n + 1 ∧ n + 1 ≠ gc ∧ gc ≠ n + 1 ∧ n + 2 ≠ gc ∧ gc ≠ n + 2 ∧ n ≠ m ∧ m ≠ n ∧ n ≠ m + 1 ∧ m + 1 ≠ n ∧ n + 1 ≠ m ∧ m ≠ n + 1 ∧ n + 1 ≠ m + 1 ∧ m + 1 ≠ n + 1 ∧ n + 2 ≠ m ∧ m ≠ n + 2 ∧ n + 2 ≠ m + 1 ∧ m + 1 ≠ n + 2 ∧ gc ≠ m ∧ m ≠ gc ∧ gc ≠ m + 1 ∧ m + 1 ≠ gc := ⟨by omega, by omega, by omega, by omega, by omega, by omega, by omega, by omega, by omega, by omega, by omega, by omega, by omega, by omega, by omega, by omega, by omega, by omega, by omega, by omega, by omega, by omega, by omega, by omega, by omega, by omega, by omega, by omega⟩
    simp [zbp, row, b1', b2', eg, ep, hwi, c3, rl, h1b, h3, ne_2]
    refine hok (by omega) _ _ _ _ (zro rfl h1 q1 q2 q3 on' op' cd' k0 en (fun y y1 y2 y3 => ?_) (Heap.put_at _ _ _) ?_)
    · simp [owns] at y3
      rw [Heap.put_ne _ _ y2, Heap.put_ne _ _ (by omega), Heap.put_ne _ _ y3, Heap.put_ne _ _ (by omega)]
    · rw [Heap.put_ne _ _ (by omega), Heap.put_at, hsn]; rfl
end Go.Proofs.YtpllgpgdcbgalaaDoor
set_option maxRecDepth 8000
namespace Go.Proofs.YtpllgpgdcbgalaaDoor
open Go Go.RowKit
theorem VM.mkL_cons (names : List Str) (f : Fnc) (r : List Fnc) (ws : List Str) : VM.mkL names (f :: r) ws = if 200 < (VM.fnI names f ws).2.ins.length ∨ 16 < VM.hiL f.body then none else (VM.mkL names r (VM.fnI names f ws).1).map fun p => ((VM.fnI names f ws).2 :: p.1, p.2) := rfl
theorem MaL.frzA {H0 H H' : Heap} {n m : Nat} {fns : List Fnc} {ws : List Str} {A C : AV} {cs : List (Cod × AV)} (h : MaL H0 n fns ws A C cs H m) (hk : ∀ y, y ≠ n → y ≠ n + 2 → H' y = H y) : Frz H' n A (.ro (ws.map fun w => [.str w])) := by
  obtain ⟨vars, high, out, B, mk⟩ := h.mx
  have hwr := mk.wr
  have hop := h.op
  cases hwr with
  | nil => exact .nils
  | @row l ga a b c =>
    simp [owns] at hop
    exact Frz.rowW (by omega) (by rw [hk ga (by omega) (by omega)]; exact c) (by simp) (fun x hx => by obtain ⟨y, _, rfl⟩ := List.mem_map.1 hx; rfl) (FL.same fun v hv => by
      obtain ⟨x, hx, hv⟩ := List.mem_flatten.1 hv
      obtain ⟨y, _, rfl⟩ := List.mem_map.1 hx
      rw [List.mem_singleton.1 hv]
      exact .str _)
set_option maxHeartbeats 2000000 in
theorem zti (l : List Fnc) (hl : l.length ≤ 4294967296) (hw : zbr l ≤ 2147483000) : QC Tryd.prog 16 [.ro (l.map Fnc.avs)] (.tup [.agg (VM.makeP l).1.avs, .int .i64 (VM.makeP l).2]) := by
  refine QC.of' fun H n => ?_
  suffices main : ∀ Q : QT, (∀ v H' n', Frz H' n v (.tup [.agg (VM.makeP l).1.avs, .int .i64 (VM.makeP l).2]) → Keep n H' H → Q v H' n') → za Tryd.prog 16 [.ro (l.map Fnc.avs)] H n Q from main _ fun v H' n' a b => ⟨a, b⟩
  intro Q hq
  refine zpl _ _ _ _ ?_
  simp [zmz]
  have m0 : MaL H n l [] .nils .nils [] (((H.put n (some (.row 2 [.nils, .nils]))).put (n + 1) (some (.row 5 [.ro (l.map Fnc.avs), .nils, .int .i64 0, .int .i64 0, .nils]))).put (n + 2) (some (.row 2 [.nils, .nils]))) (n + 3) := by
    refine ⟨⟨0, 0, [], .nils, ⟨by rw [Heap.put_ne _ _ (by omega), Heap.put_at]; rfl, .nil, .nil, fun y hy => by simp [owns] at hy, by omega⟩⟩, by rw [Heap.put_ne _ _ (by omega), Heap.put_ne _ _ (by omega), Heap.put_at], Heap.put_at _ _ _, by simp [owns], ⟨.inl ⟨rfl, rfl⟩, fun p hp => by simp at hp⟩, fun y hy => ?_, by omega⟩
    rw [Heap.put_ne _ _ (by omega), Heap.put_ne _ _ (by omega), Heap.put_ne _ _ (by omega)]
  generalize ((H.put n (some (.row 2 [.nils, .nils]))).put (n + 1) (some (.row 5 [.ro (l.map Fnc.avs), .nils, .int .i64 0, .int .i64 0, .nils]))).put (n + 2) (some (.row 2 [.nils, .nils])) = H1 at *
  generalize hnm : l.map (·.name) = names
  have hmk : VM.makeP l = match VM.mkL names l [] with
    | none => (⟨[], []⟩, 4)
    | some p => (⟨p.1, p.2⟩, 0) := by subst hnm; rfl
  refine LP.mk (fun j xs H' m' => ∃ (i : Nat) (ws : List Str) (A C : AV) (cs : List (Cod × AV)), i + j = l.length ∧ xs = [.ptr n 0, .ptr (n + 1) 0, .ptr (n + 2) 0, .ro (l.map Fnc.avs), .int .i64 l.length, .int .i64 i] ∧ MaL H n l ws A C cs H' m' ∧ ws.length + zbr (l.drop i) ≤ 2147483000 ∧ cs.length ≤ i ∧ VM.mkL names l [] = (VM.mkL names (l.drop i) ws).map fun p => (cs.map (·.1) ++ p.1, p.2)) l.length ⟨0, [], .nils, .nils, [], by omega, rfl, m0, by simpa using hw, by simp, by rw [List.drop_zero]; cases VM.mkL names l [] <;> rfl⟩ ?_
  rintro j xs H' m' ⟨i, ws, A, C, cs, hij, rfl, h, hwi, hci, hgo⟩
  generalize hJ : (fun (xs : List AV) (H' : Heap) (m' : Nat) => ∃ j', j' < j ∧ ∃ (i : Nat) (ws : List Str) (A C : AV) (cs : List (Cod × AV)), i + j' = l.length ∧ xs = [.ptr n 0, .ptr (n + 1) 0, .ptr (n + 2) 0, .ro (l.map Fnc.avs), .int .i64 l.length, .int .i64 i] ∧ MaL H n l ws A C cs H' m' ∧ ws.length + zbr (l.drop i) ≤ 2147483000 ∧ cs.length ≤ i ∧ VM.mkL names l [] = (VM.mkL names (l.drop i) ws).map fun p => (cs.map (·.1) ++ p.1, p.2)) = J
  cases j with
  | zero =>
    obtain rfl : i = l.length := by omega
    rw [List.drop_length] at hgo
    simp only [VM.mkL, Option.map_some, List.append_nil] at hgo
    rw [hgo] at hmk
    rw [hmk] at hq
    simp only at hq
    obtain ⟨vars, high, out, B, mk⟩ := h.mx
    have row := mk.row
    have rp := h.rp
    have r0 := h.r0
    have hbm := h.bm
    have hA : A.cells = [A] ∧ A.sure = true ∧ A.one = true := by
      have := mk.wr
      cases this with
      | nil => exact ⟨rfl, rfl, rfl⟩
      | row _ _ _ => exact ⟨rfl, rfl, rfl⟩
    have hC : C.one = true := by
      rcases h.cd.row with ⟨rfl, _⟩ | ⟨gc, rfl, _, _⟩ <;> rfl
    obtain ⟨ha1, ha2, ha3⟩ := hA
    simp [zfp, row, rp, r0, ha1, ha2, ha3, hC]
    have hk : ∀ y, y ≠ n → y ≠ n + 2 → ((H'.put (n + 2) (some (.row 2 [C, A]))).put n (some (.row 2 [C, A]))) y = H' y := fun y h1 h2 => by rw [Heap.put_ne _ _ h1, Heap.put_ne _ _ h2]
    refine hq _ _ _ (FL.tup (.cons (FL.agg (.cons ?_ (.cons (h.frzA hk) .nil))) (.cons (.same _ (.int _ _)) .nil))) fun y hy => ?_
    · have := (h.cd.mono (R' := Ours n A m') fun g hg => ⟨hg, hk g (by have := hg.1; omega) (by have := hg.1; omega)⟩).frz (n := n) fun g hg => by have := hg.1; omega
      simpa [List.map_map, Function.comp_def] using this
    · rw [hk y (by omega) (by omega)]; exact h.keep y hy
  | succ j =>
    have hlt : i < l.length := by omega
    have hdr : l.drop i = l[i] :: l.drop (i + 1) := List.drop_eq_getElem_cons hlt
    rw [hdr] at hgo hwi
    simp only [zbr] at hwi
    rw [VM.mkL_cons] at hgo
    refine zvu h hlt fun H2 h2 hf2 hr2 h02 hp2 cd2 hk2 => ?_
    have hop := h.op
    have hbm := h.bm
    refine zvv hl hlt hbm (by omega) (by omega) h2 hf2 hr2 hop fun a v e A' B' H3 m3 he h3 e3 => ?_
    obtain ⟨lA, _⟩ := h2.lt
    rw [hnm] at he
    have hfn : VM.fnI names l[i] ws = (e.1.1, ⟨(l[i].params.length : Int), (e.1.2 : Int), e.2 ++ [⟨1, 0, 0⟩, ⟨18, 0, 0⟩]⟩) := by rw [he]; rfl
    rw [hfn] at hgo
    obtain ⟨w1, w2, w3⟩ := VM.stIL_le names l[i].body (VM.penv l[i].params 0 []) 0 (ws, l[i].params.length)
    rw [← he] at w1 w2 w3
    have hin := VM.inWL_le l[i].body
    refine zvt (H0 := H) (x := .ptr m' 0) hl hlt (by omega) (by simp; omega) (by simp) h3 e3 (by omega) ⟨m', by omega, hf2, hbm, hr2, rfl⟩ hop (fun hy => absurd (lA _ hy).1 (by omega)) h02 hp2 (cd2.mono fun g hg => ⟨⟨hg.1, by have := hg.2.1; omega, hg.2.2⟩, rfl⟩) hk2 (fun y hy hy2 => absurd (lA _ hy2).1 (by omega)) (fun hb H4 m4 k4 => ?_) fun hb C4 B4 H4 m4 h4 => ?_
    · rw [if_pos hb] at hgo
      rw [hgo] at hmk
      rw [hmk] at hq
      exact hq _ _ _ (FL.tup (.cons (FL.agg (.cons .nils (.cons .nils .nil))) (.cons (.same _ (.int _ _)) .nil))) k4
    · rw [if_neg hb] at hgo
      rw [← hJ]
      simp only at w1 w2
      refine ⟨j, by omega, i + 1, _, A', C4, _, by omega, by simp, h4, by omega, by simp; omega, ?_⟩
      rw [hgo]
      cases VM.mkL names (l.drop (i + 1)) e.1.1 <;> simp
end Go.Proofs.YtpllgpgdcbgalaaDoor
namespace Go.Proofs.YtpllgpgdcbgalaaDoor
open Go Go.RowKit
end Go.Proofs.YtpllgpgdcbgalaaDoor
set_option maxRecDepth 8000
namespace Go.Proofs.YtpllgpgdcbgalaaDoor
open Go Go.RowKit
theorem zwz (i : Ins) : QC Tryd.prog 61 [.agg i.avs] (.tup [.int .i64 (VM.effect i).1, .int .i64 (VM.effect i).2]) := by
  refine QC.of' fun H nx => zmj _ H nx _ ?_
  obtain ⟨op, a, b⟩ := i
  unfold zjm
  simp only [Ins.avs, zww, zwl, true_and, List.length_cons, List.length_nil, ld_p, Heap.put_at, rowk, List.getElem?_cons_zero, optk, zaap, cnd, cndc, decide_eq_true_eq, decide_eq_false_iff_not]
  refine ⟨fun h => ?_, fun h => ?_⟩
  · simp [VM.effect, h]
  have hx : op ≠ 17 := by simpa using h
  have hH : ((H.put nx (some (.row 3 [.int .i64 op, .int .i64 a, .int .i64 b]))).put (nx + 1) (some (.mp []))) (nx + 1) = some (.mp []) := Heap.put_at _ _ _
  have hK : Keep nx ((H.put nx (some (.row 3 [.int .i64 op, .int .i64 a, .int .i64 b]))).put (nx + 1) (some (.mp []))) H := by simp
  have hop : ((H.put nx (some (.row 3 [.int .i64 op, .int .i64 a, .int .i64 b]))).put (nx + 1) (some (.mp []))) nx = some (.row 3 [.int .i64 op, .int .i64 a, .int .i64 b]) := by simp
  simp only [Nat.zero_add, Nat.reduceAdd]
  generalize ((H.put nx (some (.row 3 [.int .i64 op, .int .i64 a, .int .i64 b]))).put (nx + 1) (some (.mp []))) = H1 at *
  repeat (refine ⟨rfl, zaai hH hop (by omega) hK (by omega) (by simp only [zjx, zmw, List.nil_append, List.cons_append, Int.reduceEq, if_false, Option.map_some, Option.map_none]) ?_⟩; clear hH hK hop; clear H1; intro H1 hH hop hK)
  simp only [List.nil_append, List.cons_append] at hH
  have hcases : op < 1 ∨ 19 < op ∨ op = 1 ∨ op = 2 ∨ op = 3 ∨ op = 4 ∨ op = 5 ∨ op = 6 ∨ op = 7 ∨ op = 8 ∨ op = 9 ∨ op = 10 ∨ op = 11 ∨ op = 12 ∨ op = 13 ∨ op = 14 ∨ op = 15 ∨ op = 16 ∨ op = 18 ∨ op = 19 := by omega
  have hs : ∀ p q : Int, (∃ r, zaa (.int .i64 op) [(.int .i64 1, .agg [.int .i64 0, .int .i64 1]), (.int .i64 2, .agg [.int .i64 0, .int .i64 1]), (.int .i64 3, .agg [.int .i64 0, .int .i64 1]), (.int .i64 4, .agg [.int .i64 1, .int .i64 0]), (.int .i64 5, .agg [.int .i64 2, .int .i64 1]), (.int .i64 6, .agg [.int .i64 2, .int .i64 1]), (.int .i64 7, .agg [.int .i64 1, .int .i64 1]), (.int .i64 8, .agg [.int .i64 1, .int .i64 1]), (.int .i64 9, .agg [.int .i64 2, .int .i64 0]), (.int .i64 10, .agg [.int .i64 2, .int .i64 0]), (.int .i64 11, .agg [.int .i64 1, .int .i64 1]), (.int .i64 12, .agg [.int .i64 0, .int .i64 1]), (.int .i64 13, .agg [.int .i64 1, .int .i64 1]), (.int .i64 14, .agg [.int .i64 1, .int .i64 0]), (.int .i64 15, .agg [.int .i64 0, .int .i64 0]), (.int .i64 16, .agg [.int .i64 1, .int .i64 0]), (.int .i64 18, .agg [.int .i64 1, .int .i64 0]), (.int .i64 19, .agg [.int .i64 1, .int .i64 0])] = some r ∧
      (match r with | some (_, v) => v | none => .agg [.int .i64 0, .int .i64 0]) = .agg [.int .i64 (VM.effect ⟨op, a, b⟩).1, .int .i64 (VM.effect ⟨op, a, b⟩).2]) := by
    intro _ _
    rcases hcases with h | h | h
    · have e : VM.effect ⟨op, a, b⟩ = (0, 0) := by unfold VM.effect; simp only; (repeat' split) <;> first | omega | rfl
      refine ⟨none, ?_, by rw [e]⟩
      simp only [zjx, zmw]
      repeat rw [if_neg (by omega)]
      rfl
    · have e : VM.effect ⟨op, a, b⟩ = (0, 0) := by unfold VM.effect; simp only; (repeat' split) <;> first | omega | rfl
      refine ⟨none, ?_, by rw [e]⟩
      simp only [zjx, zmw]
      repeat rw [if_neg (by omega)]
      rfl
    · rcases h with h | h | h | h | h | h | h | h | h | h | h | h | h | h | h | h | h | h
      all_goals subst h; exact ⟨_, by simp only [zjx, Int.reduceEq, if_false, if_true, Option.map_some]; rfl, rfl⟩
  obtain ⟨r, h1, h2⟩ := hs 0 0
  rw [hop, rowk]
  simp only [List.getElem?_cons_zero, optk, zui, true_and, lk_p, hH, mapk, h1, cond_true, cond_false]
  cases r with
  | none => simp only at h2; simp [hK, h2]
  | some pr => obtain ⟨i, v⟩ := pr; simp only at h2; simp [hK, h2]
theorem zzc (s : Str) (i : Nat) : (s.drop i).all VM.wordByte = if h : i < s.length then VM.wordByte s[i] && (s.drop (i + 1)).all VM.wordByte else true := by
  split
  · rename_i h
    rw [List.drop_eq_getElem_cons h, List.all_cons]
  · rename_i h
    rw [List.drop_of_length_le (by omega)]; rfl
theorem zwu (s : Str) (hs : s.length ≤ maxLen) : QC Tryd.prog 25 [.str s] (.bool (VM.word s)) := by
  refine fun H nx => zhw _ H nx _ ?_
  simp only [maxLen] at hs
  simp [zgd]
  refine LP.mk (fun n xs H' nx' => ∃ i : Nat, i ≤ s.length ∧ n = s.length - i ∧ xs = [.str s, .int .i64 s.length, .int .i64 i] ∧ H = H' ∧ nx = nx' ∧ s.all VM.wordByte = (s.drop i).all VM.wordByte) s.length ⟨0, by omega, by omega, rfl, rfl, rfl, rfl⟩ ?_
  rintro n xs H' nx' ⟨i, hi, rfl, rfl, rfl, rfl, hall⟩
  rw [zzc] at hall
  simp [zge]
  refine ⟨fun h => ?_, fun h => ?_⟩
  · rw [dif_pos h] at hall
    have hb : VM.wordByte s[i] = false → VM.word s = false := fun hb => by simp [VM.word, hall, hb]
    simp [h]
    refine ⟨fun h1 => hb (by simp [VM.wordByte]; omega), fun h1 => ⟨fun h2 => hb (by simp [VM.wordByte]; omega), fun h2 => ⟨fun h3 => hb (by simp [VM.wordByte]; omega), fun h3 => ?_⟩⟩⟩
    rw [i64w (by omega)]
    refine ⟨s.length - (i + 1), by omega, i + 1, by omega, rfl, by simp, ?_⟩
    have : VM.wordByte s[i] = true := by simp [VM.wordByte]; omega
    rw [hall, this]; rfl
  · rw [dif_neg (by omega)] at hall
    simp only [VM.word, hall, Bool.and_true]
    rw [Bool.eq_iff_iff]; simp; omega
end Go.Proofs.YtpllgpgdcbgalaaDoor
namespace Go.Proofs.YtpllgpgdcbgalaaDoor
open Go Go.RowKit
def zou (out : List Int) : Nat := out.countP (· < 0)
theorem zuz {out : List Int} {k : Nat} {h : Int} (hk : k < out.length) (h0 : out.getD k 0 < 0) (h1 : 0 ≤ h) : zou (out.set k h) + 1 = zou out := by
  unfold zou
  have hg : out[k] < 0 := by simpa [List.getD, hk] using h0
  have hpos : 0 < out.countP (· < 0) := List.countP_pos_iff.2 ⟨out[k], List.getElem_mem hk, by simpa using hg⟩
  rw [List.countP_set hk]
  have hnl : ¬ h < 0 := by omega
  simp [hg, hnl]
  omega
theorem zwa (i : Ins) (h : i.op = 17 → 0 ≤ i.b ∧ i.b ≤ 16) : 0 ≤ (VM.effect i).1 ∧ (VM.effect i).1 ≤ 16 ∧ 0 ≤ (VM.effect i).2 ∧ (VM.effect i).2 ≤ 1 := by
  unfold VM.effect
  (repeat' split) <;> simp_all
def Calm (ins : List Ins) : Prop := ∀ i ∈ ins, i.op = 17 → 0 ≤ i.b ∧ i.b ≤ 16
theorem zme {α : Type} (f : α → Int) (l : List α) (k : Nat) (x : α) (hk : l[k]? = some x) : VM.firstErr f (l.drop k) = if f x ≠ 0 then f x else VM.firstErr f (l.drop (k + 1)) := by
  obtain ⟨hlt, rfl⟩ := List.getElem?_eq_some_iff.1 hk
  rw [List.drop_eq_getElem_cons hlt]
  rfl
theorem zys {α : Type} (f : α → Bool) (l : List α) (k : Nat) (x : α) (hk : l[k]? = some x) : (l.drop k).any f = (f x || (l.drop (k + 1)).any f) := by
  obtain ⟨hlt, rfl⟩ := List.getElem?_eq_some_iff.1 hk
  rw [List.drop_eq_getElem_cons hlt]
  rfl
theorem zyt {α : Type} (f : α → Bool) (l : List α) (k : Nat) (x : α) (hk : l[k]? = some x) : (l.drop k).all f = (f x && (l.drop (k + 1)).all f) := by
  obtain ⟨hlt, rfl⟩ := List.getElem?_eq_some_iff.1 hk
  rw [List.drop_eq_getElem_cons hlt]
  rfl
theorem zqx {α : Type} {f : α → Int} {l : List α} (h : VM.firstErr f l = 0) : ∀ x ∈ l, f x = 0 := by
  induction l with
  | nil => intro x hx; simp at hx
  | cons a r ih =>
    unfold VM.firstErr at h
    by_cases h0 : f a ≠ 0
    · rw [if_pos h0] at h; exact absurd h h0
    · rw [if_neg h0] at h
      intro x hx
      rcases List.mem_cons.1 hx with rfl | hx
      · omega
      · exact ih h x hx
theorem zaab {p : Prg} {c : Cod} (hr : ∀ x ∈ p.codes, VM.codeRange x = false) (hn : ∀ i ∈ c.ins, VM.numbers p c i = 0) : Calm c.ins := by
  intro i hi h17
  have h := hn i hi
  unfold VM.numbers at h
  rw [if_neg (by omega)] at h
  by_cases hok : VM.numOk p c i = false ∨ (i.op ≠ 17 ∧ i.b ≠ 0)
  · rw [if_pos hok] at h; omega
  · have h2 : VM.numOk p c i = true := by
      cases hq : VM.numOk p c i with
      | true => rfl
      | false => exact absurd (Or.inl hq) hok
    unfold VM.numOk at h2
    simp [h17] at h2
    obtain ⟨_, h3⟩ := h2
    cases hx : p.codes[i.a.toNat]? with
    | none => rw [hx] at h3; simp at h3
    | some x =>
      rw [hx] at h3
      have h4 := hr x (List.mem_of_getElem? hx)
      unfold VM.codeRange at h4
      rw [decide_eq_false_iff_not] at h4
      simp at h3
      omega
end Go.Proofs.YtpllgpgdcbgalaaDoor
set_option maxRecDepth 8000
namespace Go.Proofs.YtpllgpgdcbgalaaDoor
open Go Go.RowKit
def zk (l : List Int) : List AV := l.map (AV.int .i64)
section
variable {k : AV → Prop} {ki : IntKind}
@[simp ↓] theorem zaeg {s g off len : Nat} {a : Int} {H : Heap} : SL s (.slc g off len) (some (.int ki a)) none H k = ROWK (H g) fun sz _ => sz = s ∧ 0 ≤ a ∧ a ≤ len ∧ k (.slc g (off + a.toNat * s) ((len : Int) - a).toNat) := by
  simp only [SL, zij, lohi, qk]
  refine zgg (fun sz cs h => ?_) fun h => ?_
  · simp [h]
  · intro ha
    split at ha
    · rename_i sz cs he; exact h _ _ he
    · exact ha
end
theorem zvz (n i : Nat) (h : i < n) : List.take i (zk (List.replicate i (-1) ++ List.replicate (n - i) 0)) ++ AV.int .i64 (-1) :: List.drop (i + 1) (zk (List.replicate i (-1) ++ List.replicate (n - i) 0)) = zk (List.replicate (i + 1) (-1) ++ List.replicate (n - (i + 1)) 0) := by
  have e : n - i = (n - (i + 1)) + 1 := by omega
  rw [e, List.replicate_succ, List.replicate_succ']
  simp [zk, List.take_append, List.drop_append]
theorem zfr (l : List Int) (i : Nat) : (zk l)[i]? = (l[i]?).map (AV.int .i64) := by simp [zk]
theorem zut (l : List Int) (i : Nat) (x : Int) (h : i < l.length) : List.take i (zk l) ++ AV.int .i64 x :: List.drop (i + 1) (zk l) = zk (l.set i x) := by
  rw [zk, zk, List.map_set, List.set_eq_take_append_cons_drop]; simp [h]
@[simp] theorem zabl (l : List Int) : (zk l).length = l.length := by simp [zk]
theorem zsx (l : List Int) : (l.map fun n => [AV.int .i64 n]).flatten = zk l := by
  induction l with
  | nil => rfl
  | cons x r ih => simp [zk] at ih ⊢; exact ih
end Go.Proofs.YtpllgpgdcbgalaaDoor
set_option maxRecDepth 8000
namespace Go.Proofs.YtpllgpgdcbgalaaDoor
open Go Go.RowKit
theorem app1 {g len s : Nat} {x : Int} {H : Heap} {kk : AV → Heap → Nat → Prop} {A : List Int} (hg : H g = some (.row 1 (zk A))) (hl : A.length = len) (hgs : g ≠ s) (hb : len ≤ 4194304)
    (hk : ∀ H', H' (s + 1) = some (.row 1 (zk (A ++ [x]))) → (∀ y, y ≠ g → y ≠ s → y ≠ s + 1 → H' y = H y) → kk (.slc (s + 1) 0 (len + 1)) H' (s + 1 + 1)) :
    APP 1 8 (.slc g 0 len) (.slc s 0 1) (H.put s (some (.row 1 [.int .i64 x]))) (s + 1) kk := by
  simp [hgs, hg]
  refine ⟨by omega, by omega, hk _ ?_ ?_⟩
  · simp [hl, zk]
    rw [List.take_of_length_le (by simp; omega)]
  · intro y h1 h2 h3
    simp [h1, h2, h3]
theorem app2 {ga gb la s : Nat} {x y : Int} {H : Heap} {kk : AV → AV → Heap → Nat → Prop} {A B : List Int} (hga : H ga = some (.row 1 (zk A))) (hgb : H gb = some (.row 1 (zk B))) (hA : A.length = la) (hB : B.length = la) (hab : ga ≠ gb) (ha : ga < s) (hb : gb < s) (hl : la ≤ 4194304)
    (hk : ∀ H', H' (s + 1) = some (.row 1 (zk (A ++ [x]))) → H' (s + 3) = some (.row 1 (zk (B ++ [y]))) → (∀ z, z ≠ ga → z ≠ gb → z < s → H' z = H z) → kk (.slc (s + 1) 0 (la + 1)) (.slc (s + 3) 0 (la + 1)) H' (s + 4)) :
    APP 1 8 (.slc ga 0 la) (.slc s 0 1) (H.put s (some (.row 1 [.int .i64 x]))) (s + 1) fun v H' n => APP 1 8 (.slc gb 0 la) (.slc n 0 1) (H'.put n (some (.row 1 [.int .i64 y]))) (n + 1) fun w H'' n' => kk v w H'' n' := by
  refine app1 hga hA (by omega) hl fun H1 h1 h2 => ?_
  refine app1 (A := B) (by rw [h2 gb (by omega) (by omega) (by omega)]; exact hgb) hB (by omega) hl fun H3 h3 h4 => ?_
  refine hk H3 ?_ h3 fun z p q r => ?_
  · rw [h4 _ (by omega) (by omega) (by omega)]; exact h1
  · rw [h4 _ (by omega) (by omega) (by omega), h2 _ (by omega) (by omega) (by omega)]
def RInv (c : Cod) (H0 : Heap) (n0 : Nat) (f : Nat) (xs : List AV) (H : Heap) (nx : Nat) : Prop := ∃ (q : List (Int × Int)) (out A B : List Int) (ga gb k la : Nat),
  xs = [.ptr n0 0, .slc (n0 + 1) 0 c.ins.length, .slc ga 0 la, .slc gb 0 la, .int .i64 k] ∧ A.length = la ∧ B.length = la ∧ H ga = some (.row 1 (zk A)) ∧ H gb = some (.row 1 (zk B)) ∧ A.drop k = q.map (·.1) ∧ B.drop k = q.map (·.2) ∧ k ≤ la ∧
  n0 + 1 < ga ∧ n0 + 1 < gb ∧ ga ≠ gb ∧ ga < nx ∧ gb < nx ∧ k + f = 2 * c.ins.length + 2 ∧
  H n0 = some (.row 3 c.avs) ∧ H (n0 + 1) = some (.row 1 (zk out)) ∧ out.length = c.ins.length ∧ Keep n0 H H0 ∧
  VM.heightsGo c.ins f q out = VM.heights c.ins ∧ q.length + 2 * zou out < f ∧ (∀ x ∈ q, 0 ≤ x.2 ∧ x.2 ≤ 16) ∧ (∀ x ∈ out, -1 ≤ x ∧ x ≤ 16)
set_option maxHeartbeats 4000000 in
theorem zsu (c : Cod) (hlen : c.ins.length ≤ 1048576) (hcalm : Calm c.ins) :
    QC Tryd.prog 41 [.agg c.avs] (.tup [.ro ((VM.heights c.ins).1.map fun n => [.int .i64 n]), .int .i64 (VM.heights c.ins).2]) := by
  refine QC.of' fun H nx => zld _ H nx _ ?_
  simp [zhu, Cod.avs]
  refine ⟨by omega, by omega, ?_⟩
  refine LP.mk (fun m xs H' nx' => ∃ i : Nat, i ≤ c.ins.length ∧ m = c.ins.length - i ∧ xs = [.ptr nx 0, .slc (nx + 1) 0 c.ins.length, .int .i64 c.ins.length, .int .i64 i] ∧ nx' = nx + 2 ∧
    H' = (H.put nx (some (.row 3 c.avs))).put (nx + 1) (some (.row 1 (zk (List.replicate i (-1) ++ List.replicate (c.ins.length - i) 0))))) c.ins.length
    ⟨0, by omega, by omega, by simp, rfl, by simp [zk, Cod.avs]⟩ ?_
  rintro m xs H' nx' ⟨i, hi, rfl, rfl, rfl, rfl⟩
  simp [zhv]
  refine ⟨fun h => ?_, fun h => ?_⟩
  · refine ⟨h, by omega, ?_⟩
    rw [i64w (by omega)]
    refine ⟨c.ins.length - (i + 1), by omega, i + 1, by omega, rfl, by simp, ?_⟩
    rw [zvz _ _ h]
  obtain rfl : i = c.ins.length := by omega
  refine LP.mk (RInv c H nx) (2 * c.ins.length + 2) ⟨[(0, 0)], List.replicate c.ins.length (-1), [0], [0], nx + 2, nx + 3, 0, 1, by simp, rfl, rfl, by simp [zk], by simp [zk], rfl, rfl, by omega, by omega, by omega, by omega, by omega, by omega, by omega, by simp; omega, by simp, by simp, ?_, rfl, ?_, ?_, ?_⟩ ?_
  · rw [Keep.put (by omega), Keep.put (by omega), Keep.put (by omega), Keep.put (by omega)]; simp
  · unfold zou; simp [List.countP_replicate]; omega
  · intro x hx; simp at hx; subst hx; simp
  · intro x hx; have := List.eq_of_mem_replicate hx; omega
  rintro f xs H1 n1 ⟨q, out, A, B, ga, gb, k, la, rfl, hAl, hBl, hga, hgb, hA, hB, hk, g1, g2, g3, g4, g5, hkf, hb, ho, hol, hK, hgo, hmeas, hq, hout⟩
  cases f with
  | zero => simp at hmeas
  | succ f =>
  cases q with
  | nil =>
    have hkl : la ≤ k := by have := congrArg List.length hA; simp at this; omega
    have e : VM.heights c.ins = (out, 0) := by rw [← hgo]; rfl
    have : ¬ k < la := by omega
    simp [zal, this, e]
    refine ⟨Frz.row (sz := 1) (cells := zk out) (by omega) ho (by simp [hol]) (by simp) (zsx out) ?_, hK⟩
    intro x hx; simp [zk] at hx; obtain ⟨a, _, rfl⟩ := hx; exact .int _ _
  | cons x q =>
    obtain ⟨at_, h⟩ := x
    have hkl : k < la := by have := congrArg List.length hA; simp at this; omega
    have hA0 : A[k]? = some at_ := by have := congrArg (·[0]?) hA; simpa using this
    have hB0 : B[k]? = some h := by have := congrArg (·[0]?) hB; simpa using this
    have hA1 : A.drop (k + 1) = q.map (·.1) := by have := congrArg (List.drop 1) hA; simpa using this
    have hB1 : B.drop (k + 1) = q.map (·.2) := by have := congrArg (List.drop 1) hB; simpa using this
    have hh := hq (at_, h) (by simp)
    simp only at hh
    have hq' : ∀ x ∈ q, 0 ≤ x.2 ∧ x.2 ≤ 16 := fun x hx => hq x (by simp [hx])
    have hlaq : la = k + 1 + q.length := by have := congrArg List.length hA; simp at this; omega
    simp only [List.length_cons] at hmeas
    simp only [VM.heightsGo] at hgo
    have w0 : IntKind.i64.wrap ((k : Int) + 1) = ((k + 1 : Nat) : Int) := by rw [i64w (by omega)]; simp
    by_cases hr : 0 ≤ at_ ∧ at_ < c.ins.length
    case neg =>
      have e : (if 0 ≤ at_ then c.ins[at_.toNat]? else none) = none := by
        split
        · exact List.getElem?_eq_none (by omega)
        · rfl
      rw [e] at hgo
      simp only at hgo
      rw [← hgo]
      by_cases h0 : at_ < 0
      · simp [zal, hkl, hga, hgb, zfr, hA0, hB0, h0, hK]
      · have : (c.ins.length : Int) ≤ at_ := by omega
        simp [zal, hkl, hga, hgb, zfr, hA0, hB0, h0, this, hK]
    case pos =>
    obtain ⟨hr0, hr1⟩ := hr
    have hlt : at_.toNat < c.ins.length := by omega
    obtain ⟨i, hi⟩ : ∃ i, c.ins[at_.toNat]? = some i := ⟨_, List.getElem?_eq_getElem hlt⟩
    obtain ⟨o, ho'⟩ : ∃ o, out[at_.toNat]? = some o := ⟨_, List.getElem?_eq_getElem (by omega)⟩
    have hod : out.getD at_.toNat 0 = o := by simp [List.getD_eq_getElem?_getD, ho']
    rw [if_pos hr0, hi, hod] at hgo
    simp only at hgo
    by_cases hs : 0 ≤ o
    · rw [if_pos hs] at hgo
      by_cases hne : o = h
      · subst hne
        rw [if_neg (by simp)] at hgo
        simp [zal, hkl, hga, hgb, zfr, hA0, hB0, ho, hr0, hr1, ho', hs, Int.not_lt.2 hr0, Int.not_le.2 hr1, w0, Int.not_lt.2 hs]
        exact ⟨f, by omega, q, out, A, B, ga, gb, k + 1, la, rfl, hAl, hBl, hga, hgb, hA1, hB1, by omega, g1, g2, g3, g4, g5, by omega, hb, ho, hol, hK, hgo, by omega, hq', hout⟩
      · rw [if_pos hne] at hgo
        rw [← hgo]
        simp [zal, hkl, hga, hgb, zfr, hA0, hB0, ho, hr0, hr1, ho', hs, hne, Int.not_lt.2 hr0, Int.not_le.2 hr1, hK]
    rw [if_neg hs] at hgo
    have hbd := zwa i (hcalm i (List.mem_of_getElem? hi))
    have n1' : ga ≠ nx := by omega
    have n2' : ga ≠ nx + 1 := by omega
    have n3' : ga ≠ n1 := by omega
    have n4' : nx ≠ n1 := by omega
    have n5' : nx + 1 ≠ n1 := by omega
    have m2' : gb ≠ nx + 1 := by omega
    have m3' : gb ≠ n1 := by omega
    have hns : o < 0 := by omega
    obtain ⟨_, hi'⟩ := List.getElem?_eq_some_iff.1 hi
    simp [zal, hkl, hga, hgb, zfr, hA0, hB0, ho, hb, hr0, hr1, ho', hs, hns, hi', Cod.avs, Ins.avs, Int.not_lt.2 hr0, Int.not_le.2 hr1]
    refine ⟨by omega, QC.call (zwz i) ?_⟩
    rw [zut _ _ _ (by omega)]
    have h2a : ((H1.put (nx + 1) (some (.row 1 (zk (out.set at_.toNat h))))).put n1 (some (.row 3 [.int .i64 i.op, .int .i64 i.a, .int .i64 i.b]))) ga = some (.row 1 (zk A)) := by simp [n2', n3', hga]
    have h2c : ((H1.put (nx + 1) (some (.row 1 (zk (out.set at_.toNat h))))).put n1 (some (.row 3 [.int .i64 i.op, .int .i64 i.a, .int .i64 i.b]))) gb = some (.row 1 (zk B)) := by simp [m2', m3', hgb]
    have h2b : ((H1.put (nx + 1) (some (.row 1 (zk (out.set at_.toNat h))))).put n1 (some (.row 3 [.int .i64 i.op, .int .i64 i.a, .int .i64 i.b]))) nx = some (.row 3 c.avs) := by simp [n4', hb]
    have h2o : ((H1.put (nx + 1) (some (.row 1 (zk (out.set at_.toNat h))))).put n1 (some (.row 3 [.int .i64 i.op, .int .i64 i.a, .int .i64 i.b]))) (nx + 1) = some (.row 1 (zk (out.set at_.toNat h))) := by simp [n5']
    have h2n : ((H1.put (nx + 1) (some (.row 1 (zk (out.set at_.toNat h))))).put n1 (some (.row 3 [.int .i64 i.op, .int .i64 i.a, .int .i64 i.b]))) n1 = some (.row 3 [.int .i64 i.op, .int .i64 i.a, .int .i64 i.b]) := by simp
    have h2K : Keep nx ((H1.put (nx + 1) (some (.row 1 (zk (out.set at_.toNat h))))).put n1 (some (.row 3 [.int .i64 i.op, .int .i64 i.a, .int .i64 i.b]))) H := by rw [Keep.put (by omega), Keep.put (by omega)]; exact hK
    generalize ((H1.put (nx + 1) (some (.row 1 (zk (out.set at_.toNat h))))).put n1 (some (.row 3 [.int .i64 i.op, .int .i64 i.a, .int .i64 i.b]))) = H2 at *
    have hu := zuz (out := out) (k := at_.toNat) (h := h) (by omega) (by omega) hh.1
    generalize hE : VM.effect i = E at *
    obtain ⟨nd, gv⟩ := E
    simp only at hbd hgo
    have w1 : IntKind.i64.wrap (h - nd) = h - nd := i64w (by omega)
    have w2 : IntKind.i64.wrap (h - nd + gv) = h - nd + gv := i64w (by omega)
    have w3 : IntKind.i64.wrap (at_ + 1) = at_ + 1 := i64w (by omega)
    by_cases hc1 : h < nd ∨ (i.op = 18 ∧ h ≠ 1)
    · rw [if_pos hc1] at hgo
      rw [← hgo]
      by_cases hc2 : h < nd
      · simp [zz, hc2, h2K]
      · have h18 : i.op = 18 := by omega
        have hnd : nd = 1 := by simp [VM.effect, h18] at hE; omega
        have h1 : 1 < h := by omega
        simp [zz, hc2, h2n, h18, h1, h2K]
    rw [if_neg hc1] at hgo
    have hc2 : ¬ h < nd := by omega
    have hc2' : nd ≤ h := by omega
    by_cases hc3 : 16 < h + gv - nd
    · rw [if_pos hc3] at hgo
      rw [← hgo]
      have hc3' : 16 < h - nd + gv := by omega
      by_cases h18 : i.op = 18
      · have h1 : h = 1 := by omega
        subst h1
        simp [zz, hc2, h2n, h18, w1, w2, hc3', h2K]
      · simp [zz, hc2, h2n, h18, w1, w2, hc3', h2K]
    rw [if_neg hc3] at hgo
    have hc4 : ¬ 16 < h - nd + gv := by omega
    have e4 : h + gv - nd = h - nd + gv := by omega
    rw [e4] at hgo
    have fin : ∀ (l : List (Int × Int)) (ga' gb' : Nat) (H3 : Heap) (n3 : Nat), VM.heightsGo c.ins f (q ++ l) (out.set at_.toNat h) = VM.heights c.ins → l.length ≤ 2 → (∀ x ∈ l, 0 ≤ x.2 ∧ x.2 ≤ 16) →
        H3 ga' = some (.row 1 (zk (A ++ l.map (·.1)))) → H3 gb' = some (.row 1 (zk (B ++ l.map (·.2)))) → nx + 1 < ga' → nx + 1 < gb' → ga' ≠ gb' → ga' < n3 → gb' < n3 →
        H3 nx = H2 nx → H3 (nx + 1) = H2 (nx + 1) → Keep nx H3 H →
        ∃ m, m < f + 1 ∧ RInv c H nx m [.ptr nx 0, .slc (nx + 1) 0 c.ins.length, .slc ga' 0 (la + l.length), .slc gb' 0 (la + l.length), .int .i64 ((k + 1 : Nat) : Int)] H3 n3 := by
      intro l ga' gb' H3 n3 p1 p2 p3 p4 p5 p6 p7 p8 p9 p10 p11 p12 p13
      refine ⟨f, by omega, q ++ l, _, A ++ l.map (·.1), B ++ l.map (·.2), ga', gb', k + 1, la + l.length, rfl, by simp [hAl], by simp [hBl], p4, p5, ?_, ?_, by omega, p6, p7, p8, p9, p10, by omega, p11.trans h2b, p12.trans h2o, by simpa using hol, p13, p1, by simp; omega, fun x hx => ?_, fun x hx => ?_⟩
      · rw [List.drop_append_of_le_length (by omega), hA1]; simp
      · rw [List.drop_append_of_le_length (by omega), hB1]; simp
      · rcases List.mem_append.1 hx with hx | hx
        · exact hq' x hx
        · exact p3 x hx
      · rcases List.mem_or_eq_of_mem_set hx with h9 | h9
        · exact hout x h9
        · omega
    have hlab : la ≤ 4194000 := by omega
    have kp : ∀ H3 : Heap, (∀ z, z ≠ ga → z ≠ gb → z < n1 + 1 → H3 z = H2 z) → Keep nx H3 H := fun H3 h3 g hg => (h3 g (by omega) (by omega) (by omega)).trans (h2K g hg)
    by_cases h15 : i.op = 15
    · simp [zz, hc2, hc2', h2n, h15, w0, w1, w2, w3, hc4, -zio]
      refine app2 h2a h2c hAl hBl g3 (by omega) (by omega) (by omega) fun H3 q1 q2 q3 => ?_
      exact fin [(i.a, h - nd + gv)] _ _ _ _ (by simpa [h15] using hgo) (by simp) (by simp; omega) (by simpa using q1) (by simpa using q2) (by omega) (by omega) (by omega) (by omega) (by omega) (q3 _ (by omega) (by omega) (by omega)) (q3 _ (by omega) (by omega) (by omega)) (kp _ q3)
    by_cases h18 : i.op = 18
    · have h1 : h = 1 := by omega
      subst h1
      simp [zz, hc2, hc2', h2n, h18, w1, w2, w3, w0, hc4, -zio]
      have := fin [] ga gb H2 (n1 + 1) (by simpa [h15, h18] using hgo) (by simp) (by simp) (by simpa using h2a) (by simpa using h2c) (by omega) (by omega) (by omega) (by omega) (by omega) rfl rfl h2K
      exact this
    by_cases h16 : i.op = 16
    · simp [zz, hc2, hc2', h2n, h16, w0, w1, w2, w3, hc4, -zio]
      refine app2 h2a h2c hAl hBl g3 (by omega) (by omega) (by omega) fun H3 q1 q2 q3 => ?_
      have hn3 : H3 n1 = some (.row 3 [.int .i64 16, .int .i64 i.a, .int .i64 i.b]) := by rw [q3 _ (by omega) (by omega) (by omega), h2n, h16]
      simp [hn3, -zio]
      refine app2 q1 q2 (by simp [hAl]) (by simp [hBl]) (by omega) (by omega) (by omega) (by omega) fun H4 r1 r2 r3 => ?_
      have q4 : ∀ z, z ≠ ga → z ≠ gb → z < n1 + 1 → H4 z = H2 z := fun z z1 z2 z3 => (r3 z (by omega) (by omega) (by omega)).trans (q3 z z1 z2 z3)
      exact fin [(at_ + 1, h - nd + gv), (i.a, h - nd + gv)] _ _ _ _ (by simpa [h15, h16, h18] using hgo) (by simp) (by simp; omega) (by simpa using r1) (by simpa using r2) (by omega) (by omega) (by omega) (by omega) (by omega) (q4 _ (by omega) (by omega) (by omega)) (q4 _ (by omega) (by omega) (by omega)) (kp _ q4)
    · simp [zz, hc2, hc2', h2n, h15, h16, h18, w0, w1, w2, w3, hc4, -zio]
      refine app2 h2a h2c hAl hBl g3 (by omega) (by omega) (by omega) fun H3 q1 q2 q3 => ?_
      have hn3 : H3 n1 = some (.row 3 [.int .i64 i.op, .int .i64 i.a, .int .i64 i.b]) := by rw [q3 _ (by omega) (by omega) (by omega), h2n]
      simp [hn3, h15, h16, -zio]
      exact fin [(at_ + 1, h - nd + gv)] _ _ _ _ (by simpa [h15, h16, h18] using hgo) (by simp) (by simp; omega) (by simpa using q1) (by simpa using q2) (by omega) (by omega) (by omega) (by omega) (by omega) (q3 _ (by omega) (by omega) (by omega)) (q3 _ (by omega) (by omega) (by omega)) (kp _ q3)
end Go.Proofs.YtpllgpgdcbgalaaDoor
set_option maxRecDepth 8000
namespace Go.Proofs.YtpllgpgdcbgalaaDoor
open Go Go.RowKit
def lm (p : Prg) (c : Cod) (i : Ins) : Int × Int :=
  if i.op = 1 then (-1073741824, 1073741824) else if i.op = 2 then (0, p.words.length - 1) else if i.op = 3 then (0, c.vars - 1) else if i.op = 4 then (0, c.vars - 1) else if i.op = 5 then (1, 5)
  else if i.op = 15 then (0, c.ins.length - 1) else if i.op = 16 then (0, c.ins.length - 1) else if i.op = 17 then (0, p.codes.length - 1) else (0, 0)
theorem zua (p : Prg) (c : Cod) (i : Ins) (h1 : 1 ≤ i.op) (h2 : i.op ≤ 19) : VM.numbers p c i = if i.a < (lm p c i).1 ∨ (lm p c i).2 < i.a ∨ (i.op = 17 ∧ some i.b ≠ (p.codes[i.a.toNat]?).map (·.params)) ∨ (i.op ≠ 17 ∧ i.b ≠ 0) then 3 else 0 := by
  unfold VM.numbers
  rw [if_neg (by omega)]
  have : (VM.numOk p c i = false ∨ (i.op ≠ 17 ∧ i.b ≠ 0)) ↔ (i.a < (lm p c i).1 ∨ (lm p c i).2 < i.a ∨ (i.op = 17 ∧ some i.b ≠ (p.codes[i.a.toNat]?).map (·.params)) ∨ (i.op ≠ 17 ∧ i.b ≠ 0)) := by
    unfold VM.numOk lm VM.isIn
    by_cases h17 : i.op = 17
    · simp [h17]
      by_cases hb : some i.b = (p.codes[i.a.toNat]?).map (·.params)
      · simp [hb]; omega
      · simp [hb]
    · simp only [h17, if_false]
      (repeat' split) <;> simp_all <;> omega
  by_cases hq : VM.numOk p c i = false ∨ (i.op ≠ 17 ∧ i.b ≠ 0)
  · rw [if_pos hq, if_pos (this.1 hq)]
  · rw [if_neg hq, if_neg (fun h => hq (this.2 h))]
set_option maxHeartbeats 4000000 in
theorem zso (p : Prg) (hp : p.ok) : QC Tryd.prog 20 [.agg p.avs] (.int .i64 (VM.program p)) := by
  refine QC.of' fun H nx => zlc _ H nx _ ?_
  simp [zhq, Prg.avs]
  have hb0 : (H.put nx (some (.row 2 [.ro (p.codes.map Cod.avs), .ro (p.words.map fun w => [.str w])]))) nx = some (.row 2 p.avs) := by simp [Prg.avs]
  have hK0 : Keep nx (H.put nx (some (.row 2 [.ro (p.codes.map Cod.avs), .ro (p.words.map fun w => [.str w])]))) H := by simp
  generalize (H.put nx (some (.row 2 [.ro (p.codes.map Cod.avs), .ro (p.words.map fun w => [.str w])]))) = H1 at *
  refine ⟨fun h1 => by unfold VM.program; rw [if_pos (by rw [h1]; simp)], fun h1 => ?_⟩
  have hpos : 0 < p.codes.length := List.length_pos_iff.2 h1
  refine ⟨fun h2 => by unfold VM.program; rw [if_pos (by omega)], fun h2 => ⟨fun h3 => by unfold VM.program; rw [if_neg (by omega), if_pos (by omega)], fun h3 => ?_⟩⟩
  have e0 : VM.program p = if p.words.all VM.word = false then 7 else if (p.codes.getD 0 ⟨0, 0, []⟩).params ≠ 0 then 10 else if p.codes.any VM.codeRange then 3 else VM.firstErr (VM.codeErr p) p.codes := by
    unfold VM.program; rw [if_neg (by omega), if_neg (by omega)]
  obtain ⟨c0, hc0⟩ : ∃ c0, p.codes[0]? = some c0 := ⟨p.codes[0]'(by omega), List.getElem?_eq_getElem _⟩
  refine LP.mk (fun m xs H' nx' => ∃ i : Nat, i ≤ p.words.length ∧ m = p.words.length - i ∧ xs = [.ptr nx 0, .ro (p.words.map fun w => [.str w]), .int .i64 p.words.length, .int .i64 i] ∧ H1 = H' ∧ nx + 1 = nx' ∧ p.words.all VM.word = (p.words.drop i).all VM.word) p.words.length
    ⟨0, by omega, by omega, by simp, rfl, rfl, rfl⟩ ?_
  rintro m xs H' nx' ⟨i, hi, rfl, rfl, rfl, rfl, hall⟩
  by_cases hlt : i < p.words.length
  · obtain ⟨w, hw⟩ : ∃ w, p.words[i]? = some w := ⟨_, List.getElem?_eq_getElem hlt⟩
    obtain ⟨_, hw'⟩ := List.getElem?_eq_some_iff.1 hw
    rw [zyt _ _ _ _ hw] at hall
    simp [zdu, hlt, hw']
    refine QC.call (zwu w (hp w (List.mem_of_getElem? hw))) ?_
    simp [zhs]
    cases hx : VM.word w
    · rw [hx] at hall
      simp [hK0]
      rw [e0, hall]; rfl
    · rw [hx] at hall
      simp
      rw [i64w (by omega)]
      exact ⟨p.words.length - (i + 1), by omega, i + 1, by omega, rfl, rfl, by simpa using hall⟩
  obtain rfl : i = p.words.length := by omega
  have hall' : p.words.all VM.word = true := by rw [hall]; simp
  rw [hall'] at e0
  simp only [Bool.true_eq_false, if_false] at e0
  obtain ⟨_, hc0'⟩ := List.getElem?_eq_some_iff.1 hc0
  have h01 : 0 < p.codes.length := by omega
  simp [zdu, hb0, Prg.avs, hc0', Cod.avs, h01]
  have hcg : p.codes.getD 0 ⟨0, 0, []⟩ = c0 := by simp [List.getD_eq_getElem?_getD, hc0]
  rw [hcg] at e0
  refine ⟨fun h4 => ⟨by rw [e0, if_pos h4], hK0⟩, fun h4 => ?_⟩
  rw [if_neg (by simpa using h4)] at e0
  refine LP.mk (fun m xs H' nx' => ∃ i : Nat, i ≤ p.codes.length ∧ m = p.codes.length - i ∧ xs = [.ptr nx 0, .ro (p.codes.map Cod.avs), .int .i64 p.codes.length, .int .i64 i] ∧ H' nx = some (.row 2 p.avs) ∧ Keep nx H' H ∧ nx < nx' ∧ p.codes.any VM.codeRange = (p.codes.drop i).any VM.codeRange) p.codes.length
    ⟨0, by omega, by omega, by simp, hb0, hK0, by omega, rfl⟩ ?_
  rintro m xs H2 n2 ⟨i, hi, rfl, rfl, hb2, hK2, hn2, hany⟩
  have hne2 : nx ≠ n2 := by omega
  by_cases hlt : i < p.codes.length
  · obtain ⟨c, hc⟩ : ∃ c, p.codes[i]? = some c := ⟨_, List.getElem?_eq_getElem hlt⟩
    obtain ⟨_, hc'⟩ := List.getElem?_eq_some_iff.1 hc
    rw [zys _ _ _ _ hc] at hany
    have hK3 : Keep nx (H2.put n2 (some (.row 3 [.int .i64 c.params, .int .i64 c.vars, .ro (c.ins.map Ins.avs)]))) H := by rw [Keep.put (by omega)]; exact hK2
    simp [zdv, hlt, hc', Cod.avs, hK3]
    have w0 : IntKind.i64.wrap ((i : Int) + 1) = (i : Int) + 1 := i64w (by omega)
    rw [w0]
    cases hx : VM.codeRange c
    · have hx' := hx
      unfold VM.codeRange at hx'
      rw [decide_eq_false_iff_not] at hx'
      rw [hx] at hany
      refine ⟨fun _ => by omega, fun _ => ⟨fun _ => by omega, fun _ => ⟨fun _ => by omega, fun _ => ⟨fun _ => by omega, fun _ => ⟨fun he => ?_, fun _ => ⟨fun _ => by omega, fun _ => ?_⟩⟩⟩⟩⟩⟩
      · exfalso; rw [he] at hx'; simp at hx'
      · exact ⟨p.codes.length - (i + 1), by omega, i + 1, by omega, rfl, rfl, by rw [if_neg hne2, if_neg hne2]; exact hb2, by omega, by simpa using hany⟩
    · have hx' := hx
      unfold VM.codeRange at hx'
      rw [decide_eq_true_eq] at hx'
      rw [hx, Bool.true_or] at hany
      rw [hany] at e0
      simp only [if_true] at e0
      rw [e0]
      simp only [← List.length_eq_zero_iff]
      repeat' first | apply And.intro | intro _
      all_goals first | rfl | trivial | (exfalso; omega)
  obtain rfl : i = p.codes.length := by omega
  have hany' : p.codes.any VM.codeRange = false := by rw [hany]; simp
  rw [hany'] at e0
  simp only [Bool.false_eq_true, if_false] at e0
  simp [zdv, hb2, Prg.avs]
  have hr : ∀ x ∈ p.codes, VM.codeRange x = false := by simpa using hany'
  clear hany hany' hall hall' hlt hi
  refine LP.mk (fun m xs H' nx' => ∃ i : Nat, i ≤ p.codes.length ∧ m = p.codes.length - i ∧ xs = [.ptr nx 0, .ro (p.codes.map Cod.avs), .int .i64 p.codes.length, .int .i64 i] ∧ H' nx = some (.row 2 p.avs) ∧ Keep nx H' H ∧ nx < nx' ∧ VM.program p = VM.firstErr (VM.codeErr p) (p.codes.drop i)) p.codes.length
    ⟨0, by omega, by omega, by simp, hb2, hK2, by omega, by simpa using e0⟩ ?_
  clear hb2 hK2 hn2 hne2
  clear H2 n2
  rintro m xs H2 n2 ⟨k, hk, rfl, rfl, hb2, hK2, hn2, hfe⟩
  by_cases hlt : k < p.codes.length
  case neg =>
    obtain rfl : k = p.codes.length := by omega
    simp [zdw, hK2]
    rw [hfe]; simp [VM.firstErr]
  obtain ⟨c, hc⟩ : ∃ c, p.codes[k]? = some c := ⟨_, List.getElem?_eq_getElem hlt⟩
  obtain ⟨_, hc'⟩ := List.getElem?_eq_some_iff.1 hc
  have hcr := hr c (List.mem_of_getElem? hc)
  have hlen : c.ins.length ≤ 200 := by
    unfold VM.codeRange at hcr
    rw [decide_eq_false_iff_not] at hcr
    omega
  have hvars : 0 ≤ c.vars ∧ c.vars ≤ 8 := by
    unfold VM.codeRange at hcr
    rw [decide_eq_false_iff_not] at hcr
    omega
  rw [zme _ _ _ _ hc] at hfe
  have hne2 : nx ≠ n2 := by omega
  simp [zdw, hb2, Prg.avs, hlt, hc', Cod.avs]
  refine LP.mk (fun m xs H' nx' => ∃ j : Nat, j ≤ c.ins.length ∧ m = c.ins.length - j ∧ xs = [.ptr nx 0, .ptr n2 0, .ro (p.codes.map Cod.avs), .int .i64 p.codes.length, .int .i64 k, .ro (c.ins.map Ins.avs), .int .i64 c.ins.length, .int .i64 j] ∧ H' nx = some (.row 2 p.avs) ∧ H' n2 = some (.row 3 c.avs) ∧ Keep nx H' H ∧ n2 < nx' ∧ VM.firstErr (VM.numbers p c) c.ins = VM.firstErr (VM.numbers p c) (c.ins.drop j)) c.ins.length
    ⟨0, by omega, by omega, by simp, by rw [Heap.put_ne _ _ hne2]; exact hb2, by rw [Heap.put_at]; rfl, by rw [Keep.put (by omega)]; exact hK2, by omega, by simp⟩ ?_
  rintro m xs H3 n3 ⟨j, hj, rfl, rfl, hb3, hc3, hK3, hn3, hfj⟩
  have hne : nx ≠ n3 := by omega
  have hne' : n2 ≠ n3 := by omega
  by_cases hjl : j < c.ins.length
  · obtain ⟨i, hi⟩ : ∃ i, c.ins[j]? = some i := ⟨_, List.getElem?_eq_getElem hjl⟩
    obtain ⟨_, hi'⟩ := List.getElem?_eq_some_iff.1 hi
    rw [zme _ _ _ _ hi] at hfj
    have hK4 : Keep nx (H3.put n3 (some (.row 3 [.int .i64 i.op, .int .i64 i.a, .int .i64 i.b]))) H := by rw [Keep.put (by omega)]; exact hK3
    have hb4 : (H3.put n3 (some (.row 3 [.int .i64 i.op, .int .i64 i.a, .int .i64 i.b]))) nx = some (.row 2 p.avs) := by rw [Heap.put_ne _ _ hne]; exact hb3
    have hc4 : (H3.put n3 (some (.row 3 [.int .i64 i.op, .int .i64 i.a, .int .i64 i.b]))) n2 = some (.row 3 c.avs) := by rw [Heap.put_ne _ _ hne']; exact hc3
    have hi4 : (H3.put n3 (some (.row 3 [.int .i64 i.op, .int .i64 i.a, .int .i64 i.b]))) n3 = some (.row 3 [.int .i64 i.op, .int .i64 i.a, .int .i64 i.b]) := by rw [Heap.put_at]
    simp [zdx, hjl, hi', Ins.avs]
    generalize (H3.put n3 (some (.row 3 [.int .i64 i.op, .int .i64 i.a, .int .i64 i.b]))) = H4 at *
    have hbad : VM.numbers p c i ≠ 0 → VM.program p = VM.numbers p c i := by
      intro hz
      rw [if_pos hz] at hfj
      have : VM.codeErr p c = VM.numbers p c i := by unfold VM.codeErr; rw [hfj, if_pos hz]
      rw [hfe, this, if_pos hz]
    refine ⟨fun ho => ?_, fun ho1 => ⟨fun ho => ?_, fun ho2 => ?_⟩⟩
    · have e : VM.numbers p c i = 1 := by unfold VM.numbers; rw [if_pos (by omega)]
      exact ⟨by rw [hbad (by omega), e], hK4⟩
    · have e : VM.numbers p c i = 1 := by unfold VM.numbers; rw [if_pos (by omega)]
      exact ⟨by rw [hbad (by omega), e], hK4⟩
    refine JN.cut (fun xs H' nx' => xs = [.ptr nx 0, .ptr n2 0, .ptr n3 0, .int .i64 (lm p c i).1, .int .i64 (lm p c i).2, .ro (p.codes.map Cod.avs), .int .i64 p.codes.length, .int .i64 k, .ro (c.ins.map Ins.avs), .int .i64 c.ins.length, .int .i64 j] ∧ H4 = H' ∧ n3 + 1 = nx') ?_ ?_
    · rintro xs H' nx' ⟨rfl, rfl, rfl⟩
      have hnl := zua p c i ho1 ho2
      have hgo : VM.numbers p c i = 0 → ∃ m, m < c.ins.length - j ∧ ∃ j', j' ≤ c.ins.length ∧ m = c.ins.length - j' ∧ (j : Int) + 1 = j' ∧ H4 nx = some (.row 2 p.avs) ∧ H4 n2 = some (.row 3 c.avs) ∧ Keep nx H4 H ∧ n2 < n3 + 1 ∧ VM.firstErr (VM.numbers p c) c.ins = VM.firstErr (VM.numbers p c) (List.drop j' c.ins) := by
        intro hz
        rw [if_neg (by simpa using hz)] at hfj
        exact ⟨c.ins.length - (j + 1), by omega, j + 1, by omega, rfl, rfl, hb4, hc4, hK4, by omega, hfj⟩
      have w0 : IntKind.i64.wrap ((j : Int) + 1) = (j : Int) + 1 := i64w (by omega)
      have hbad3 : VM.numbers p c i = 3 → VM.program p = 3 := fun hz => by rw [hbad (by omega), hz]
      by_cases h17 : i.op = 17
      · have hl1 : (lm p c i).1 = 0 := by simp [lm, h17]
        have hl2 : (lm p c i).2 = (p.codes.length : Int) - 1 := by simp [lm, h17]
        simp [zdy, hi4, hb4, Prg.avs, w0, h17]
        rw [hl1, hl2] at hnl ⊢
        refine ⟨fun ha => ⟨hbad3 (by rw [hnl, if_pos (.inl ha)]), hK4⟩, fun ha => ⟨fun hb => ⟨hbad3 (by rw [hnl, if_pos (.inr (.inl hb))]), hK4⟩, fun hb => ⟨ha, by omega, zzl (by omega) fun x hx => ?_⟩⟩⟩
        simp [Cod.avs]
        refine ⟨fun hp' => ⟨hbad3 (by rw [hnl, if_pos (.inr (.inr (.inl ⟨h17, by rw [hx]; simpa using hp'⟩)))]), hK4⟩, fun hp' => ?_⟩
        have hz : VM.numbers p c i = 0 := by rw [hnl, if_neg (by rw [hx]; simp [hp', h17]; omega)]
        have := hgo hz
        simpa [hb4, Prg.avs, Cod.avs] using this
      · simp [zdy, hi4, hb4, Prg.avs, w0, h17]
        refine ⟨fun ha => ⟨hbad3 (by rw [hnl, if_pos (.inl ha)]), hK4⟩, fun ha => ⟨fun hb => ⟨hbad3 (by rw [hnl, if_pos (.inr (.inl hb))]), hK4⟩, fun hb => ⟨fun hp' => ⟨hbad3 (by rw [hnl, if_pos (.inr (.inr (.inr ⟨h17, hp'⟩)))]), hK4⟩, fun hp' => ?_⟩⟩⟩
        have hz : VM.numbers p c i = 0 := by rw [hnl, if_neg (by simp [hp', h17]; omega)]
        have := hgo hz
        simpa [hb4, Prg.avs] using this
    · have q1 : IntKind.i64.wrap ((p.words.length : Int) - 1) = (p.words.length : Int) - 1 := i64w (by omega)
      have q2 : IntKind.i64.wrap (c.vars - 1) = c.vars - 1 := i64w (by omega)
      have q3 : IntKind.i64.wrap ((c.ins.length : Int) - 1) = (c.ins.length : Int) - 1 := i64w (by omega)
      have q4 : IntKind.i64.wrap ((p.codes.length : Int) - 1) = (p.codes.length : Int) - 1 := i64w (by omega)
      simp [zht, hb4, hc4, Prg.avs, Cod.avs, q1, q2, q3, q4]
      repeat' first | apply And.intro | intro _
      all_goals simp [lm, *]
  obtain rfl : j = c.ins.length := by omega
  have hz : VM.firstErr (VM.numbers p c) c.ins = 0 := by rw [hfj]; simp [VM.firstErr]
  have hce : VM.codeErr p c = (VM.heights c.ins).2 := by unfold VM.codeErr; rw [if_neg (by simpa using hz)]
  rw [hce] at hfe
  simp [zdx, hb3, hc3, Prg.avs, hlt, hc', Cod.avs]
  refine QC.call (zsu c (by omega) (zaab hr (zqx hz))) ?_
  simp [zhr]
  refine ⟨fun h0 => ⟨?_, hK3⟩, fun h0 => ?_⟩
  · rw [if_pos h0] at hfe; exact hfe
  · rw [if_neg (by simpa using h0)] at hfe
    rw [i64w (by omega)]
    exact ⟨p.codes.length - (k + 1), by omega, k + 1, by omega, rfl, rfl, hb3, hK3, by omega, hfe⟩
end Go.Proofs.YtpllgpgdcbgalaaDoor
set_option maxRecDepth 8000
namespace Go.Proofs.YtpllgpgdcbgalaaDoor
open Go Go.RowKit
theorem zsq : Tryd.prog.globalNamed "internal/bytealg.MaxLen" = some 0 := by kernel_rfl
theorem LayM.cell {w : World} (h : LayM "internal/bytealg.MaxLen" (fun b => w.heap[b]?)) : ∃ m, w.cell? ⟨0, 0, none⟩ = some (.int .i64 m) := by
  obtain ⟨c, e, x, m, h1, h2⟩ := h _ zsq
  refine ⟨m, ?_⟩
  have h1' : w.heap[(0 : Nat)]? = _ := h1
  simp only [World.cell?, h1']
  simpa using h2
end Go.Proofs.YtpllgpgdcbgalaaDoor
set_option maxRecDepth 8000
namespace Go.Proofs.YtpllgpgdcbgalaaDoor
open Go Go.RowKit
def PT (s : Str) (st : VM.St) : AObj := .row 3 [.str s, .int .i64 ((s.length - st.1.length : Nat) : Int), .int .i64 st.2]
section
variable {g : Nat} {s : Str} {st : VM.St} {H : Heap} {n : Nat} {Q : QT}
end
end Go.Proofs.YtpllgpgdcbgalaaDoor
set_option maxRecDepth 8000
namespace Go.Proofs.YtpllgpgdcbgalaaDoor
open Go Go.RowKit
section
variable {g : Nat} {s : Str} {st : VM.St} {H : Heap} {n : Nat} {Q : QT}
end
section
variable {g : Nat} {s : Str} {st : VM.St} {H : Heap} {n : Nat} {Q : QT}
end
end Go.Proofs.YtpllgpgdcbgalaaDoor
set_option maxRecDepth 8000
namespace Go.Proofs.YtpllgpgdcbgalaaDoor
open Go Go.RowKit
structure ElS {α : Type} (f : α → List AV) (sz : Nat) (H0 : Heap) (b g : Nat) (s : Str) (l : List α) (A : AV) (st : VM.St) (H : Heap) (n : Nat) : Prop where
  rg : H g = some (PT s st)
  row : RowS f sz H b n l A
  suf : st.1 <:+ s
  gb : g < b
  bn : b ≤ n
  keep : ∀ y, y < b → y ≠ g → H y = H0 y
  few : l.length + VM.left st ≤ 1502
theorem ElS.put {α : Type} {f : α → List AV} {sz : Nat} {H0 H : Heap} {b g n : Nat} {s : Str} {l : List α} {A : AV} {st st' : VM.St} (h : ElS f sz H0 b g s l A st H n) (hf : VM.Flow st st') (hs : st'.1 <:+ s) : ElS f sz H0 b g s l A st' (H.put g (some (PT s st'))) n := by
  have h1 := h.gb
  have h2 := h.few
  have h3 := hf.left
  exact ⟨Heap.put_at _ _ _, h.row.keep (Nat.le_refl _) fun y hy _ => Heap.put_ne _ _ (by omega), hs, h1, h.bn, fun y hy hne => by rw [Heap.put_ne _ _ hne]; exact h.keep y hy hne, by omega⟩
end Go.Proofs.YtpllgpgdcbgalaaDoor
set_option maxRecDepth 8000
namespace Go.Proofs.YtpllgpgdcbgalaaDoor
open Go Go.RowKit
section
variable {g : Nat} {s : Str} {st : VM.St} {H : Heap} {n : Nat} {Q : QT}
end
structure TxE (s : Str) (H0 : Heap) (n g : Nat) (st : VM.St) (H : Heap) (m : Nat) : Prop where
  rg : H g = some (PT s st)
  rx : ∃ cs, H n = some (.row 4 cs) ∧ cs.length = 4
  suf : st.1 <:+ s
  gn : g < n
  nm : n < m
  keep : ∀ y, y < n → y ≠ g → H y = H0 y
def TxQ (s : Str) (H0 : Heap) (n g : Nat) (x : Ex) (st : VM.St) (Q : QT) : Prop := ∀ v H' n', Frz H' n v (.agg x.avs) → H' g = some (PT s st) → (∀ y, y < n → y ≠ g → H' y = H0 y) → Q v H' n'
section
variable {s : Str} {H0 H : Heap} {n g m : Nat} {st st' : VM.St} {Q : QT}
theorem TxE.put (h : TxE s H0 n g st H m) (hs : st'.1 <:+ s) : TxE s H0 n g st' (H.put g (some (PT s st'))) m := by
  have h1 := h.gn
  obtain ⟨cs, h2, h3⟩ := h.rx
  exact ⟨Heap.put_at _ _ _, ⟨cs, by rw [Heap.put_ne _ _ (by omega)]; exact h2, h3⟩, hs, h1, h.nm, fun y hy hne => by rw [Heap.put_ne _ _ hne]; exact h.keep y hy hne⟩
theorem TxE.new {m' y : Nat} {o : Option AObj} (h : TxE s H0 n g st H m) (hy : m ≤ y) (hm : m ≤ m') : TxE s H0 n g st (H.put y o) m' := by
  have h1 := h.gn
  have h0 := h.nm
  obtain ⟨cs, h2, h3⟩ := h.rx
  exact ⟨by rw [Heap.put_ne _ _ (by omega)]; exact h.rg, ⟨cs, by rw [Heap.put_ne _ _ (by omega)]; exact h2, h3⟩, h.suf, h1, by omega, fun z hz hne => by rw [Heap.put_ne _ _ (by omega)]; exact h.keep z hz hne⟩
theorem TxE.leaf {k z : Int} {t : Str} {o : Option AObj} (h : TxE s H0 n g st H m) (hq : TxQ s H0 n g (.mk k z t []) st Q) (m' : Nat) : Q (.agg [.int .i64 k, .int .i64 z, .str t, .nils]) (H.put n o) m' := by
  have h1 := h.gn
  refine hq _ _ _ ?_ (by rw [Heap.put_ne _ _ (by omega)]; exact h.rg) fun y hy hne => by rw [Heap.put_ne _ _ (by omega)]; exact h.keep y hy hne
  rw [zji]
  exact FL.agg (.cons (.same _ (.int _ _)) (.cons (.same _ (.int _ _)) (.cons (.same _ (.str _)) (.cons .nils .nil))))
theorem TxE.form {x : Ex} {o : Option AObj} (h : TxE s H0 n g st H m) (hq : TxQ s H0 n g x st Q) (m' : Nat) : Q (.agg x.avs) (H.put n o) m' := by
  have h1 := h.gn
  exact hq _ _ _ (.same _ (ztp x _)) (by rw [Heap.put_ne _ _ (by omega)]; exact h.rg) fun y hy hne => by rw [Heap.put_ne _ _ (by omega)]; exact h.keep y hy hne
end
end Go.Proofs.YtpllgpgdcbgalaaDoor
set_option maxRecDepth 8000
namespace Go.Proofs.YtpllgpgdcbgalaaDoor
open Go Go.RowKit
section
variable {s : Str} {H0 : Heap} {n g d : Nat} {Q : QT}
end
end Go.Proofs.YtpllgpgdcbgalaaDoor
set_option maxRecDepth 8000
namespace Go.Proofs.YtpllgpgdcbgalaaDoor
open Go Go.RowKit
structure TxS (s : Str) (H0 : Heap) (n g gx : Nat) (dz k : Int) (nm : Str) (l : List Ex) (T E : AV) (st : VM.St) (H : Heap) (m : Nat) : Prop where
  r0 : H n = some (.row 1 [.ptr g 0])
  r1 : H (n + 1) = some (.row 1 [.int .i64 dz])
  r2 : ∃ cs, H (n + 2) = some (.row 5 cs) ∧ cs.length = 5
  rx : ∃ A, H gx = some (.row 5 [.int .i64 k, .str nm, A, T, E]) ∧ ArgS H (n + 3) m gx l A
  rg : H g = some (PT s st)
  suf : st.1 <:+ s
  gn : g < n
  gx0 : n + 3 ≤ gx
  gx1 : gx < m
  keep : ∀ y, y < n → y ≠ g → H y = H0 y
section
variable {s : Str} {H0 H : Heap} {n g gx m : Nat} {dz k : Int} {nm : Str} {l : List Ex} {T E : AV} {st st' : VM.St}
theorem TxS.put (h : TxS s H0 n g gx dz k nm l T E st H m) (hs : st'.1 <:+ s) : TxS s H0 n g gx dz k nm l T E st' (H.put g (some (PT s st'))) m := by
  have hb := h.gn
  have hx := h.gx0
  obtain ⟨cs, h2, h3⟩ := h.r2
  obtain ⟨A, h4, h5⟩ := h.rx
  exact ⟨by rw [Heap.put_ne _ _ (by omega)]; exact h.r0, by rw [Heap.put_ne _ _ (by omega)]; exact h.r1, ⟨cs, by rw [Heap.put_ne _ _ (by omega)]; exact h2, h3⟩, ⟨A, by rw [Heap.put_ne _ _ (by omega)]; exact h4, h5.keep (Nat.le_refl _) fun y hy _ _ => Heap.put_ne _ _ (by omega)⟩, Heap.put_at _ _ _, hs, hb, hx, h.gx1, fun y hy hne => by rw [Heap.put_ne _ _ hne]; exact h.keep y hy hne⟩
theorem TxS.set {k' : Int} {nm' : Str} {T' E' A : AV} (h : TxS s H0 n g gx dz k nm l T E st H m) (hA : H gx = some (.row 5 [.int .i64 k, .str nm, A, T, E])) : TxS s H0 n g gx dz k' nm' l T' E' st (H.put gx (some (.row 5 [.int .i64 k', .str nm', A, T', E']))) m := by
  have hb := h.gn
  have hx := h.gx0
  obtain ⟨cs, h2, h3⟩ := h.r2
  obtain ⟨A', h4, h5⟩ := h.rx
  rw [hA] at h4
  cases h4
  exact ⟨by rw [Heap.put_ne _ _ (by omega)]; exact h.r0, by rw [Heap.put_ne _ _ (by omega)]; exact h.r1, ⟨cs, by rw [Heap.put_ne _ _ (by omega)]; exact h2, h3⟩, ⟨A, Heap.put_at _ _ _, h5.keep (Nat.le_refl _) fun y _ _ hne => Heap.put_ne _ _ hne⟩, by rw [Heap.put_ne _ _ (by omega)]; exact h.rg, h.suf, hb, hx, h.gx1, fun y hy hne => by rw [Heap.put_ne _ _ (by omega)]; exact h.keep y hy hne⟩
theorem TxS.new {y : Nat} {o : Option AObj} {m' : Nat} (h : TxS s H0 n g gx dz k nm l T E st H m) (hy : m ≤ y) (hm : m ≤ m') : TxS s H0 n g gx dz k nm l T E st (H.put y o) m' := by
  have hb := h.gn
  have hx := h.gx0
  have hx1 := h.gx1
  obtain ⟨cs, h2, h3⟩ := h.r2
  obtain ⟨A, h4, h5⟩ := h.rx
  exact ⟨by rw [Heap.put_ne _ _ (by omega)]; exact h.r0, by rw [Heap.put_ne _ _ (by omega)]; exact h.r1, ⟨cs, by rw [Heap.put_ne _ _ (by omega)]; exact h2, h3⟩, ⟨A, by rw [Heap.put_ne _ _ (by omega)]; exact h4, h5.keep hm fun z _ hz _ => Heap.put_ne _ _ (by omega)⟩, by rw [Heap.put_ne _ _ (by omega)]; exact h.rg, h.suf, hb, hx, by omega, fun z hz hne => by rw [Heap.put_ne _ _ (by omega)]; exact h.keep z hz hne⟩
theorem TxS.next {HF : Heap} (h : TxS s H0 n g gx dz k nm l T E st H m) (x : Ex) (hs : st'.1 <:+ s) (f1 : HF g = some (PT s st')) (f2 : HF gx = some (.row 5 [.int .i64 k, .str nm, .slc (m + 1) 0 (l.length + 1), T, E])) (f3 : HF (m + 1) = some (.row 4 (rowE (l ++ [x]))))
    (f4 : ∀ y, y < n + 3 → y ≠ g → HF y = H y) : TxS s H0 n g gx dz k nm (l ++ [x]) T E st' HF (m + 2) := by
  have hb := h.gn
  have hx0 := h.gx0
  have hx1 := h.gx1
  obtain ⟨cs2, r2, r2l⟩ := h.r2
  refine ⟨by rw [f4 n (by omega) (by omega)]; exact h.r0, by rw [f4 _ (by omega) (by omega)]; exact h.r1, ⟨cs2, by rw [f4 _ (by omega) (by omega)]; exact r2, r2l⟩, ⟨_, f2, ?_⟩, f1, hs, hb, hx0, by omega, fun y hy hne => by rw [f4 y (by omega) hne]; exact h.keep y hy hne⟩
  have := ArgS.row (H := HF) (lo := n + 3) (hi := m + 2) (gx := gx) (l := l ++ [x]) (ga := m + 1) (by omega) (by omega) (by omega) f3
  rw [List.length_append] at this
  exact this
end
end Go.Proofs.YtpllgpgdcbgalaaDoor
set_option maxRecDepth 8000
namespace Go.Proofs.YtpllgpgdcbgalaaDoor
open Go Go.RowKit
def TsQ (s : Str) (H0 : Heap) (n g : Nat) (x : Sm) (st : VM.St) (Q : QT) : Prop := ∀ v H' n', Frz H' n v (.agg x.avs) → H' g = some (PT s st) → (∀ y, y < n → y ≠ g → H' y = H0 y) → Q v H' n'
def BlA (T : AV) (t : List Sm) : Prop := (T = .nils ∧ t = []) ∨ T = .ro (t.map Sm.avs)
theorem BlA.frz {T : AV} {t : List Sm} (h : BlA T t) (H : Heap) (N : Nat) : Frz H N T (.ro (t.map Sm.avs)) := by
  rcases h with ⟨rfl, rfl⟩ | rfl
  · exact .nils
  · refine .same _ (zff fun x hx v hv => ?_)
    obtain ⟨y, _, rfl⟩ := List.mem_map.1 hx
    exact zla _ y v hv
theorem BlA.one {T : AV} {t : List Sm} (h : BlA T t) : T.one = true := by
  rcases h with ⟨rfl, _⟩ | rfl <;> rfl
section
variable {s : Str} {H0 H : Heap} {n g gx m : Nat} {dz k : Int} {nm : Str} {l : List Ex} {T E : AV} {t e : List Sm} {st : VM.St} {Q : QT}
theorem TxS.done (h : TxS s H0 n g gx dz k nm l T E st H m) (hT : BlA T t) (hE : BlA E e) {A : AV} (hA : H gx = some (.row 5 [.int .i64 k, .str nm, A, T, E])) (hq : TsQ s H0 n g (.mk k nm l t e) st Q) (o : Option AObj) (m' : Nat) : Q (.agg [.int .i64 k, .str nm, A, T, E]) (H.put (n + 2) o) m' := by
  have hb := h.gn
  have hx := h.gx0
  obtain ⟨A', h1, h2⟩ := h.rx
  rw [hA] at h1
  cases h1
  refine hq _ _ _ ?_ (by rw [Heap.put_ne _ _ (by omega)]; exact h.rg) fun y hy hne => by rw [Heap.put_ne _ _ (by omega)]; exact h.keep y hy hne
  rw [zdj]
  exact FL.agg (.cons (.same _ (.int _ _)) (.cons (.same _ (.str _)) (.cons (zrr h2 (by omega) fun y hy _ => Heap.put_ne _ _ (by omega)) (.cons (hT.frz _ _) (.cons (hE.frz _ _) .nil)))))
end
end Go.Proofs.YtpllgpgdcbgalaaDoor
set_option maxRecDepth 8000
namespace Go.Proofs.YtpllgpgdcbgalaaDoor
open Go Go.RowKit
namespace VM
end VM
section
variable {s : Str} {d : Nat} {H0 H : Heap} {n g gx m : Nat} {k : Int} {nm : Str} {l : List Ex} {T E : AV} {st : VM.St} {Q : QT}
end
end Go.Proofs.YtpllgpgdcbgalaaDoor
set_option maxRecDepth 8000
namespace Go.Proofs.YtpllgpgdcbgalaaDoor
open Go Go.RowKit
structure TxB (s : Str) (H0 : Heap) (n g : Nat) (dz : Int) (st : VM.St) (H : Heap) : Prop where
  r0 : H n = some (.row 1 [.ptr g 0])
  r1 : H (n + 1) = some (.row 1 [.int .i64 dz])
  r2 : ∃ cs, H (n + 2) = some (.row 5 cs) ∧ cs.length = 5
  rg : H g = some (PT s st)
  suf : st.1 <:+ s
  gn : g < n
  keep : ∀ y, y < n → y ≠ g → H y = H0 y
section
variable {s : Str} {d : Nat} {H0 H : Heap} {n g m : Nat} {dz : Int} {st st' : VM.St} {Q : QT}
theorem TxB.put (h : TxB s H0 n g dz st H) (hs : st'.1 <:+ s) : TxB s H0 n g dz st' (H.put g (some (PT s st'))) := by
  have hb := h.gn
  obtain ⟨cs, h2, h3⟩ := h.r2
  exact ⟨by rw [Heap.put_ne _ _ (by omega)]; exact h.r0, by rw [Heap.put_ne _ _ (by omega)]; exact h.r1, ⟨cs, by rw [Heap.put_ne _ _ (by omega)]; exact h2, h3⟩, Heap.put_at _ _ _, hs, hb, fun y hy hne => by rw [Heap.put_ne _ _ hne]; exact h.keep y hy hne⟩
theorem TxB.cell {k : Int} (h : TxB s H0 n g dz st H) (hm : n + 3 ≤ m) : TxS s H0 n g m dz k [] [] .nils .nils st (H.put m (some (.row 5 [.int .i64 k, .str [], .nils, .nils, .nils]))) (m + 1) := by
  have hb := h.gn
  obtain ⟨cs, h2, h3⟩ := h.r2
  exact ⟨by rw [Heap.put_ne _ _ (by omega)]; exact h.r0, by rw [Heap.put_ne _ _ (by omega)]; exact h.r1, ⟨cs, by rw [Heap.put_ne _ _ (by omega)]; exact h2, h3⟩, ⟨.nils, Heap.put_at _ _ _, .nil⟩, by rw [Heap.put_ne _ _ (by omega)]; exact h.rg, h.suf, hb, hm, by omega, fun y hy hne => by rw [Heap.put_ne _ _ (by omega)]; exact h.keep y hy hne⟩
end
end Go.Proofs.YtpllgpgdcbgalaaDoor
set_option maxRecDepth 8000
namespace Go.Proofs.YtpllgpgdcbgalaaDoor
open Go Go.RowKit
structure TPaL (s : Str) (H0 : Heap) (n : Nat) (l : List (Fnc × AV)) (A : AV) (st : VM.St) (H : Heap) (m : Nat) : Prop where
  rg : H n = some (PT s st)
  out : OutS H (n + 1) m l A
  bm : n + 1 ≤ m
  keep : ∀ y, y < n → H y = H0 y
  few : l.length + VM.left st ≤ 1502
  suf : st.1 <:+ s
theorem TPaL.put {s : Str} {H0 H : Heap} {n m : Nat} {l : List (Fnc × AV)} {A : AV} {st st' : VM.St} (h : TPaL s H0 n l A st H m) (hf : VM.Flow st st') (hs : st'.1 <:+ s) : TPaL s H0 n l A st' (H.put n (some (PT s st'))) m := by
  have hb := h.bm
  exact ⟨Heap.put_at _ _ _, h.out.keep (Nat.le_refl _) fun y hy _ => Heap.put_ne _ _ (by omega), hb, fun y hy => by rw [Heap.put_ne _ _ (by omega)]; exact h.keep y hy, by have := hf.left; have := h.few; omega, hs⟩
structure TPmL (s : Str) (H0 : Heap) (n m : Nat) (nm : Str) (ps : List Str) (st : VM.St) (H : Heap) (m' : Nat) : Prop where
  rf : ∃ B, H m = some (.row 3 [.str nm, B, .nils]) ∧ RowS strC 1 H (m + 1) m' ps B
  rg : H n = some (PT s st)
  nm' : n < m
  fm : m + 1 ≤ m'
  keep : ∀ y, y < m → y ≠ n → H y = H0 y
  few : ps.length + VM.left st ≤ 1502
  suf : st.1 <:+ s
theorem TPmL.put {s : Str} {H0 H : Heap} {n m m' : Nat} {nm : Str} {ps : List Str} {st st' : VM.St} (h : TPmL s H0 n m nm ps st H m') (hf : VM.Flow st st') (hs : st'.1 <:+ s) : TPmL s H0 n m nm ps st' (H.put n (some (PT s st'))) m' := by
  have hb := h.nm'
  obtain ⟨B, h1, h2⟩ := h.rf
  exact ⟨⟨B, by rw [Heap.put_ne _ _ (by omega)]; exact h1, h2.keep (Nat.le_refl _) fun y hy _ => Heap.put_ne _ _ (by omega)⟩, Heap.put_at _ _ _, hb, h.fm, fun y hy hne => by rw [Heap.put_ne _ _ hne]; exact h.keep y hy hne, by have := hf.left; have := h.few; omega, hs⟩
end Go.Proofs.YtpllgpgdcbgalaaDoor
set_option maxRecDepth 8000
namespace Go.Proofs.YtpllgpgdcbgalaaDoor
open Go Go.RowKit
theorem zqd (s : Str) (h : (VM.parseF s).2 = 0) : (VM.parseF s).1.length ≤ 1500 := by
  have key : ∀ (k : Nat) (st : VM.St), (VM.fnsF k st).2.2 = 0 → (VM.fnsF k st).1.length + (VM.fnsF k st).2.1.length ≤ st.1.length := by
    intro k
    induction k with
    | zero => intro st _; simp [VM.fnsF]
    | succ k ih =>
      intro st h
      unfold VM.fnsF at h ⊢
      split
      · rename_i hc
        rw [if_pos hc] at h
        have h1 := ih _ h
        have hz : ∀ (k : Nat) (st : VM.St), (VM.fnsF k st).2.2 = 0 → st.2 = 0 := fun k st h => by
          cases k with
          | zero => exact h
          | succ k =>
            unfold VM.fnsF at h
            split at h
            · rename_i hc; exact hc.1
            · exact h
        have h2 := VM.nice_fn.eats (VM.trim st.1, 0) rfl (hz k _ h)
        have h3 := VM.trim_le st.1
        simp only [List.length_cons] at *
        omega
      · have h3 := VM.trim_le st.1
        simp only [List.length_nil]
        split <;> (try simp only) <;> omega
  unfold VM.parseF at *
  split at h
  · cases h
  · rename_i h1
    rw [if_neg h1] at *
    split at h
    · rename_i h2; exact absurd h h2
    · rename_i h2
      rw [if_neg h2]
      have := key (s.length + 2) (s, 0) (by simpa using h2)
      simp only at *
      omega
end Go.Proofs.YtpllgpgdcbgalaaDoor
set_option maxRecDepth 8000
namespace Go.Proofs.YtpllgpgdcbgalaaDoor
open Go Go.RowKit
theorem zsb : QC Tryd.prog 19 [] (.bool true) := by
  refine QC.of' fun H n => ?_
  refine zmn _ _ _ ?_
  have he : (VM.parseF [40, 109, 97, 105, 110, 32, 40, 41, 32, 40, 119, 104, 105, 108, 101, 32, 49, 32, 40, 115, 97, 121, 32, 39, 97, 39, 41, 41, 41]).2 = 0 := by kernel_rfl
  have hm : VM.makeP (VM.parseF [40, 109, 97, 105, 110, 32, 40, 41, 32, 40, 119, 104, 105, 108, 101, 32, 49, 32, 40, 115, 97, 121, 32, 39, 97, 39, 41, 41, 41]).1 = (⟨[⟨0, 0, [⟨1, 1, 0⟩, ⟨16, 5, 0⟩, ⟨2, 0, 0⟩, ⟨14, 0, 0⟩, ⟨15, 0, 0⟩, ⟨1, 0, 0⟩, ⟨18, 0, 0⟩]⟩], [[97]]⟩, 0) := by kernel_rfl
  have hl := zqd _ he
  have hw := VM.parse_fits _ he
  unfold zjr
  refine (zrl _).call ?_
  simp [zjs]
  refine (zti _ (by omega) (by omega)).call ?_
  rw [hm]
  have e45 : eqsT 45 = true := by kernel_rfl
  simp [zjt, Prg.avs, Cod.avs, Ins.avs, zrq, e45]
set_option maxHeartbeats 1000000 in
theorem zsa (s : Str) : QC Tryd.prog 6 [.str s] (.bool true) := by
  refine QC.of' fun H n => ?_
  suffices main : ∀ Q : QT, (∀ H' n', Keep n H' H → Q (.bool true) H' n') → za Tryd.prog 6 [.str s] H n Q from main _ fun H' n' b => ⟨by simp, b⟩
  intro Q hq
  refine zke _ _ _ _ ?_
  unfold zfx
  refine zsb.call ?_
  simp [zfy]
  refine (zrl s).call ?_
  by_cases h1 : (VM.parseF s).2 = 0
  · have hl := zqd s h1
    have hw := VM.parse_fits s h1
    have ho := VM.parse_ok s h1
    simp [zcz, h1]
    generalize (VM.parseF s).1 = l at *
    refine (zvh l (by omega)).call ?_
    by_cases h2 : VM.checkC l = 0
    · simp [zda, h2]
      refine (zti l (by omega) (by omega)).call ?_
      cases hm : VM.mkL (l.map (·.name)) l [] with
      | none =>
        have hp : VM.makeP l = (⟨[], []⟩, 4) := by unfold VM.makeP; rw [hm]
        rw [hp]
        simp [zdb, Prg.avs]
        exact hq _ _ (by simp)
      | some p =>
        obtain ⟨cs, w⟩ := p
        have hp : VM.makeP l = (⟨cs, w⟩, 0) := by unfold VM.makeP; rw [hm]
        obtain ⟨m1, m2, m3⟩ := VM.made_right ho h2 hm
        have mw : (Prg.mk cs w).ok := by
          intro x hx
          have hall : VM.program ⟨cs, w⟩ = 0 := m1
          unfold VM.program at hall
          by_cases c1 : (Prg.mk cs w).codes.length < 1 ∨ 5 < (Prg.mk cs w).codes.length
          · rw [if_pos c1] at hall; exact absurd hall (by decide)
          rw [if_neg c1] at hall
          by_cases c2 : 16 < (Prg.mk cs w).words.length
          · rw [if_pos c2] at hall; exact absurd hall (by decide)
          rw [if_neg c2] at hall
          by_cases c3 : (Prg.mk cs w).words.all VM.word = false
          · rw [if_pos c3] at hall; exact absurd hall (by decide)
          have := List.all_eq_true.1 (by simpa using c3) x hx
          unfold VM.word at this
          simp at this
          unfold maxLen
          omega
        rw [hp]
        simp [zdb, Prg.avs]
        have r0 : (H.put n (some (.row 2 [.ro (cs.map Cod.avs), .ro (w.map fun w => [.str w])]))) n = some (.row 2 [.ro (cs.map Cod.avs), .ro (w.map fun w => [.str w])]) := Heap.put_at _ _ _
        have k0 : Keep n (H.put n (some (.row 2 [.ro (cs.map Cod.avs), .ro (w.map fun w => [.str w])]))) H := by simp
        generalize H.put n (some (.row 2 [.ro (cs.map Cod.avs), .ro (w.map fun w => [.str w])])) = H1 at *
        refine LP.mk (fun j xs H' n' => ∃ i : Nat, i + j = cs.length ∧ xs = [.ro (l.map Fnc.avs), .ptr n 0, .ro (cs.map Cod.avs), .int .i64 cs.length, .int .i64 i] ∧ H' n = some (.row 2 [.ro (cs.map Cod.avs), .ro (w.map fun w => [.str w])]) ∧ Keep n H' H ∧ n < n') cs.length ⟨0, by omega, rfl, r0, k0, by omega⟩ ?_
        rintro j xs H' n' ⟨i, hi, rfl, hr, hk, hn⟩
        cases j with
        | zero =>
          obtain rfl : i = cs.length := by omega
          simp [zcy, hr, m2]
          refine (zso ⟨cs, w⟩ mw).call ?_
          rw [m1]
          simp [zfz]
          exact hq _ _ hk
        | succ j =>
          have hlt : i < cs.length := by omega
          have hlt' : i < l.length := by omega
          have g := m3 i l[i] cs[i] (List.getElem?_eq_getElem hlt') (List.getElem?_eq_getElem hlt)
          have hwi : IntKind.i64.wrap ((i : Int) + 1) = (i : Int) + 1 := i64w (by omega)
          have g1 := g.par
          have g2 := g.two
          have g3 := g.ret
          have g4 := g.rng
          have hx : cs[i].avs = [.int .i64 cs[i].params, .int .i64 cs[i].vars, .ro (cs[i].ins.map Ins.avs)] := rfl
          have hf : l[i].avs = [.str l[i].name, .ro (l[i].params.map fun w => [.str w]), .ro (l[i].body.map Sm.avs)] := rfl
          have hil : cs[i].ins.length ≤ 200 := by
            unfold VM.codeRange at g4
            simp at g4
            omega
          have h2' : ¬ (cs[i].ins.length : Int) < 2 := by omega
          have hws : IntKind.i64.wrap ((cs[i].ins.length : Int) - 1) = ((cs[i].ins.length - 1 : Nat) : Int) := by rw [i64w (by omega)]; omega
          have hlast : cs[i].ins.length - 1 < cs[i].ins.length := by omega
          have hop : (cs[i].ins[cs[i].ins.length - 1]'hlast).op = 18 := by
            rw [List.getD_eq_getElem?_getD, List.getElem?_eq_getElem hlast] at g3
            exact g3
          have hne : n ≠ n' := by omega
          have hiv : (cs[i].ins[cs[i].ins.length - 1]'hlast).avs = [.int .i64 18, .int .i64 (cs[i].ins[cs[i].ins.length - 1]'hlast).a, .int .i64 (cs[i].ins[cs[i].ins.length - 1]'hlast).b] := by unfold Ins.avs; rw [hop]
          simp [zcy, hlt, hlt', hx, hf, g1, h2', hws, hlast, hwi, hiv, hne, hr]
          refine ⟨j, by omega, i + 1, by omega, by simp, fun y hy => ?_, by omega⟩
          rw [Heap.put_ne _ _ (by omega)]
          exact hk y hy
    · simp [zda, h2]
      exact hq _ _ (by simp)
  · simp [zcz, h1]
    exact hq _ _ (by simp)
end Go.Proofs.YtpllgpgdcbgalaaDoor
namespace Go.Proofs.YtpllgpgdcbgalaaDoor
open Go Go.RowKit
theorem LayE.of_var {n : String} {w : World} {t : TypeId} {p : Value} (h : w.var? Tryd.prog n = some #[.iface t p]) : LayE n (fun b => w.heap[b]?) := fun g hg => by
  unfold World.var? at h
  rw [hg, Option.bind_some] at h
  split at h
  · rename_i cs e m hc
    cases h
    exact ⟨_, _, e, m, hc⟩
  · cases h
theorem zrs : "*" ++ "errors.errorString" = "*errors.errorString" := by decide
theorem ztm (u : TypeId) (h : Tryd.prog.typeName? 3 u = some "*errors.errorString") : u = 160 :=
  typeName_ptr_named (nm := "errors.errorString") (by rw [zrs]; kernel_rfl) (by kernel_rfl) (by decide) u (by rw [zrs]; exact h)
theorem zue {r : List (String × DataW Unit)} {text : List UInt8} {W : World} (h : laidMet Tryd.prog (("strconv.ErrRange", .iface "*errors.errorString" (.ptr (.agg [.lit (.string text)]))) :: r) W) : LayE "strconv.ErrRange" (fun b => W.heap[b]?) := by
  obtain ⟨a, s, h1, _⟩ := laid_sentinel (g := 2) (ti := 120) (tp := 160) (te := 162) (ts := 9) h (by kernel_rfl) (by kernel_rfl) Tryd.underlying120 ztm Tryd.underlying160 Tryd.underlying162 rfl rfl Tryd.underlying9 (by kernel_rfl) (by kernel_rfl)
  exact .of_var h1
theorem zst {r : List (String × DataW Unit)} {text : List UInt8} {W : World} (h : laidMet Tryd.prog (("strconv.ErrSyntax", .iface "*errors.errorString" (.ptr (.agg [.lit (.string text)]))) :: r) W) : LayE "strconv.ErrSyntax" (fun b => W.heap[b]?) := by
  obtain ⟨a, s, h1, _⟩ := laid_sentinel (g := 1) (ti := 120) (tp := 160) (te := 162) (ts := 9) h (by kernel_rfl) (by kernel_rfl) Tryd.underlying120 ztm Tryd.underlying160 Tryd.underlying162 rfl rfl Tryd.underlying9 (by kernel_rfl) (by kernel_rfl)
  exact .of_var h1
end Go.Proofs.YtpllgpgdcbgalaaDoor
namespace Go.Proofs.YtpllgpgdcbgalaaDoor
open Go Go.RowKit Go.ChangeShapes
theorem zqw {H : Type} {enc : TypeId × Value → H} {a : Assume} {C : Checked} {os : Os} {f : FuncId} {fn : Func} {s : ChangeSpec} {zew : List PathCond} {apart fresh handsOn again : Bool} {X : World → Array Value → Prop}
    (hX : ∀ (w w' : World) (args : Array Value), w.heap = w'.heap → X w args → X w' args)
    (own : ownKnob C.prog.godebug = none) (started : os.Started) (noInit : C.prog.inits.idxOf? f = none) (hfn : C.prog.funcs[f]? = some fn)
    (witness : ∃ (w : World) (tape : Tape) (i : Input), w.os = os ∧ (w.forCall tape i).Shaped C.prog ∧ i.vars = [] ∧ Input.okWide C.prog (w.forCall tape i) .any w.heap.size f i ∧
      ((s.pre enc C.prog fn zew apart (w.forCall tape i).memory i.args ∧ X (w.forCall tape i).memory i.args) ∧ sizedMet enc C.prog fn (OpenSpec.ofChange s) apart (w.forCall tape i).memory i.args) ∧ a.holds C.prog (lone (Frame.enter C.prog f i.args .normal) [] (w.forCall tape i)))
    (contract : ∀ (W : World) (base : Nat) (args : Array Value) (ds gs : List (DataW H)) (before : List MemPlace), W.ShapedOpen C.prog →
      (∀ (j : Nat) t v, fn.params[j]? = some t → args[j]? = some v → Value.okWide C.prog W .any base t v) →
      DataW.Whole enc C.prog fn.params.toList s.vars apart W args.toList ds gs before →
      zew.all (PathCond.test C.prog ⟨fn.params.toList, ds, s.plain.varTypes C.prog, gs⟩) = true →
      (DataW.weightsEach C.prog (fn.params.toList ++ s.plain.varTypes C.prog) (ds ++ gs)).all (· ≤ reachBytes) = true → X W args →
      a.holds C.prog (lone (Frame.enter C.prog f args .normal) [] W) →
      Calls C.prog f args W fun e W' => ∃ v, e = .returned v ∧ s.post enc C.prog fn apart fresh handsOn again W args v W') :
    ReturnsInHanded a C os f .any (fun w args => (s.pre enc C.prog fn zew apart w args ∧ X w args) ∧ sizedMet enc C.prog fn (OpenSpec.ofChange s) apart w args) (s.post enc C.prog fn apart fresh handsOn again) := by
  refine returnsInHanded_of_calls own started noInit witness ?_
  intro w tape i _ shape _ hok hpre hholds
  obtain ⟨_, _, _, fn', hfn', _, _, _, _, hval⟩ := hok
  obtain rfl : fn' = fn := Option.some.inj (hfn'.symm.trans hfn)
  obtain ⟨⟨⟨ds, gs, before, hw, hc⟩, hx⟩, hz⟩ := hpre
  have whole := DataW.Whole.of_heap (w' := w.forCall tape i) (by rfl) hw
  have calls := contract (w.forCall tape i) w.heap.size i.args ds gs before shape hval whole hc (hz.weights hw) (hX _ _ _ (by rfl) hx) hholds
  refine calls.mono ?_
  rintro e W' ⟨v, rfl, hp⟩
  exact ChangeSpec.post_blind hp
theorem zss {W : World} (h : W.ShapedOpen Tryd.prog) : LayM "internal/bytealg.MaxLen" (fun b => W.heap[b]?) :=
  .of_cell (g := 0) (by kernel_rfl) (cell_of_shapedOpen_int (t := 3) (zero := #[.int .i64 0]) h (of_decide_eq_true (by kernel_rfl)) (by kernel_rfl) rfl (by kernel_rfl) (by kernel_rfl) Tryd.underlying3)
end Go.Proofs.YtpllgpgdcbgalaaDoor
