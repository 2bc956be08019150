/- The document's numbers as bytes. The document's image: its inner functions. The document's image: programs. The document's image: frames. Sums of bytes: the document's. The document's image: cells, and the sum. Cells numbered as they are come to: the document's closures. Cells numbered as they are come to: the document's function, its first part. Cells numbered as they are come to: the document's function, its loops. Cells numbered as they are come to: the document's function, all of it. Cells numbered as they are come to: the document's answer. The document's machine: Pack. -/
import Derived.Test.YtpbnaaoilgohkaaG12
import Derived.Test.YtpbnaaoilgohkaaG11
import Derived.Test.YtpbnaaoilgohkaaG10
set_option linter.unusedSimpArgs false
set_option linter.unusedVariables false
set_option maxRecDepth 8000
namespace Go.Proofs.Ytpbnaaoilgohkaa
open Go Go.RowKit
theorem zalo (n : Int) (h0 : -9223372036854775808 ≤ n) (h : n < 0) : IntKind.u64.wrap (IntKind.u64.wrap (IntKind.u64.wrap (-(n + 1)) * 2) + 1) = ((WM.zig n : Nat) : Int) := by
  rw [IntKind.wrap_u64, IntKind.wrap_u64, IntKind.wrap_u64]
  unfold WM.zig; rw [if_pos h]; omega
set_option maxRecDepth 20000 in
set_option maxHeartbeats 1000000 in
theorem zaeh (n : Int) (hn : I64 n) : QC Try.prog 21 [.int .i64 n] (.ro (bsR (WM.num n))) := by
  refine QC.of' fun H nx => ?_
  refine zzp _ H nx _ ?_
  have main : ∀ u : Nat, u = WM.zig n → LP (zfj fun v H' _ => Frz H' nx v (.ro (bsR (WM.num n))) ∧ Keep nx H' H) [.int .u64 (u : Int), .nils] H nx := by
    intro u hu
    refine LP.mk (fun k xs H' n' => ∃ (q : Nat) (ys : Str) (l' : AV), xs = [.int .u64 (q : Int), l'] ∧ q < 2 ^ (1 + 7 * k) ∧ ys ++ WM.enc k q = WM.num n ∧ ys.length + k = 9 ∧ BExt H nx .nils H' n' l' ys) 9 ⟨u, [], .nils, rfl, ?_, by rw [hu]; rfl, rfl, BExt.refl (.inl ⟨rfl, .inl rfl⟩)⟩ ?_
    · have := WM.zig_lt n hn.1 hn.2
      rw [hu]; exact this
    rintro k xs H' n' ⟨q, ys, l', rfl, hq1, hq2, hq3, ext⟩
    have hl : ∀ y ∈ own AV.nils, y < nx := by simp [own]
    by_cases h : 128 ≤ q
    · have h' : ¬ (q : Int) < 128 := by omega
      have t1 : ((q : Nat) : Int).tmod 128 = (q : Int) % 128 := by rw [Int.tmod_eq_emod_of_nonneg (by omega)]
      have d1 : ((q : Nat) : Int).tdiv 128 = (q : Int) / 128 := by rw [Int.tdiv_eq_ediv_of_nonneg (by omega)]
      cases k with
      | zero => simp at hq1; omega
      | succ k =>
        have hqb : q < 18446744073709551616 := by
          have : (2 : Nat) ^ (1 + 7 * (k + 1)) ≤ 2 ^ 64 := Nat.pow_le_pow_right (by omega) (by omega)
          omega
        have w1 : IntKind.u64.wrap ((q : Int) % 128 + 128) = (q : Int) % 128 + 128 := by rw [IntKind.wrap_u64]; omega
        have w2 : IntKind.u8.wrap ((q : Int) % 128 + 128) = ((q % 128 + 128 : Nat) : Int) := by rw [IntKind.wrap_u8]; omega
        have w3 : IntKind.u64.wrap ((q : Int) / 128) = (q : Int) / 128 := by rw [IntKind.wrap_u64]; omega
        simp only [WM.enc, if_pos h] at hq2
        simp [zfj, h', t1, d1, w1, w2, w3]
        refine ext.byte (m := q % 128 + 128) (by omega) hl (by omega) fun H2 e2 _ => ?_
        refine ⟨k, by omega, q / 128, ys ++ [UInt8.ofNat (q % 128 + 128)], _, ⟨by omega, rfl⟩, ?_, ?_, ?_, ?_⟩
        · have e : (2 : Nat) ^ (1 + 7 * (k + 1)) = 2 ^ (1 + 7 * k) * 128 := by rw [show 1 + 7 * (k + 1) = (1 + 7 * k) + 7 by omega, Nat.pow_add]
          rw [e] at hq1
          omega
        · rw [List.append_assoc]; exact hq2
        · simp; omega
        · exact e2
    · have h' : (q : Int) < 128 := by omega
      have e0 : WM.enc k q = [UInt8.ofNat q] := by cases k <;> simp [WM.enc, h]
      have hw' : IntKind.u8.wrap (q : Int) = (q : Int) := by rw [IntKind.wrap_u8]; omega
      rw [e0] at hq2
      simp [zfj, h', hw']
      refine ext.byte (m := q) (by omega) hl (by omega) fun H2 e2 r2 => ?_
      rw [hq2] at e2 r2
      have := ext.le
      refine ⟨?_, fun y hy => e2.keep y hy (by simp [own])⟩
      refine Slot.frzB e2.slot fun y hy => ?_
      have e : y = n' + 1 := by simpa [own] using hy
      omega
  by_cases h0 : n < 0
  · have z := zalo n hn.1 h0
    have hn0 : -9223372036854775808 ≤ n := hn.1
    have w1 : IntKind.i64.wrap (n + 1) = n + 1 := i64w (by omega)
    have w2 : IntKind.i64.wrap (-(n + 1)) = -(n + 1) := i64w (by omega)
    simp [zna, h0, w1]
    rw [w2, z]
    exact main _ rfl
  · have z := zagx n hn.2 h0
    simp [zna, h0]
    rw [z]
    exact main _ rfl
end Go.Proofs.Ytpbnaaoilgohkaa
set_option maxRecDepth 8000
namespace Go.Proofs.Ytpbnaaoilgohkaa
open Go Go.RowKit
theorem zahr {A : Nat → Prop} (b : Str) : Bel A (.ro (bsR b)) := .ro _ fun _ x _ v hx hv => zbq (zmh _ x (List.mem_of_getElem? hx) v (List.mem_of_getElem? hv))
theorem zaha (s : Str) (H : Heap) : zg 1 H (.ro (bsR s)) = some (s.length, bsV s, []) := by
  simp only [zg, zad, zvl]
  rw [if_pos]
  simpa using zmi s
theorem WExt.slot {p n n' fl : Nat} {l l' v : AV} {bs bs2 : Str} {H H' H2 : Heap} (h : WExt p l H n l' bs H' n') (s : Slot H2 1 bs2.length (bsV bs2) v) (ho : ∀ y ∈ own v, y = n' ∧ fl = 1) (hk : ∀ y, y ∉ own l' → y ≠ n' → H2 y = H' y) : WExt p l H n v bs2 (H2.put p (some (.row 1 [v]))) (n' + fl) := by
  have w := h.wr
  have h3 := h.le
  have h4 := w.lt
  refine ⟨by omega, ⟨Heap.put_at _ _ _, s.keep fun g hg => Heap.put_ne _ _ (by have := (ho g hg).1; omega), fun y hy => by have := ho y hy; omega, by omega⟩, fun y hy => .inr (by have := ho y hy; omega), fun y hy e1 e2 => ?_⟩
  rw [Heap.put_ne _ _ e1, hk y (fun h5 => ?_) (by omega), h.keep y hy e1 e2]
  rcases h.new y h5 with h6 | h6
  · exact e2 h6
  · omega
set_option maxRecDepth 20000 in
set_option maxHeartbeats 1000000 in
theorem zaqt {p g n : Nat} {l : AV} {bs : Str} {ns : List Int} {H : Heap} {Q : AV → Heap → Nat → Prop} (w : WrM p l bs H n) (hg : H g = some (.row 1 (ns.map (AV.int .i64)))) (hgp : g ≠ p) (hgl : g ∉ own l) (hgn : g < n) (hb : bs.length + 10 * ns.length ≤ 100000000000000) (hi : ∀ m ∈ ns, I64 m)
    (hq : ∀ H' n' l', WExt p l H n l' (bs ++ zt ns) H' n' → Q (.tup []) H' n') : za Try.prog 20 [.slc g 0 ns.length, .ptr p 0] H n Q := by
  refine zka _ _ H n _ ?_
  simp [zhx]
  refine LP.mk (fun k xs H' n' => ∃ (i : Nat) (l' : AV), k = ns.length - i ∧ i ≤ ns.length ∧ xs = [.ptr p 0, .slc g 0 ns.length, .int .i64 ns.length, .int .i64 i] ∧ WExt p l H n l' (bs ++ zt (ns.take i)) H' n') ns.length ⟨0, l, rfl, by omega, rfl, by simpa [zt] using w.ext⟩ ?_
  rintro k xs H' n' ⟨i, l', rfl, hil, rfl, ext⟩
  have e1 : H' g = some (.row 1 (ns.map (AV.int .i64))) := (ext.keep g hgn hgp hgl).trans hg
  have e2 := ext.wr.row
  by_cases hlt : i < ns.length
  · have hadd : IntKind.i64.wrap ((i : Int) + 1) = ((i + 1 : Nat) : Int) := by rw [i64w (by omega)]; rfl
    have hm : ns[i]? = some ns[i] := List.getElem?_eq_getElem hlt
    have hmi := hi _ (List.getElem_mem hlt)
    generalize hmm : ns[i] = m at hm hmi
    have hsn := zaay hm
    have nl := zap m
    have hl := zbk (ns.take i)
    rw [List.length_take, Nat.min_eq_left hil] at hl
    simp [zdb, hlt, e1, e2, hmm]
    refine zj.of_qc (zaeh m hmi) (zahr _) ?_
    simp only [zhy]
    refine ext.wr.slot.gather (by rw [zcz]; omega) (zaha _ _) (by rw [zcz]; omega) (zuh _) (by rw [List.length_append]; omega) fun v rd fr D f1 d1 s1 o2 k1 => ?_
    have hp : (H'.apply D) p = some (.row 1 [l']) := by
      rw [k1 p (fun h => by have := ext.wr.ow p h; omega) (by have := ext.wr.lt; omega)]; exact e2
    have eb : bs ++ zt (ns.take i) ++ WM.num m = bs ++ zt (ns.take (i + 1)) := by rw [hsn, List.append_assoc]
    rw [← zui, eb, ← List.length_append, eb] at s1
    have er := ext.slot s1 o2 k1
    have o := er.wr.one
    simp [hp, o.1, o.2.1, o.2.2, hadd]
    exact ⟨ns.length - (i + 1), by omega, i + 1, rfl, by omega, rfl, _, er⟩
  · obtain rfl : i = ns.length := by omega
    rw [List.take_length] at ext
    simp [zdb]
    exact hq _ _ _ ext
theorem WExt.rn {p n n' : Nat} {l l' : AV} {bs : Str} {H H' : Heap} {Q : AV → Heap → Nat → Prop} (e : WExt p l H n l' bs H' n') (ns : List Int) (hb : bs.length + 10 * ns.length ≤ 100000000000000) (hi : ∀ m ∈ ns, I64 m)
    (hq : ∀ H2 n2 l2, WExt p l H n l2 (bs ++ zt ns) H2 n2 → (∀ y, y < n' → y ≠ p → y ∉ own l' → H2 y = H' y ∧ y ∉ own l2 ∧ y < n2) → Q (.tup []) H2 n2) : za Try.prog 20 [.slc n' 0 ns.length, .ptr p 0] (H'.put n' (some (.row 1 (ns.map (AV.int .i64))))) (n' + 1) Q := by
  have w := e.wr
  have e1 := e.put (.row 1 (ns.map (AV.int .i64)))
  refine zaqt e1.wr (Heap.put_at _ _ _) (by have := w.lt; omega) (fun h => by have := w.ow _ h; omega) (by omega) hb hi fun H2 n2 l2 e2 => hq _ _ _ (e1.trans e2) fun y h1 h2 h3 => ⟨?_, fun h4 => ?_, by have := e2.le; omega⟩
  · rw [e2.keep y (by omega) h2 h3, Heap.put_ne _ _ (by omega)]
  · rcases e2.new y h4 with h5 | h5
    · exact h3 h5
    · omega
set_option maxRecDepth 20000 in
set_option maxHeartbeats 1000000 in
theorem zaoh {p gn n : Nat} {l : AV} {bs s : Str} {H : Heap} {Q : AV → Heap → Nat → Prop} (w : WrM p l bs H n) (hg : H gn = some (.row 1 [.clo 20 [.ptr p 0]])) (hb : bs.length + s.length + 20 ≤ 100000000000000)
    (hq : ∀ H' n' l', WExt p l H n l' (bs ++ VM.textB s) H' n' → Q (.tup []) H' n') : za Try.prog 22 [.str s, .ptr gn 0, .ptr p 0] H n Q := by
  refine zuo _ _ _ H n _ ?_
  simp [zno, hg]
  simp only [CALL, List.cons_append, List.nil_append]
  refine w.ext.rn [(s.length : Int)] (by rw [List.length_singleton]; omega) (by simp; exact ⟨by omega, by omega⟩) fun H2 n2 l2 e2 k2 => ?_
  have en : zt [(s.length : Int)] = WM.num s.length := by simp [zt]
  rw [en] at e2
  have nl := zap s.length
  have r2 := e2.wr.row
  simp [znp, r2]
  have ep := e2.put (.row 1 (bsV s))
  have lt2 := e2.wr.lt
  have src : zg 1 (H2.put n2 (some (.row 1 (bsV s)))) (.slc n2 0 s.length) = some (s.length, bsV s, [n2]) := by
    simp only [zg, Heap.put_at, Nat.zero_add, List.drop_zero, Nat.mul_one]
    rw [if_pos (by rw [zcz]; omega), List.take_of_length_le (by rw [zcz]; omega)]
  refine ep.wr.slot.gather (by rw [zcz]; omega) src (by rw [zcz]; omega) (zuh s) (by rw [List.length_append]; omega) fun v rd fr D f1 d1 s1 o2 k1 => ?_
  have eb : bs ++ WM.num s.length ++ s = bs ++ VM.textB s := by rw [List.append_assoc]; rfl
  rw [← zui, eb, ← List.length_append, eb] at s1
  have er := ep.slot s1 o2 k1
  have hp : ((H2.put n2 (some (.row 1 (bsV s)))).apply D) p = some (.row 1 [l2]) := by
    rw [k1 p (fun h => by have := e2.wr.ow p h; omega) (by omega)]; exact ep.wr.row
  have o := er.wr.one
  have hp' : ((H2.put n2 (some (.row 1 (s.map fun b => AV.int .u8 (b.toNat : Int))))).apply D) p = some (.row 1 [l2]) := hp
  dsimp only
  rw [hp', rowk, o.1]
  refine ⟨rfl, by simp, fun x hx => (by simp at hx; subst hx; exact o.2.1), o.2.2, ?_⟩
  exact hq _ _ _ er
theorem zals {v : Val} (h : v.kind ≠ 1) : VM.valB v = WM.num v.kind ++ zt [v.n] := by unfold VM.valB zt; rw [if_neg h]; simp
theorem zalr {v : Val} (h : v.kind = 1) : VM.valB v = WM.num v.kind ++ VM.textB v.text := by unfold VM.valB; rw [if_pos h]
set_option maxRecDepth 20000 in
set_option maxHeartbeats 1000000 in
theorem zaqs {p gn gt n : Nat} {l : AV} {bs : Str} {v : Val} {H : Heap} {Q : AV → Heap → Nat → Prop} (w : WrM p l bs H n) (hg : H gn = some (.row 1 [.clo 20 [.ptr p 0]])) (hgp : gn ≠ p) (hgl : gn ∉ own l) (hgn : gn < n)
    (ht : H gt = some (.row 1 [.clo 22 [.ptr gn 0, .ptr p 0]])) (htp : gt ≠ p) (htl : gt ∉ own l) (htn : gt < n) (hv : I64v v) (hb : bs.length + v.text.length + 40 ≤ 100000000000000)
    (hq : ∀ H' n' l', WExt p l H n l' (bs ++ VM.valB v) H' n' → Q (.tup []) H' n') : za Try.prog 23 [.agg v.avs, .ptr gn 0, .ptr gt 0] H n Q := by
  refine zun _ _ _ H n _ ?_
  have ep := w.ext.put (.row 3 v.avs)
  have hp := w.row
  have lt := w.lt
  have ne_0 : n ≠ gn ∧ gn ≠ n ∧ n ≠ n + 1 ∧ n + 1 ≠ n ∧ gn ≠ n + 1 ∧ n + 1 ≠ gn := ⟨by omega, by omega, by omega, by omega, by omega, by omega⟩
  simp [znn, Val.avs, hg, ne_0]
  simp only [CALL, List.cons_append, List.nil_append]
  refine ep.rn [v.kind] (by rw [List.length_singleton]; omega) (by simp; exact hv.1) fun H2 n2 l2 e2 k2 => ?_
  have en : zt [v.kind] = WM.num v.kind := by simp [zt]
  rw [en] at e2
  have nl := zap v.kind
  have nop : n ∉ own l := fun h => by have := w.ow n h; omega
  obtain ⟨r1, r2, r3⟩ := k2 n (by omega) (by omega) nop
  rw [Heap.put_at] at r1
  obtain ⟨g1, g2, g3⟩ := k2 gn (by omega) hgp hgl
  rw [Heap.put_ne _ _ (by omega), hg] at g1
  obtain ⟨t1, t2, t3⟩ := k2 gt (by omega) htp htl
  rw [Heap.put_ne _ _ (by omega), ht] at t1
  by_cases h1 : v.kind = 1
  · simp [zhw, r1, Val.avs, h1, t1]
    simp only [CALL, List.cons_append, List.nil_append]
    refine zaoh e2.wr g1 (by rw [List.length_append]; omega) fun H3 n3 l3 e3 => ?_
    have e3' := e2.trans e3
    rw [List.append_assoc, ← zalr h1] at e3'
    simp only [zek]
    exact hq _ _ _ e3'
  · simp [zhw, r1, Val.avs, h1, g1]
    simp only [CALL, List.cons_append, List.nil_append]
    refine e2.rn [v.n] (by rw [List.length_append, List.length_singleton]; omega) (by simp; exact hv.2) fun H3 n3 l3 e3 _ => ?_
    rw [List.append_assoc, ← zals h1] at e3
    simp only [zek]
    exact hq _ _ _ e3
end Go.Proofs.Ytpbnaaoilgohkaa
set_option maxRecDepth 8000
namespace Go.Proofs.Ytpbnaaoilgohkaa
open Go Go.RowKit
structure ImgS (g p gn gt : Nat) (b : Agt) (X : Heap) (n : Nat) : Prop where
  row : X g = some (.row 9 b.avs)
  fn : X gn = some (.row 1 [.clo 20 [.ptr p 0]])
  ft : X gt = some (.row 1 [.clo 22 [.ptr gn 0, .ptr p 0]])
  dif : g ≠ p ∧ gn ≠ p ∧ gt ≠ p
  lt : g < n ∧ gn < n ∧ gt < n
theorem ImgS.ext {g p gn gt n n' : Nat} {b : Agt} {X H' : Heap} {l' : AV} {bs : Str} (s : ImgS g p gn gt b X n) (e : WExt p .nils X n l' bs H' n') : ImgS g p gn gt b H' n' ∧ g ∉ own l' ∧ gn ∉ own l' ∧ gt ∉ own l' := by
  obtain ⟨r, f, t, ⟨d1, d2, d3⟩, ⟨l1, l2, l3⟩⟩ := s
  have no : ∀ y, y < n → y ∉ own l' := fun y hy h => by
    rcases e.new y h with h | h
    · simp [own] at h
    · omega
  have hle := e.le
  exact ⟨⟨(e.keep g l1 d1 (by simp [own])).trans r, (e.keep gn l2 d2 (by simp [own])).trans f, (e.keep gt l3 d3 (by simp [own])).trans t, ⟨d1, d2, d3⟩, by omega, by omega, by omega⟩, no g l1, no gn l2, no gt l3⟩
theorem ImgS.put {g p gn gt n : Nat} {b : Agt} {X : Heap} (s : ImgS g p gn gt b X n) (o : AObj) : ImgS g p gn gt b (X.put n (some o)) (n + 1) := by
  obtain ⟨r, f, t, d, ⟨l1, l2, l3⟩⟩ := s
  exact ⟨by rw [Heap.put_ne _ _ (by omega)]; exact r, by rw [Heap.put_ne _ _ (by omega)]; exact f, by rw [Heap.put_ne _ _ (by omega)]; exact t, d, by omega, by omega, by omega⟩
theorem ImgS.val {g p gn gt n n' : Nat} {b : Agt} {X H' : Heap} {l' : AV} {bs : Str} {v : Val} {Q : AV → Heap → Nat → Prop} (s : ImgS g p gn gt b X n) (e : WExt p .nils X n l' bs H' n') (hv : I64v v) (hb : bs.length + v.text.length + 40 ≤ 100000000000000)
    (hq : ∀ H2 n2 l2, WExt p .nils X n l2 (bs ++ VM.valB v) H2 n2 → (∀ y, y < n' → y ≠ p → y ∉ own l' → H2 y = H' y ∧ y ∉ own l2 ∧ y < n2) → Q (.tup []) H2 n2) : za Try.prog 23 [.agg v.avs, .ptr gn 0, .ptr gt 0] H' n' Q := by
  obtain ⟨s', o1, o2, o3⟩ := s.ext e
  refine zaqs e.wr s'.fn s'.dif.2.1 o2 s'.lt.2.1 s'.ft s'.dif.2.2 o3 s'.lt.2.2 hv hb fun H2 n2 l2 e2 => hq _ _ _ (e.trans e2) fun y h1 h2 h3 => ⟨e2.keep y h1 h2 h3, fun h4 => ?_, by have := e2.le; omega⟩
  rcases e2.new y h4 with h5 | h5
  · exact h3 h5
  · omega
set_option maxRecDepth 20000 in
set_option maxHeartbeats 4000000 in
theorem zaqa {g p gn gt n n' i : Nat} {b : Agt} {X H' : Heap} {l' : AV} {bs : Str} {K54 : J3} {c0 c1 c3 c4 c5 : AV} {is : List Ins} (s : ImgS g p gn gt b X n) (e : WExt p .nils X n l' bs H' n') (hl : is.length ≤ 4096) (hi : ∀ x ∈ is, I64 x.op ∧ I64 x.a ∧ I64 x.b) (hb : bs.length ≤ 10000000000000) (hiN : i < 100000)
    (hK : ∀ H2 n2 l2, WExt p .nils X n l2 (bs ++ is.flatMap VM.insB) H2 n2 → K54 [c0, c1, .ptr gn 0, c3, c4, c5, .int .i64 (i + 1 : Nat)] H2 n2) :
    LP (zgd K54) [c0, c1, .ptr gn 0, c3, c4, c5, .int .i64 i, .ro (is.map Ins.avs), .int .i64 is.length, .int .i64 0] H' n' := by
  refine LP.mk (fun k xs H' n' => ∃ (j : Nat) (l' : AV), k = is.length - j ∧ j ≤ is.length ∧ xs = [c0, c1, .ptr gn 0, c3, c4, c5, .int .i64 i, .ro (is.map Ins.avs), .int .i64 is.length, .int .i64 j] ∧ WExt p .nils X n l' (bs ++ (is.take j).flatMap VM.insB) H' n') is.length ⟨0, l', rfl, by omega, rfl, by simpa using e⟩ ?_
  rintro k xs H6 n6 ⟨j, l6, rfl, hjl, rfl, ex6⟩
  have hft6 := zat (l := is) (f := VM.insB) (k := 30) (fun x _ => zzv x) hjl
  by_cases hjt : j < is.length
  · have hadd6 : IntKind.i64.wrap ((j : Int) + 1) = ((j + 1 : Nat) : Int) := by rw [i64w (by omega)]; rfl
    have hmj : is[j]? = some is[j] := List.getElem?_eq_getElem hjt
    obtain ⟨f1, f2, f3⟩ := hi _ (List.getElem_mem hjt)
    generalize hmi : is[j] = q at hmj f1 f2 f3
    have hsn6 := zau (f := VM.insB) hmj
    have ep6 := ex6.put (.row 3 q.avs)
    obtain ⟨s6, _⟩ := s.ext ex6
    have gnn : gn ≠ n6 ∧ n6 ≠ gn := by have := s6.lt; omega
    simp [zgd, hjt, hmi, Ins.avs, s6.fn, gnn]
    simp only [CALL, List.cons_append, List.nil_append]
    refine ep6.rn [q.op, q.a, q.b] (by rw [List.length_append]; simp only [List.length_cons, List.length_nil]; omega) (by simp; exact ⟨f1, f2, f3⟩) fun H7 n7 l7 e7 _ => ?_
    rw [← zxk, List.append_assoc, ← hsn6] at e7
    simp [zge, hadd6]
    exact ⟨is.length - (j + 1), by omega, j + 1, rfl, by omega, rfl, _, by simpa using e7⟩
  · obtain rfl : j = is.length := by omega
    have hadd : IntKind.i64.wrap ((i : Int) + 1) = ((i + 1 : Nat) : Int) := by rw [i64w (by omega)]; rfl
    rw [List.take_length] at ex6
    simp [zgd, hadd]
    exact hK _ _ _ ex6
set_option maxRecDepth 20000 in
set_option maxHeartbeats 4000000 in
theorem zapv {g p gn gt n n' : Nat} {b : Agt} {X H' : Heap} {l' : AV} {bs : Str} {Q : QT} {c1 c3 : AV} (s : ImgS g p gn gt b X n) (e : WExt p .nils X n l' bs H' n') (sp : zyb b.prog) (hfl : b.frames.length ≤ 4096) (hb : bs.length ≤ 1000000000000)
    (hq : ∀ H2 n2 l2, WExt p .nils X n l2 (bs ++ b.prog.codes.flatMap VM.codB ++ WM.num b.frames.length) H2 n2 → zjg [.ptr g 0, c1, .ptr gn 0, c3, .ro (b.prog.codes.map Cod.avs), .int .i64 b.prog.codes.length, .int .i64 b.prog.codes.length] Q (.tup []) H2 n2) :
    LP (zdw Q) [.ptr g 0, c1, .ptr gn 0, c3, .ro (b.prog.codes.map Cod.avs), .int .i64 b.prog.codes.length, .int .i64 0] H' n' := by
  obtain ⟨_, c1', c4⟩ := sp
  have hcl : ∀ c ∈ b.prog.codes, (VM.codB c).length ≤ 200000 := fun c h => zvk (c4 c h).1
  refine LP.mk (fun k xs H' n' => ∃ (i : Nat) (l' : AV), k = b.prog.codes.length - i ∧ i ≤ b.prog.codes.length ∧ xs = [.ptr g 0, c1, .ptr gn 0, c3, .ro (b.prog.codes.map Cod.avs), .int .i64 b.prog.codes.length, .int .i64 i] ∧ WExt p .nils X n l' (bs ++ (b.prog.codes.take i).flatMap VM.codB) H' n') b.prog.codes.length ⟨0, l', rfl, by omega, rfl, by simpa using e⟩ ?_
  rintro k xs H4 n4 ⟨i, l4, rfl, hil, rfl, ext⟩
  have hft := zat hcl hil
  obtain ⟨s4, o4, _⟩ := s.ext ext
  suffices key : ∀ K : J3, (∀ H' n' l', i + 1 ≤ b.prog.codes.length → WExt p .nils X n l' (bs ++ (b.prog.codes.take (i + 1)).flatMap VM.codB) H' n' → K [.ptr g 0, c1, .ptr gn 0, c3, .ro (b.prog.codes.map Cod.avs), .int .i64 b.prog.codes.length, .int .i64 (i + 1 : Nat)] H' n') →
      zdw Q K [.ptr g 0, c1, .ptr gn 0, c3, .ro (b.prog.codes.map Cod.avs), .int .i64 b.prog.codes.length, .int .i64 i] H4 n4 from
    key _ fun H' n' l' h1 h2 => ⟨b.prog.codes.length - (i + 1), by omega, i + 1, l', rfl, h1, rfl, h2⟩
  intro K hK
  by_cases hlt : i < b.prog.codes.length
  · have hm : b.prog.codes[i]? = some b.prog.codes[i] := List.getElem?_eq_getElem hlt
    obtain ⟨d1, d2, d3, d4⟩ := c4 _ (List.getElem_mem hlt)
    generalize hmm : b.prog.codes[i] = m at hm d1 d2 d3 d4
    have hsn := zau (f := VM.codB) hm
    have gnn : gn ≠ n4 ∧ n4 ≠ gn := by have := s4.lt; omega
    have ep := ext.put (.row 3 m.avs)
    have lp := ext.wr.lt
    have nop : n4 ∉ own l4 := fun h => by have := ext.wr.ow _ h; omega
    simp [zdw, hlt, hmm, Cod.avs, s4.fn, gnn]
    simp only [CALL, List.cons_append, List.nil_append]
    refine ep.rn [m.params, m.vars, (m.ins.length : Int)] (by rw [List.length_append]; simp only [List.length_cons, List.length_nil]; omega) (by simp; exact ⟨d2, d3, by omega, by omega⟩) fun H5 n5 l5 e5 k5 => ?_
    obtain ⟨r5, _, _⟩ := k5 n4 (by omega) (by omega) nop
    rw [Heap.put_at] at r5
    have nl5 := zbk [m.params, m.vars, (m.ins.length : Int)]
    simp only [List.length_cons, List.length_nil] at nl5
    simp [zqt, r5, Cod.avs]
    refine zaqa s e5 d1 d4 (by simp only [List.length_append]; omega) (by omega) fun H6 n6 l6 e6 => ?_
    rw [List.append_assoc _ _ (m.ins.flatMap VM.insB), ← zxu, List.append_assoc, ← hsn] at e6
    exact hK _ _ _ (by omega) e6
  · obtain rfl : i = b.prog.codes.length := by omega
    rw [List.take_length] at ext hft
    have b4 : b.avs[4]? = some (.ro (b.frames.map Frm.avs)) := rfl
    have gnn : gn ≠ n4 ∧ n4 ≠ gn := by have := s4.lt; omega
    simp [zdw, s4.fn, s4.row, b4]
    simp only [CALL, List.cons_append, List.nil_append]
    refine ext.rn [(b.frames.length : Int)] (by rw [List.length_append, List.length_singleton]; omega) (by simp; exact ⟨by omega, by omega⟩) fun H5 n5 l5 e5 _ => ?_
    have en : zt [(b.frames.length : Int)] = WM.num b.frames.length := by simp [zt]
    rw [en] at e5
    exact hq _ _ _ e5
set_option maxRecDepth 20000 in
set_option maxHeartbeats 4000000 in
theorem zapu {g p gn gt n n' : Nat} {b : Agt} {X H' : Heap} {l' : AV} {bs : Str} {Q : QT} {c1 c4 : AV} (s : ImgS g p gn gt b X n) (e : WExt p .nils X n l' bs H' n') (sp : zyb b.prog) (hb : bs.length ≤ 100000000000)
    (hq : ∀ H2 n2 l2, WExt p .nils X n l2 (bs ++ b.prog.words.flatMap VM.textB ++ WM.num b.prog.codes.length) H2 n2 → zjf [.ptr g 0, c1, .ptr gn 0, .ptr gt 0, c4, .ro (b.prog.words.map fun w => [.str w]), .int .i64 b.prog.words.length, .int .i64 b.prog.words.length] Q (.tup []) H2 n2) :
    LP (zfz Q) [.ptr g 0, c1, .ptr gn 0, .ptr gt 0, c4, .ro (b.prog.words.map fun w => [.str w]), .int .i64 b.prog.words.length, .int .i64 0] H' n' := by
  obtain ⟨⟨w1, w2⟩, q1, _⟩ := sp
  have hwl : ∀ s ∈ b.prog.words, (VM.textB s).length ≤ 4106 := fun s h => by have := zmp s; have := w2 s h; omega
  refine LP.mk (fun k xs H' n' => ∃ (i : Nat) (l' : AV), k = b.prog.words.length - i ∧ i ≤ b.prog.words.length ∧ xs = [.ptr g 0, c1, .ptr gn 0, .ptr gt 0, c4, .ro (b.prog.words.map fun w => [.str w]), .int .i64 b.prog.words.length, .int .i64 i] ∧ WExt p .nils X n l' (bs ++ (b.prog.words.take i).flatMap VM.textB) H' n') b.prog.words.length ⟨0, l', rfl, by omega, rfl, by simpa using e⟩ ?_
  rintro k xs H4 n4 ⟨i, l4, rfl, hil, rfl, ext⟩
  have hft := zat hwl hil
  obtain ⟨s4, o4, o5, o6⟩ := s.ext ext
  by_cases hlt : i < b.prog.words.length
  · have hadd : IntKind.i64.wrap ((i : Int) + 1) = ((i + 1 : Nat) : Int) := by rw [i64w (by omega)]; rfl
    have hm : b.prog.words[i]? = some b.prog.words[i] := List.getElem?_eq_getElem hlt
    have hmi := w2 _ (List.getElem_mem hlt)
    generalize hmm : b.prog.words[i] = m at hm hmi
    have hsn := zau (f := VM.textB) hm
    simp [zfz, hlt, hmm, s4.ft]
    simp only [CALL, List.cons_append, List.nil_append]
    refine zaoh ext.wr s4.fn (by rw [List.length_append]; omega) fun H5 n5 l5 e5 => ?_
    have e5' := ext.trans e5
    rw [List.append_assoc, ← hsn] at e5'
    simp [zqu, hadd]
    exact ⟨b.prog.words.length - (i + 1), by omega, i + 1, rfl, by omega, rfl, _, e5'⟩
  · obtain rfl : i = b.prog.words.length := by omega
    rw [List.take_length] at ext hft
    have b2 : b.avs[2]? = some (.ro (b.prog.codes.map Cod.avs)) := rfl
    simp [zfz, s4.fn, s4.row, b2]
    simp only [CALL, List.cons_append, List.nil_append]
    refine ext.rn [(b.prog.codes.length : Int)] (by rw [List.length_append, List.length_singleton]; omega) (by simp; exact ⟨by omega, by omega⟩) fun H5 n5 l5 e5 _ => ?_
    have en : zt [(b.prog.codes.length : Int)] = WM.num b.prog.codes.length := by simp [zt]
    rw [en] at e5
    exact hq _ _ _ e5
end Go.Proofs.Ytpbnaaoilgohkaa
set_option maxRecDepth 8000
namespace Go.Proofs.Ytpbnaaoilgohkaa
open Go Go.RowKit
theorem zacm {v : Val} (h : v.text.length ≤ 4096) : (VM.valB v).length ≤ 4116 := by have := zjj v; omega
set_option maxRecDepth 20000 in
set_option maxHeartbeats 4000000 in
theorem zapz {g p gn gt n n' i : Nat} {b : Agt} {X H' : Heap} {l' : AV} {bs : Str} {K107 : J3} {c0 c1 c4 c5 : AV} {vs : List Val} (s : ImgS g p gn gt b X n) (e : WExt p .nils X n l' bs H' n') (hl : vs.length ≤ 4096) (hv : I64l vs) (hb : bs.length ≤ 10000000000000) (hiN : i < 100000)
    (hK : ∀ H2 n2 l2, WExt p .nils X n l2 (bs ++ vs.flatMap VM.valB) H2 n2 → K107 [c0, c1, .ptr gn 0, .clo 23 [.ptr gn 0, .ptr gt 0], c4, c5, .int .i64 (i + 1 : Nat)] H2 n2) :
    LP (zgc K107) [c0, c1, .ptr gn 0, .clo 23 [.ptr gn 0, .ptr gt 0], c4, c5, .int .i64 i, .ro (vs.map Val.avs), .int .i64 vs.length, .int .i64 0] H' n' := by
  refine LP.mk (fun k xs H' n' => ∃ (j : Nat) (l' : AV), k = vs.length - j ∧ j ≤ vs.length ∧ xs = [c0, c1, .ptr gn 0, .clo 23 [.ptr gn 0, .ptr gt 0], c4, c5, .int .i64 i, .ro (vs.map Val.avs), .int .i64 vs.length, .int .i64 j] ∧ WExt p .nils X n l' (bs ++ (vs.take j).flatMap VM.valB) H' n') vs.length ⟨0, l', rfl, by omega, rfl, by simpa using e⟩ ?_
  rintro k xs H6 n6 ⟨j, l6, rfl, hjl, rfl, ex6⟩
  have hft6 := zat (l := vs) (f := VM.valB) (k := 4116) (fun x hx => zacm (hv x hx).2) hjl
  by_cases hjt : j < vs.length
  · have hadd6 : IntKind.i64.wrap ((j : Int) + 1) = ((j + 1 : Nat) : Int) := by rw [i64w (by omega)]; rfl
    have hmj : vs[j]? = some vs[j] := List.getElem?_eq_getElem hjt
    have f1 := hv _ (List.getElem_mem hjt)
    generalize hmi : vs[j] = q at hmj f1
    have hsn6 := zau (f := VM.valB) hmj
    have ep6 := ex6.put (.row 3 q.avs)
    simp [zgc, hjt, hmi, Val.avs]
    simp only [CALL, List.cons_append, List.nil_append]
    refine s.val ep6 f1.1 (by rw [List.length_append]; have := f1.2; omega) fun H7 n7 l7 e7 _ => ?_
    rw [List.append_assoc, ← hsn6] at e7
    simp [zge, hadd6]
    exact ⟨vs.length - (j + 1), by omega, j + 1, rfl, by omega, rfl, _, by simpa using e7⟩
  · obtain rfl : j = vs.length := by omega
    have hadd : IntKind.i64.wrap ((i : Int) + 1) = ((i + 1 : Nat) : Int) := by rw [i64w (by omega)]; rfl
    rw [List.take_length] at ex6
    simp [zgc, hadd]
    exact hK _ _ _ ex6
set_option maxRecDepth 20000 in
set_option maxHeartbeats 4000000 in
theorem zapy {g p gn gt n n' i r : Nat} {b : Agt} {X H' : Heap} {l' : AV} {bs : Str} {K107 : J3} {c0 c1 c4 c5 : AV} {m : Frm} (s : ImgS g p gn gt b X n) (e : WExt p .nils X n l' bs H' n') (hr : H' r = some (.row 4 m.avs) ∧ r ∉ own l' ∧ r < n' ∧ r ≠ p) (hl : m.vars.length ≤ 4096) (hv : I64l m.vars) (hl2 : m.stack.length ≤ 4096) (hv2 : I64l m.stack) (hb : bs.length ≤ 1000000000000) (hiN : i < 100000)
    (hK : ∀ H2 n2 l2, WExt p .nils X n l2 (bs ++ m.vars.flatMap VM.valB ++ VM.valsB m.stack) H2 n2 → K107 [c0, c1, .ptr gn 0, .clo 23 [.ptr gn 0, .ptr gt 0], c4, c5, .int .i64 (i + 1 : Nat)] H2 n2) :
    LP (zgb K107) [c0, c1, .ptr gn 0, .clo 23 [.ptr gn 0, .ptr gt 0], .ptr r 0, c4, c5, .int .i64 i, .ro (m.vars.map Val.avs), .int .i64 m.vars.length, .int .i64 0] H' n' := by
  refine LP.mk (fun k xs H' n' => ∃ (j : Nat) (l' : AV), k = m.vars.length - j ∧ j ≤ m.vars.length ∧ xs = [c0, c1, .ptr gn 0, .clo 23 [.ptr gn 0, .ptr gt 0], .ptr r 0, c4, c5, .int .i64 i, .ro (m.vars.map Val.avs), .int .i64 m.vars.length, .int .i64 j] ∧ WExt p .nils X n l' (bs ++ (m.vars.take j).flatMap VM.valB) H' n' ∧ H' r = some (.row 4 m.avs) ∧ r ∉ own l' ∧ r < n') m.vars.length ⟨0, l', rfl, by omega, rfl, by simpa using e, hr.1, hr.2.1, hr.2.2.1⟩ ?_
  rintro k xs H6 n6 ⟨j, l6, rfl, hjl, rfl, ex6, hr1, hr2, hr3⟩
  have hft6 := zat (l := m.vars) (f := VM.valB) (k := 4116) (fun x hx => zacm (hv x hx).2) hjl
  by_cases hjt : j < m.vars.length
  · have hadd6 : IntKind.i64.wrap ((j : Int) + 1) = ((j + 1 : Nat) : Int) := by rw [i64w (by omega)]; rfl
    have hmj : m.vars[j]? = some m.vars[j] := List.getElem?_eq_getElem hjt
    have f1 := hv _ (List.getElem_mem hjt)
    generalize hmi : m.vars[j] = q at hmj f1
    have hsn6 := zau (f := VM.valB) hmj
    have ep6 := ex6.put (.row 3 q.avs)
    simp [zgb, hjt, hmi, Val.avs]
    simp only [CALL, List.cons_append, List.nil_append]
    refine s.val ep6 f1.1 (by rw [List.length_append]; have := f1.2; omega) fun H7 n7 l7 e7 k7 => ?_
    obtain ⟨r1, r2, r3⟩ := k7 r (by omega) hr.2.2.2 hr2
    rw [Heap.put_ne _ _ (by omega), hr1] at r1
    rw [List.append_assoc, ← hsn6] at e7
    simp [zqs, hadd6]
    exact ⟨m.vars.length - (j + 1), by omega, j + 1, rfl, by omega, rfl, _, by simpa using e7, r1, r2, r3⟩
  · obtain rfl : j = m.vars.length := by omega
    rw [List.take_length] at ex6 hft6
    obtain ⟨s6, _⟩ := s.ext ex6
    have lp := ex6.wr.lt
    simp [zgb, s6.fn, hr1, Frm.avs]
    simp only [CALL, List.cons_append, List.nil_append]
    refine ex6.rn [(m.stack.length : Int)] (by rw [List.length_append, List.length_singleton]; omega) (by simp; exact ⟨by omega, by omega⟩) fun H5 n5 l5 e5 k5 => ?_
    obtain ⟨r1, _, _⟩ := k5 r hr3 hr.2.2.2 hr2
    rw [hr1] at r1
    have en : zt [(m.stack.length : Int)] = WM.num m.stack.length := by simp [zt]
    have nl := zap m.stack.length
    rw [en] at e5
    simp [zqr, r1, Frm.avs]
    refine zapz s e5 hl2 hv2 (by simp only [List.length_append]; omega) hiN fun H8 n8 l8 e8 => ?_
    rw [List.append_assoc _ _ (m.stack.flatMap VM.valB)] at e8
    exact hK _ _ _ e8
set_option maxRecDepth 20000 in
set_option maxHeartbeats 4000000 in
theorem zapw {g p gn gt n n' : Nat} {b : Agt} {X H' : Heap} {l' : AV} {bs : Str} {Q : QT} {c1 : AV} (s : ImgS g p gn gt b X n) (e : WExt p .nils X n l' bs H' n') (sm : zabp b) (hb : bs.length ≤ 10000000000)
    (hq : ∀ H2 n2 l2, WExt p .nils X n l2 (bs ++ b.frames.flatMap VM.frmB ++ WM.num b.heap.length) H2 n2 → zjh [.ptr g 0, c1, .ptr gn 0, .clo 23 [.ptr gn 0, .ptr gt 0], .ro (b.frames.map Frm.avs), .int .i64 b.frames.length, .int .i64 b.frames.length] Q (.tup []) H2 n2) :
    LP (zdx Q) [.ptr g 0, c1, .ptr gn 0, .clo 23 [.ptr gn 0, .ptr gt 0], .ro (b.frames.map Frm.avs), .int .i64 b.frames.length, .int .i64 0] H' n' := by
  obtain ⟨_, _, _, _, ⟨f1, f2⟩, ⟨h1, _⟩⟩ := sm
  have hfl : ∀ f ∈ b.frames, (VM.frmB f).length ≤ 50000000 := fun f hf => zzx (f2 f hf).2.2.1 (f2 f hf).2.2.2
  refine LP.mk (fun k xs H' n' => ∃ (i : Nat) (l' : AV), k = b.frames.length - i ∧ i ≤ b.frames.length ∧ xs = [.ptr g 0, c1, .ptr gn 0, .clo 23 [.ptr gn 0, .ptr gt 0], .ro (b.frames.map Frm.avs), .int .i64 b.frames.length, .int .i64 i] ∧ WExt p .nils X n l' (bs ++ (b.frames.take i).flatMap VM.frmB) H' n') b.frames.length ⟨0, l', rfl, by omega, rfl, by simpa using e⟩ ?_
  rintro k xs H4 n4 ⟨i, l4, rfl, hil, rfl, ext⟩
  have hft := zat hfl hil
  obtain ⟨s4, o4, _⟩ := s.ext ext
  suffices key : ∀ K : J3, (∀ H' n' l', i + 1 ≤ b.frames.length → WExt p .nils X n l' (bs ++ (b.frames.take (i + 1)).flatMap VM.frmB) H' n' → K [.ptr g 0, c1, .ptr gn 0, .clo 23 [.ptr gn 0, .ptr gt 0], .ro (b.frames.map Frm.avs), .int .i64 b.frames.length, .int .i64 (i + 1 : Nat)] H' n') →
      zdx Q K [.ptr g 0, c1, .ptr gn 0, .clo 23 [.ptr gn 0, .ptr gt 0], .ro (b.frames.map Frm.avs), .int .i64 b.frames.length, .int .i64 i] H4 n4 from
    key _ fun H' n' l' h1 h2 => ⟨b.frames.length - (i + 1), by omega, i + 1, l', rfl, h1, rfl, h2⟩
  intro K hK
  by_cases hlt : i < b.frames.length
  · have hm : b.frames[i]? = some b.frames[i] := List.getElem?_eq_getElem hlt
    obtain ⟨d1, d2, ⟨d3, d4⟩, ⟨d5, d6⟩⟩ := f2 _ (List.getElem_mem hlt)
    generalize hmm : b.frames[i] = m at hm d1 d2 d3 d4 d5 d6
    have hsn := zau (f := VM.frmB) hm
    have gnn : gn ≠ n4 ∧ n4 ≠ gn := by have := s4.lt; omega
    have ep := ext.put (.row 4 m.avs)
    have lp := ext.wr.lt
    have nop : n4 ∉ own l4 := fun h => by have := ext.wr.ow _ h; omega
    simp [zdx, hlt, hmm, Frm.avs, s4.fn, gnn]
    simp only [CALL, List.cons_append, List.nil_append]
    refine ep.rn [m.fn, m.at_, (m.vars.length : Int)] (by rw [List.length_append]; simp only [List.length_cons, List.length_nil]; omega) (by simp; exact ⟨d1, d2, by omega, by omega⟩) fun H5 n5 l5 e5 k5 => ?_
    obtain ⟨r5, o5, t5⟩ := k5 n4 (by omega) (by omega) nop
    rw [Heap.put_at] at r5
    have nl5 := zbk [m.fn, m.at_, (m.vars.length : Int)]
    simp only [List.length_cons, List.length_nil] at nl5
    simp [zqq, r5, Frm.avs]
    refine zapy (m := m) s e5 ⟨r5, o5, t5, by omega⟩ d4 d3 d6 d5 (by simp only [List.length_append]; omega) (by omega) fun H6 n6 l6 e6 => ?_
    have eb : bs ++ (b.frames.take i).flatMap VM.frmB ++ zt [m.fn, m.at_, (m.vars.length : Int)] ++ m.vars.flatMap VM.valB ++ VM.valsB m.stack = bs ++ (b.frames.take (i + 1)).flatMap VM.frmB := by
      rw [hsn, zxn]; simp [zt, VM.valsB]
    rw [eb] at e6
    exact hK _ _ _ (by omega) e6
  · obtain rfl : i = b.frames.length := by omega
    rw [List.take_length] at ext hft
    have b5 : b.avs[5]? = some (.ro (b.heap.map Cl.avs)) := rfl
    simp [zdx, s4.fn, s4.row, b5]
    simp only [CALL, List.cons_append, List.nil_append]
    refine ext.rn [(b.heap.length : Int)] (by rw [List.length_append, List.length_singleton]; omega) (by simp; exact ⟨by omega, by omega⟩) fun H5 n5 l5 e5 _ => ?_
    have en : zt [(b.heap.length : Int)] = WM.num b.heap.length := by simp [zt]
    rw [en] at e5
    exact hq _ _ _ e5
end Go.Proofs.Ytpbnaaoilgohkaa
set_option maxRecDepth 8000
namespace Go.Proofs.Ytpbnaaoilgohkaa
open Go Go.RowKit
set_option maxRecDepth 20000 in
set_option maxHeartbeats 1000000 in
theorem zaow (b : Str) (hb : b.length ≤ 4611686018427387904) : QC Try.prog 24 [.ro (bsR b)] (.int .i64 (WM.sum b : Nat)) := by
  refine QC.of' fun H nx => ?_
  refine zzo _ H nx _ ?_
  simp [zvq, zad]
  refine LP.mk (fun k xs H' n' => ∃ (i q : Nat), k = b.length - i ∧ i ≤ b.length ∧ xs = [.int .u32 q, .ro (bsR b), .int .i64 b.length, .int .i64 i] ∧ q < 4294967296 ∧ (b.drop i).foldl WM.sumStep q = WM.sum b ∧ Keep nx H' H) b.length ⟨0, 2166136261, rfl, by omega, rfl, by omega, rfl, fun _ _ => rfl⟩ ?_
  rintro k xs H' n' ⟨i, q, rfl, hil, rfl, hq, hf, hk⟩
  by_cases hlt : i < b.length
  · have hadd : IntKind.i64.wrap ((i : Int) + 1) = ((i + 1 : Nat) : Int) := by rw [i64w (by omega)]; rfl
    have hcd : b.drop i = b[i] :: b.drop (i + 1) := List.drop_eq_getElem_cons hlt
    rw [hcd] at hf
    have hcell : (bsR b)[i]? = some [.int .u8 (b[i].toNat : Int)] := by simp [bsR, hlt]
    generalize b[i] = c at *
    have hc := c.toNat_lt
    have hx := u32_xor_nat q c.toNat hq (by omega)
    have hlx : q ^^^ c.toNat < 4294967296 := Nat.xor_lt_two_pow (n := 32) hq (by omega)
    simp only [List.foldl_cons, WM.sumStep] at hf
    have hw : IntKind.u32.wrap (c.toNat : Int) = (c.toNat : Int) := by rw [IntKind.wrap_u32]; omega
    generalize q ^^^ c.toNat = x at *
    have hor : bits BinOp.or IntKind.u32 ((x : Int) * 32 % 4294967296) ((x : Int) / 134217728) = ((WM.rot5 x : Nat) : Int) := by
      have := u32_or_nat (x * 32 % 4294967296) (x / 134217728) (by omega) (by omega)
      rw [show ((x : Int) * 32 % 4294967296) = ((x * 32 % 4294967296 : Nat) : Int) by omega, show ((x : Int) / 134217728) = ((x / 134217728 : Nat) : Int) by omega, this]
      rfl
    have p5 : (2 : Int) ^ min (5 : Nat) IntKind.u32.bits = 32 := rfl
    have p27 : (2 : Int) ^ min (27 : Nat) IntKind.u32.bits = 134217728 := rfl
    have fd : (x : Int).fdiv 134217728 = (x : Int) / 134217728 := Int.fdiv_eq_ediv_of_nonneg _ (by omega)
    have hm : (WM.rot5 x : Int) * 16777619 % 4294967296 = ((WM.rot5 x * 16777619 % 4294967296 : Nat) : Int) := by omega
    simp [zmz, hlt, hcell, hw, hx, p5, p27, fd, IntKind.wrap_u32, hor, hadd]
    exact ⟨by rw [zad]; exact hlt, b.length - (i + 1), by omega, i + 1, rfl, by omega, _, ⟨hm, rfl⟩, by omega, hf, hk⟩
  · obtain rfl : i = b.length := by omega
    rw [List.drop_length] at hf
    have hw : IntKind.i64.wrap ((q : Nat) : Int) = (q : Int) := i64w (by omega)
    simp [zmz, hw]
    exact ⟨by rw [← hf]; rfl, hk⟩
end Go.Proofs.Ytpbnaaoilgohkaa
set_option maxRecDepth 8000
namespace Go.Proofs.Ytpbnaaoilgohkaa
open Go Go.RowKit
theorem Slot.gatherX {H : Heap} {sz k bytes nx m : Nat} {cells new : List AV} {a x : AV} {rdx : List Nat} {kt : Kt} (hg : Slot H sz k cells a) (hlen : cells.length = k * sz) (hs : zg sz H x = some (m, new, rdx)) (hone : new.all AV.one = true) (hm : m ≠ 0)
    (hb : (k + m) * bytes ≤ 140737488355328) (hk : ∀ rd D, (H.apply D) nx = some (.row sz (cells ++ new)) → (∀ g, g ∉ own a → g ≠ nx → (H.apply D) g = H g) → kt (.slc nx 0 (k + m)) rd [nx] D) : zy sz bytes a x H nx kt := by
  rcases hg with ⟨rfl, rfl | rfl⟩ | ⟨g, cs, rfl, h1, h2, h3⟩
  · have hc : cells = [] := List.eq_nil_of_length_eq_zero (by omega)
    subst hc
    rw [zml, hs, optk]
    refine ⟨hone, fun h => absurd h hm, fun _ => ⟨by simpa using hb, ?_⟩⟩
    have := hk rdx [(nx, some (.row sz new))] (by simp only [zac, zah, Heap.put_at]; rfl) fun g _ hx => by simp only [zac, zah]; exact Heap.put_ne _ _ hx
    rw [Nat.zero_add] at this
    exact this
  · have hc : cells = [] := List.eq_nil_of_length_eq_zero (by omega)
    subst hc
    rw [zxz, hs, optk]
    refine ⟨hone, fun h => absurd h hm, fun _ => ⟨by simpa using hb, ?_⟩⟩
    have := hk rdx [(nx, some (.row sz new))] (by simp only [zac, zah, Heap.put_at]; rfl) fun g _ hx => by simp only [zac, zah]; exact Heap.put_ne _ _ hx
    rw [Nat.zero_add] at this
    exact this
  · rw [zle, hs, optk, h1, rowk]
    refine ⟨rfl, hone, by omega, hb, hk _ _ ?_ (fun x hx1 hx => ?_)⟩
    · simp only [zac, zah]; rw [Heap.put_at, List.drop_zero, h2]
    · simp only [zac, zah]; rw [Heap.put_ne _ _ hx, Heap.put_ne _ _ (by simpa [own] using hx1)]
theorem zapd (n : Int) : (WM.num n).length ≠ 0 := by
  have := WM.enc_ne 9 (WM.zig n)
  exact fun h => this (List.eq_nil_of_length_eq_zero h)
set_option maxRecDepth 20000 in
set_option maxHeartbeats 1000000 in
theorem zapo {p a n : Nat} {l : AV} {bs : Str} {x : Int} {H : Heap} {Q : AV → Heap → Nat → Prop} (hp : H p = some (.row 1 [l])) (hs : Slot H 1 bs.length (bsV bs) l) (hpl : p ∉ own l) (hpn : p < n) (ha : H a = some (.row 1 [.int .i64 x])) (hb : bs.length + 10 ≤ 100000000000000) (hx : I64 x)
    (hq : ∀ H' n' gn, n ≤ gn → gn < n' → H' p = some (.row 1 [.slc gn 0 (bs ++ WM.num x).length]) → H' gn = some (.row 1 (bsV (bs ++ WM.num x))) → (∀ y, y < n → y ≠ p → y ∉ own l → H' y = H y) → Q (.tup []) H' n') : za Try.prog 20 [.slc a 0 1, .ptr p 0] H n Q := by
  refine zka _ _ H n _ ?_
  simp [zhx]
  refine LP.mk (fun k xs H' n' => (k = 1 ∧ xs = [.ptr p 0, .slc a 0 1, .int .i64 1, .int .i64 0] ∧ H' = H ∧ n' = n) ∨ (k = 0 ∧ xs = [.ptr p 0, .slc a 0 1, .int .i64 1, .int .i64 1] ∧ ∃ gn, n ≤ gn ∧ gn < n' ∧ H' p = some (.row 1 [.slc gn 0 (bs ++ WM.num x).length]) ∧ H' gn = some (.row 1 (bsV (bs ++ WM.num x))) ∧ ∀ y, y < n → y ≠ p → y ∉ own l → H' y = H y)) 1 (.inl ⟨rfl, rfl, rfl, rfl⟩) ?_
  rintro k xs H' n' (⟨rfl, rfl, rfl, rfl⟩ | ⟨rfl, rfl, gn, q1, q2, q3, q4, q5⟩)
  · have nl := zap x
    have o := hs.one
    simp [zdb, ha, hp]
    refine zj.of_qc (zaeh x hx) (zahr _) ?_
    simp only [zhy]
    refine hs.gatherX (by rw [zcz]; omega) (zaha _ _) (zuh _) (zapd x) (by omega) fun rd D h1 h2 => ?_
    have hp2 : (H'.apply D) p = some (.row 1 [l]) := by rw [h2 p hpl (by simp; omega)]; exact hp
    rw [← zui] at h1
    simp only [List.length_nil, Nat.add_zero] at h1 h2 ⊢
    have w2 : IntKind.i64.wrap (1 : Int) = 1 := by decide
    simp [hp2, w2]
    refine ⟨n', Nat.le_refl _, by omega, rfl, ?_, fun y h3 h4 h5 => ?_⟩
    · rw [if_neg (by omega)]; exact h1
    · rw [if_neg h4]; exact h2 y h5 (by omega)
  · simp [zdb]
    exact hq _ _ _ q1 q2 q3 q4 q5
theorem zj.rn {p a m : Nat} {l : AV} {bs : Str} {x : Int} {H : Heap} {kt : Kt} (w : WrM p l bs H m) (ha : H a = some (.row 1 [.int .i64 x])) (hb : bs.length + 10 ≤ 100000000000000) (hx : I64 x)
    (hq : ∀ rd D, (H.apply D) p = some (.row 1 [.slc m 0 (bs ++ WM.num x).length]) → (H.apply D) m = some (.row 1 (bsV (bs ++ WM.num x))) → (∀ y, y < m → y ≠ p → y ∉ own l → (H.apply D) y = H y) → (∀ y ∈ domD D, y ∈ own l ∨ y = p ∨ y = m) → kt (.tup []) rd [m] D) :
    zj Try.prog (.clo 20 [.ptr p 0]) [.slc a 0 1] H m kt := by
  have hpm := w.lt
  have hpl : p ∉ own l := fun h => by have := w.ow p h; omega
  let D : zl := ((own l).map fun g => (g, none)) ++ [(p, some (.row 1 [.slc m 0 (bs ++ WM.num x).length])), (m, some (.row 1 (bsV (bs ++ WM.num x))))]
  have app : ∀ Hx : Heap, (Hx.apply D) p = some (.row 1 [.slc m 0 (bs ++ WM.num x).length]) ∧ (Hx.apply D) m = some (.row 1 (bsV (bs ++ WM.num x))) ∧ (∀ y, y ≠ m → y ≠ p → y ∉ own l → (Hx.apply D) y = Hx y) ∧ (∀ y ∈ own l, (Hx.apply D) y = none) := fun Hx => by
    have hol := w.ow
    cases l <;> simp [D, own, Heap.apply] at hol hpl ⊢
    case slc g off len =>
      exact ⟨fun h => absurd h (by omega), fun y h1 h2 h3 => by rw [if_neg h1, if_neg h2, if_neg h3], by rw [if_neg (by omega), if_neg (by omega)]⟩
    all_goals exact ⟨fun h => absurd h (by omega), fun y h1 h2 => by rw [if_neg h1, if_neg h2]⟩
  have dD : ∀ y, y ∈ domD D ↔ y ∈ own l ∨ y = p ∨ y = m := fun y => by simp [D, domD]
  obtain ⟨a1, a2, a3, _⟩ := app H
  refine ⟨_, a :: p :: own l, [m], D, .inr (.inl rfl), LC.of_callsN (fun y hy => ?_) (fun y hy => ?_) (fun A _ _ H' n' hag => ?_), hq _ D a1 a2 (fun y h1 h2 h3 => a3 y (by omega) h2 h3) fun y hy => (dD y).1 hy⟩
  · simp only [List.mem_cons] at hy
    rcases hy with rfl | rfl | hy
    · rw [ha]; rfl
    · rw [w.row]; rfl
    · rcases w.slot with ⟨_, rfl | rfl⟩ | ⟨g, cs, rfl, h1, _⟩
      · simp [own] at hy
      · simp [own] at hy
      · simp [own] at hy; subst hy; rw [h1]; rfl
  · rcases (dD y).1 hy with h | h | h
    · exact .inl (by simp [h])
    · exact .inl (by simp [h])
    · exact .inr h
  · have b1 := hag a (by simp)
    have b2 := hag p (by simp)
    refine zapo (by rw [b2.1]; exact w.row) (w.slot.keep fun g hg => (hag g (by simp [hg])).1) hpl b2.2 (by rw [b1.1]; exact ha) hb hx fun H2 n2 gn q1 q2 q3 q4 q5 => ?_
    obtain ⟨c1, c2, c3, c4⟩ := app H'
    refine ⟨gn, q1, q2, .same _ (.tup _ fun j v hv => by simp at hv), fun y hy hd => ?_, fun y o hy hym ho => ?_, ⟨_, _, c2, q4, rfl, rfl, fun j v u hv hu => ?_⟩⟩
    · have := (not_congr (dD y)).1 hd
      simp only [not_or] at this
      exact q5 y hy this.2.1 this.1
    · rcases (dD y).1 hy with h | h | h
      · rw [c4 y h] at ho; cases ho
      · subst h
        rw [c1] at ho
        cases ho
        refine ⟨_, q3, rfl, rfl, fun j v u hv hu => ?_⟩
        match j with
        | 0 => simp at hv hu; subst hv; subst hu; exact .slc _ _
        | j + 1 => simp at hv
      · exact absurd h hym
    · rw [hv] at hu; cases hu
      refine .same _ ?_
      unfold bsV at hv
      rw [List.getElem?_map] at hv
      obtain ⟨c, _, rfl⟩ := Option.map_eq_some_iff.1 hv
      exact .int _ _
set_option maxRecDepth 20000 in
set_option maxHeartbeats 4000000 in
theorem zapx {g p gn gt n n' : Nat} {b : Agt} {X H' : Heap} {l' : AV} {bs : Str} {Q : QT} (s : ImgS g p gn gt b X n) (e : WExt p .nils X n l' bs H' n') (h1 : b.heap.length ≤ 4096) (h2 : ∀ c ∈ b.heap, (I64v c.left ∧ c.left.text.length ≤ 4096) ∧ (I64v c.right ∧ c.right.text.length ≤ 4096)) (hb : bs.length ≤ 1000000000000)
    (hq : ∀ H2 n2 l2, n ≤ n2 → (∀ y, y < n → y ≠ p → H2 y = X y) → Slot H2 1 (bs ++ b.heap.flatMap VM.clB ++ WM.num (WM.sum (bs ++ b.heap.flatMap VM.clB))).length (bsV (bs ++ b.heap.flatMap VM.clB ++ WM.num (WM.sum (bs ++ b.heap.flatMap VM.clB)))) l2 → (∀ y ∈ own l2, n ≤ y) → Q l2 H2 n2) :
    LP (zga Q) [.ptr p 0, .ptr gn 0, .clo 23 [.ptr gn 0, .ptr gt 0], .ro (b.heap.map Cl.avs), .int .i64 b.heap.length, .int .i64 0] H' n' := by
  have hcl : ∀ c ∈ b.heap, (VM.clB c).length ≤ 10000 := fun c hc => zahn (h2 c hc).1.2 (h2 c hc).2.2
  refine LP.mk (fun k xs H' n' => ∃ (i : Nat) (l' : AV), k = b.heap.length - i ∧ i ≤ b.heap.length ∧ xs = [.ptr p 0, .ptr gn 0, .clo 23 [.ptr gn 0, .ptr gt 0], .ro (b.heap.map Cl.avs), .int .i64 b.heap.length, .int .i64 i] ∧ WExt p .nils X n l' (bs ++ (b.heap.take i).flatMap VM.clB) H' n') b.heap.length ⟨0, l', rfl, by omega, rfl, by simpa using e⟩ ?_
  rintro k xs H6 n6 ⟨i, l6, rfl, hil, rfl, e6⟩
  have hft6 := zat hcl hil
  have lp := e6.wr.lt
  by_cases hlt : i < b.heap.length
  · have hadd : IntKind.i64.wrap ((i : Int) + 1) = ((i + 1 : Nat) : Int) := by rw [i64w (by omega)]; rfl
    have hm : b.heap[i]? = some b.heap[i] := List.getElem?_eq_getElem hlt
    obtain ⟨⟨d1, d2⟩, ⟨d3, d4⟩⟩ := h2 _ (List.getElem_mem hlt)
    generalize hmm : b.heap[i] = m at hm d1 d2 d3 d4
    have hsn := zau (f := VM.clB) hm
    simp [zga, hlt, hmm, Cl.avs, Val.avs]
    simp only [CALL, List.cons_append, List.nil_append]
    have ep := e6.put (.row 6 m.avs)
    have nop : n6 ∉ own l6 := fun h => by have := e6.wr.ow _ h; omega
    refine s.val ep d1 (by simp only [List.length_append]; omega) fun H7 n7 l7 e7 k7 => ?_
    have vl := zjj m.left
    obtain ⟨r7, _, _⟩ := k7 n6 (by omega) (by omega) nop
    rw [Heap.put_at] at r7
    simp [zqo, r7]
    simp only [CALL, List.cons_append, List.nil_append]
    refine s.val e7 d3 (by simp only [List.length_append]; omega) fun H8 n8 l8 e8 _ => ?_
    have eb : bs ++ (b.heap.take i).flatMap VM.clB ++ VM.valB m.left ++ VM.valB m.right = bs ++ (b.heap.take (i + 1)).flatMap VM.clB := by rw [hsn]; unfold VM.clB; simp only [List.append_assoc]
    rw [eb] at e8
    simp [zqp, hadd]
    exact ⟨b.heap.length - (i + 1), by omega, i + 1, rfl, by omega, rfl, _, e8⟩
  · obtain rfl : i = b.heap.length := by omega
    rw [List.take_length] at e6 hft6
    obtain ⟨s6, _, o2, _⟩ := s.ext e6
    generalize hB : bs ++ b.heap.flatMap VM.clB = B at e6 hq
    have hBl : B.length ≤ 1100000000000 := by rw [← hB, List.length_append]; omega
    have hsm := zwv B 2166136261 (by omega)
    have hs64 : I64 (WM.sum B : Int) := by
      have e : WM.sum B = B.foldl WM.sumStep 2166136261 := rfl
      rw [e]; exact ⟨by omega, by omega⟩
    have rp := e6.wr.row
    simp [zga, s6.fn, rp]
    refine zj.of_qcr (own l6) (fun y hy => ?_) (fun H9 n9 hag => ?_) (.int _ _) ?_ (r := .int .i64 (WM.sum B : Nat))
    · rcases e6.wr.slot with ⟨_, rfl | rfl⟩ | ⟨g, cs, rfl, q1, _⟩
      · simp [own] at hy
      · simp [own] at hy
      · simp [own] at hy; subst hy; rw [q1]; rfl
    · exact (zaow B (by omega)).reads (by simp) (LFrz.cons (Slot.frzB (e6.wr.slot.keep fun y hy => (hag y hy).1) fun _ _ => Nat.zero_le _) LFrz.nil)
    · have ep := e6.put (.row 1 [.int .i64 (WM.sum B : Nat)])
      have hle := e6.le
      simp [zoz]
      refine zj.rn ep.wr (Heap.put_at _ _ _) (by omega) hs64 fun rd D q1 q2 q3 _ => ?_
      have gnn : ¬ n6 = gn := by have := s6.lt; omega
      simp [zqn, q1, gnn]
      have hl : (B ++ WM.num (WM.sum B)).length = B.length + (WM.num (WM.sum B)).length := List.length_append
      refine hq _ _ _ (by omega) (fun y h3 h4 => ?_) (by rw [← hl]; exact Slot.full q2 (by rw [zcz]; omega)) fun y hy => ?_
      · have no : y ∉ own l6 := fun h => by
          rcases e6.new y h with h | h
          · simp [own] at h
          · omega
        rw [q3 y (by omega) h4 no, Heap.put_ne _ _ (by omega)]
        exact e6.keep y h3 h4 (by simp [own])
      · have e : y = n6 + 1 := by simpa [own] using hy
        omega
@[simp] theorem zaso {f : FuncId} {c : List AV} : (AV.clo f c).cells = [.clo f c] := rfl
@[simp] theorem zavh {f : FuncId} {c : List AV} : (AV.clo f c).one = true := rfl
set_option maxRecDepth 20000 in
set_option maxHeartbeats 4000000 in
theorem zagc {a : Agt} (hpk : QC Try.prog 19 [.agg a.avs] (.agg (VM.pack a).avs)) (sm : zabp (VM.pack a)) :
    QC Try.prog 6 [.agg a.avs] (.ro (bsR (VM.image a))) := by
  refine QC.of' fun H nx => ?_
  refine zwh _ H nx _ ?_
  have al : a.avs.length = 9 := rfl
  have at9 : a.avs.take 9 = a.avs := rfl
  have hsu : (AV.agg a.avs).sure = true := by simp [Agt.avs]
  unfold zqm
  refine ⟨hsu, ?_⟩
  simp [al, at9]
  refine QC.call hpk ?_
  have him : VM.image a = VM.agtB (VM.pack a) ++ WM.num (WM.sum (VM.agtB (VM.pack a))) := rfl
  rw [him]
  generalize VM.pack a = b at *
  clear at9 al hsu hpk
  have bav : b.avs = [.int .i64 b.id, .int .i64 b.trip, .ro (b.prog.codes.map Cod.avs), .ro (b.prog.words.map fun w => [.str w]), .ro (b.frames.map Frm.avs), .ro (b.heap.map Cl.avs), .int .i64 b.permit.fuel, .int .i64 b.permit.room, .int .i64 b.permit.hops] := rfl
  simp [zox, bav]
  simp only [CALL, List.cons_append, List.nil_append]
  rw [← bav]
  generalize hX : Heap.put _ (nx + 1 + 3) _ = X
  have x1 : X (nx + 1 + 1) = some (.row 1 [.nils]) := by rw [← hX, Heap.put_ne _ _ (by omega), Heap.put_ne _ _ (by omega), Heap.put_at]
  have x2 : X (nx + 1) = some (.row 9 b.avs) := by rw [← hX, Heap.put_ne _ _ (by omega), Heap.put_ne _ _ (by omega), Heap.put_ne _ _ (by omega), Heap.put_at]
  have x3 : X (nx + 1 + 2) = some (.row 1 [.clo 20 [.ptr (nx + 1 + 1) 0]]) := by rw [← hX, Heap.put_ne _ _ (by omega), Heap.put_at]
  have x4 : X (nx + 1 + 3) = some (.row 1 [.clo 22 [.ptr (nx + 1 + 2) 0, .ptr (nx + 1 + 1) 0]]) := by rw [← hX, Heap.put_at]
  have xk : ∀ y, y < nx → X y = H y := fun y hy => by rw [← hX, Heap.put_ne _ _ (by omega), Heap.put_ne _ _ (by omega), Heap.put_ne _ _ (by omega), Heap.put_ne _ _ (by omega), Heap.put_ne _ _ (by omega)]
  clear hX
  have s : ImgS (nx + 1) (nx + 1 + 1) (nx + 1 + 2) (nx + 1 + 3) b X (nx + 1 + 4) := ⟨x2, x3, x4, by omega, by omega⟩
  have w : WrM (nx + 1 + 1) .nils [] X (nx + 1 + 4) := ⟨x1, .inl ⟨rfl, .inl rfl⟩, by simp [own], by omega⟩
  obtain ⟨sp, s1, s2, ⟨s3, s4, s5⟩, ⟨f1, f2⟩, ⟨h1, h2⟩⟩ := id sm
  have hw1 := sp.words.1
  have hc1 := sp.codes.1
  have b2 : b.avs[2]? = some (.ro (b.prog.codes.map Cod.avs)) := rfl
  have b3 : b.avs[3]? = some (.ro (b.prog.words.map fun w => [.str w])) := rfl
  have b4 : b.avs[4]? = some (.ro (b.frames.map Frm.avs)) := rfl
  have b5 : b.avs[5]? = some (.ro (b.heap.map Cl.avs)) := rfl
  have pl := zael sp
  refine w.ext.rn [b.id, b.trip, b.permit.fuel, b.permit.room, b.permit.hops, (b.prog.words.length : Int)] (by simp) (by simp; exact ⟨s1, s2, s3, s4, s5, by omega, by omega⟩) fun H1 n1 l1 e1 _ => ?_
  rw [List.nil_append] at e1
  have nl1 := zbk [b.id, b.trip, b.permit.fuel, b.permit.room, b.permit.hops, (b.prog.words.length : Int)]
  simp only [List.length_cons, List.length_nil] at nl1
  obtain ⟨t1, _⟩ := s.ext e1
  simp [zoy, t1.row, b3]
  refine zapu s e1 sp (by omega) fun H2 n2 l2 e2 => ?_
  obtain ⟨t2, _⟩ := s.ext e2
  have lw : (b.prog.words.flatMap VM.textB).length ≤ 4106 * b.prog.words.length := zex fun w hw => by have := zmp w; have := sp.words.2 w hw; omega
  have lc : (b.prog.codes.flatMap VM.codB).length ≤ 200000 * b.prog.codes.length := zex fun c hc => zvk (sp.codes.2 c hc).1
  have lf : (b.frames.flatMap VM.frmB).length ≤ 50000000 * b.frames.length := zex fun f hf => zzx (f2 f hf).2.2.1 (f2 f hf).2.2.2
  have n2' := zap b.prog.codes.length
  have n3' := zap b.frames.length
  have n4' := zap b.heap.length
  simp [zjf, t2.row, b2]
  refine zapv s e2 sp f1 (by simp only [List.length_append]; omega) fun H3 n3 l3 e3 => ?_
  obtain ⟨t3, _⟩ := s.ext e3
  simp [zjg, t3.row, b4]
  refine zapw s e3 sm (by simp only [List.length_append]; omega) fun H4 n4 l4 e4 => ?_
  obtain ⟨t4, _⟩ := s.ext e4
  simp [zjh, t4.row, b5]
  refine zapx s e4 h1 h2 (by simp only [List.length_append]; omega) fun H5 n5 l5 hle hk hs ho => ?_
  have ea : zt [b.id, b.trip, b.permit.fuel, b.permit.room, b.permit.hops, (b.prog.words.length : Int)] ++ b.prog.words.flatMap VM.textB ++ WM.num b.prog.codes.length ++ b.prog.codes.flatMap VM.codB ++ WM.num b.frames.length ++ b.frames.flatMap VM.frmB ++ WM.num b.heap.length ++ b.heap.flatMap VM.clB = VM.agtB b := by simp [VM.agtB, VM.prgB, zt]
  rw [ea] at hs
  refine ⟨Slot.frzB hs fun y hy => (by have := ho y hy; omega), fun y hy => ?_⟩
  rw [hk y (by omega) (by omega)]
  exact xk y hy
end Go.Proofs.Ytpbnaaoilgohkaa
set_option maxRecDepth 8000
namespace Go.Proofs.Ytpbnaaoilgohkaa
open Go Go.RowKit
def zas (o : List Nat) (N : Nat) : List AV := (List.range N).map fun n => .int .i64 (if n ∈ o then (o.idxOf n : Int) else -1)
@[simp] theorem zapp (o : List Nat) (N : Nat) : (zas o N).length = N := by simp [zas]
theorem zfn {o : List Nat} {N n : Nat} (h : n < N) : (zas o N)[n]? = some (.int .i64 (if n ∈ o then (o.idxOf n : Int) else -1)) := by simp [zas, h]
theorem zaem {o : List Nat} {N m : Nat} (hm : m < N) (hn : m ∉ o) : (zas o N).take m ++ AV.int .i64 o.length :: (zas o N).drop (m + 1) = zas (o ++ [m]) N := by
  have e : (zas o N).take m ++ AV.int .i64 o.length :: (zas o N).drop (m + 1) = (zas o N).set m (.int .i64 o.length) := by
    rw [List.set_eq_take_append_cons_drop, if_pos (by simpa using hm)]
  rw [e]
  apply List.ext_getElem?
  intro n
  by_cases hN : n < N
  · rw [zfn hN]
    by_cases hnm : n = m
    · subst hnm
      rw [List.getElem?_set_self (by simpa using hm)]
      simp [hn, List.idxOf_append]
    · rw [List.getElem?_set_ne (fun h => hnm h.symm), zfn hN]
      by_cases ho : n ∈ o
      · simp [ho, List.idxOf_append]
      · simp [ho, hnm]
  · rw [List.getElem?_eq_none (by simp; omega), List.getElem?_eq_none (by simp; omega)]
structure zads (H : Heap) (gp go gpl gr N : Nat) (o : List Nat) : Prop where
  p : H gp = some (.row 1 [.slc gpl 0 N])
  pl : H gpl = some (.row 1 (zas o N))
  oo : H go = some (.row 1 [if o = [] then .nils else .slc gr 0 o.length])
  rr : o ≠ [] → H gr = some (.row 1 (zao o))
  d1 : gp ≠ go
  d2 : gp ≠ gpl
  d3 : go ≠ gpl
  d4 : o ≠ [] → gr ≠ gp ∧ gr ≠ go ∧ gr ≠ gpl
theorem zajx (v : Val) (o : List Nat) (N : Nat) (hv : VM.WrongOk v N) (hin : VM.In o v) {H : Heap} {nx gp gpl : Nat} (h1 : H gp = some (.row 1 [.slc gpl 0 N])) (h2 : H gpl = some (.row 1 (zas o N))) (l1 : gp < nx) (l2 : gpl < nx) :
    za Try.prog 60 [.agg v.avs, .ptr gp 0] H nx fun r H' _ => r = .agg (VM.put o v).avs ∧ Keep nx H' H := by
  refine zur _ _ H nx _ ?_
  have n0 : gp ≠ nx ∧ gpl ≠ nx ∧ nx ≠ nx + 1 ∧ gp ≠ nx + 1 ∧ gpl ≠ nx + 1 := by omega
  by_cases hk : v.kind = 2
  · obtain ⟨c1, c2⟩ := hv.cell hk
    have hm := hin hk
    have hlt : v.n.toNat < N := by omega
    have e1 : (VM.put o v).kind = 2 := by unfold VM.put; rw [if_pos hk]; exact hk
    have e2 : (VM.put o v).n = (o.idxOf v.n.toNat : Nat) := by unfold VM.put; rw [if_pos hk]
    have e3 : (VM.put o v).text = v.text := by unfold VM.put; rw [if_pos hk]
    simp [zhz, Val.avs, hk, n0, h1, h2, e1, e2, e3, zfn hlt, hm]
    omega
  · have e : VM.put o v = v := by unfold VM.put; rw [if_neg hk]
    simp [zhz, Val.avs, hk, n0, e]
theorem zape (v : Val) (o : List Nat) (N : Nat) (hv : VM.WrongOk v N) (ho : (o.length + 1) * 8 ≤ 140737488355328) {H : Heap} {nx gp go gpl gr : Nat} (st : zads H gp go gpl gr N o) (l1 : gp < nx) (l2 : go < nx) (l3 : gpl < nx) (lr : o ≠ [] → gr < nx) :
    za Try.prog 59 [.agg v.avs, .ptr gp 0, .ptr go 0] H nx fun r H' nx' => r = .tup [] ∧ nx ≤ nx' ∧ ∃ gr', zads H' gp go gpl gr' N (VM.meet o v) ∧ (VM.meet o v ≠ [] → gr' < nx' ∧ ((o ≠ [] ∧ gr' = gr) ∨ nx ≤ gr')) ∧
      ∀ g, g < nx → g ≠ gpl → g ≠ go → (o ≠ [] → g ≠ gr) → H' g = H g := by
  refine zus _ _ _ H nx _ ?_
  obtain ⟨s1, s2, s3, s4, d1, d2, d3, d4⟩ := st
  have n0 : gp ≠ nx ∧ gpl ≠ nx ∧ go ≠ nx ∧ gp ≠ nx + 1 ∧ gpl ≠ nx + 1 ∧ go ≠ nx + 1 ∧ nx ≠ nx + 1 := by omega
  have same : VM.meet o v = o → ∃ gr', zads (H.put nx (some (.row 3 v.avs))) gp go gpl gr' N (VM.meet o v) ∧ (VM.meet o v ≠ [] → gr' < nx + 1 ∧ ((o ≠ [] ∧ gr' = gr) ∨ nx ≤ gr')) ∧ ∀ g, g < nx → g ≠ gpl → g ≠ go → (o ≠ [] → g ≠ gr) → (H.put nx (some (.row 3 v.avs))) g = H g := by
    intro e
    rw [e]
    refine ⟨gr, ⟨by rw [Heap.put_ne _ _ (by omega)]; exact s1, by rw [Heap.put_ne _ _ (by omega)]; exact s2, by rw [Heap.put_ne _ _ (by omega)]; exact s3, fun h => by rw [Heap.put_ne _ _ (by have := lr h; omega)]; exact s4 h, d1, d2, d3, d4⟩, fun h => ⟨by have := lr h; omega, .inl ⟨h, rfl⟩⟩, fun g hg _ _ _ => Heap.put_ne _ _ (by omega)⟩
  by_cases hk : v.kind = 2
  · obtain ⟨c1, c2⟩ := hv.cell hk
    obtain ⟨k, n, s⟩ := v
    simp only at hk c1 c2
    subst hk
    obtain ⟨m, rfl⟩ : ∃ m : Nat, n = m := ⟨n.toNat, by omega⟩
    have hlt : m < N := by omega
    by_cases hm : m ∈ o
    · have e : VM.meet o ⟨2, m, s⟩ = o := zpm (by simp [hm])
      have nn : ¬ ((o.idxOf m : Nat) : Int) < 0 := by omega
      simp [zdc, Val.avs, n0, s1, s2, zfn hlt, hm, nn]
      have := same e
      simp [Val.avs] at this
      exact ⟨hlt, this⟩
    · have e : VM.meet o ⟨2, m, s⟩ = o ++ [m] := zlv (by simp [hm])
      have ps := zaem hlt hm
      rw [e]
      by_cases h0 : o = []
      · subst h0
        simp at s3
        have ne_0 : gp ≠ go ∧ go ≠ gp ∧ gp ≠ gpl ∧ gpl ≠ gp ∧ gp ≠ nx ∧ nx ≠ gp ∧ go ≠ gpl ∧ gpl ≠ go ∧ go ≠ nx ∧ nx ≠ go ∧ gpl ≠ nx ∧ nx ≠ gpl ∧ gp ≠ nx + 1 ∧ nx + 1 ≠ gp ∧ gp ≠ nx + 2 ∧ nx + 2 ≠ gp ∧ gp ≠ nx + 3 ∧ nx + 3 ≠ gp ∧ go ≠ nx + 1 ∧ nx + 1 ≠ go ∧ go ≠ nx + 2 ∧ nx + 2 ≠ go ∧ go ≠ nx + 3 ∧ nx + 3 ≠ go ∧ gpl ≠ nx + 1 ∧ nx + 1 ≠ gpl ∧ gpl ≠ nx + 2 ∧ nx + 2 ≠ gpl ∧ gpl ≠ nx + 3 ∧ nx + 3 ≠ gpl ∧ nx ≠ nx + 1 ∧ nx + 1 ≠ nx ∧ nx ≠ nx + 2 ∧ nx + 2 ≠ nx ∧ nx ≠ nx + 3 ∧ nx + 3 ≠ nx := ⟨by omega, by omega, by omega, by omega, by omega, by omega, by omega, by omega, by omega, by omega, by omega, by omega, by omega, by omega, by omega, by omega, by omega, by omega, by omega, by omega, by omega, by omega, by omega, by omega, by omega, by omega, by omega, by omega, by omega, by omega, by omega, by omega, by omega, by omega, by omega, by omega⟩
        simp [zdc, Val.avs, n0, s1, s2, s3, zfn hlt, hm, ne_0]
        refine ⟨hlt, by omega, by omega, nx + 2, ⟨?_, ?_, ?_, fun _ => ?_, d1, d2, d3, fun _ => by omega⟩, by omega, fun g hg a b => ?_⟩
        · simp [ne_0, s1]
        · simp [ne_0]; simpa using ps
        · simp [ne_0]
        · simp [ne_0, zao]
        · repeat rw [if_neg (by omega)]
      · have r4 := d4 h0
        have lr' := lr h0
        rw [if_neg h0] at s3
        have s4' := s4 h0
        have ne_1 : gr ≠ gp ∧ gp ≠ gr ∧ gr ≠ go ∧ go ≠ gr ∧ gr ≠ gpl ∧ gpl ≠ gr ∧ gr ≠ nx ∧ nx ≠ gr ∧ gp ≠ go ∧ go ≠ gp ∧ gp ≠ gpl ∧ gpl ≠ gp ∧ gp ≠ nx ∧ nx ≠ gp ∧ go ≠ gpl ∧ gpl ≠ go ∧ go ≠ nx ∧ nx ≠ go ∧ gpl ≠ nx ∧ nx ≠ gpl ∧ gr ≠ nx + 1 ∧ nx + 1 ≠ gr ∧ gr ≠ nx + 2 ∧ nx + 2 ≠ gr ∧ gr ≠ nx + 3 ∧ nx + 3 ≠ gr ∧ gp ≠ nx + 1 ∧ nx + 1 ≠ gp ∧ gp ≠ nx + 2 ∧ nx + 2 ≠ gp ∧ gp ≠ nx + 3 ∧ nx + 3 ≠ gp ∧ go ≠ nx + 1 ∧ nx + 1 ≠ go ∧ go ≠ nx + 2 ∧ nx + 2 ≠ go ∧ go ≠ nx + 3 ∧ nx + 3 ≠ go ∧ gpl ≠ nx + 1 ∧ nx + 1 ≠ gpl ∧ gpl ≠ nx + 2 ∧ nx + 2 ≠ gpl ∧ gpl ≠ nx + 3 ∧ nx + 3 ≠ gpl ∧ nx ≠ nx + 1 ∧ nx + 1 ≠ nx ∧ nx ≠ nx + 2 ∧ nx + 2 ≠ nx ∧ nx ≠ nx + 3 ∧ nx + 3 ≠ nx := ⟨by omega, by omega, by omega, by omega, by omega, by omega, by omega, by omega, by omega, by omega, by omega, by omega, by omega, by omega, by omega, by omega, by omega, by omega, by omega, by omega, by omega, by omega, by omega, by omega, by omega, by omega, by omega, by omega, by omega, by omega, by omega, by omega, by omega, by omega, by omega, by omega, by omega, by omega, by omega, by omega, by omega, by omega, by omega, by omega, by omega, by omega, by omega, by omega, by omega, by omega⟩
        simp [zdc, Val.avs, n0, s1, s2, s3, s4', zfn hlt, hm, ne_1]
        have htk : List.take o.length (zao o) = zao o := List.take_of_length_le (by simp)
        simp only [htk]
        refine ⟨hlt, by omega, ho, by omega, nx + 2, ⟨?_, ?_, ?_, fun _ => ?_, d1, d2, d3, fun _ => by omega⟩, by omega, fun g hg a b c => ?_⟩
        · simp [ne_1, s1]
        · simp [ne_1]; simpa using ps
        · simp [ne_1]
        · simp [ne_1, zao]
        · have := c h0
          repeat rw [if_neg (by omega)]
  · have e : VM.meet o v = o := zpm (by simp [hk])
    simp [zdc, Val.avs, hk, n0]
    have := same e
    simp [Val.avs] at this
    exact this
end Go.Proofs.Ytpbnaaoilgohkaa
set_option maxRecDepth 8000
namespace Go.Proofs.Ytpbnaaoilgohkaa
open Go Go.RowKit
structure RCan (h : List Cl) (H0 : Heap) (nx : Nat) (o : List Nat) (H : Heap) (n gr : Nat) : Prop where
  st : zads H (nx + 1) (nx + 2) nx gr h.length o
  lr : o ≠ [] → nx + 3 ≤ gr ∧ gr < n
  keep : Keep nx H H0
  good : VM.Good h.length o
  le : nx + 3 ≤ n
theorem RCan.more {h : List Cl} {H0 H H' : Heap} {nx n n' gr : Nat} {o : List Nat} (c : RCan h H0 nx o H n gr) (hn : n ≤ n') (hk : ∀ g, g < n → H' g = H g) : RCan h H0 nx o H' n' gr := by
  have l := c.le
  refine ⟨⟨by rw [hk _ (by omega)]; exact c.st.p, by rw [hk _ (by omega)]; exact c.st.pl, by rw [hk _ (by omega)]; exact c.st.oo, fun ho => by rw [hk _ (c.lr ho).2]; exact c.st.rr ho, c.st.d1, c.st.d2, c.st.d3, c.st.d4⟩, fun ho => by have := c.lr ho; omega, fun g hg => by rw [hk _ (by omega)]; exact c.keep g hg, c.good, by omega⟩
theorem RCan.meet {h : List Cl} {H0 H : Heap} {nx n gr : Nat} {o : List Nat} (c : RCan h H0 nx o H n gr) (hs : h.length * 64 ≤ 140737488355328) {v : Val} (hv : VM.WrongOk v h.length) {Q : AV → Heap → Nat → Prop} (hq : ∀ H' n' gr', n ≤ n' → RCan h H0 nx (VM.meet o v) H' n' gr' → Q (.tup []) H' n') :
    za Try.prog 59 [.agg v.avs, .ptr (nx + 1) 0, .ptr (nx + 2) 0] H n Q := by
  have l := c.le
  have g := c.good.len
  refine (zape v o h.length hv (by omega) c.st (by omega) (by omega) (by omega) (fun ho => (c.lr ho).2)).mono ?_
  rintro r H' n' ⟨rfl, hn, gr', st, q1, q2⟩
  refine hq H' n' gr' hn ⟨st, fun ho => ?_, fun x hx => ?_, c.good.meet hv.okV, by omega⟩
  · obtain ⟨a, b⟩ := q1 ho
    rcases b with ⟨b1, rfl⟩ | b
    · have := c.lr b1; omega
    · omega
  · rw [q2 x (by omega) (by omega) (by omega) (fun ho => by have := c.lr ho; omega)]; exact c.keep x hx
def avI (l : List Int) : List AV := l.map (AV.int .i64)
theorem zajz (N : Nat) : avI (List.replicate N (-1)) = zas [] N := by
  unfold avI zas
  rw [List.map_replicate]
  apply List.ext_getElem?
  intro i
  by_cases h : i < N
  · simp [h]
  · rw [List.getElem?_eq_none (by simp; omega), List.getElem?_eq_none (by simp; omega)]
theorem zanc (n i : Nat) (h : i < n) : List.take i (avI (List.replicate i (-1) ++ List.replicate (n - i) 0)) ++ AV.int .i64 (-1) :: List.drop (i + 1) (avI (List.replicate i (-1) ++ List.replicate (n - i) 0)) = avI (List.replicate (i + 1) (-1) ++ List.replicate (n - (i + 1)) 0) := by
  have e : n - i = (n - (i + 1)) + 1 := by omega
  rw [e, List.replicate_succ, List.replicate_succ']
  simp [avI, List.take_append, List.drop_append]
theorem zabw {h : List Cl} {l : List Val} (hr : VM.right h l = true) (hs : h.length * 64 ≤ 140737488355328) (hl : l.length * 32 ≤ 140737488355328) {H : Heap} {nx : Nat} {Q : AV → Heap → Nat → Prop}
    (hq : ∀ H' , RCan h H nx [] H' (nx + 3) 0 → LP (zdy Q) [.ro (h.map Cl.avs), .ro (l.map Val.avs), .ptr (nx + 1) 0, .ptr (nx + 2) 0, .clo 59 [.ptr (nx + 1) 0, .ptr (nx + 2) 0], .int .i64 0, .ro (l.map Val.avs), .int .i64 l.length, .int .i64 0] H' (nx + 3)) :
    zkg (.ro (h.map Cl.avs)) (.ro (l.map Val.avs)) H nx Q := by
  simp [zkg]
  refine ⟨by omega, by omega, ?_⟩
  refine LP.mk (fun m xs H' n' => ∃ i, m = h.length - i ∧ i ≤ h.length ∧ n' = nx + 2 ∧ xs = [.ro (h.map Cl.avs), .ro (l.map Val.avs), .ptr (nx + 1) 0, .int .i64 h.length, .int .i64 i] ∧ H' (nx + 1) = some (.row 1 [.slc nx 0 h.length]) ∧ H' nx = some (.row 1 (avI (List.replicate i (-1) ++ List.replicate (h.length - i) 0))) ∧ Keep nx H' H) h.length
    ⟨0, by omega, by omega, rfl, rfl, ?_, ?_, ?_⟩ ?_
  · rw [Heap.put_at]
  · rw [Heap.put_ne _ _ (by omega), Heap.put_at]
    simp [avI]
  · intro g hg; rw [Heap.put_ne _ _ (by omega), Heap.put_ne _ _ (by omega)]
  rintro m xs H' n' ⟨i, rfl, hi, rfl, rfl, h1, h2, hk⟩
  by_cases hil : i < h.length
  · simp [zkh, hil, h1, h2]
    refine ⟨by simp [avI]; omega, h.length - (i + 1), by omega, i + 1, rfl, by omega, i64w (by omega), zanc _ _ hil, hk⟩
  · obtain rfl : i = h.length := by omega
    simp [zkh]
    refine hq _ ⟨⟨?_, ?_, ?_, fun ho => absurd rfl ho, by omega, by omega, by omega, fun ho => absurd rfl ho⟩, fun ho => absurd rfl ho, ?_, VM.Good.nil, Nat.le_refl _⟩
    · rw [Heap.put_ne _ _ (by omega)]; exact h1
    · rw [Heap.put_ne _ _ (by omega), h2, ← zajz]; simp
    · rw [Heap.put_at]; rfl
    · intro g hg; rw [Heap.put_ne _ _ (by omega)]; exact hk g hg
end Go.Proofs.Ytpbnaaoilgohkaa
set_option maxRecDepth 8000
namespace Go.Proofs.Ytpbnaaoilgohkaa
open Go Go.RowKit
theorem zagn {o o' : List Nat} (h : o <+: o') {d n : Nat} (hd : o[d]? = some n) : o'[d]? = some n := by
  obtain ⟨t, rfl⟩ := h
  rw [List.getElem?_append_left (List.getElem?_eq_some_iff.1 hd).1]; exact hd
set_option maxHeartbeats 2000000 in
set_option maxRecDepth 20000 in
theorem zabx (h : List Cl) (l : List Val) (hr : VM.right h l = true) (hs : h.length * 64 ≤ 140737488355328) (hl : l.length * 32 ≤ 140737488355328) {H0 : Heap} {nx i : Nat} (hi : i < l.length) (K16 : J3)
    (hK : ∀ H n gr o, RCan h H0 nx o H n gr → VM.orderGo h (l.drop (i + 1)) o = VM.order h l →
      K16 [.ro (h.map Cl.avs), .ro (l.map Val.avs), .ptr (nx + 1) 0, .ptr (nx + 2) 0, .clo 59 [.ptr (nx + 1) 0, .ptr (nx + 2) 0], .int .i64 o.length, .ro (l.map Val.avs), .int .i64 l.length, .int .i64 (i + 1 : Nat)] H n)
    (H : Heap) (n gr : Nat) (o : List Nat) (d : Nat) (hdo : d ≤ o.length) (st : RCan h H0 nx o H n gr) (hF : VM.orderGo h (l.drop (i + 1)) (VM.drain h (h.length - d) o d) = VM.order h l) :
    LP (zeb K16) [.ro (h.map Cl.avs), .ro (l.map Val.avs), .ptr (nx + 1) 0, .ptr (nx + 2) 0, .clo 59 [.ptr (nx + 1) 0, .ptr (nx + 2) 0], .int .i64 d, .ro (l.map Val.avs), .int .i64 l.length, .int .i64 i] H n := by
  refine LP.mk (fun m xs H n => ∃ d gr o, m = h.length - d ∧ d ≤ o.length ∧ xs = [.ro (h.map Cl.avs), .ro (l.map Val.avs), .ptr (nx + 1) 0, .ptr (nx + 2) 0, .clo 59 [.ptr (nx + 1) 0, .ptr (nx + 2) 0], .int .i64 d, .ro (l.map Val.avs), .int .i64 l.length, .int .i64 i] ∧ RCan h H0 nx o H n gr ∧
    VM.orderGo h (l.drop (i + 1)) (VM.drain h (h.length - d) o d) = VM.order h l) (h.length - d) ⟨d, gr, o, rfl, hdo, rfl, st, hF⟩ ?_
  clear st hF hdo
  rintro m xs H n ⟨d, gr, o, rfl, hdo, rfl, st, hF⟩
  by_cases hd : d < o.length
  case neg =>
    obtain rfl : d = o.length := by omega
    simp [zeb, st.st.oo, zyf]
    rw [i64w (by omega)]
    rw [VM.drain_end (Nat.le_refl _)] at hF
    exact hK H n gr o st hF
  obtain ⟨c0, hc0⟩ : ∃ n0, o[d]? = some n0 := ⟨_, List.getElem?_eq_getElem hd⟩
  have hc0l : c0 < h.length := st.good.lt c0 (List.mem_of_getElem? hc0)
  have hc : h[c0]? = some h[c0] := List.getElem?_eq_getElem hc0l
  have ho : o ≠ [] := by intro e; subst e; simp at hd
  obtain ⟨w1, w2⟩ := VM.right_okC hr _ (List.mem_of_getElem? hc)
  have hol := st.good.len
  have oo := st.st.oo
  rw [if_neg ho] at oo
  have hrow : (zao o)[d]? = some (.int .i64 c0) := zrw hc0
  obtain ⟨hdr, hrow'⟩ := List.getElem?_eq_some_iff.1 hrow
  suffices key : ∀ K28 : J3, (∀ H n gr o, RCan h H0 nx o H n gr → d + 1 ≤ o.length → VM.orderGo h (l.drop (i + 1)) (VM.drain h (h.length - (d + 1)) o (d + 1)) = VM.order h l →
      K28 [.ro (h.map Cl.avs), .ro (l.map Val.avs), .ptr (nx + 1) 0, .ptr (nx + 2) 0, .clo 59 [.ptr (nx + 1) 0, .ptr (nx + 2) 0], .int .i64 (d + 1 : Nat), .ro (l.map Val.avs), .int .i64 l.length, .int .i64 i] H n) →
      zeb K16 K28 [.ro (h.map Cl.avs), .ro (l.map Val.avs), .ptr (nx + 1) 0, .ptr (nx + 2) 0, .clo 59 [.ptr (nx + 1) 0, .ptr (nx + 2) 0], .int .i64 d, .ro (l.map Val.avs), .int .i64 l.length, .int .i64 i] H n from
    key _ fun H n gr o st' hdo' hF' => ⟨_, by omega, d + 1, gr, o, rfl, hdo', rfl, st', hF'⟩
  intro K28 hK28
  rw [show h.length - d = (h.length - (d + 1)) + 1 by omega, VM.drain_step hc0 hc] at hF
  have t1 : h[c0].avs.take 3 = h[c0].left.avs := rfl
  have t2 : (h[c0].avs.drop 3).take 3 = h[c0].right.avs := rfl
  simp [zeb, oo, hd, st.st.rr ho, hrow', zyf, hc0l, t1, CALL]
  refine st.meet hs w1 fun H2 n2 gr2 hn2 st2 => ?_
  have p1 := VM.meet_pre o h[c0].left
  have hc1 := zagn p1 hc0
  have ho1 : VM.meet o h[c0].left ≠ [] := by intro e; rw [e] at hc1; simp at hc1
  have oo2 := st2.st.oo
  rw [if_neg ho1] at oo2
  obtain ⟨hdr2, hrow2⟩ := List.getElem?_eq_some_iff.1 (zrw hc1)
  have hd1 := (List.getElem?_eq_some_iff.1 hc1).1
  simp [zrf, oo2, st2.st.rr ho1, hrow2, hd1, hc0l, t2, CALL]
  refine st2.meet hs w2 fun H3 n3 gr3 hn3 st3 => ?_
  simp [zrg]
  rw [i64w (by omega)]
  have p2 := VM.meet_pre (VM.meet o h[c0].left) h[c0].right
  exact hK28 H3 n3 gr3 _ st3 (by have := p2.length_le; omega) hF
end Go.Proofs.Ytpbnaaoilgohkaa
set_option maxRecDepth 8000
namespace Go.Proofs.Ytpbnaaoilgohkaa
open Go Go.RowKit
theorem zze (v : Val) (o : List Nat) (N : Nat) (hv : VM.WrongOk v N) (hin : VM.In o v) {H : Heap} {nx gp gpl : Nat} (h1 : H gp = some (.row 1 [.slc gpl 0 N])) (h2 : H gpl = some (.row 1 (zas o N))) (l1 : gp < nx) (l2 : gpl < nx) :
    za Try.prog 60 [.agg v.avs, .ptr gp 0] H nx fun r H' _ => Frz H' nx r (.agg (VM.put o v).avs) ∧ Keep nx H' H :=
  (zajx v o N hv hin h1 h2 l1 l2).mono fun r H' _ hh => ⟨by rw [hh.1]; exact .same _ (zmq _), hh.2⟩
theorem zj.put {v : Val} {o : List Nat} {N : Nat} (hv : VM.WrongOk v N) (hin : VM.In o v) {H : Heap} {gp gpl n : Nat} (h1 : H gp = some (.row 1 [.slc gpl 0 N])) (h2 : H gpl = some (.row 1 (zas o N))) {k : Kt} (hk : k (.agg (VM.put o v).avs) [gp, gpl] [] []) :
    zj Try.prog (.clo 60 [.ptr gp 0]) [.agg v.avs] H n k := by
  refine zj.of_qcr [gp, gpl] (by simp [h1, h2]) (fun H' n' ha => ?_) (zmq _) hk
  obtain ⟨a1, a2⟩ := ha gp (by simp)
  obtain ⟨a3, a4⟩ := ha gpl (by simp)
  exact za.pure (zze v o N hv hin (by rw [a1]; exact h1) (by rw [a3]; exact h2) a2 a4)
set_option maxHeartbeats 2000000 in
set_option maxRecDepth 20000 in
theorem zaej (h : List Cl) (F : List Nat) (hF : VM.Good h.length F) (hok : zace h) (hsh : VM.Shut h F F.length) (hs : h.length * 64 ≤ 140737488355328) {H0 : Heap} {nx : Nat} (a2 a4 : AV) (Q : AV → Heap → Nat → Prop) {H1 : Heap} {n1 gr : Nat} (st : RCan h H0 nx F H1 n1 gr)
    (h4 : a4 = if F = [] then AV.nils else .slc gr 0 F.length)
    (hQ : ∀ a3 H' n', n1 ≤ n' → Keep n1 H' H1 → Grow H' n1 n' 6 F.length (rowC (F.map (zbt F h))) a3 → Q (.tup [a2, a3]) H' n') :
    LP (zea Q) [.ro (h.map Cl.avs), .clo 60 [.ptr (nx + 1) 0], a2, .nils, a4, .int .i64 F.length, .int .i64 0] H1 n1 := by
  have hFl := hF.len
  refine LP.mk (fun m xs H' n' => ∃ i a3, m = F.length - i ∧ i ≤ F.length ∧ n1 ≤ n' ∧ Keep n1 H' H1 ∧ Grow H' n1 n' 6 i (rowC ((F.take i).map (zbt F h))) a3 ∧ xs = [.ro (h.map Cl.avs), .clo 60 [.ptr (nx + 1) 0], a2, a3, a4, .int .i64 F.length, .int .i64 i]) F.length
    ⟨0, .nils, by omega, by omega, Nat.le_refl _, by simp, .inl ⟨rfl, rfl⟩, rfl⟩ ?_
  rintro m xs H n ⟨i, a3, rfl, hi, hn, hk, hg, rfl⟩
  by_cases hil : i < F.length
  case neg =>
    obtain rfl : i = F.length := by omega
    simp [zea]
    rw [List.take_length] at hg
    exact hQ a3 H n hn hk hg
  suffices key : ∀ K75 : J3, (∀ a3 H n, n1 ≤ n → Keep n1 H H1 → Grow H n1 n 6 (i + 1) (rowC ((F.take (i + 1)).map (zbt F h))) a3 → K75 [.ro (h.map Cl.avs), .clo 60 [.ptr (nx + 1) 0], a2, a3, a4, .int .i64 F.length, .int .i64 (i + 1 : Nat)] H n) →
      zea Q K75 [.ro (h.map Cl.avs), .clo 60 [.ptr (nx + 1) 0], a2, a3, a4, .int .i64 F.length, .int .i64 i] H n from
    key _ fun a3 H n h1 h2 h3 => ⟨_, by omega, i + 1, a3, rfl, by omega, h1, h2, h3, rfl⟩
  intro K75 hK75
  have hc0 : F[i]? = some F[i] := List.getElem?_eq_getElem hil
  have hc0l := hF.lt F[i] (List.mem_of_getElem? hc0)
  have hc : h[F[i]]? = some h[F[i]] := List.getElem?_eq_getElem hc0l
  obtain ⟨i1, i2⟩ := hsh i F[i] _ hil hc0 hc
  obtain ⟨w1, w2⟩ := hok _ (List.mem_of_getElem? hc)
  have hne : F ≠ [] := by intro e; subst e; simp at hil
  rw [if_neg hne] at h4
  subst h4
  have l := st.le
  obtain ⟨r1, r2⟩ := st.lr hne
  have kk : ∀ g, g < n1 → H g = H1 g := hk
  have hr : H gr = some (.row 1 (zao F)) := by rw [kk _ r2]; exact st.st.rr hne
  have hp : H (nx + 1) = some (.row 1 [.slc nx 0 h.length]) := by rw [kk _ (by omega)]; exact st.st.p
  have hpl : H nx = some (.row 1 (zas F h.length)) := by rw [kk _ (by omega)]; exact st.st.pl
  obtain ⟨hdr, hrow'⟩ := List.getElem?_eq_some_iff.1 (zrw hc0)
  have t1 : h[F[i]].avs.take 3 = h[F[i]].left.avs := rfl
  have t2 : (h[F[i]].avs.drop 3).take 3 = h[F[i]].right.avs := rfl
  have hcell : zbt F h F[i] = ⟨VM.put F h[F[i]].left, VM.put F h[F[i]].right⟩ := by unfold zbt VM.putC; rw [hc]; rfl
  simp [zea, hil, hr, hrow', hc0l, t1]
  refine zj.put w1 i1 hp hpl ?_
  simp [zrb, hc0l, t2]
  refine zj.put w2 i2 hp hpl ?_
  have hsn : rowC ((F.take (i + 1)).map (zbt F h)) = rowC ((F.take i).map (zbt F h)) ++ ((VM.put F h[F[i]].left).avs ++ (VM.put F h[F[i]].right).avs) := by
    rw [zvr _ hc0, zajv, hcell]; rfl
  generalize VM.put F h[F[i]].left = pl at *
  generalize VM.put F h[F[i]].right = pr at *
  simp [zrc, Val.avs]
  refine Grow.append (new := pl.avs ++ pr.avs) (hg.more (n' := n) (Nat.le_refl _) fun g _ h2 => Heap.put_ne _ _ (by omega)) (by simp; omega) (by rw [Heap.put_at]; rfl) rfl (by simp [Val.avs]) (by omega) (by omega) (by omega) fun rd D hD hk2 hg2 => ?_
  rw [← hsn] at hg2
  rw [i64w (by omega)]
  have := hK75 _ _ _ (by omega) (fun g hg => (hk2 g hg).trans ((Heap.put_ne _ _ (by omega)).trans (hk g hg))) hg2
  simpa [Val.avs] using this
end Go.Proofs.Ytpbnaaoilgohkaa
set_option maxRecDepth 8000
namespace Go.Proofs.Ytpbnaaoilgohkaa
open Go Go.RowKit
set_option maxHeartbeats 2000000 in
set_option maxRecDepth 20000 in
theorem zagd (h : List Cl) (l : List Val) (F : List Nat) (hl : l.length * 32 ≤ 140737488355328) (hs : h.length * 64 ≤ 140737488355328) (hF : VM.Good h.length F) (hok : zace h) (hsh : VM.Shut h F F.length) (hv : ∀ v ∈ l, VM.WrongOk v h.length) (hin : ∀ v ∈ l, VM.In F v) {H0 : Heap} {nx : Nat} (Q : AV → Heap → Nat → Prop) {H1 : Heap} {n1 gr : Nat} (st : RCan h H0 nx F H1 n1 gr)
    (hQ : ∀ a2 a3 H' n' n2, Keep n1 H' H1 → n1 ≤ n2 → n2 ≤ n' → Grow H' n1 n2 3 l.length (rowV (l.map (VM.put F))) a2 → Grow H' n2 n' 6 F.length (rowC (F.map (zbt F h))) a3 → Q (.tup [a2, a3]) H' n') :
    LP (zdz Q) [.ro (h.map Cl.avs), .ptr (nx + 2) 0, .clo 60 [.ptr (nx + 1) 0], .nils, .ro (l.map Val.avs), .int .i64 l.length, .int .i64 0] H1 n1 := by
  have hFl := hF.len
  refine LP.mk (fun m xs H' n' => ∃ i a3, m = l.length - i ∧ i ≤ l.length ∧ n1 ≤ n' ∧ Keep n1 H' H1 ∧ Grow H' n1 n' 3 i (rowV ((l.take i).map (VM.put F))) a3 ∧ xs = [.ro (h.map Cl.avs), .ptr (nx + 2) 0, .clo 60 [.ptr (nx + 1) 0], a3, .ro (l.map Val.avs), .int .i64 l.length, .int .i64 i]) l.length
    ⟨0, .nils, by omega, by omega, Nat.le_refl _, by simp, .zero, rfl⟩ ?_
  rintro m xs H n ⟨i, a3, rfl, hi, hn, hk, hg, rfl⟩
  have hk' : ∀ g, g < n1 → H g = H1 g := hk
  have stn : RCan h H0 nx F H n gr := by
    have l0 := st.le
    exact ⟨⟨by rw [hk' _ (by omega)]; exact st.st.p, by rw [hk' _ (by omega)]; exact st.st.pl, by rw [hk' _ (by omega)]; exact st.st.oo, fun ho => by rw [hk' _ (st.lr ho).2]; exact st.st.rr ho, st.st.d1, st.st.d2, st.st.d3, st.st.d4⟩, fun ho => by have := st.lr ho; omega, fun g hg => by rw [hk' _ (by omega)]; exact st.keep g hg, st.good, by omega⟩
  by_cases hil : i < l.length
  case neg =>
    obtain rfl : i = l.length := by omega
    rw [List.take_length] at hg
    simp [zdz, stn.st.oo, zyf]
    refine zaej h F hF hok hsh hs a3 _ Q stn rfl fun a4 H' n' hn2 hk2 hg2 => ?_
    refine hQ a3 a4 H' n' n (fun g hg => (hk2 g (by omega)).trans (hk g hg)) hn hn2 (hg.more (Nat.le_refl _) fun g _ h2 => hk2 g h2) hg2
  suffices key : ∀ K56 : J3, (∀ a3 H n, n1 ≤ n → Keep n1 H H1 → Grow H n1 n 3 (i + 1) (rowV ((l.take (i + 1)).map (VM.put F))) a3 → K56 [.ro (h.map Cl.avs), .ptr (nx + 2) 0, .clo 60 [.ptr (nx + 1) 0], a3, .ro (l.map Val.avs), .int .i64 l.length, .int .i64 (i + 1 : Nat)] H n) →
      zdz Q K56 [.ro (h.map Cl.avs), .ptr (nx + 2) 0, .clo 60 [.ptr (nx + 1) 0], a3, .ro (l.map Val.avs), .int .i64 l.length, .int .i64 i] H n from
    key _ fun a3 H n h1 h2 h3 => ⟨_, by omega, i + 1, a3, rfl, by omega, h1, h2, h3, rfl⟩
  intro K56 hK56
  have hvl : l[i]? = some l[i] := List.getElem?_eq_getElem hil
  have w := hv _ (List.mem_of_getElem? hvl)
  have hi1 := hin _ (List.mem_of_getElem? hvl)
  have tv : l[i].avs.take 3 = l[i].avs := rfl
  have l0 := stn.le
  simp [zdz, hil, tv, CALL]
  refine ⟨fun x hx => zck (zbp _ x hx), ?_⟩
  refine za.pure_call (zze l[i] F h.length w hi1 (gp := nx + 1) (gpl := nx) (by rw [Heap.put_ne _ _ (by omega)]; exact stn.st.p) (by rw [Heap.put_ne _ _ (by omega)]; exact stn.st.pl) (by omega) (by omega)) ?_
  have hsn : rowV ((l.take (i + 1)).map (VM.put F)) = rowV ((l.take i).map (VM.put F)) ++ (VM.put F l[i]).avs := by rw [zgn hvl, List.map_append, List.map_singleton, zaju]
  generalize VM.put F l[i] = rv at *
  have tr : rv.avs.take 3 = rv.avs := rfl
  simp [zrd, tr]
  refine Grow.app (new := rv.avs) (hg.more (n' := n) (Nat.le_refl _) fun g _ h2 => ?_) (by simp; omega) (Heap.put_at _ _ _) rfl (List.all_eq_true.2 fun x hx => zck (zbp _ x hx)) (by omega) (by omega) (by omega) fun H' hk2 hg2 => ?_
  · rw [Heap.put_ne _ _ (by omega), Heap.put_ne _ _ (by omega)]
  rw [← hsn] at hg2
  rw [i64w (by omega)]
  exact hK56 _ _ _ (by omega) (fun g hg => (hk2 g hg).trans (by rw [Heap.put_ne _ _ (by omega), Heap.put_ne _ _ (by omega)]; exact hk g hg)) hg2
set_option maxHeartbeats 2000000 in
set_option maxRecDepth 20000 in
theorem zage (h : List Cl) (l : List Val) (hr : VM.right h l = true) (hs : h.length * 64 ≤ 140737488355328) (hl : l.length * 32 ≤ 140737488355328) : QC Try.prog 46 [.ro (h.map Cl.avs), .ro (l.map Val.avs)] (.tup [.ro ((VM.canonV h l).map Val.avs), .ro ((VM.canonC h l).map Cl.avs)]) := by
  refine QC.of' fun H nx => zwj _ _ H nx _ ?_
  refine zabw hr hs hl fun H1 st0 => ?_
  have hok : zace h := VM.right_okC hr
  have hv := VM.right_okV hr
  refine LP.mk (fun m xs H' n' => ∃ i gr o, m = l.length - i ∧ i ≤ l.length ∧ xs = [.ro (h.map Cl.avs), .ro (l.map Val.avs), .ptr (nx + 1) 0, .ptr (nx + 2) 0, .clo 59 [.ptr (nx + 1) 0, .ptr (nx + 2) 0], .int .i64 o.length, .ro (l.map Val.avs), .int .i64 l.length, .int .i64 i] ∧
    RCan h H nx o H' n' gr ∧ VM.orderGo h (l.drop i) o = VM.order h l) l.length ⟨0, 0, [], by omega, by omega, rfl, st0, rfl⟩ ?_
  rintro m xs H2 n2 ⟨i, gr, o, rfl, hi, rfl, st, hF⟩
  by_cases hil : i < l.length
  case neg =>
    obtain rfl : i = l.length := by omega
    have hFo : o = VM.order h l := by rw [← hF, List.drop_length]; rfl
    obtain ⟨hsh, hin⟩ := VM.orderGo_shut (VM.okH hok) l [] (fun v hx => (hv v hx).okV) VM.Good.nil (fun j n c hj => by simp at hj)
    have hsh' : VM.Shut h (VM.order h l) (VM.order h l).length := hsh
    have hin' : ∀ v ∈ l, VM.In (VM.order h l) v := hin
    have hg := st.good
    subst hFo
    simp [zdy]
    refine zagd h l _ hl hs hg hok hsh' hv hin' _ st fun a2 a3 H' n' n3 hk hn3 hn' hg1 hg2 => ?_
    have l0 := st.le
    refine ⟨?_, fun g hg => (hk g (by omega)).trans (st.keep g hg)⟩
    rw [zadd hg.lt]
    refine Frz.tup2 (hg1.frz (by omega) (by simp [VM.canonV]) (zda _) rfl fun c hc => zbq (zgo _ c hc)) (hg2.frz (by omega) (by simp) (zfh _) rfl fun c hc => zbq (zwx _ c hc))
  have hvl : l[i]? = some l[i] := List.getElem?_eq_getElem hil
  have w := hv _ (List.mem_of_getElem? hvl)
  have tv : l[i].avs.take 3 = l[i].avs := rfl
  have hdrop : l.drop i = l[i] :: l.drop (i + 1) := List.drop_eq_getElem_cons hil
  rw [hdrop] at hF
  have hF' : VM.orderGo h (l.drop (i + 1)) (VM.drain h (h.length - o.length) (VM.meet o l[i]) o.length) = VM.order h l := hF
  have l0 := st.le
  suffices key : ∀ K16 : J3, (∀ H' n' gr o, RCan h H nx o H' n' gr → VM.orderGo h (l.drop (i + 1)) o = VM.order h l →
      K16 [.ro (h.map Cl.avs), .ro (l.map Val.avs), .ptr (nx + 1) 0, .ptr (nx + 2) 0, .clo 59 [.ptr (nx + 1) 0, .ptr (nx + 2) 0], .int .i64 o.length, .ro (l.map Val.avs), .int .i64 l.length, .int .i64 (i + 1 : Nat)] H' n') →
      zdy (fun v H' _ => Frz H' nx v (.tup [.ro ((VM.canonV h l).map Val.avs), .ro ((VM.canonC h l).map Cl.avs)]) ∧ Keep nx H' H) K16 [.ro (h.map Cl.avs), .ro (l.map Val.avs), .ptr (nx + 1) 0, .ptr (nx + 2) 0, .clo 59 [.ptr (nx + 1) 0, .ptr (nx + 2) 0], .int .i64 o.length, .ro (l.map Val.avs), .int .i64 l.length, .int .i64 i] H2 n2 from
    key _ fun H' n' gr o h1 h2 => ⟨_, by omega, i + 1, gr, o, rfl, by omega, rfl, h1, h2⟩
  intro K16 hK16
  simp [zdy, hil, tv, CALL]
  refine ⟨fun x hx => zck (zbp _ x hx), ?_⟩
  refine (st.more (H' := H2.put n2 (some (AObj.row 3 l[i].avs))) (n' := n2 + 1) (by omega) (fun g hg => Heap.put_ne _ _ (by omega))).meet hs w fun H3 n3 gr3 hn3 st3 => ?_
  simp [zre]
  exact zabx h l hr hs hl hil K16 (fun H' n' gr o h1 h2 => hK16 H' n' gr o h1 h2) H3 n3 gr3 _ o.length (VM.meet_pre o l[i]).length_le st3 hF'
end Go.Proofs.Ytpbnaaoilgohkaa
set_option maxRecDepth 8000
namespace Go.Proofs.Ytpbnaaoilgohkaa
open Go Go.RowKit
section
variable {ki kj : IntKind}
theorem zafw {s : Nat} {xs : List (List AV)} {b : Int} {H : Heap} {kt : Kt} : zbb s (.ro xs) none (some (.int ki b)) H kt = (0 ≤ b ∧ b ≤ xs.length ∧ (∀ x ∈ xs, x.length = s) ∧ kt (.ro (xs.take b.toNat)) [] [] []) := by
  simp [zbb, lohi, PURE]
theorem zadm {s : Nat} {xs : List (List AV)} {a b : Int} {H : Heap} {kt : Kt} : zbb s (.ro xs) (some (.int ki a)) (some (.int kj b)) H kt = (0 ≤ a ∧ a ≤ b ∧ b ≤ xs.length ∧ (∀ x ∈ xs, x.length = s) ∧ kt (.ro ((xs.take b.toNat).drop a.toNat)) [] [] []) := by
  simp [zbb, lohi, PURE]
theorem zalx {s : Nat} {xs : List (List AV)} {a : Int} {H : Heap} {k : AV → Prop} : SL s (.ro xs) (some (.int ki a)) none H k = (0 ≤ a ∧ a ≤ xs.length ∧ (∀ x ∈ xs, x.length = s) ∧ k (.ro (xs.drop a.toNat))) := by
  simp [SL, zbb, lohi, PURE, qk]
end
set_option maxRecDepth 20000 in
set_option maxHeartbeats 1000000 in
theorem zabv {fs : List Frm} {H5 : Heap} {n : Nat} {Q : AV → Heap → Nat → Prop} (hb : (ze fs).length ≤ 4096) (hfl : fs.length ≤ 4096)
    (hend : ∀ H' n' l, n + 2 ≤ n' → (∀ g, g < n + 2 → H' g = H5 g) → Slot H' 3 (ze fs).length (rowV (ze fs)) l → (∀ g ∈ own l, n + 2 ≤ g ∧ g < n') →
      FA 5 (.ptr n 0) fun v29 => LD false 1 v29 H' fun v30 => za Try.prog 46 [v30, l] H' n' (zlr [.ptr n 0, .ptr (n + 1) 0, l, .ro (fs.map Frm.avs), .int .i64 fs.length, .int .i64 fs.length] Q)) :
    LP (zel Q) [.ptr n 0, .ptr (n + 1) 0, .nils, .ro (fs.map Frm.avs), .int .i64 fs.length, .int .i64 0] H5 (n + 2) := by
  refine LP.mk (fun k xs H' n' => ∃ (i : Nat) (l : AV), k = fs.length - i ∧ i ≤ fs.length ∧ xs = [.ptr n 0, .ptr (n + 1) 0, l, .ro (fs.map Frm.avs), .int .i64 fs.length, .int .i64 i] ∧ n + 2 ≤ n' ∧ (∀ g, g < n + 2 → H' g = H5 g) ∧
    Slot H' 3 (ze (fs.take i)).length (rowV (ze (fs.take i))) l ∧ ∀ g ∈ own l, n + 2 ≤ g ∧ g < n') fs.length ⟨0, .nils, rfl, by omega, rfl, Nat.le_refl _, fun _ _ => rfl, .inl ⟨rfl, .inl rfl⟩, by simp [own]⟩ ?_
  rintro k xs H' n' ⟨i, l, rfl, hi, rfl, hn, keep, sl, bl⟩
  suffices key : ∀ K : J3, (∀ (i' : Nat) (l : AV) H' n', fs.length - i' < fs.length - i → i' ≤ fs.length → n + 2 ≤ n' → (∀ g, g < n + 2 → H' g = H5 g) → Slot H' 3 (ze (fs.take i')).length (rowV (ze (fs.take i'))) l → (∀ g ∈ own l, n + 2 ≤ g ∧ g < n') → K [.ptr n 0, .ptr (n + 1) 0, l, .ro (fs.map Frm.avs), .int .i64 fs.length, .int .i64 i'] H' n') →
      zel Q K [.ptr n 0, .ptr (n + 1) 0, l, .ro (fs.map Frm.avs), .int .i64 fs.length, .int .i64 i] H' n' from
    key _ fun i' l H' n' h1 h2 h3 h4 h5 h6 => ⟨_, h1, i', l, rfl, h2, rfl, h3, h4, h5, h6⟩
  intro K hK
  by_cases hil : i < fs.length
  · have hf : fs[i]? = some fs[i] := List.getElem?_eq_getElem hil
    have hadd : IntKind.i64.wrap ((i : Int) + 1) = ((i + 1 : Nat) : Int) := by rw [i64w (by omega)]; rfl
    have htk : fs.take (i + 1) = fs.take i ++ [fs[i]] := zgn hf
    have hle := zzd (fs := fs) (i + 1)
    have hr1 : ze (fs.take (i + 1)) = ze (fs.take i) ++ fs[i].vars ++ fs[i].stack := by rw [htk, zxe]
    rw [hr1] at hle
    simp only [List.length_append] at hle
    have b0 : ∀ l : List Val, (rowV l).all AV.one = true := fun l => List.all_eq_true.2 fun c hc => zck (zgo _ c hc)
    have hsrc : ∀ (H : Heap) (l : List Val), zg 3 H (.ro (l.map Val.avs)) = some (l.length, rowV l, []) := fun H l => by rw [zpg (zda l)]; simp [rowV]
    simp [zel, hil]
    simp [Frm.avs]
    generalize hX : Heap.put H' n' _ = HX
    have x1 : HX n' = some (.row 4 [.int .i64 fs[i].fn, .int .i64 fs[i].at_, .ro (fs[i].vars.map Val.avs), .ro (fs[i].stack.map Val.avs)]) := by rw [← hX, Heap.put_at]
    have xk : ∀ g, g ≠ n' → HX g = H' g := fun g hg => by rw [← hX, Heap.put_ne _ _ hg]
    refine Slot.gather (sl.keep fun g hg => xk g (by have := bl g hg; omega)) (by simp) (hsrc _ _) (by simp) (b0 _) (by omega) fun v1 rd1 fr1 D1 l1 d1 s1 o1 k1 => ?_
    have y1 : (HX.apply D1) n' = some (.row 4 [.int .i64 fs[i].fn, .int .i64 fs[i].at_, .ro (fs[i].vars.map Val.avs), .ro (fs[i].stack.map Val.avs)]) := by rw [k1 n' (fun h => by have := bl _ h; omega) (by omega)]; exact x1
    have yk : ∀ g, g < n + 2 → (HX.apply D1) g = H5 g := fun g hg => by rw [k1 g (fun h => by have := bl _ h; omega) (by omega), xk g (by omega), keep g hg]
    have dd : n' ∉ domD D1 := fun h => by
      rcases d1 n' h with h | h
      · have := bl _ h; omega
      · omega
    generalize HX.apply D1 = HY at *
    simp only [y1, rowk]
    simp
    refine Slot.gather s1 (by simp; omega) (hsrc _ _) (by simp) (b0 _) (by omega) fun v2 rd3 fr2 D2 l2 d2 s2 o2 k2 => ?_
    have zk : ∀ g, g < n + 2 → (HY.apply D2) g = H5 g := fun g hg => by rw [k2 g (fun h => by have := o1 _ h; omega) (by omega), yk g hg]
    generalize HY.apply D2 = HZ at *
    refine zbs (fun g _ => by simp) (zbs (fun g _ => by simp) (zbs (fun g hg => by simp; rintro rfl; exact dd hg) (zbs (fun g _ => by simp) ?_)))
    rw [hadd]
    refine hK (i + 1) v2 HZ _ (by omega) (by omega) (by omega) zk ?_ fun g hg => ?_
    · rw [hr1, zpk, zpk]
      simpa [Nat.add_assoc] using s2
    · have := o2 g hg; omega
  · obtain rfl : i = fs.length := by omega
    rw [List.take_length] at sl
    have := hend H' n' l hn keep sl bl
    simpa [zel] using this
set_option maxRecDepth 20000 in
set_option maxHeartbeats 1000000 in
theorem zaei {fs : List Frm} {id trip : Int} {pr : Prg} {m : Pmt} {p : Val → Val} {hp h : List Cl} {H1 : Heap} {n mid : Nat} {Q : AV → Heap → Nat → Prop} (hfl : fs.length ≤ 4096) (hb : ∀ f ∈ fs, f.vars.length ≤ 4096 ∧ f.stack.length ≤ 4096) (hmid : n + 2 ≤ mid)
    (r1 : H1 n = some (.row 9 (zaj id trip pr (.ro (fs.map Frm.avs)) (.ro (h.map Cl.avs)) m))) (r2 : ∃ z, H1 (n + 1) = some (.row 9 z) ∧ z.length = 9)
    (hend : ∀ H' n' ss fa, zit H' mid n' (fs.map (pkF p)) ss fa → (∀ g, g < n → H' g = H1 g) → Q (.agg (zaj id trip pr fa (.ro (hp.map Cl.avs)) m)) H' n') :
    LP (zem Q) [.ptr n 0, .ptr (n + 1) 0, .ro ((ze fs).map fun v => (p v).avs), .ro (hp.map Cl.avs), .nils, .ro (fs.map Frm.avs), .int .i64 fs.length, .int .i64 0] H1 mid := by
  refine LP.mk (fun k xs H' n' => ∃ (i : Nat) (ss : List (AV × AV)) (fa : AV), k = fs.length - i ∧ i ≤ fs.length ∧ mid ≤ n' ∧ xs = [.ptr n 0, .ptr (n + 1) 0, .ro ((ze (fs.drop i)).map fun v => (p v).avs), .ro (hp.map Cl.avs), fa, .ro (fs.map Frm.avs), .int .i64 fs.length, .int .i64 i] ∧
    zit H' mid n' ((fs.take i).map (pkF p)) ss fa ∧ ∀ g, g < mid → H' g = H1 g) fs.length ⟨0, [], .nils, rfl, by omega, Nat.le_refl _, rfl, ⟨⟨rfl, fun k f s hf => by simp at hf⟩, .inl ⟨by simp, .inl rfl⟩, by simp [own, owns], by simp [own, owns]⟩, fun _ _ => rfl⟩ ?_
  rintro k xs H' n' ⟨i, ss, fa, rfl, hi, hn', rfl, st, keep⟩
  suffices key : ∀ K : J3, (∀ (i' : Nat) ss fa H' n', fs.length - i' < fs.length - i → i' ≤ fs.length → mid ≤ n' → zit H' mid n' ((fs.take i').map (pkF p)) ss fa → (∀ g, g < mid → H' g = H1 g) → K [.ptr n 0, .ptr (n + 1) 0, .ro ((ze (fs.drop i')).map fun v => (p v).avs), .ro (hp.map Cl.avs), fa, .ro (fs.map Frm.avs), .int .i64 fs.length, .int .i64 i'] H' n') →
      zem Q K [.ptr n 0, .ptr (n + 1) 0, .ro ((ze (fs.drop i)).map fun v => (p v).avs), .ro (hp.map Cl.avs), fa, .ro (fs.map Frm.avs), .int .i64 fs.length, .int .i64 i] H' n' from
    key _ fun i' ss fa H' n' h1 h2 h3 h4 h5 => ⟨_, h1, i', ss, fa, rfl, h2, h3, rfl, h4, h5⟩
  intro K hK
  have e1 := (keep n (by omega)).trans r1
  obtain ⟨z, z1, z2⟩ := r2
  have e2 := (keep (n + 1) (by omega)).trans z1
  by_cases hil : i < fs.length
  · have hf : fs[i]? = some fs[i] := List.getElem?_eq_getElem hil
    have hdrop : fs.drop i = fs[i] :: fs.drop (i + 1) := List.drop_eq_getElem_cons hil
    have htk : fs.take (i + 1) = fs.take i ++ [fs[i]] := zgn hf
    have hadd : IntKind.i64.wrap ((i : Int) + 1) = ((i + 1 : Nat) : Int) := by rw [i64w (by omega)]; rfl
    have hroots : ze (fs.drop i) = fs[i].vars ++ (fs[i].stack ++ ze (fs.drop (i + 1))) := by unfold ze; rw [hdrop, List.flatMap_cons, List.append_assoc]
    have len3 : ∀ l : List Val, ∀ x ∈ l.map (fun v => (p v).avs), x.length = 3 := fun l x hx => by obtain ⟨v, _, rfl⟩ := List.mem_map.1 hx; rfl
    have one3 : ∀ l : List Val, ∀ x ∈ l.map (fun v => (p v).avs), ∀ c ∈ x, c.one = true := fun l x hx c hc => by obtain ⟨v, _, rfl⟩ := List.mem_map.1 hx; exact zck (zbp _ c hc)
    have fl : ∀ l : List Val, (l.map fun v => (p v).avs).flatten = rowV (l.map p) := fun l => by simp [rowV, List.map_map, Function.comp_def]
    obtain ⟨b1, b2⟩ := hb _ (List.getElem_mem hil)
    have hw : IntKind.i64.wrap ((fs[i].vars.length : Int) + fs[i].stack.length) = ((fs[i].vars.length + fs[i].stack.length : Nat) : Int) := by rw [i64w (by omega)]; rfl
    have hsrc : ∀ (H : Heap) (l : List Val), zg 3 H (.ro (l.map fun v => (p v).avs)) = some (l.length, rowV (l.map p), []) := fun H l => by rw [zpg (len3 l), fl]; simp
    have hones : ∀ l : List Val, ∀ x ∈ rowV l, x.one = true := fun l c hc => zck (zgo l c hc)
    obtain ⟨X, hX⟩ : ∃ X, X = (ze (fs.drop i)).map fun v => (p v).avs := ⟨_, rfl⟩
    have x3 : ∀ x ∈ X, x.length = 3 := by rw [hX]; exact len3 _
    have lX : fs[i].vars.length + fs[i].stack.length ≤ X.length := by rw [hX, hroots]; simp
    have t1 : X.take fs[i].vars.length = fs[i].vars.map fun v => (p v).avs := by rw [hX, hroots, List.map_append, List.take_append_of_le_length (by simp), List.take_of_length_le (by simp)]
    have t2 : (X.take (fs[i].vars.length + fs[i].stack.length)).drop fs[i].vars.length = fs[i].stack.map fun v => (p v).avs := by
      rw [hX, hroots, List.map_append, List.map_append, ← List.append_assoc, List.take_append_of_le_length (by simp), List.take_of_length_le (by simp), List.drop_append_of_le_length (by simp), List.drop_of_length_le (by simp), List.nil_append]
    have t3 : X.drop (fs[i].vars.length + fs[i].stack.length) = (ze (fs.drop (i + 1))).map fun v => (p v).avs := by
      rw [hX, hroots, List.map_append, List.map_append, ← List.append_assoc, List.drop_append_of_le_length (by simp), List.drop_of_length_le (by simp), List.nil_append]
    have q1 : ((fs[i].vars.length : Int)) ≤ X.length := by omega
    have q2 : ((fs[i].vars.length : Int) + fs[i].stack.length) ≤ X.length := by omega
    have q3 : ((fs[i].vars.length : Int) + fs[i].stack.length).toNat = fs[i].vars.length + fs[i].stack.length := by omega
    rw [← hX]
    simp [zem, hil]
    have m1 : n' ≠ n' + 2 := by omega
    have m2 : n' ≠ n' + 2 + 1 := by omega
    have m3 : n' ≠ n' + 4 := by omega
    have m4 : n' ≠ n' + 1 := by omega
    have m5 : n' ≠ n' + 4 + 1 := by omega
    simp [Frm.avs, zafw, zadm, zalx, hw, t1, t2, t3, hsrc, x3, q1, q2, q3, m1, m2, m3, m4, m5]
    refine ⟨x3, hones _, by omega, by omega, x3, hones _, by omega, by omega, x3, ?_⟩
    generalize hY : Heap.put _ (n' + 4 + 1) _ = HY
    have y1 : HY (n' + 4 + 1) = some (.row 4 [.int .i64 fs[i].fn, .int .i64 fs[i].at_, .slc (n' + 2) 0 fs[i].vars.length, .slc (n' + 4) 0 fs[i].stack.length]) := by rw [← hY, Heap.put_at]
    have y2 : HY (n' + 4) = some (.row 3 (rowV (fs[i].stack.map p))) := by rw [← hY, Heap.put_ne _ _ (by omega), Heap.put_ne _ _ (by omega), Heap.put_at]
    have y3 : HY (n' + 2) = some (.row 3 (rowV (fs[i].vars.map p))) := by rw [← hY, Heap.put_ne _ _ (by omega), Heap.put_ne _ _ (by omega), Heap.put_ne _ _ (by omega), Heap.put_ne _ _ (by omega), Heap.put_at]
    have yk : ∀ g, g < n' → HY g = H' g := fun g hg => by rw [← hY, Heap.put_ne _ _ (by omega), Heap.put_ne _ _ (by omega), Heap.put_ne _ _ (by omega), Heap.put_ne _ _ (by omega), Heap.put_ne _ _ (by omega), Heap.put_ne _ _ (by omega), Heap.put_ne _ _ (by omega)]
    have tl : ((fs.take i).map (pkF p)).length = i := by simp; omega
    refine st.snoc (f := pkF p fs[i]) (va := .slc (n' + 2) 0 fs[i].vars.length) (sa := .slc (n' + 4) 0 fs[i].stack.length) (N := n' + 2) (by omega) (by omega) (by omega) (by rw [tl]; omega) yk (.inr ⟨n' + 2, _, by simp [pkF], y3, List.take_of_length_le (by simp [pkF]), by simp [pkF]⟩) (.inr ⟨n' + 4, _, by simp [pkF], y2, List.take_of_length_le (by simp [pkF]), by simp [pkF]⟩) (by simp [own]) (fun g hg => by simp [own] at hg; omega) y1 fun H3 a' h1 h2 => ?_
    rw [hadd]
    refine hK (i + 1) (ss ++ [(.slc (n' + 2) 0 fs[i].vars.length, .slc (n' + 4) 0 fs[i].stack.length)]) a' H3 _ (by omega) (by omega) (by omega) ?_ fun g hg => ?_
    · rw [htk, List.map_append]; exact h2
    · rw [h1 g hg, yk g (by omega)]; exact keep g hg
  · obtain rfl : i = fs.length := by omega
    rw [List.take_length] at st
    simp [zem, e1, e2, zaj, z2, st.row.one.1, st.row.one.2.1, st.row.one.2.2]
    have bd := st.bd
    refine hend _ n' ss fa ⟨st.frs.keep fun g hg => ?_, st.row.keep fun g hg => ?_, st.nd, st.bd⟩ fun g hg => ?_
    · have := bd g (List.mem_append_right _ hg)
      rw [Heap.put_ne _ _ (by omega), Heap.put_ne _ _ (by omega)]
    · have := bd g (List.mem_append_left _ hg)
      rw [Heap.put_ne _ _ (by omega), Heap.put_ne _ _ (by omega)]
    · rw [Heap.put_ne _ _ (by omega), Heap.put_ne _ _ (by omega)]; exact keep g (by omega)
set_option maxRecDepth 20000 in
set_option maxHeartbeats 1000000 in
theorem zaid {a : Agt} (hfl : a.frames.length ≤ 4096) (hb : (ze a.frames).length ≤ 4096) (hh : a.heap.length ≤ 4096) (hr : VM.right a.heap (ze a.frames) = true) :
    QC Try.prog 19 [.agg a.avs] (.agg (VM.pack a).avs) := by
  refine QC.of' fun H n => ?_
  refine zyr _ H n _ ?_
  have av : (AV.agg a.avs).cells = a.avs := by simp
  have hsu : (AV.agg a.avs).sure = true := by simp [Agt.avs]
  have e9 : a.avs.length = 9 := rfl
  have e4 : a.avs[4]? = some (.ro (a.frames.map Frm.avs)) := rfl
  have e5 : a.avs[5]? = some (.ro (a.heap.map Cl.avs)) := rfl
  unfold zte
  rw [av, e9]
  refine ⟨hsu, ?_⟩
  simp [e4]
  generalize hX : Heap.put _ (n + 1) _ = HX
  have x0 : HX n = some (.row 9 a.avs) := by rw [← hX, Heap.put_ne _ _ (by omega), Heap.put_at]
  have x1 : ∃ z, HX (n + 1) = some (.row 9 z) ∧ z.length = 9 := ⟨_, by rw [← hX, Heap.put_at], rfl⟩
  have xk : ∀ g, g < n → HX g = H g := fun g hg => by rw [← hX, Heap.put_ne _ _ (by omega), Heap.put_ne _ _ (by omega)]
  have each : ∀ f ∈ a.frames, f.vars.length ≤ 4096 ∧ f.stack.length ≤ 4096 := fun f hf => by
    obtain ⟨s, t, e⟩ := List.append_of_mem hf
    have : ze a.frames = ze s ++ (f.vars ++ f.stack ++ ze t) := by rw [e]; simp [ze]
    rw [this] at hb
    simp only [List.length_append] at hb
    omega
  refine zabv hb hfl fun H' n' l hn keep sl bl => ?_
  have y0 := (keep n (by omega)).trans x0
  simp [y0, e5]
  let G : Nat → Prop := fun g => g ∈ own l
  let H0 : Heap := fun g => if g ∈ own l then none else H' g
  have h0 : ∀ g o, H0 g = some o → ¬ G g ∧ H' g = some o := fun g o hg => by
    by_cases h : g ∈ own l
    · simp only [H0, if_pos h] at hg; cases hg
    · simp only [H0, if_neg h] at hg; exact ⟨h, hg⟩
  have up : ∀ g, g < n + 2 → H0 g = HX g := fun g h2 => by
    simp only [H0]
    rw [if_neg (fun h => by have := bl g h; omega)]
    exact keep g h2
  refine QC.thaw (zage a.heap (ze a.frames) hr (by omega) (by omega)) (G := G) (H0 := H0) (zav.cons (.same _) (zav.cons (Slot.frzP (sz := 3) (by simpa [rowV] using sl) (fun g hg => hg) (zda _)) .nil)) h0 ?_
  have z0 := (up n (by omega)).trans x0
  obtain ⟨z, z1, z2⟩ := x1
  simp [zlr, z0, e4]
  have hcv : (VM.canonV a.heap (ze a.frames)).map Val.avs = (ze a.frames).map fun v => (VM.put (VM.order a.heap (ze a.frames)) v).avs := by
    unfold VM.canonV; rw [List.map_map]; rfl
  rw [hcv]
  refine zaei (id := a.id) (trip := a.trip) (pr := a.prog) (m := a.permit) (p := VM.put (VM.order a.heap (ze a.frames))) (hp := VM.canonC a.heap (ze a.frames)) (h := a.heap) hfl each hn z0 ⟨z, (up (n + 1) (by omega)).trans z1, z2⟩ fun H3 n3 ss fa fc k3 => ⟨?_, fun g hg => ?_⟩
  · have hp : VM.pack a = ⟨a.id, a.trip, a.prog, a.frames.map (pkF (VM.put (VM.order a.heap (ze a.frames)))), VM.canonC a.heap (ze a.frames), a.permit⟩ := rfl
    rw [hp]
    refine zacv ?_ (.same _ (zgu (zwz _)))
    rcases fc.row with ⟨q0, rfl | rfl⟩ | ⟨gf, cs, rfl, c1, c2, c3⟩
    · rw [List.eq_nil_of_length_eq_zero q0]; exact .nils
    · rw [List.eq_nil_of_length_eq_zero q0]; exact .zs
    · exact zx.frz fc.frs c1 c2 c3 (by have := fc.bd gf (by simp [own]); omega) (fun x hx => by have := fc.bd x (List.mem_append_right _ hx); omega) rfl
  · rw [k3 g hg, up g (by omega)]; exact xk g hg
end Go.Proofs.Ytpbnaaoilgohkaa
