/- The bytes of an agent that is away: the document's. Agents: what the document's function says is wrong with one. Agents: what the document's function says is wrong with one, on. Agents: what the document's function says is wrong with one, whole. The document's agent of bytes: cells, and the whole. A program, and an agent, are the same as themselves. The laws of chapter 8: the images' bytes and readings are the document's. -/
import Derived.Test.YtpbnaaoilgohkaaG12
import Derived.Test.YtpbnaaoilgohkaaG15
import Derived.Test.YtpbnaaoilgohkaaG14
import Derived.Test.YtpbnaaoilgohkaaG6
import Derived.Test.YtpbnaaoilgohkaaG13
import Derived.Test.YtpbnaaoilgohkaaG11
set_option linter.unusedSimpArgs false
set_option linter.unusedVariables false
set_option maxRecDepth 8000
namespace Go.Proofs.Ytpbnaaoilgohkaa
open Go Go.RowKit
theorem zxl {a : Agt} {fs : List Frm} {f : Frm} (l : VM.Gone a fs f) : QC Try.prog 6 [.agg a.avs] (.ro (bsR (VM.image a))) := by
  have fl : a.frames.length ≤ 12 := by rw [l.fr]; simp; have := l.flen; omega
  have hl := l.hlen
  have hr := l.room
  exact zagc (zaid (by omega) (zabf l) (by omega) (VM.roots_ok l)) (zaap (VM.pack_gone l))
end Go.Proofs.Ytpbnaaoilgohkaa
set_option maxRecDepth 8000
namespace Go.Proofs.Ytpbnaaoilgohkaa
open Go Go.RowKit
def fl (l : List Val) : List AV := (l.map Val.avs).flatten
theorem zahl (v : Val) (l : List Val) : fl (v :: l) = v.avs ++ fl l := rfl
theorem zakj (l m : List Val) : fl (l ++ m) = fl l ++ fl m := by simp [fl]
theorem zaev (l : List Val) : (fl l).length = l.length * 3 := by
  induction l with
  | nil => rfl
  | cons v r ih => rw [zahl, List.length_append, ih, zahs, List.length_cons]; omega
theorem zaki (l : List Val) : ∀ x ∈ fl l, x.one = true := by
  intro x hx
  simp [fl] at hx
  obtain ⟨_, ⟨v, _, rfl⟩, h⟩ := hx
  unfold Val.avs at h
  simp at h
  rcases h with rfl | rfl | rfl <;> rfl
theorem zari (l : List Val) (j : Nat) (v : Val) (h : l[j]? = some v) : ((fl l).drop (j * 3)).take 3 = v.avs := by
  induction l generalizing j with
  | nil => simp at h
  | cons w r ih =>
    cases j with
    | zero => simp at h; subst h; rfl
    | succ j =>
      rw [zahl, List.drop_append, List.drop_of_length_le (by simp; omega), zahs, show (j + 1) * 3 - 3 = j * 3 by omega, List.nil_append]
      exact ih j (by simpa using h)
set_option maxHeartbeats 4000000 in
theorem zzj (a : Agt) (k : Nat) (f : Frm) (hv : Int) (away : Bool) (r1 r2 : AV) (H H0 : Heap) (nx n0 g b0 : Nat) (K : J3) (R : Int) (hg : H g = some (.row 9 a.avs)) (hgn : g < nx) (hb : H b0 = some (.row 4 f.avs)) (hbn : b0 < nx) (hn0 : n0 ≤ nx) (hK : Keep n0 H H0) (hvl : f.vars.length ≤ 8) (hb16 : hv ≤ 16) (hk12 : k ≤ 12)
    (hbad : zam a f.vars f.stack hv ≠ 0 → R = zam a f.vars f.stack hv)
    (hgo : zam a f.vars f.stack hv = 0 → ∀ H' nx', H' g = some (.row 9 a.avs) → Keep n0 H' H0 → nx ≤ nx' → K [.bool away, .ptr g 0, r1, r2, .int .i64 (k + 1)] H' nx') :
    zbm (fun v H' _ => Frz H' n0 v (.int .i64 R) ∧ Keep n0 H' H0) K [.bool away, .ptr g 0, .ptr b0 0, .int .i64 hv, r1, r2, .int .i64 k] H nx := by
  by_cases h1 : hv < 0 ∨ (f.stack.length : Int) ≠ hv
  · have e : zam a f.vars f.stack hv = 10 := by unfold zam; rw [if_pos h1]
    have hR := hbad (by omega)
    rw [hR, e]
    by_cases h2 : hv < 0
    · simp [zbm, h2, hK]
    · have h3 : ¬ hv = (f.stack.length : Int) := by omega
      simp [zbm, h2, h3, hK, hb, Frm.avs]
  have e : zam a f.vars f.stack hv = VM.firstErr (fun v => VM.wrong v a.heap.length) (f.vars ++ f.stack) := by unfold zam; rw [if_neg h1]
  rw [e] at hbad hgo
  have h2 : ¬ hv < 0 := by omega
  have h3 : hv = (f.stack.length : Int) := by omega
  have n1' : b0 ≠ nx := by omega
  have n2' : b0 ≠ nx + 1 := by omega
  have hs1 : ∀ H : Heap, zg 3 H (.ro (f.vars.map Val.avs)) = some (f.vars.length, fl f.vars, []) := fun H => by rw [zpg (by simp)]; simp [fl]
  have hs2 : ∀ H : Heap, zg 3 H (.ro (f.stack.map Val.avs)) = some (f.stack.length, fl f.stack, []) := fun H => by rw [zpg (by simp)]; simp [fl]
  simp [zbm, h2, h3, hb, Frm.avs, n1', n2', -zpg, hs1, hs2]
  have htk : List.take (f.vars.length * 3) (fl f.vars) = fl f.vars := List.take_of_length_le (by rw [zaev]; omega)
  rw [htk, ← zakj]
  refine ⟨fun h => by omega, zaki _, by omega, zaki _, by rw [zaev]; omega, by omega, by omega, by omega, ?_⟩
  have hll : (f.vars ++ f.stack).length = f.vars.length + f.stack.length := by simp
  generalize f.vars ++ f.stack = l at *
  refine LP.mk (fun m xs H' nx' => ∃ (j : Nat), j ≤ l.length ∧ m = l.length - j ∧ xs = [.bool away, .ptr g 0, r1, r2, .int .i64 k, .slc (nx + 1 + 1) 0 l.length, .int .i64 l.length, .int .i64 j] ∧ H' (nx + 1 + 1) = some (.row 3 (fl l)) ∧ H' g = some (.row 9 a.avs) ∧ Keep n0 H' H0 ∧ nx + 2 < nx' ∧
    VM.firstErr (fun v => VM.wrong v a.heap.length) l = VM.firstErr (fun v => VM.wrong v a.heap.length) (l.drop j)) l.length
    ⟨0, by omega, by omega, by simp [hll], by simp, ?_, ?_, by omega, rfl⟩ ?_
  · rw [Heap.put_ne _ _ (by omega), Heap.put_ne _ _ (by omega), Heap.put_ne _ _ (by omega)]; exact hg
  · rw [Keep.put (by omega), Keep.put (by omega), Keep.put (by omega)]; exact hK
  rintro m xs H2 n2 ⟨j, hj, rfl, rfl, hb2, hg2, hK2, hn2, hfj⟩
  by_cases hjl : j < l.length
  · obtain ⟨v, hv'⟩ : ∃ v, l[j]? = some v := ⟨_, List.getElem?_eq_getElem hjl⟩
    have m1 : g ≠ n2 := by omega
    have m2 : nx + 1 + 1 ≠ n2 := by omega
    have hfa := zari l j v hv'
    have hlen3 : j * 3 + 3 ≤ (fl l).length := by rw [zaev]; omega
    simp only [Val.avs] at hfa
    simp [zkc, hjl, hb2, hfa, hg2, m1, Agt.avs, hlen3]
    refine QC.call (zwl v _) ?_
    simp [zqz]
    rw [zbg _ _ _ _ hv'] at hfj
    have hK3 : Keep n0 (H2.put n2 (some (.row 3 [.int .i64 v.kind, .int .i64 v.n, .str v.text]))) H0 := by rw [Keep.put (by omega)]; exact hK2
    refine ⟨fun hz => ⟨?_, hK3⟩, fun hz => ?_⟩
    · rw [if_pos hz] at hfj
      rw [hbad (by rw [hfj]; exact hz), hfj]
    · rw [if_neg (by simpa using hz)] at hfj
      rw [i64w (by omega)]
      exact ⟨l.length - (j + 1), by omega, j + 1, by omega, rfl, rfl, by rw [if_neg m2]; exact hb2, by rw [if_neg m1]; exact hg2, hK3, by omega, hfj⟩
  obtain rfl : j = l.length := by omega
  have hz : VM.firstErr (fun v => VM.wrong v a.heap.length) l = 0 := by rw [hfj]; simp [VM.firstErr]
  simp [zkc]
  rw [i64w (by omega)]
  exact hgo hz _ _ hg2 hK2 (by omega)
end Go.Proofs.Ytpbnaaoilgohkaa
set_option maxRecDepth 8000
namespace Go.Proofs.Ytpbnaaoilgohkaa
open Go Go.RowKit
set_option maxHeartbeats 4000000 in
theorem zagp (a : Agt) (k : Nat) (away : Bool) (H H0 : Heap) (nx n0 g : Nat) (K : J3) (R : Int) (hg : H g = some (.row 9 a.avs)) (hgn : g < nx) (hn0 : n0 ≤ nx) (hK : Keep n0 H H0) (hk : k < a.frames.length) (hl : a.frames.length ≤ 12) (hp : VM.program a.prog = 0)
    (hbad : VM.frame a k away ≠ 0 → R = VM.frame a k away)
    (hgo : VM.frame a k away = 0 → ∀ H' nx', H' g = some (.row 9 a.avs) → Keep n0 H' H0 → nx ≤ nx' → K [.bool away, .ptr g 0, .ro (a.frames.map Frm.avs), .int .i64 a.frames.length, .int .i64 (k + 1)] H' nx') :
    zan (fun v H' _ => Frz H' n0 v (.int .i64 R) ∧ Keep n0 H' H0) K [.bool away, .ptr g 0, .ro (a.frames.map Frm.avs), .int .i64 a.frames.length, .int .i64 k] H nx := by
  obtain ⟨f, hf⟩ : ∃ f, a.frames[k]? = some f := ⟨_, List.getElem?_eq_getElem hk⟩
  obtain ⟨_, hf'⟩ := List.getElem?_eq_some_iff.1 hf
  obtain ⟨fn, at_, vs, st⟩ := f
  have hgx : g ≠ nx := by omega
  have hgx1 : g ≠ nx + 1 := by omega
  have hKf : ∀ o, Keep n0 (H.put nx o) H0 := fun o => by rw [Keep.put (by omega)]; exact hK
  have hKf2 : ∀ o o', Keep n0 ((H.put nx o).put (nx + 1) o') H0 := fun o o' => by rw [Keep.put (by omega), Keep.put (by omega)]; exact hK
  by_cases h1 : 0 ≤ fn ∧ fn < a.prog.codes.length
  case neg =>
    have e : VM.frame a k away = 3 := by
      unfold VM.frame
      rw [hf]
      have : (if 0 ≤ fn then a.prog.codes[fn.toNat]? else none) = none := by
        split
        · exact List.getElem?_eq_none (by omega)
        · rfl
      simp only [this]
    have hR := hbad (by omega)
    rw [hR, e]
    by_cases h0 : fn < 0
    · simp [zan, hg, Agt.avs, hk, hf', Frm.avs, h0, hKf]
    · have : (a.prog.codes.length : Int) ≤ fn := by omega
      simp [zan, hg, Agt.avs, hk, hf', Frm.avs, h0, this, hKf, hgx]
  obtain ⟨h10, h11⟩ := h1
  obtain ⟨n, rfl⟩ : ∃ n : Nat, fn = n := ⟨fn.toNat, by omega⟩
  have hnl : n < a.prog.codes.length := by omega
  obtain ⟨c, hc⟩ : ∃ c, a.prog.codes[n]? = some c := ⟨_, List.getElem?_eq_getElem hnl⟩
  obtain ⟨_, hc'⟩ := List.getElem?_eq_some_iff.1 hc
  obtain ⟨hcr, hcalm, hch⟩ := (zch hp).1 c (List.mem_of_getElem? hc)
  have hcr' : ¬ (c.params < 0 ∨ 4 < c.params ∨ c.vars < c.params ∨ 8 < c.vars ∨ c.ins.length < 1 ∨ 200 < c.ins.length) := by
    unfold VM.codeRange at hcr
    rwa [decide_eq_false_iff_not] at hcr
  have hnn : ¬ (a.prog.codes.length ≤ n) := by omega
  have hn0' : ¬ ((n : Int) < 0) := by omega
  by_cases h2 : (0 ≤ at_ ∧ at_ < c.ins.length) ∧ (vs.length : Int) = c.vars
  case neg =>
    have e : VM.frame a k away = 3 := by
      unfold VM.frame
      rw [hf]
      simp only [Int.toNat_natCast]
      rw [if_pos (by omega), hc]
      simp only
      by_cases hat : 0 ≤ at_ ∧ at_ < c.ins.length
      · rw [if_pos hat.1, List.getElem?_eq_getElem (by omega)]
        simp only
        rw [if_pos (by omega)]
      · have : (if 0 ≤ at_ then c.ins[at_.toNat]? else none) = none := by
          split
          · exact List.getElem?_eq_none (by omega)
          · rfl
        simp only [this]
    have hR := hbad (by omega)
    rw [hR, e]
    by_cases h0 : at_ < 0
    · simp [zan, hg, Agt.avs, hk, hf', Frm.avs, hn0', hnn, hnl, hc', h0, Cod.avs, hKf, hKf2, hgx, hgx1]
    · by_cases h3 : (c.ins.length : Int) ≤ at_
      · simp [zan, hg, Agt.avs, hk, hf', Frm.avs, hn0', hnn, hnl, hc', h0, h3, Cod.avs, hKf, hKf2, hgx, hgx1]
      · have h4 : ¬ (vs.length : Int) = c.vars := by omega
        simp [zan, hg, Agt.avs, hk, hf', Frm.avs, hn0', hnn, hnl, hc', h0, h3, h4, Cod.avs, hKf, hKf2, hgx, hgx1]
  obtain ⟨⟨h20, h21⟩, h22⟩ := h2
  obtain ⟨m, rfl⟩ : ∃ m : Nat, at_ = m := ⟨at_.toNat, by omega⟩
  have hml : m < c.ins.length := by omega
  have hm0' : ¬ ((m : Int) < 0) := by omega
  obtain ⟨hhl, hhb⟩ := zfo hcalm hch
  obtain ⟨h, hh⟩ : ∃ h, (VM.heights c.ins).1[m]? = some h := ⟨_, List.getElem?_eq_getElem (by omega)⟩
  obtain ⟨hm1, hh'⟩ := List.getElem?_eq_some_iff.1 hh
  have hhb' := hhb h (List.mem_of_getElem? hh)
  have hfe := zzy (away := away) hf hc hml h22 rfl hh
  have hnm : ¬ (c.ins.length ≤ m) := by omega
  simp [zan, hg, Agt.avs, hk, hf', Frm.avs, hn0', hnn, hnl, hc', h22, Cod.avs, hm0', hml, hnm, hgx, hgx1]
  refine QC.call (zzi c (by omega) hcalm) ?_
  have hg2 : ((H.put nx (some (.row 4 [.int .i64 n, .int .i64 m, .ro (vs.map Val.avs), .ro (st.map Val.avs)]))).put (nx + 1) (some (.row 3 [.int .i64 c.params, .int .i64 c.vars, .ro (c.ins.map Ins.avs)]))) g = some (.row 9 a.avs) := by rw [Heap.put_ne _ _ hgx1, Heap.put_ne _ _ hgx]; exact hg
  have hf2 : ((H.put nx (some (.row 4 [.int .i64 n, .int .i64 m, .ro (vs.map Val.avs), .ro (st.map Val.avs)]))).put (nx + 1) (some (.row 3 [.int .i64 c.params, .int .i64 c.vars, .ro (c.ins.map Ins.avs)]))) nx = some (.row 4 [.int .i64 n, .int .i64 m, .ro (vs.map Val.avs), .ro (st.map Val.avs)]) := by rw [Heap.put_ne _ _ (by omega), Heap.put_at]
  have hc2 : ((H.put nx (some (.row 4 [.int .i64 n, .int .i64 m, .ro (vs.map Val.avs), .ro (st.map Val.avs)]))).put (nx + 1) (some (.row 3 [.int .i64 c.params, .int .i64 c.vars, .ro (c.ins.map Ins.avs)]))) (nx + 1) = some (.row 3 [.int .i64 c.params, .int .i64 c.vars, .ro (c.ins.map Ins.avs)]) := Heap.put_at _ _ _
  have hK2 := hKf2 (some (.row 4 [.int .i64 n, .int .i64 m, .ro (vs.map Val.avs), .ro (st.map Val.avs)])) (some (.row 3 [.int .i64 c.params, .int .i64 c.vars, .ro (c.ins.map Ins.avs)]))
  generalize ((H.put nx (some (.row 4 [.int .i64 n, .int .i64 m, .ro (vs.map Val.avs), .ro (st.map Val.avs)]))).put (nx + 1) (some (.row 3 [.int .i64 c.params, .int .i64 c.vars, .ro (c.ins.map Ins.avs)]))) = H1 at *
  have w1 : IntKind.i64.wrap ((a.frames.length : Int) - 1) = (a.frames.length : Int) - 1 := i64w (by omega)
  have hvl : vs.length ≤ 8 := by omega
  simp [zqy, hf2, hm1, hh', hg2, Agt.avs, w1]
  refine JN.same ?_
  simp [zra]
  refine JN.same ?_
  have key : zct (fun v H' _ => Frz H' n0 v (.int .i64 R) ∧ Keep n0 H' H0) (zbm (fun v H' _ => Frz H' n0 v (.int .i64 R) ∧ Keep n0 H' H0) K)
      [.bool away, .ptr g 0, .int .i64 k, .ptr nx 0, .ptr (nx + 1) 0, .ro ((VM.heights c.ins).1.map fun n => [.int .i64 n]), .int .i64 h, .bool (decide (k + 1 = a.frames.length)), .ro (a.frames.map Frm.avs), .int .i64 a.frames.length, .int .i64 k, .bool (!decide (k + 1 = a.frames.length) || away)] H1 (nx + 2) := by
    cases hw : (!decide (k + 1 = a.frames.length) || away)
    · rw [hw] at hfe
      simp only [Bool.false_and, Bool.false_eq_true, if_false] at hfe
      rw [hfe] at hbad hgo
      simp [zct]
      exact zzj a k ⟨n, m, vs, st⟩ h away _ _ H1 H0 (nx + 2) n0 g nx K R hg2 (by omega) hf2 (by omega) (by omega) hK2 hvl hhb'.2 (by omega) hbad fun h0 H' nx' q1 q2 q3 => hgo h0 H' nx' q1 q2 (by omega)
    rw [hw] at hfe
    simp only [Bool.true_and, if_true] at hfe
    cases m with
    | zero =>
      have e10 : VM.frame a k away = 10 := by rw [hfe]; simp
      have hR := hbad (by omega)
      rw [hR, e10]
      have w2 : IntKind.i64.wrap (h - 1) = h - 1 := i64w (by omega)
      simp [zct, hf2, hK2]
    | succ m =>
    have h00 : ¬ ((m : Int) + 1 = 0) := by omega
    have w2 : IntKind.i64.wrap (h - 1) = h - 1 := i64w (by omega)
    have w3 : IntKind.i64.wrap (m : Int) = m := i64w (by omega)
    have hml' : m < c.ins.length := by omega
    obtain ⟨i, hi⟩ : ∃ i, c.ins[m]? = some i := ⟨_, List.getElem?_eq_getElem hml'⟩
    obtain ⟨_, hi'⟩ := List.getElem?_eq_some_iff.1 hi
    obtain ⟨q, hq⟩ : ∃ q, (VM.heights c.ins).1[m]? = some q := ⟨_, List.getElem?_eq_getElem (by omega)⟩
    obtain ⟨hqm, hq'⟩ := List.getElem?_eq_some_iff.1 hq
    have z1 : nx ≠ nx + 2 := by omega
    have z2 : nx + 1 ≠ nx + 2 := by omega
    have z3 : g ≠ nx + 2 := by omega
    have hg3 : (H1.put (nx + 2) (some (.row 3 [.int .i64 i.op, .int .i64 i.a, .int .i64 i.b]))) g = some (.row 9 a.avs) := by rw [Heap.put_ne _ _ z3]; exact hg2
    have hf3 : (H1.put (nx + 2) (some (.row 3 [.int .i64 i.op, .int .i64 i.a, .int .i64 i.b]))) nx = some (.row 4 [.int .i64 n, .int .i64 ((m + 1 : Nat) : Int), .ro (vs.map Val.avs), .ro (st.map Val.avs)]) := by rw [Heap.put_ne _ _ z1]; exact hf2
    have hi3 : (H1.put (nx + 2) (some (.row 3 [.int .i64 i.op, .int .i64 i.a, .int .i64 i.b]))) (nx + 2) = some (.row 3 [.int .i64 i.op, .int .i64 i.a, .int .i64 i.b]) := Heap.put_at _ _ _
    have hK3 : Keep n0 (H1.put (nx + 2) (some (.row 3 [.int .i64 i.op, .int .i64 i.a, .int .i64 i.b]))) H0 := by rw [Keep.put (by omega)]; exact hK2
    have hbp : zfp a k c (VM.heights c.ins).1 (m + 1) = ((!decide (k + 1 = a.frames.length) && (decide (i.op ≠ 17) || decide (i.a ≠ ((a.frames[k + 1]?).map (·.fn)).getD 0))) || (decide (k + 1 = a.frames.length) && decide (i.op ≠ 13)) || decide (q < 0)) := by
      unfold zfp
      simp only [Nat.add_sub_cancel, List.getD_eq_getElem?_getD, hi, hq, Option.getD_some]
    have hbadv : zfp a k c (VM.heights c.ins).1 (m + 1) = true → R = 10 := fun hb => by
      have : VM.frame a k away = 10 := by rw [hfe, if_pos (by simp [hb])]
      rw [hbad (by omega), this]
    have hfin : zfp a k c (VM.heights c.ins).1 (m + 1) = false → zbm (fun v H' _ => Frz H' n0 v (.int .i64 R) ∧ Keep n0 H' H0) K [.bool away, .ptr g 0, .ptr nx 0, .int .i64 (h - 1), .ro (a.frames.map Frm.avs), .int .i64 a.frames.length, .int .i64 k] (H1.put (nx + 2) (some (.row 3 [.int .i64 i.op, .int .i64 i.a, .int .i64 i.b]))) (nx + 2 + 1) := by
      intro hb
      have e : VM.frame a k away = zam a vs st (h - 1) := by rw [hfe, if_neg (by simp [hb]; omega)]
      rw [e] at hbad hgo
      exact zzj a k ⟨n, ((m + 1 : Nat) : Int), vs, st⟩ (h - 1) away _ _ _ H0 (nx + 2 + 1) n0 g nx K R hg3 (by omega) hf3 (by omega) (by omega) hK3 hvl (by omega) (by omega) hbad fun h0 H' nx' q1 q2 q3 => hgo h0 H' nx' q1 q2 (by omega)
    rw [hbp] at hfin hbadv
    by_cases hlast : k + 1 = a.frames.length
    · simp [hlast] at hfin hbadv
      simp [zct, hf2, hc2, h00, w2, w3, hml', hi', Ins.avs, z1, z2, hqm, hq', hlast]
      refine ⟨fun hq0 => ⟨fun h13 => ⟨hbadv (.inl h13), hK3⟩, fun h13 => hfin h13 hq0⟩, fun hq0 => ⟨hbadv (.inr hq0), hK3⟩⟩
    · have hk2 : k + 1 < a.frames.length := by omega
      obtain ⟨f2, hf2'⟩ : ∃ f2, a.frames[k + 1]? = some f2 := ⟨_, List.getElem?_eq_getElem hk2⟩
      obtain ⟨_, hf2''⟩ := List.getElem?_eq_some_iff.1 hf2'
      rw [hf2'] at hfin hbadv
      simp [hlast] at hfin hbadv
      have w4 : IntKind.i64.wrap ((k : Int) + 1) = (k : Int) + 1 := i64w (by omega)
      have hk2i : (k : Int) + 1 < a.frames.length := by omega
      have hk0 : (0 : Int) ≤ (k : Int) + 1 := by omega
      have htn : ((k : Int) + 1).toNat = k + 1 := by omega
      simp [zct, hf2, hc2, h00, w2, w3, w4, hml', hi', Ins.avs, z1, z2, z3, hqm, hq', hlast, hg2, Agt.avs, hk2i, hk0, htn, hk2, hf2'', Frm.avs]
      refine ⟨fun hq0 => ⟨fun h17 => ⟨fun ha => ⟨hbadv (.inl (.inr ha)), hK3⟩, fun ha => hfin h17 ha hq0⟩, fun h17 => ⟨hbadv (.inl (.inl h17)), hK3⟩⟩, fun hq0 => ⟨hbadv (.inr hq0), hK3⟩⟩
  by_cases hlast : k + 1 = a.frames.length
  · have l2 : (k : Int) = (a.frames.length : Int) - 1 := by omega
    simp [zke, l2]
    simp [hlast, l2] at key
    exact key
  · have l2 : ¬ (k : Int) = (a.frames.length : Int) - 1 := by omega
    simp [zke, l2]
    simp [hlast] at key
    exact key
end Go.Proofs.Ytpbnaaoilgohkaa
set_option maxRecDepth 8000
namespace Go.Proofs.Ytpbnaaoilgohkaa
open Go Go.RowKit
set_option maxHeartbeats 4000000 in
theorem zadj (a : Agt) (away : Bool) (ha : a.prog.ok) (hhl : a.heap.length ≤ 4611686018427387904) : QC Try.prog 4 [.agg a.avs, .bool away] (.int .i64 (VM.agent a away)) := by
  refine QC.of' fun H nx => zwi _ _ H nx _ ?_
  simp [zqv, Agt.avs]
  refine QC.call (zagg a.prog ha) ?_
  have hg : (H.put nx (some (.row 9 [.int .i64 a.id, .int .i64 a.trip, .ro (a.prog.codes.map Cod.avs), .ro (a.prog.words.map fun w => [.str w]), .ro (a.frames.map Frm.avs), .ro (a.heap.map Cl.avs), .int .i64 a.permit.fuel, .int .i64 a.permit.room, .int .i64 a.permit.hops]))) nx = some (.row 9 a.avs) := Heap.put_at _ _ _
  have hK : Keep nx (H.put nx (some (.row 9 [.int .i64 a.id, .int .i64 a.trip, .ro (a.prog.codes.map Cod.avs), .ro (a.prog.words.map fun w => [.str w]), .ro (a.frames.map Frm.avs), .ro (a.heap.map Cl.avs), .int .i64 a.permit.fuel, .int .i64 a.permit.room, .int .i64 a.permit.hops]))) H := by simp
  generalize (H.put nx (some (.row 9 [.int .i64 a.id, .int .i64 a.trip, .ro (a.prog.codes.map Cod.avs), .ro (a.prog.words.map fun w => [.str w]), .ro (a.frames.map Frm.avs), .ro (a.heap.map Cl.avs), .int .i64 a.permit.fuel, .int .i64 a.permit.room, .int .i64 a.permit.hops]))) = H1 at *
  by_cases hp : VM.program a.prog = 0
  case neg =>
    have e : VM.agent a away = VM.program a.prog := by unfold VM.agent; rw [if_pos hp]
    rw [e]
    simp [zkd, hp, hK]
  simp [zkd, hp, hg, Agt.avs]
  have e3 : (a.id < 0 ∨ 1073741824 < a.id ∨ a.trip < 0 ∨ 1073741824 < a.trip ∨ a.permit.fuel < 0 ∨ 2000 < a.permit.fuel ∨ a.permit.room < 0 ∨ 60 < a.permit.room ∨ a.permit.hops < 0 ∨ 12 < a.permit.hops) → VM.agent a away = 3 := fun h => by
    unfold VM.agent; rw [if_neg (by simpa using hp), if_pos h]
  refine LP.mk (fun m xs H' nx' => ∃ i : Nat, i ≤ 5 ∧ m = 5 - i ∧ xs = [.bool away, .ptr nx 0, .slc (nx + 1) 0 5, .int .i64 5, .int .i64 i] ∧ H' nx = some (.row 9 a.avs) ∧
    H' (nx + 1) = some (.row 2 [.int .i64 a.id, .int .i64 1073741824, .int .i64 a.trip, .int .i64 1073741824, .int .i64 a.permit.fuel, .int .i64 2000, .int .i64 a.permit.room, .int .i64 60, .int .i64 a.permit.hops, .int .i64 12]) ∧ Keep nx H' H ∧ nx + 1 < nx' ∧
    (1 ≤ i → 0 ≤ a.id ∧ a.id ≤ 1073741824) ∧ (2 ≤ i → 0 ≤ a.trip ∧ a.trip ≤ 1073741824) ∧ (3 ≤ i → 0 ≤ a.permit.fuel ∧ a.permit.fuel ≤ 2000) ∧ (4 ≤ i → 0 ≤ a.permit.room ∧ a.permit.room ≤ 60) ∧ (5 ≤ i → 0 ≤ a.permit.hops ∧ a.permit.hops ≤ 12)) 5
    ⟨0, by omega, by omega, by simp, by rw [Heap.put_ne _ _ (by omega)]; exact hg, by simp, by simp [hK], by omega, by omega, by omega, by omega, by omega, by omega⟩ ?_
  rintro m xs H2 n2 ⟨i, hi, rfl, rfl, hg2, hr2, hK2, hn2, i1, i2, i3, i4, i5⟩
  have z1 : nx ≠ n2 := by omega
  have z2 : nx + 1 ≠ n2 := by omega
  have hKf : ∀ o, Keep nx (H2.put n2 o) H := fun o => by rw [Keep.put (by omega)]; exact hK2
  have hic : i = 5 ∨ i = 0 ∨ i = 1 ∨ i = 2 ∨ i = 3 ∨ i = 4 := by omega
  rcases hic with rfl | hic
  · have e0 : VM.agent a away = if a.frames.length < 1 ∨ 12 < a.frames.length then 5 else if 60 - a.permit.room < a.heap.length then 4 else if VM.framesErr a away ≠ 0 then VM.framesErr a away else VM.firstErr (VM.cellErr a.heap.length) a.heap := by
      unfold VM.agent; rw [if_neg (by simpa using hp), if_neg (by have := i1 (by omega); have := i2 (by omega); have := i3 (by omega); have := i4 (by omega); have := i5 (by omega); omega)]
    have i4' := i4 (by omega)
    have w1 : IntKind.i64.wrap ((a.heap.length : Int) + a.permit.room) = (a.heap.length : Int) + a.permit.room := i64w (by omega)
    simp [zbl, hg2, Agt.avs, w1]
    refine ⟨fun h => ⟨by rw [e0, if_pos (by rw [h]; simp)], hK2⟩, fun f1 => ?_⟩
    have hpos : 0 < a.frames.length := List.length_pos_iff.2 f1
    refine ⟨fun h => ⟨by rw [e0, if_pos (by omega)], hK2⟩, fun f2 => ⟨fun h => ⟨by rw [e0, if_neg (by omega), if_pos (by omega)], hK2⟩, fun f3 => ?_⟩⟩
    rw [if_neg (by omega), if_neg (by omega)] at e0
    refine LP.mk (fun m xs H' nx' => ∃ i : Nat, i ≤ a.frames.length ∧ m = a.frames.length - i ∧ xs = [.bool away, .ptr nx 0, .ro (a.frames.map Frm.avs), .int .i64 a.frames.length, .int .i64 i] ∧ H' nx = some (.row 9 a.avs) ∧ Keep nx H' H ∧ nx < nx' ∧ VM.framesErr a away = VM.firstErr (fun k => VM.frame a k away) ((List.range a.frames.length).drop i)) a.frames.length
      ⟨0, by omega, by omega, by simp, hg2, hK2, by omega, rfl⟩ ?_
    rintro m xs H3 n3 ⟨k, hk, rfl, rfl, hg3, hK3, hn3, hfe⟩
    by_cases hlt : k < a.frames.length
    · have hr : (List.range a.frames.length)[k]? = some k := by simp [hlt]
      rw [zbg _ _ _ _ hr] at hfe
      refine zagp a k away H3 H n3 nx nx _ _ hg3 hn3 (by omega) hK3 hlt (by omega) hp (fun hz => ?_) fun hz H' nx' q1 q2 q3 => ?_
      · rw [if_pos hz] at hfe
        rw [e0, hfe, if_pos hz]
      · rw [if_neg (by simpa using hz)] at hfe
        exact ⟨a.frames.length - (k + 1), by omega, k + 1, by omega, rfl, rfl, q1, q2, by omega, hfe⟩
    obtain rfl : k = a.frames.length := by omega
    have hz : VM.framesErr a away = 0 := by rw [hfe, List.drop_of_length_le (by simp)]; rfl
    rw [if_neg (by simpa using hz)] at e0
    simp [zan, hg3, Agt.avs]
    refine LP.mk (fun m xs H' nx' => ∃ i : Nat, i ≤ a.heap.length ∧ m = a.heap.length - i ∧ xs = [.ptr nx 0, .ro (a.heap.map Cl.avs), .int .i64 a.heap.length, .int .i64 i] ∧ H' nx = some (.row 9 a.avs) ∧ Keep nx H' H ∧ nx < nx' ∧ VM.agent a away = VM.firstErr (VM.cellErr a.heap.length) (a.heap.drop i)) a.heap.length
      ⟨0, by omega, by omega, by simp, hg3, hK3, by omega, e0⟩ ?_
    rintro m xs H4 n4 ⟨k, hk, rfl, rfl, hg4, hK4, hn4, hfe⟩
    by_cases hlt : k < a.heap.length
    case neg =>
      obtain rfl : k = a.heap.length := by omega
      simp [zkb, hK4]
      rw [hfe]; simp [VM.firstErr]
    obtain ⟨c, hc⟩ : ∃ c, a.heap[k]? = some c := ⟨_, List.getElem?_eq_getElem hlt⟩
    obtain ⟨_, hc'⟩ := List.getElem?_eq_some_iff.1 hc
    rw [zbg _ _ _ _ hc] at hfe
    obtain ⟨l, r⟩ := c
    have m1 : nx ≠ n4 := by omega
    have hce : VM.cellErr a.heap.length ⟨l, r⟩ = if VM.wrong l a.heap.length ≠ 0 then VM.wrong l a.heap.length else VM.wrong r a.heap.length := rfl
    rw [hce] at hfe
    have hg5 : (H4.put n4 (some (.row 6 [.int .i64 l.kind, .int .i64 l.n, .str l.text, .int .i64 r.kind, .int .i64 r.n, .str r.text]))) nx = some (.row 9 a.avs) := by rw [Heap.put_ne _ _ m1]; exact hg4
    have hc5 : (H4.put n4 (some (.row 6 [.int .i64 l.kind, .int .i64 l.n, .str l.text, .int .i64 r.kind, .int .i64 r.n, .str r.text]))) n4 = some (.row 6 [.int .i64 l.kind, .int .i64 l.n, .str l.text, .int .i64 r.kind, .int .i64 r.n, .str r.text]) := Heap.put_at _ _ _
    have hK5 : Keep nx (H4.put n4 (some (.row 6 [.int .i64 l.kind, .int .i64 l.n, .str l.text, .int .i64 r.kind, .int .i64 r.n, .str r.text]))) H := by rw [Keep.put (by omega)]; exact hK4
    simp [zkb, hlt, hc', Cl.avs, Val.avs, hg4, m1, Agt.avs]
    generalize (H4.put n4 (some (.row 6 [.int .i64 l.kind, .int .i64 l.n, .str l.text, .int .i64 r.kind, .int .i64 r.n, .str r.text]))) = H5 at *
    refine QC.call (zwl l _) ?_
    simp [zqw, hc5, hg5, Agt.avs]
    refine ⟨fun hz => ⟨by rw [hfe, if_pos hz, if_pos hz], hK5⟩, fun hz => ?_⟩
    refine QC.call (zwl r _) ?_
    rw [hz] at hfe
    simp at hfe
    simp [zqx]
    refine ⟨fun hz2 => ⟨by rw [hfe]; simp [hz2], hK5⟩, fun hz2 => ?_⟩
    rw [hz2] at hfe
    simp at hfe
    rw [i64w (by omega)]
    exact ⟨a.heap.length - (k + 1), by omega, k + 1, by omega, rfl, rfl, hg5, hK5, by omega, hfe⟩
  rcases hic with rfl | rfl | rfl | rfl | rfl
  · simp [zbl, hr2, hKf]
    refine ⟨fun h => e3 (by omega), fun h => ⟨fun h' => e3 (by omega), fun h' => ?_⟩⟩
    exact ⟨5 - 1, by omega, 1, by omega, rfl, by rw [i64w (by omega)]; rfl, by simp [z1, hg2], by simp [z2], by omega, by omega, by omega, by omega, by omega, by omega⟩
  · simp [zbl, hr2, hKf]
    refine ⟨fun h => e3 (by omega), fun h => ⟨fun h' => e3 (by omega), fun h' => ?_⟩⟩
    exact ⟨5 - 2, by omega, 2, by omega, rfl, by rw [i64w (by omega)]; rfl, by simp [z1, hg2], by simp [z2], by omega, by omega, by omega, by omega, by omega, by omega⟩
  · simp [zbl, hr2, hKf]
    refine ⟨fun h => e3 (by omega), fun h => ⟨fun h' => e3 (by omega), fun h' => ?_⟩⟩
    exact ⟨5 - 3, by omega, 3, by omega, rfl, by rw [i64w (by omega)]; rfl, by simp [z1, hg2], by simp [z2], by omega, by omega, by omega, by omega, by omega, by omega⟩
  · simp [zbl, hr2, hKf]
    refine ⟨fun h => e3 (by omega), fun h => ⟨fun h' => e3 (by omega), fun h' => ?_⟩⟩
    exact ⟨5 - 4, by omega, 4, by omega, rfl, by rw [i64w (by omega)]; rfl, by simp [z1, hg2], by simp [z2], by omega, by omega, by omega, by omega, by omega, by omega⟩
  · simp [zbl, hr2, hKf]
    refine ⟨fun h => e3 (by omega), fun h => ⟨fun h' => e3 (by omega), fun h' => ?_⟩⟩
    exact ⟨5, by omega, by omega, by rw [i64w (by omega)]; rfl, by simp [z1, hg2], by simp [z2], by omega, by omega, by omega, by omega, by omega, by omega⟩
end Go.Proofs.Ytpbnaaoilgohkaa
set_option maxRecDepth 8000
namespace Go.Proofs.Ytpbnaaoilgohkaa
open Go Go.RowKit
theorem zof {s : Str} {H : Heap} {k : Kt} (hk : k (.str s) [] [] []) : zeg (.ro (bsR s)) H k := by
  have e : zg 1 H (.ro (bsR s)) = some (s.length, bsV s, []) := by
    simp only [zg, zad, zvl]
    rw [if_pos]
    simpa using zmi s
  simp only [zeg, e, zsz]
  exact hk
set_option maxRecDepth 20000 in
set_option maxHeartbeats 4000000 in
theorem zajq {a0 : AV} {z p g n : Nat} {st : VM.St} {K : Nat} {v0 v1 v2 v3 v4 v6 v7 v8 : AV} {H : Heap} {Q : QT} (hpg : p < g) (hgn : g < n) (hK : K ≤ 4096) (hb : st.1.length ≤ 4611686018427387904)
    (h1 : H p = some (PRd st)) (h2 : H g = some (.row 9 [v0, v1, v2, v3, v4, .nils, v6, v7, v8]))
    (hq : ∀ H' n' F, n ≤ n' → H' p = some (PRd (VM.rdMany VM.clOf K st).2) → H' g = some (.row 9 [v0, v1, v2, v3, v4, F, v6, v7, v8]) → Slot H' 6 K (zgi (VM.rdMany VM.clOf K st).1) F → (∀ y ∈ own F, n ≤ y ∧ y < n') → (∀ y, y < n → y ≠ p → y ≠ g → H' y = H y) →
      za Try.prog 33 [.ptr p 0, .int .i64 (-1)] H' n' (zbh [a0, .ptr z 0, .ptr p 0, .ptr g 0, .int .i64 K, .int .i64 K] Q)) :
    LP (zfx Q) [a0, .ptr z 0, .ptr p 0, .ptr g 0, .int .i64 K, .int .i64 0] H n := by
  refine LP.mk (fun k xs H' n' => ∃ (i : Nat) (F : AV), k = K - i ∧ i ≤ K ∧ xs = [a0, .ptr z 0, .ptr p 0, .ptr g 0, .int .i64 K, .int .i64 i] ∧ n ≤ n' ∧ H' p = some (PRd (VM.rdMany VM.clOf i st).2) ∧ H' g = some (.row 9 [v0, v1, v2, v3, v4, F, v6, v7, v8]) ∧ Slot H' 6 i (zgi (VM.rdMany VM.clOf i st).1) F ∧ (∀ y ∈ own F, n ≤ y ∧ y < n') ∧ (∀ y, y < n → y ≠ p → y ≠ g → H' y = H y)) K ⟨0, .nils, rfl, by omega, rfl, Nat.le_refl _, h1, h2, .inl ⟨rfl, .inl rfl⟩, by simp [own], fun _ _ _ _ => rfl⟩ ?_
  rintro k xs H' n' ⟨i, F, rfl, hik, rfl, hn, hp, hr, sl, ow, kp⟩
  have sm := VM.short_many VM.short_cl i st
  by_cases hlt : i < K
  · have hadd : IntKind.i64.wrap ((i : Int) + 1) = ((i + 1 : Nat) : Int) := by rw [i64w (by omega)]; rfl
    have ll := VM.rdMany_len VM.clOf i st
    have er : VM.rdMany VM.clOf (i + 1) st = ((VM.rdMany VM.clOf i st).1 ++ [(VM.clOf (VM.rdMany VM.clOf i st).2).1], (VM.clOf (VM.rdMany VM.clOf i st).2).2) := rfl
    generalize VM.rdMany VM.clOf i st = q at *
    have a1 := VM.short_val q.2
    have hi : VM.clOf q.2 = (⟨(VM.rdVal q.2).1, (VM.rdVal (VM.rdVal q.2).2).1⟩, (VM.rdVal (VM.rdVal q.2).2).2) := rfl
    rw [hi] at er
    simp [zfx, hlt]
    refine zyd hp (by omega) ?_
    generalize VM.rdVal q.2 = w1 at *
    simp [zos, Val.avs]
    refine zyd (st := w1.2) (by rw [Heap.put_ne _ _ (by omega), Heap.put_at]) (by omega) ?_
    generalize VM.rdVal w1.2 = w2 at *
    have gn : ¬ n' = g ∧ ¬ g = n' ∧ ¬ g = p ∧ ¬ p = g ∧ ¬ n' = p ∧ ¬ p = n' := by omega
    generalize hX : Heap.put _ p (some (PRd w2.2)) = X
    have y1 : X p = some (PRd w2.2) := by rw [← hX, Heap.put_at]
    have y2 : X n' = some (.row 6 [.int .i64 w1.1.kind, .int .i64 w1.1.n, .str w1.1.text, .int .i64 0, .int .i64 0, .str []]) := by rw [← hX, Heap.put_ne _ _ (by omega), Heap.put_at]
    have yk : ∀ y, y < n' → y ≠ p → X y = H' y := fun y e1 e2 => by rw [← hX]; repeat' first | rw [Heap.put_ne _ _ (by omega)] | rfl
    clear hX
    have yg : X g = some (.row 9 [v0, v1, v2, v3, v4, F, v6, v7, v8]) := by rw [yk g (by omega) (by omega)]; exact hr
    simp [zot, y2, yg, gn, Val.avs]
    generalize hY : Heap.put _ (n' + 1) _ = Y
    have t1 : Y (n' + 1) = some (.row 6 (Cl.mk w1.1 w2.1).avs) := by rw [← hY, Heap.put_at]; rfl
    have t2 : Y p = some (PRd w2.2) := by rw [← hY, Heap.put_ne _ _ (by omega), Heap.put_ne _ _ (by omega)]; exact y1
    have t3 : ∀ y, y < n' → y ≠ p → Y y = H' y := fun y e1 e2 => by rw [← hY, Heap.put_ne _ _ (by omega), Heap.put_ne _ _ (by omega)]; exact yk y e1 e2
    clear hY
    have s1 : Slot Y 6 i (zgi q.1) F := sl.keep fun y hy => by
      have := ow y hy
      rw [t3 y (by omega) (by omega)]
    refine s1.app (new := (Cl.mk w1.1 w2.1).avs) (by rw [zrv]; omega) t1 rfl (by simp [Cl.avs, Val.avs]) (by omega) fun H6 q1 q2 => ?_
    have r6 : H6 g = some (.row 9 [v0, v1, v2, v3, v4, F, v6, v7, v8]) := by
      rw [q2 g (fun h => by have := ow _ h; omega) (by omega), t3 g (by omega) (by omega)]; exact hr
    rw [r6, rowk]
    simp [hadd]
    refine ⟨K - (i + 1), by omega, i + 1, rfl, by omega, by omega, by omega, ?_, ?_, fun y hy => ?_, fun y h3 h4 h5 => ?_⟩
    · rw [er, q2 p (fun h => by have := ow _ h; omega) (by omega)]; exact t2
    · rw [er, zaat]
      refine Slot.full ?_ (by simp [zrv, Cl.avs, Val.avs, ll]; omega)
      rw [Heap.put_ne _ _ (by omega)]; exact q1
    · have e : y = n' + 1 + 1 := by simpa [own] using hy
      omega
    · rw [if_neg h5, q2 y (fun h => by have := ow _ h; omega) (by omega), t3 y (by omega) h4]
      exact kp y h3 h4 h5
  · obtain rfl : i = K := by omega
    simp [zfx]
    exact hq _ _ _ hn hp hr sl ow kp
set_option maxRecDepth 20000 in
set_option maxHeartbeats 4000000 in
theorem zahz {b : Str} {nx n : Nat} {H H0 : Heap} {Q : QT} {C W F E v : AV} {r : Agt × VM.St} (hr : r.1.prog.ok) (hh : r.1.heap.length ≤ 4096) (hn : nx + 3 ≤ n) (h1 : H (nx + 1) = some (PRd r.2)) (h2 : H (nx + 2) = some (.row 9 [.int .i64 r.1.id, .int .i64 r.1.trip, C, W, F, E, .int .i64 r.1.permit.fuel, .int .i64 r.1.permit.room, .int .i64 r.1.permit.hops]))
    (fz : zav H (fun y => nx + 3 ≤ y) [.int .i64 r.1.id, .int .i64 r.1.trip, C, W, F, E, .int .i64 r.1.permit.fuel, .int .i64 r.1.permit.room, .int .i64 r.1.permit.hops] r.1.avs) (h0 : H nx = some (.row 9 zagt)) (kp : Keep nx H H0) (x5 x6 : AV)
    (hq : ∀ v' H' n', Frz H' nx v' (.tup [.agg (VM.answerOf b r).1.avs, .int .i64 (VM.answerOf b r).2]) → Keep nx H' H0 → Q v' H' n') :
    zbh [.ro (bsR b), .ptr nx 0, .ptr (nx + 1) 0, .ptr (nx + 2) 0, x5, x6] Q v H n := by
  have h1' := h1
  unfold PRd at h1'
  have z9 : zagt.length = 9 := rfl
  have err : ∀ {e : Int}, VM.answerOf b r = (VM.agt0, e) → ∀ (H' : Heap) (n' : Nat), Keep nx H' H0 → Q (.tup [.agg zagt, .int .i64 e]) H' n' := fun he H' n' hk => hq _ _ _ (by rw [he]; exact zacu _) hk
  by_cases he : r.2.2 = 0
  case neg =>
    simp [zbh, h1', he, h0, z9]
    exact err (by unfold VM.answerOf; rw [if_pos he]) _ _ fun y hy => by rw [Heap.put_ne _ _ (by omega)]; exact kp y hy
  by_cases hl : r.2.1 = []
  case neg =>
    have hpos : 0 < r.2.1.length := List.length_pos_iff.2 hl
    simp [zbh, h1', he, zad, hpos, h0, z9]
    exact err (by unfold VM.answerOf; rw [if_neg (by simpa using he), if_pos hl]) _ _ fun y hy => by rw [Heap.put_ne _ _ (by omega)]; exact kp y hy
  simp [zbh, h1', he, hl, bsR, h2]
  let G : Nat → Prop := fun y => nx + 3 ≤ y
  let X : Heap := fun y => if y = nx + 2 then some (.row 9 r.1.avs) else if y < nx + 2 then H y else none
  have w0 : ∀ g o, X g = some o → ¬ G g ∧ FrzO H G g o := fun g o hg => by
    by_cases hg2 : g = nx + 2
    · subst hg2
      simp only [X, if_true] at hg
      cases hg
      exact ⟨by simp only [G]; omega, .inr ⟨9, _, _, h2, rfl, fz⟩⟩
    · by_cases hlt : g < nx + 2
      · simp only [X, if_neg hg2, if_pos hlt] at hg
        exact ⟨by simp only [G]; omega, .inl hg⟩
      · simp only [X, if_neg hg2, if_neg hlt] at hg; cases hg
  have w2 : X (nx + 2) = some (.row 9 r.1.avs) := by simp only [X, if_true]
  have wl : ∀ y, y < nx + 2 → X y = H y := fun y hy => by simp only [X, if_neg (show y ≠ nx + 2 by omega), if_pos hy]
  refine za.thawR (args := [.agg r.1.avs, .bool true]) (H0 := X) (G := G) ?_ (zav.cons (.agg _ _ fz.1 fz.2) (zav.cons (.same _) .nil)) w0
  clear_value X G
  refine QC.call (zadj r.1 true hr (by omega)) ?_
  have x0 : X nx = some (.row 9 zagt) := (wl _ (by omega)).trans h0
  have xk : Keep nx X H0 := fun y hy => (wl y (by omega)).trans (kp y hy)
  have so : ∀ x ∈ r.1.avs, x.one = true := fun x hx => by
    simp [Agt.avs] at hx
    rcases hx with rfl | rfl | rfl | rfl | rfl | rfl | rfl | rfl | rfl <;> rfl
  have ht : r.1.avs.take 9 = r.1.avs ∧ r.1.avs.length = 9 ∧ r.1.avs.drop 9 = [] := ⟨rfl, rfl, rfl⟩
  have hsu : (AV.agg r.1.avs).sure = true := by simp [Agt.avs]
  by_cases ha : VM.agent r.1 true = 0
  case neg =>
    simp [zdg, ha, x0, z9]
    exact err (by unfold VM.answerOf; rw [if_neg (by simpa using he), if_neg (by simpa using hl), if_pos ha]) _ _ fun y hy => by rw [Heap.put_ne _ _ (by omega)]; exact xk y hy
  obtain ⟨fs, f, l⟩ := VM.agent_gone ha
  rw [ha]
  simp [zdg, w2, ht, hsu]
  refine zj.of_qc (zxl l) (zgu (zmh _)) ?_
  unfold zey
  refine zof (zof ?_)
  by_cases hb : VM.image r.1 = b
  case neg =>
    simp [hb, x0, z9]
    exact err (by unfold VM.answerOf; rw [if_neg (by simpa using he), if_neg (by simpa using hl), if_neg (by simpa using ha), if_pos hb]) _ _ fun y hy => by rw [Heap.put_ne _ _ (by omega)]; exact xk y hy
  have ans : VM.answerOf b r = (r.1, 0) := by unfold VM.answerOf; rw [if_neg (by simpa using he), if_neg (by simpa using hl), if_neg (by simpa using ha), if_neg (by simpa using hb)]
  simp [hb, x0, z9, w2, ht, hsu]
  refine ⟨so, hq _ _ _ (by rw [ans]; exact FL.tup (.cons (.same _ (zafk _)) (.cons (.same _ (.int _ _)) .nil))) fun y hy => ?_⟩
  rw [Heap.put_ne _ _ (by omega)]; exact xk y hy
set_option maxRecDepth 20000 in
set_option maxHeartbeats 4000000 in
theorem zaef {b : Str} {H : Heap} {nx : Nat} {Q : QT} (hb : b.length ≤ 4611686018427387904)
    (hq : ∀ H' n' C W F E v r, r = VM.agtOf VM.refN (b, 0) → nx + 3 ≤ n' → H' (nx + 1) = some (PRd r.2) → H' (nx + 2) = some (.row 9 [.int .i64 r.1.id, .int .i64 r.1.trip, C, W, F, E, .int .i64 r.1.permit.fuel, .int .i64 r.1.permit.room, .int .i64 r.1.permit.hops]) →
      FrzP H' (fun y => nx + 3 ≤ y) C (.ro (r.1.prog.codes.map Cod.avs)) → FrzP H' (fun y => nx + 3 ≤ y) W (.ro (r.1.prog.words.map fun w => [.str w])) → FrzP H' (fun y => nx + 3 ≤ y) F (.ro (r.1.frames.map Frm.avs)) → FrzP H' (fun y => nx + 3 ≤ y) E (.ro (r.1.heap.map Cl.avs)) → H' nx = some (.row 9 zagt) → Keep nx H' H →
      zbh [.ro (bsR b), .ptr nx 0, .ptr (nx + 1) 0, .ptr (nx + 2) 0, .int .i64 r.1.heap.length, .int .i64 r.1.heap.length] Q v H' n') :
    zjz (.ro (bsR b)) H nx Q := by
  have hq := fun H' n' C W F E v => hq H' n' C W F E v _ rfl
  unfold zjz
  simp
  unfold VM.agtOf VM.prgOf VM.listOf at hq
  simp only at hq
  refine zcm (st := (b, 0)) (Heap.put_at _ _ _) hb ?_
  have a1 := VM.short_num (b, 0)
  generalize VM.rdNum (b, 0) = i at *
  simp only at a1
  simp [zom]
  refine zcm (st := i.2) (Heap.put_at _ _ _) (by omega) ?_
  have a2 := VM.short_num i.2
  generalize VM.rdNum i.2 = t at *
  rw [put_put]
  simp [zon]
  refine zcm (st := t.2) (by rw [Heap.put_ne _ _ (by omega), Heap.put_at]) (by omega) ?_
  have a3 := VM.short_num t.2
  generalize VM.rdNum t.2 = u at *
  simp [zoo]
  refine zcm (st := u.2) (by rw [Heap.put_ne _ _ (by omega), Heap.put_at]) (by omega) ?_
  have a4 := VM.short_num u.2
  generalize VM.rdNum u.2 = c at *
  simp [zop]
  refine zcm (st := c.2) (by rw [Heap.put_ne _ _ (by omega), Heap.put_at]) (by omega) ?_
  have a5 := VM.short_num c.2
  generalize VM.rdNum c.2 = h at *
  simp [zoq]
  refine zfm (st := h.2) (by rw [Heap.put_ne _ _ (by omega), Heap.put_at]) (by omega) ?_
  have a6 := VM.short_refN 16 h.2
  have rg0 := VM.counts_ref.range 16 (by omega) h.2
  generalize VM.refN 16 h.2 = d0 at *
  obtain ⟨M, hM⟩ := Int.eq_ofNat_of_zero_le rg0.1
  rw [hM] at hq ⊢
  simp only [Int.toNat_natCast, zor] at hq ⊢
  generalize hX : Heap.put _ (nx + 1) _ = X
  have x1 : X (nx + 1) = some (PRd d0.2) := by rw [← hX, Heap.put_at]
  have x2 : X (nx + 2) = some (.row 9 [.int .i64 i.1, .int .i64 t.1, .nils, .nils, .nils, .nils, .int .i64 u.1, .int .i64 c.1, .int .i64 h.1]) := by rw [← hX, Heap.put_ne _ _ (by omega), Heap.put_at]
  have x0 : X nx = some (.row 9 zagt) := by rw [← hX]; repeat' first | rw [Heap.put_ne _ _ (by omega)] | exact Heap.put_at _ _ _
  have xk : Keep nx X H := fun y hy => by rw [← hX]; repeat' first | rw [Heap.put_ne _ _ (by omega)] | rfl
  clear hX
  have lw := VM.rdMany_len (VM.rdText 12) M d0.2
  have aw := VM.short_many (VM.short_text 12) M d0.2
  refine zajn (n := nx + 3) (st := d0.2) (by omega) (by omega) (by omega) (by omega) x1 x2 fun H1 n1 W g0 g1 g2 g3 g4 g5 => ?_
  generalize VM.rdMany (VM.rdText 12) M d0.2 = w at *
  refine zfm (st := w.2) g1 (by omega) ?_
  have b1 := VM.short_refN 5 w.2
  have rg1 := VM.counts_ref.range 5 (by omega) w.2
  generalize VM.refN 5 w.2 = d1 at *
  obtain ⟨J, hJ⟩ := Int.eq_ofNat_of_zero_le rg1.1
  rw [hJ] at hq ⊢
  simp only [Int.toNat_natCast] at hq ⊢
  simp [zjb]
  have lc := VM.rdMany_len (VM.codOf VM.refN) J d1.2
  have ac := VM.short_many (VM.short_cod VM.counts_ref) J d1.2
  refine zajo (n := n1) (st := d1.2) (by omega) (by omega) (by omega) (by omega) (Heap.put_at _ _ _) (by rw [Heap.put_ne _ _ (by omega)]; exact g2) fun H2 n2 C ss k0 k1 k2 k3 k4 k5 k6 k7 => ?_
  generalize VM.rdMany (VM.codOf VM.refN) J d1.2 = cc at *
  refine zfm (st := cc.2) k1 (by omega) ?_
  have b2 := VM.short_refN 12 cc.2
  have rg2 := VM.counts_ref.range 12 (by omega) cc.2
  generalize VM.refN 12 cc.2 = d2 at *
  obtain ⟨L, hL⟩ := Int.eq_ofNat_of_zero_le rg2.1
  rw [hL] at hq ⊢
  simp only [Int.toNat_natCast] at hq ⊢
  simp [zjc]
  have lf := VM.rdMany_len (VM.frmOf VM.refN) L d2.2
  have af := VM.short_many (VM.short_frm VM.counts_ref) L d2.2
  refine zajp (n := n2) (st := d2.2) (by omega) (by omega) (by omega) (by omega) (Heap.put_at _ _ _) (by rw [Heap.put_ne _ _ (by omega)]; exact k2) fun H3 n3 F fs m0 m1 m2 m3 m4 m5 m6 m7 => ?_
  generalize VM.rdMany (VM.frmOf VM.refN) L d2.2 = f at *
  refine zfm (st := f.2) m1 (by omega) ?_
  have b3 := VM.short_refN 60 f.2
  have rg3 := VM.counts_ref.range 60 (by omega) f.2
  generalize VM.refN 60 f.2 = d3 at *
  obtain ⟨S, hS⟩ := Int.eq_ofNat_of_zero_le rg3.1
  rw [hS] at hq ⊢
  simp only [Int.toNat_natCast] at hq ⊢
  simp [zjd]
  have le := VM.rdMany_len VM.clOf S d3.2
  have ae := VM.short_many VM.short_cl S d3.2
  refine zajq (n := n3) (st := d3.2) (by omega) (by omega) (by omega) (by omega) (Heap.put_at _ _ _) (by rw [Heap.put_ne _ _ (by omega)]; exact m2) fun H4 n4 E o0 o1 o2 o3 o4 o5 => ?_
  generalize VM.rdMany VM.clOf S d3.2 = e at *
  refine zcm o1 (by omega) ?_
  generalize hY : Heap.put H4 (nx + 1) _ = Y
  have u4 : ∀ y, y ≠ nx + 1 → Y y = H4 y := fun y h => by rw [← hY, Heap.put_ne _ _ h]
  have u3 : ∀ y, y < n3 → y ≠ nx + 1 → y ≠ nx + 2 → Y y = H3 y := fun y h1 h2 h3 => by rw [u4 y h2, o5 y h1 h2 h3, Heap.put_ne _ _ h2]
  have u2 : ∀ y, y < n2 → y ≠ nx + 1 → y ≠ nx + 2 → Y y = H2 y := fun y h1 h2 h3 => by rw [u3 y (by omega) h2 h3, m7 y h1 h2 h3, Heap.put_ne _ _ h2]
  have u1 : ∀ y, y < n1 → y ≠ nx + 1 → y ≠ nx + 2 → Y y = H1 y := fun y h1 h2 h3 => by rw [u2 y (by omega) h2 h3, k7 y h1 h2 h3, Heap.put_ne _ _ h2]
  have u0 : ∀ y, y < nx + 3 → y ≠ nx + 1 → y ≠ nx + 2 → Y y = X y := fun y h1 h2 h3 => by rw [u1 y (by omega) h2 h3, g5 y h1 h2 h3]
  have yp : Y (nx + 1) = some (PRd (VM.rdNum e.2).2) := by rw [← hY, Heap.put_at]
  clear hY
  subst le
  refine hq Y n4 C W F E _ (by omega) yp (by rw [u4 _ (by omega)]; exact o2) ?_ ?_ ?_ ?_ (by rw [u0 nx (by omega) (by omega) (by omega)]; exact x0) fun y hy => by rw [u0 y (by omega) (by omega) (by omega)]; exact xk y hy
  · refine zbu.frzP (ss := ss) (k4.keep fun y hy => ?_) (by rw [lc]; exact k3.keep fun y hy => by have := k5 y hy; exact u2 y (by omega) (by omega) (by omega)) (fun y hy => by have := k5 y hy; omega) (fun y hy => by have := k6 y hy; omega)
    have := k6 y hy
    exact u2 y (by omega) (by omega) (by omega)
  · refine Slot.frzP (sz := 1) ?_ (fun y hy => by have := g4 y hy; omega) (fun x hx => by obtain ⟨w, _, rfl⟩ := List.mem_map.1 hx; rfl)
    rw [zacp, List.length_map, lw]
    exact g3.keep fun y hy => by have := g4 y hy; exact u1 y (by omega) (by omega) (by omega)
  · refine zx.frzP (ss := fs) (m4.keep fun y hy => ?_) (by rw [lf]; exact m3.keep fun y hy => by have := m5 y hy; exact u3 y (by omega) (by omega) (by omega)) (fun y hy => by have := m5 y hy; omega) (fun y hy => by have := m6 y hy; omega)
    have := m6 y hy
    exact u3 y (by omega) (by omega) (by omega)
  · refine Slot.frzP (sz := 6) ?_ (fun y hy => by have := o4 y hy; omega) (zfh _)
    rw [List.length_map]
    exact o3.keep fun y hy => by have := o4 y hy; exact u4 y (by omega)
theorem VM.agt_heap (cnt : Int → VM.St → Int × VM.St) (hc : VM.Counts cnt) (st : VM.St) : ((VM.agtOf cnt st).1.heap.length : Int) ≤ 60 := VM.list_len hc (by omega) _ _
theorem zaia (b : Str) (hb : b.length ≤ 4611686018427387904) : QC Try.prog 8 [.ro (bsR b)] (.tup [.agg (VM.parse b).1.avs, .int .i64 (VM.parse b).2]) := by
  refine QC.of' fun H nx => zwg _ H nx _ (zaef hb fun H' n' C W F E v r hr hn h1 h2 q1 q2 q3 q4 h0 kp => ?_)
  refine zahz (b := b) (by rw [hr]; exact VM.agt_words _ _) (by rw [hr]; have := VM.agt_heap VM.refN VM.counts_ref (b, 0); omega) hn h1 h2 ?_ h0 kp _ _ fun v' H2 n2 hf hk => ⟨?_, hk⟩
  · exact zav.cons (.same _) (zav.cons (.same _) (zav.cons q1 (zav.cons q2 (zav.cons q3 (zav.cons q4 (zav.cons (.same _) (zav.cons (.same _) (zav.cons (.same _) .nil))))))))
  · rw [hr, VM.answer_parse VM.counts_ref] at hf
    exact hf
end Go.Proofs.Ytpbnaaoilgohkaa
set_option maxRecDepth 8000
namespace Go.Proofs.Ytpbnaaoilgohkaa
open Go Go.RowKit
theorem zaph : eqsT 53 = true := by kernel_rfl
theorem zapg : eqsT 29 = true := by kernel_rfl
set_option maxRecDepth 20000 in
set_option maxHeartbeats 1000000 in
theorem zalz (p : Prg) (h1 : p.codes.length ≤ 4611686018427387904) (h2 : p.words.length ≤ 4611686018427387904) (h3 : ∀ c ∈ p.codes, c.ins.length ≤ 4611686018427387904) : QC Try.prog 36 [.agg p.avs, .agg p.avs] (.bool true) := by
  refine QC.of' fun H nx => ?_
  suffices main : ∀ Q : AV → Heap → Nat → Prop, (∀ H' n', Keep nx H' H → Q (.bool true) H' n') → za Try.prog 36 [.agg p.avs, .agg p.avs] H nx Q from main _ fun H' n' h => ⟨zzw, h⟩
  intro Q hQ
  refine zpa _ _ H nx _ ?_
  have m : nx ≠ nx + 1 := by omega
  simp [zjl, Prg.avs, m]
  generalize hX : Heap.put _ (nx + 1) _ = X
  have x0 : X nx = some (.row 2 [.ro (p.codes.map Cod.avs), .ro (p.words.map fun w => [.str w])]) := by rw [← hX, Heap.put_ne _ _ m, Heap.put_at]
  have x1 : X (nx + 1) = some (.row 2 [.ro (p.codes.map Cod.avs), .ro (p.words.map fun w => [.str w])]) := by rw [← hX, Heap.put_at]
  have xk : Keep nx X H := fun g hg => by rw [← hX, Heap.put_ne _ _ (by omega), Heap.put_ne _ _ (by omega)]
  refine LP.mk (fun k xs H' n' => ∃ i : Nat, xs = [.ptr nx 0, .ptr (nx + 1) 0, .int .i64 p.words.length, .int .i64 i] ∧ i ≤ p.words.length ∧ k = p.words.length - i ∧ X = H' ∧ nx + 2 ≤ n') p.words.length ⟨0, rfl, by omega, by omega, rfl, by omega⟩ ?_
  rintro k xs H' n' ⟨i, rfl, hi, rfl, rfl, hn⟩
  by_cases hlt : i < p.words.length
  · have hadd : IntKind.i64.wrap ((i : Int) + 1) = ((i + 1 : Nat) : Int) := by rw [i64w (by omega)]; rfl
    simp [zen, hlt, x0, x1, hadd]
    exact ⟨p.words.length - (i + 1), by omega, i + 1, rfl, by omega, rfl, hn⟩
  have hge : ¬ (i : Int) < p.words.length := by omega
  simp [zen, hge, x0]
  clear hlt hge hi i
  refine LP.mk (fun k xs H' n' => ∃ i : Nat, xs = [.ptr (nx + 1) 0, .ro (p.codes.map Cod.avs), .int .i64 p.codes.length, .int .i64 i] ∧ i ≤ p.codes.length ∧ k = p.codes.length - i ∧ (∀ g, g < nx + 2 → H' g = X g) ∧ nx + 2 ≤ n') p.codes.length ⟨0, rfl, by omega, by omega, fun _ _ => rfl, hn⟩ ?_
  rintro k xs H' n' ⟨i, rfl, hi, rfl, hk, hn⟩
  by_cases hlt : i < p.codes.length
  · have hadd : IntKind.i64.wrap ((i : Int) + 1) = ((i + 1 : Nat) : Int) := by rw [i64w (by omega)]; rfl
    have y1 : H' (nx + 1) = some (.row 2 [.ro (p.codes.map Cod.avs), .ro (p.words.map fun w => [.str w])]) := by rw [hk _ (by omega)]; exact x1
    have ha : p.codes[i]? = some p.codes[i] := List.getElem?_eq_getElem hlt
    have hci := h3 p.codes[i] (List.getElem_mem hlt)
    obtain ⟨_, ha'⟩ := List.getElem?_eq_some_iff.1 ha
    generalize hcc : p.codes[i] = c at *
    clear ha
    have ne_0 : nx ≠ nx + 1 ∧ nx + 1 ≠ nx ∧ nx ≠ n' ∧ n' ≠ nx ∧ nx ≠ n' + 1 ∧ n' + 1 ≠ nx ∧ nx + 1 ≠ n' ∧ n' ≠ nx + 1 ∧ nx + 1 ≠ n' + 1 ∧ n' + 1 ≠ nx + 1 := ⟨by omega, by omega, by omega, by omega, by omega, by omega, by omega, by omega, by omega, by omega⟩
    simp [zeo, hlt, y1, hcc, Cod.avs, ne_0]
    generalize hY : Heap.put _ (n' + 1) _ = Y
    have z0 : Y n' = some (.row 3 [.int .i64 c.params, .int .i64 c.vars, .ro (c.ins.map Ins.avs)]) := by rw [← hY, Heap.put_ne _ _ (by omega), Heap.put_at]
    have z1 : Y (n' + 1) = some (.row 3 [.int .i64 c.params, .int .i64 c.vars, .ro (c.ins.map Ins.avs)]) := by rw [← hY, Heap.put_at]
    have zk : ∀ g, g < nx + 2 → Y g = X g := fun g hg => by rw [← hY, Heap.put_ne _ _ (by omega), Heap.put_ne _ _ (by omega)]; exact hk g hg
    suffices key : ∀ K : J3, (∀ H2 n2, (∀ g, g < nx + 2 → H2 g = X g) → nx + 2 ≤ n2 → K [.ptr (nx + 1) 0, .ro (p.codes.map Cod.avs), .int .i64 p.codes.length, .int .i64 ((i + 1 : Nat) : Int)] H2 n2) →
        LP (zcu Q K) [.ptr (nx + 1) 0, .ptr n' 0, .ptr (n' + 1) 0, .ro (p.codes.map Cod.avs), .int .i64 p.codes.length, .int .i64 i, .int .i64 c.ins.length, .int .i64 0] Y (n' + 2) by
      refine key _ fun H2 n2 h h' => ⟨p.codes.length - (i + 1), by omega, i + 1, rfl, by omega, rfl, h, h'⟩
    intro K hK
    refine LP.mk (fun k xs H' n2 => ∃ j : Nat, xs = [.ptr (nx + 1) 0, .ptr n' 0, .ptr (n' + 1) 0, .ro (p.codes.map Cod.avs), .int .i64 p.codes.length, .int .i64 i, .int .i64 c.ins.length, .int .i64 j] ∧ j ≤ c.ins.length ∧ k = c.ins.length - j ∧ Y = H' ∧ n' + 2 ≤ n2) c.ins.length ⟨0, rfl, by omega, by omega, rfl, by omega⟩ ?_
    rintro k xs H2 n2 ⟨j, rfl, hj, rfl, rfl, hn2⟩
    by_cases hjl : j < c.ins.length
    · have hadj : IntKind.i64.wrap ((j : Int) + 1) = ((j + 1 : Nat) : Int) := by rw [i64w (by omega)]; rfl
      generalize hii : c.ins[j] = ii
      simp [zcu, hjl, z0, z1, hii, Ins.avs, hadj, zaph]
      exact ⟨c.ins.length - (j + 1), by omega, j + 1, rfl, by omega, rfl, hn2⟩
    · have hjg : ¬ (j : Int) < c.ins.length := by omega
      simp [zcu, hjg, hadd]
      exact hK _ _ zk (by omega)
  · have hge : ¬ (i : Int) < p.codes.length := by omega
    simp [zeo, hge]
    exact hQ _ _ fun g hg => (hk g (by omega)).trans (xk g hg)
set_option maxRecDepth 20000 in
set_option maxHeartbeats 1000000 in
theorem zaea (a : Agt) (h1 : a.prog.codes.length ≤ 4611686018427387904) (h2 : a.prog.words.length ≤ 4611686018427387904) (h3 : ∀ c ∈ a.prog.codes, c.ins.length ≤ 4611686018427387904) (h4 : a.frames.length ≤ 4611686018427387904) (h5 : a.heap.length ≤ 4611686018427387904)
    (h6 : ∀ f ∈ a.frames, f.vars.length ≤ 4611686018427387904 ∧ f.stack.length ≤ 4611686018427387904) : QC Try.prog 9 [.agg a.avs, .agg a.avs] (.bool true) := by
  refine QC.of' fun H nx => ?_
  suffices main : ∀ Q : AV → Heap → Nat → Prop, (∀ H' n', Keep nx H' H → Q (.bool true) H' n') → za Try.prog 9 [.agg a.avs, .agg a.avs] H nx Q from main _ fun H' n' h => ⟨zzw, h⟩
  intro Q hQ
  refine zso _ _ H nx _ ?_
  have m : nx ≠ nx + 1 := by omega
  simp [zlg, Agt.avs, m, zapg]
  generalize hX : Heap.put _ (nx + 1) _ = X
  have x0 : X nx = some (.row 9 a.avs) := by rw [← hX, Heap.put_ne _ _ m, Heap.put_at]; rfl
  have x1 : X (nx + 1) = some (.row 9 a.avs) := by rw [← hX, Heap.put_at]; rfl
  have xk : Keep nx X H := fun g hg => by rw [← hX, Heap.put_ne _ _ (by omega), Heap.put_ne _ _ (by omega)]
  clear hX
  refine QC.call (zalz a.prog h1 h2 h3) ?_
  have e4 : a.avs[4]'(by simp [Agt.avs]) = .ro (a.frames.map Frm.avs) := rfl
  have e5 : a.avs[5]'(by simp [Agt.avs]) = .ro (a.heap.map Cl.avs) := rfl
  have al : a.avs.length = 9 := rfl
  have sc := zama a.heap a.heap h5
  rw [decide_eq_true rfl] at sc
  simp [zlh, x0, x1, e4, e5, al]
  refine QC.call sc ?_
  simp [zli, x0, x1, e4, al]
  refine LP.mk (fun k xs H' n' => ∃ i : Nat, xs = [.ptr (nx + 1) 0, .ro (a.frames.map Frm.avs), .int .i64 a.frames.length, .int .i64 i] ∧ i ≤ a.frames.length ∧ k = a.frames.length - i ∧ (∀ g, g < nx + 2 → H' g = X g) ∧ nx + 2 ≤ n') a.frames.length ⟨0, rfl, by omega, by omega, fun _ _ => rfl, by omega⟩ ?_
  rintro k xs H' n' ⟨i, rfl, hi, rfl, hk, hn⟩
  by_cases hlt : i < a.frames.length
  · have hadd : IntKind.i64.wrap ((i : Int) + 1) = ((i + 1 : Nat) : Int) := by rw [i64w (by omega)]; rfl
    have y1 : H' (nx + 1) = some (.row 9 a.avs) := by rw [hk _ (by omega)]; exact x1
    have hci := h6 a.frames[i] (List.getElem_mem hlt)
    generalize hcc : a.frames[i] = c at *
    have sv := zady c.vars c.vars hci.1
    have ss := zady c.stack c.stack hci.2
    rw [decide_eq_true rfl] at sv ss
    have ne_1 : nx ≠ nx + 1 ∧ nx + 1 ≠ nx ∧ nx ≠ n' ∧ n' ≠ nx ∧ nx ≠ n' + 1 ∧ n' + 1 ≠ nx ∧ nx + 1 ≠ n' ∧ n' ≠ nx + 1 ∧ nx + 1 ≠ n' + 1 ∧ n' + 1 ≠ nx + 1 := ⟨by omega, by omega, by omega, by omega, by omega, by omega, by omega, by omega, by omega, by omega⟩
    simp [zfr, hlt, y1, e4, al, hcc, Frm.avs, ne_1]
    generalize hY : Heap.put _ (n' + 1) _ = Y
    have z0 : Y n' = some (.row 4 [.int .i64 c.fn, .int .i64 c.at_, .ro (c.vars.map Val.avs), .ro (c.stack.map Val.avs)]) := by rw [← hY, Heap.put_ne _ _ (by omega), Heap.put_at]
    have z1 : Y (n' + 1) = some (.row 4 [.int .i64 c.fn, .int .i64 c.at_, .ro (c.vars.map Val.avs), .ro (c.stack.map Val.avs)]) := by rw [← hY, Heap.put_at]
    refine QC.call sv ?_
    simp [zlj, z0, z1]
    refine QC.call ss ?_
    simp [zlk, hadd]
    refine ⟨a.frames.length - (i + 1), by omega, i + 1, rfl, by omega, rfl, fun g hg => ?_, by omega⟩
    rw [← hY, Heap.put_ne _ _ (by omega), Heap.put_ne _ _ (by omega)]; exact hk g hg
  · have hge : ¬ (i : Int) < a.frames.length := by omega
    simp [zfr, hge]
    exact hQ _ _ fun g hg => (hk g (by omega)).trans (xk g hg)
end Go.Proofs.Ytpbnaaoilgohkaa
set_option maxRecDepth 8000
namespace Go.Proofs.Ytpbnaaoilgohkaa
open Go Go.RowKit
theorem zamg (b : Str) : QC Try.prog 9 [.agg (VM.parse b).1.avs, .agg (VM.parse b).1.avs] (.bool true) := by
  by_cases he : (VM.parse b).2 = 0
  case neg =>
    rw [VM.parse_err he]
    exact zaea VM.agt0 (by decide) (by decide) (fun c hc => by cases hc) (by decide) (by decide) (fun g hg => by cases hg)
  have hp : VM.parse b = ((VM.parse b).1, 0) := by rw [← he]
  obtain ⟨h1, _, _⟩ := VM.parse_ok hp
  obtain ⟨fs, f, l⟩ := VM.agent_gone h1
  generalize (VM.parse b).1 = a at *
  have po := VM.prg_ok l.prog
  have fl : a.frames.length ≤ 12 := by rw [l.fr]; simp; have := l.flen; omega
  have hl := l.hlen
  have hr := l.room
  exact zaea a (by have := po.codes; omega) (by have := po.words; omega) (fun c hc => by have := (po.code c hc).1; omega) (by omega) (by omega) (fun g hg => by have := VM.gone_stk l g hg; omega)
set_option maxRecDepth 20000 in
set_option maxHeartbeats 2000000 in
theorem zahu {b : Str} {H : Heap} {nx : Nat} {Q : QT} (hb : b.length ≤ 4611686018427387904) (hq : ∀ H' n', (∀ y, y < nx → H' y = H y) → Q (.bool true) H' n') :
    za Try.prog 7 [.ro (bsR b)] H nx (zbn (.ro (bsR b)) Q) := by
  refine QC.call (zakg b hb) ?_
  have ht : (VM.parse b).1.avs.take 9 = (VM.parse b).1.avs ∧ (VM.parse b).1.avs.length = 9 ∧ (VM.parse b).1.avs.drop 9 = [] := ⟨rfl, rfl, rfl⟩
  have so : ∀ y ∈ (VM.parse b).1.avs, y.one = true := fun y hy => by
    simp [Agt.avs] at hy
    rcases hy with rfl | rfl | rfl | rfl | rfl | rfl | rfl | rfl | rfl <;> rfl
  have hsu : (AV.agg (VM.parse b).1.avs).sure = true := by simp [Agt.avs]
  simp [zbn, ht, hsu]
  refine ⟨so, ?_⟩
  refine QC.call (zaia b hb) ?_
  have n1 : ¬ nx = nx + 1 := by omega
  simp [zkl, ht, hsu, n1]
  refine ⟨so, ?_⟩
  refine QC.call (zamg b) ?_
  simp [zkm]
  exact hq _ _ fun y hy => by rw [Heap.put_ne _ _ (by omega), Heap.put_ne _ _ (by omega)]
set_option maxRecDepth 20000 in
set_option maxHeartbeats 2000000 in
theorem zado (a : Agt) (b : Str) (ha : a.prog.ok) (hhl : a.heap.length ≤ 4611686018427387904) (hb : b.length ≤ 4611686018427387904) : QC Try.prog 3 [.agg a.avs, .ro (bsR b)] (.bool true) := by
  refine QC.of' fun H nx => ?_
  suffices main : ∀ Q : AV → Heap → Nat → Prop, (∀ H' n', Keep nx H' H → Q (.bool true) H' n') → za Try.prog 3 [.agg a.avs, .ro (bsR b)] H nx Q from main _ fun H' n' h => ⟨zzw, h⟩
  intro Q hQ
  refine zpx _ _ H nx _ ?_
  have ht : a.avs.take 9 = a.avs ∧ a.avs.length = 9 ∧ a.avs.drop 9 = [] := ⟨rfl, rfl, rfl⟩
  have hsu : (AV.agg a.avs).sure = true := by simp [Agt.avs]
  unfold zki
  refine ⟨hsu, ?_⟩
  have hX : (H.put nx (some (.row 9 a.avs))) nx = some (.row 9 a.avs) := Heap.put_at _ _ _
  have xk : Keep nx (H.put nx (some (.row 9 a.avs))) H := fun g hg => by rw [Heap.put_ne _ _ (by omega)]
  unfold PUTH
  simp [ht, hsu]
  refine zj.of_qc (zadj a true ha hhl) (.int _ _) ?_
  have fin : ∀ {n' : Nat}, nx + 1 ≤ n' → za Try.prog 7 [.ro (bsR b)] (H.put nx (some (.row 9 a.avs))) n' (zbn (.ro (bsR b)) Q) := fun {n'} h1 => zahu hb fun H2 n2 hk => hQ _ _ fun y hy => (hk y (by omega)).trans (xk y hy)
  by_cases hg : VM.agent a true = 0
  case neg =>
    simp [zfc, hg]
    exact fin (Nat.le_refl _)
  obtain ⟨fs, f, l⟩ := VM.agent_gone hg
  simp [zfc, hg, hX, ht, hsu]
  refine zj.of_qc (zact l) (zgu (zmh _)) ?_
  unfold zkj
  refine zof ?_
  simp [hX, ht, hsu]
  refine zj.of_qc (zxl l) (zgu (zmh _)) ?_
  unfold zkk
  refine zof ?_
  simp
  exact fin (Nat.le_refl _)
end Go.Proofs.Ytpbnaaoilgohkaa
