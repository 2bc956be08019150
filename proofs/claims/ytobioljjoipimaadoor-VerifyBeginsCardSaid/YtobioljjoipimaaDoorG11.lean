/- Frames: what the program's function says is wrong with one. Agents: what the program's function says is wrong with one. The document's machine: a frame in the last one's place. The document's machine: Answer, New. The document's machine: what a step gives back. The document's machine: what a step does, in small. The document's machine: where a step's instruction begins. The document's machine: instructions. The document's machine: instructions. The document's machine: instructions on cells. The document's machine: other instructions. The document's machine: `with`, where the order is drawn. The document's machine: setting out, saying, calling, coming back. Rows of one's own, by value from now on: cell by cell. The document's machine: calling. The document's machine: coming back. The document's machine: each instruction does what the plain machine does. The document's machine: a step. The laws of chapter 6: who begins is right; what is right never gets stuck. The library's laid variables, where a row lists five of them: three tables, two errors. -/
import Derived.Test.YtobioljjoipimaaDoorG10
import Derived.Test.YtobioljjoipimaaDoorG8
import Derived.Test.YtobioljjoipimaaDoorG7
import Derived.Test.YtobioljjoipimaaDoorG9
import Derived.Test.YtobioljjoipimaaDoorG1
import Derived.Stop.LaidErr
set_option linter.unusedSimpArgs false
set_option linter.unusedVariables false
set_option maxRecDepth 8000
namespace Go.Proofs.YtobioljjoipimaaDoor
open Go Go.RowKit
set_option maxHeartbeats 2000000 in
theorem zoa (a : Agt) (f : Frm) (h' : Int) (H H0 : Heap) (nx n0 g : Nat) (hg : H g = some (.row 9 a.avs)) (hgn : g < nx) (hn0 : n0 ≤ nx) (hK : Keep n0 H H0) (hv : f.vars.length ≤ 8) (hb : h' ≤ 16) :
    zbb (fun v H' _ => Frz H' n0 v (.int .i64 (zbr a f.vars f.stack h')) ∧ Keep n0 H' H0) [.ptr g 0, .rop f.avs 0, .int .i64 h'] H nx := by
  by_cases h1 : h' < 0 ∨ (f.stack.length : Int) ≠ h'
  · have e : zbr a f.vars f.stack h' = 10 := by unfold zbr; rw [if_pos h1]
    rw [e]
    by_cases h2 : h' < 0
    · simp [zbb, h2, hK]
    · have h3 : ¬ (f.stack.length : Int) = h' := by omega
      simp [zbb, h2, h3, hK, Frm.avs]
  have e : zbr a f.vars f.stack h' = VM.firstErr (fun v => VM.wrong v a.heap.length) (f.vars ++ f.stack) := by unfold zbr; rw [if_neg h1]
  rw [e]
  have h2 : ¬ h' < 0 := by omega
  have h3 : (f.stack.length : Int) = h' := by omega
  have hne : g ≠ nx := by omega
  simp [zbb, h2, h3, Frm.avs]
  refine LP.mk (fun m xs H' nx' => ∃ (t : Nat) (l : List Val), t ≤ 2 ∧ m = 2 - t ∧ xs = [.ptr g 0, .slc nx 0 2, .int .i64 2, .int .i64 t] ∧ H' nx = some (.row 1 [.ro (f.vars.map Val.avs), .ro (f.stack.map Val.avs)]) ∧ H' g = some (.row 9 a.avs) ∧ Keep n0 H' H0 ∧ nx < nx' ∧
    l = (if t = 0 then f.vars ++ f.stack else if t = 1 then f.stack else []) ∧ VM.firstErr (fun v => VM.wrong v a.heap.length) (f.vars ++ f.stack) = VM.firstErr (fun v => VM.wrong v a.heap.length) l) 2
    ⟨0, _, by omega, by omega, by simp, by simp, by simp [hne, hg], by rw [Keep.put (by omega)]; exact hK, by omega, rfl, rfl⟩ ?_
  rintro m xs H1 n1 ⟨t, l, ht, rfl, rfl, hb1, hg1, hK1, hn1, hl, hfe⟩
  by_cases ht2 : t = 2
  · subst ht2
    simp at hl
    subst hl
    simp [zed, hK1]
    rw [hfe]; rfl
  have hone : ∃ (cur rest : List Val), (([.ro (f.vars.map Val.avs), .ro (f.stack.map Val.avs)] : List AV)[t]? = some (.ro (cur.map Val.avs))) ∧ l = cur ++ rest ∧ cur.length ≤ 16 ∧ rest = (if t + 1 = 0 then f.vars ++ f.stack else if t + 1 = 1 then f.stack else []) := by
    have : t = 0 ∨ t = 1 := by omega
    rcases this with rfl | rfl
    · exact ⟨f.vars, f.stack, rfl, by simpa using hl, by omega, by simp⟩
    · exact ⟨f.stack, [], rfl, by simpa using hl, by omega, by simp⟩
  obtain ⟨cur, rest, hcur, hlr, hcl, hrest⟩ := hone
  have hlt : t < 2 := by omega
  obtain ⟨_, hcur'⟩ := List.getElem?_eq_some_iff.1 hcur
  have hlt' : (t : Int) < 2 := by omega
  simp [zed, hlt, hlt', Int.not_le.2 hlt', hb1, hcur']
  refine LP.mk (fun m xs H' nx' => ∃ (j : Nat), j ≤ cur.length ∧ m = cur.length - j ∧ xs = [.ptr g 0, .slc nx 0 2, .int .i64 2, .int .i64 t, .ro (cur.map Val.avs), .int .i64 cur.length, .int .i64 j] ∧ H' nx = some (.row 1 [.ro (f.vars.map Val.avs), .ro (f.stack.map Val.avs)]) ∧ H' g = some (.row 9 a.avs) ∧ Keep n0 H' H0 ∧ nx < nx' ∧
    VM.firstErr (fun v => VM.wrong v a.heap.length) (f.vars ++ f.stack) = VM.firstErr (fun v => VM.wrong v a.heap.length) (cur.drop j ++ rest)) cur.length
    ⟨0, by omega, by omega, by simp, hb1, hg1, hK1, hn1, by rw [hfe, hlr]; rfl⟩ ?_
  rintro m xs H2 n2 ⟨j, hj, rfl, rfl, hb2, hg2, hK2, hn2, hfj⟩
  by_cases hjl : j < cur.length
  · obtain ⟨v, hv⟩ : ∃ v, cur[j]? = some v := ⟨_, List.getElem?_eq_getElem hjl⟩
    obtain ⟨_, hv'⟩ := List.getElem?_eq_some_iff.1 hv
    have m1 : g ≠ n2 := by omega
    have m2 : nx ≠ n2 := by omega
    simp [zee, hjl, hv', Val.avs, hg2, m1, Agt.avs]
    refine zaa.of_qc (zmy v _) (.int _ _) ?_
    simp [zhq]
    rw [List.drop_eq_getElem_cons hjl, hv', List.cons_append] at hfj
    simp only [VM.firstErr] at hfj
    have hK3 : Keep n0 (H2.put n2 (some (.row 3 [.int .i64 v.kind, .int .i64 v.n, .str v.text]))) H0 := by rw [Keep.put (by omega)]; exact hK2
    refine ⟨fun hz => ⟨?_, hK3⟩, fun hz => ?_⟩
    · rw [if_pos hz] at hfj; exact hfj
    · rw [if_neg (by simpa using hz)] at hfj
      rw [i64w (by omega)]
      exact ⟨cur.length - (j + 1), by omega, j + 1, by omega, rfl, rfl, by rw [if_neg m2]; exact hb2, by rw [if_neg m1]; exact hg2, hK3, by omega, hfj⟩
  obtain rfl : j = cur.length := by omega
  simp [zee]
  rw [i64w (by omega)]
  exact ⟨2 - (t + 1), by omega, t + 1, by omega, rfl, rfl, hb2, hg2, hK2, by omega, by rw [← hrest]; simpa using hfj⟩
set_option maxHeartbeats 4000000 in
theorem zyk (a : Agt) (k : Nat) (away : Bool) (H : Heap) (nx g : Nat) (hg : H g = some (.row 9 a.avs)) (hgn : g < nx) (hk : k < a.frames.length) (hl : a.frames.length ≤ 12) (hp : VM.program a.prog = 0) :
    zb Tryd.prog 40 [.ptr g 0, .int .i64 k, .bool away] H nx fun v H' nx' => Frz H' nx v (.int .i64 (VM.frame a k away)) ∧ Keep nx H' H := by
  refine zlb _ _ _ H nx _ ?_
  obtain ⟨f, hf⟩ : ∃ f, a.frames[k]? = some f := ⟨_, List.getElem?_eq_getElem hk⟩
  obtain ⟨_, hf'⟩ := List.getElem?_eq_some_iff.1 hf
  obtain ⟨fn, at_, vs, st⟩ := f
  by_cases h1 : 0 ≤ fn ∧ fn < a.prog.codes.length
  case neg =>
    have e : VM.frame a k away = 3 := by
      unfold VM.frame
      rw [hf]
      have : (if 0 ≤ fn then a.prog.codes[fn.toNat]? else none) = none := by
        split
        · exact List.getElem?_eq_none (by omega)
        · rfl
      simp only [this]
    rw [e]
    by_cases h0 : fn < 0
    · simp [zah, hg, Agt.avs, hk, hf', Frm.avs, h0]
    · have : (a.prog.codes.length : Int) ≤ fn := by omega
      simp [zah, hg, Agt.avs, hk, hf', Frm.avs, h0, this]
  obtain ⟨h10, h11⟩ := h1
  obtain ⟨n, rfl⟩ : ∃ n : Nat, fn = n := ⟨fn.toNat, by omega⟩
  have hnl : n < a.prog.codes.length := by omega
  obtain ⟨c, hc⟩ : ∃ c, a.prog.codes[n]? = some c := ⟨_, List.getElem?_eq_getElem hnl⟩
  obtain ⟨_, hc'⟩ := List.getElem?_eq_some_iff.1 hc
  obtain ⟨hcr, hcalm, hch⟩ := (zcd hp).1 c (List.mem_of_getElem? hc)
  have hcr' : ¬ (c.params < 0 ∨ 4 < c.params ∨ c.vars < c.params ∨ 8 < c.vars ∨ c.ins.length < 1 ∨ 200 < c.ins.length) := by
    unfold VM.codeRange at hcr
    rwa [decide_eq_false_iff_not] at hcr
  by_cases h2 : (0 ≤ at_ ∧ at_ < c.ins.length) ∧ (vs.length : Int) = c.vars
  case neg =>
    have e : VM.frame a k away = 3 := by
      unfold VM.frame
      rw [hf]
      simp only [Int.toNat_natCast]
      rw [if_pos (by omega), hc]
      simp only
      by_cases hat : 0 ≤ at_ ∧ at_ < c.ins.length
      · rw [if_pos hat.1, List.getElem?_eq_getElem (by omega)]
        simp only
        rw [if_pos (by omega)]
      · have : (if 0 ≤ at_ then c.ins[at_.toNat]? else none) = none := by
          split
          · exact List.getElem?_eq_none (by omega)
          · rfl
        simp only [this]
    rw [e]
    by_cases h0 : at_ < 0
    · simp [zah, hg, Agt.avs, hk, hf', Frm.avs, Int.not_le.2 h11, hnl, hc', h0, Cod.avs]
    · by_cases h3 : (c.ins.length : Int) ≤ at_
      · simp [zah, hg, Agt.avs, hk, hf', Frm.avs, Int.not_le.2 h11, hnl, hc', h0, h3, Cod.avs]
      · have h4 : ¬ (vs.length : Int) = c.vars := by omega
        simp [zah, hg, Agt.avs, hk, hf', Frm.avs, Int.not_le.2 h11, hnl, hc', h0, h3, h4, Cod.avs]
  obtain ⟨⟨h20, h21⟩, h22⟩ := h2
  obtain ⟨m, rfl⟩ : ∃ m : Nat, at_ = m := ⟨at_.toNat, by omega⟩
  have hml : m < c.ins.length := by omega
  obtain ⟨hhl, hhb⟩ := zik hcalm hch
  obtain ⟨h, hh⟩ : ∃ h, (VM.heights c.ins).1[m]? = some h := ⟨_, List.getElem?_eq_getElem (by omega)⟩
  obtain ⟨hm1, hh'⟩ := List.getElem?_eq_some_iff.1 hh
  have hhb' := hhb h (List.mem_of_getElem? hh)
  have hfe := znd (away := away) hf hc hml h22 rfl hh
  have hnm : ¬ (c.ins.length ≤ m) := by omega
  have hnn : ¬ (a.prog.codes.length ≤ n) := by omega
  simp [zah, hg, Agt.avs, hk, hf', Frm.avs, hnl, hc', h22, Cod.avs, hml, hnm, hnn]
  refine ⟨fun h => by omega, fun h => by omega, QC.call (zny c (by omega) hcalm) ?_⟩
  simp [zhp, hm1, hh']
  refine JN.same ?_
  have w1 : IntKind.i64.wrap ((a.frames.length : Int) - 1) = (a.frames.length : Int) - 1 := i64w (by omega)
  simp [zhs, hg, Agt.avs, w1]
  have key : zhr (fun v H' nx' => Frz H' nx v (.int .i64 (VM.frame a k away)) ∧ Keep nx H' H) [.ptr g 0, .int .i64 k, .rop [.int .i64 n, .int .i64 m, .ro (vs.map Val.avs), .ro (st.map Val.avs)] 0,
      .rop [.int .i64 c.params, .int .i64 c.vars, .ro (c.ins.map Ins.avs)] 0, .ro ((VM.heights c.ins).1.map fun n => [.int .i64 n]), .int .i64 h, .bool (!decide (k + 1 = a.frames.length) || away)] H nx := by
    refine JN.same ?_
    have hvl : vs.length ≤ 8 := by omega
    cases hw : (!decide (k + 1 = a.frames.length) || away)
    · rw [hw] at hfe
      simp only [Bool.false_and, Bool.false_eq_true, if_false] at hfe
      rw [hfe]
      simp [zch]
      exact zoa a ⟨n, m, vs, st⟩ h H H nx nx g hg hgn (Nat.le_refl _) (by simp) hvl hhb'.2
    rw [hw] at hfe
    simp only [Bool.true_and, if_true] at hfe
    cases m with
    | zero =>
      simp [zch]
      rw [hfe]; simp
    | succ m =>
    have h00 : ¬ ((m : Int) + 1 = 0) := by omega
    have w2 : IntKind.i64.wrap (h - 1) = h - 1 := i64w (by omega)
    have w3 : IntKind.i64.wrap (m : Int) = m := i64w (by omega)
    have hml' : m < c.ins.length := by omega
    obtain ⟨i, hi⟩ : ∃ i, c.ins[m]? = some i := ⟨_, List.getElem?_eq_getElem hml'⟩
    obtain ⟨_, hi'⟩ := List.getElem?_eq_some_iff.1 hi
    obtain ⟨q, hq⟩ : ∃ q, (VM.heights c.ins).1[m]? = some q := ⟨_, List.getElem?_eq_getElem (by omega)⟩
    obtain ⟨hqm, hq'⟩ := List.getElem?_eq_some_iff.1 hq
    simp [zch, h00, w2]
    refine JN.same ?_
    simp [zht, w3, hml', hi', Ins.avs]
    have hn1 : g ≠ nx := by omega
    have hg2 : (H.put nx (some (.row 3 [.int .i64 i.op, .int .i64 i.a, .int .i64 i.b]))) g = some (.row 9 a.avs) := by rw [Heap.put_ne _ _ hn1]; exact hg
    have hi2 : (H.put nx (some (.row 3 [.int .i64 i.op, .int .i64 i.a, .int .i64 i.b]))) nx = some (.row 3 [.int .i64 i.op, .int .i64 i.a, .int .i64 i.b]) := Heap.put_at _ _ _
    have hK2 : Keep nx (H.put nx (some (.row 3 [.int .i64 i.op, .int .i64 i.a, .int .i64 i.b]))) H := by simp
    generalize (H.put nx (some (.row 3 [.int .i64 i.op, .int .i64 i.a, .int .i64 i.b]))) = H2 at *
    have hfin : zgw a k c (VM.heights c.ins).1 (m + 1) = false → zbb (fun v H' nx' => Frz H' nx v (.int .i64 (VM.frame a k away)) ∧ Keep nx H' H) [.ptr g 0, .rop [.int .i64 n, .int .i64 (m + 1), .ro (vs.map Val.avs), .ro (st.map Val.avs)] 0, .int .i64 (h - 1)] H2 (nx + 1) := by
      intro hb
      have : VM.frame a k away = zbr a vs st (h - 1) := by rw [hfe, if_neg (by simp [hb]; omega)]
      rw [this]
      exact zoa a ⟨n, m + 1, vs, st⟩ (h - 1) H2 H (nx + 1) nx g hg2 (by omega) (by omega) hK2 hvl (by omega)
    have hbadv : zgw a k c (VM.heights c.ins).1 (m + 1) = true → VM.frame a k away = 10 := fun hb => by rw [hfe, if_pos (by simp [hb])]
    have hbp : zgw a k c (VM.heights c.ins).1 (m + 1) = ((!decide (k + 1 = a.frames.length) && (decide (i.op ≠ 17) || decide (i.a ≠ ((a.frames[k + 1]?).map (·.fn)).getD 0))) || (decide (k + 1 = a.frames.length) && decide (i.op ≠ 13)) || decide (q < 0)) := by
      unfold zgw
      simp only [Nat.add_sub_cancel, List.getD_eq_getElem?_getD, hi, hq, Option.getD_some]
    rw [hbp] at hfin hbadv
    by_cases hlast : k + 1 = a.frames.length
    · have l1 : ¬ ((k : Int) < (a.frames.length : Int) - 1) := by omega
      have l2 : (k : Int) = (a.frames.length : Int) - 1 := by omega
      simp [hlast] at hfin hbadv
      simp [zef, hg2, hi2, Agt.avs, w1, l2, w3, hqm, hq']
      refine ⟨fun h13 => ⟨hbadv (.inl h13), hK2⟩, fun h13 => ⟨fun hq0 => ⟨hbadv (.inr hq0), hK2⟩, fun hq0 => hfin h13 hq0⟩⟩
    · have l1 : (k : Int) < (a.frames.length : Int) - 1 := by omega
      have l2 : ¬ ((k : Int) = (a.frames.length : Int) - 1) := by omega
      have hk2 : k + 1 < a.frames.length := by omega
      obtain ⟨f2, hf2⟩ : ∃ f2, a.frames[k + 1]? = some f2 := ⟨_, List.getElem?_eq_getElem hk2⟩
      obtain ⟨_, hf2'⟩ := List.getElem?_eq_some_iff.1 hf2
      rw [hf2] at hfin hbadv
      simp [hlast] at hfin hbadv
      have w4 : IntKind.i64.wrap ((k : Int) + 1) = (k : Int) + 1 := i64w (by omega)
      have hk2i : (k : Int) + 1 < a.frames.length := by omega
      have hk0 : (0 : Int) ≤ (k : Int) + 1 := by omega
      have htn : ((k : Int) + 1).toNat = k + 1 := by omega
      simp [zef, hg2, hi2, Agt.avs, w1, l1, l2, w3, w4, hqm, hq', hk2i, hk0, htn, hk2, hf2', Frm.avs]
      refine ⟨fun h17 => ⟨hbadv (.inl (.inl h17)), hK2⟩, fun h17 => ⟨fun ha => ⟨hbadv (.inl (.inr ha)), hK2⟩, fun ha => ⟨fun hq0 => ⟨hbadv (.inr hq0), hK2⟩, fun hq0 => hfin h17 ha hq0⟩⟩⟩
  refine ⟨fun hlt => ?_, fun hge => ?_⟩
  · have : (!decide (k + 1 = a.frames.length) || away) = true := by simp; left; omega
    rw [this] at key; exact key
  · have : (!decide (k + 1 = a.frames.length) || away) = away := by simp; intro; omega
    rw [this] at key; exact key
end Go.Proofs.YtobioljjoipimaaDoor
set_option maxRecDepth 8000
namespace Go.Proofs.YtobioljjoipimaaDoor
open Go Go.RowKit
set_option maxHeartbeats 4000000 in
theorem zrs (a : Agt) (away : Bool) (ha : a.prog.ok) : QC Tryd.prog 15 [.agg a.avs, .bool away] (.int .i64 (VM.agent a away)) := by
  refine QC.of' fun H nx => zlc _ _ H nx _ ?_
  simp [zhu, Agt.avs]
  refine QC.call (znt a.prog ha) ?_
  have hg : (H.put nx (some (.row 9 [.int .i64 a.id, .int .i64 a.trip, .ro (a.prog.codes.map Cod.avs), .ro (a.prog.words.map fun w => [.str w]), .ro (a.frames.map Frm.avs), .ro (a.heap.map Cl.avs), .int .i64 a.permit.fuel, .int .i64 a.permit.room, .int .i64 a.permit.hops]))) nx = some (.row 9 a.avs) := Heap.put_at _ _ _
  have hK : Keep nx (H.put nx (some (.row 9 [.int .i64 a.id, .int .i64 a.trip, .ro (a.prog.codes.map Cod.avs), .ro (a.prog.words.map fun w => [.str w]), .ro (a.frames.map Frm.avs), .ro (a.heap.map Cl.avs), .int .i64 a.permit.fuel, .int .i64 a.permit.room, .int .i64 a.permit.hops]))) H := by simp
  generalize (H.put nx (some (.row 9 [.int .i64 a.id, .int .i64 a.trip, .ro (a.prog.codes.map Cod.avs), .ro (a.prog.words.map fun w => [.str w]), .ro (a.frames.map Frm.avs), .ro (a.heap.map Cl.avs), .int .i64 a.permit.fuel, .int .i64 a.permit.room, .int .i64 a.permit.hops]))) = H1 at *
  by_cases hp : VM.program a.prog = 0
  case neg =>
    have e : VM.agent a away = VM.program a.prog := by unfold VM.agent; rw [if_pos hp]
    rw [e]
    simp [zcj, hp, hK]
  have hn1 : nx ≠ nx + 1 := by omega
  have hg2 : (H1.put (nx + 1) (some (.row 3 [.int .i64 a.permit.fuel, .int .i64 a.permit.room, .int .i64 a.permit.hops]))) nx = some (.row 9 a.avs) := by rw [Heap.put_ne _ _ hn1]; exact hg
  have hK2 : Keep nx (H1.put (nx + 1) (some (.row 3 [.int .i64 a.permit.fuel, .int .i64 a.permit.room, .int .i64 a.permit.hops]))) H := by rw [Keep.put (by omega)]; exact hK
  have hr2 : (H1.put (nx + 1) (some (.row 3 [.int .i64 a.permit.fuel, .int .i64 a.permit.room, .int .i64 a.permit.hops]))) (nx + 1) = some (.row 3 [.int .i64 a.permit.fuel, .int .i64 a.permit.room, .int .i64 a.permit.hops]) := Heap.put_at _ _ _
  have e3 : (a.id < 0 ∨ 1073741824 < a.id ∨ a.trip < 0 ∨ 1073741824 < a.trip ∨ a.permit.fuel < 0 ∨ 2000 < a.permit.fuel ∨ a.permit.room < 0 ∨ 60 < a.permit.room ∨ a.permit.hops < 0 ∨ 12 < a.permit.hops) → VM.agent a away = 3 := fun h => by
    unfold VM.agent; rw [if_neg (by simpa using hp), if_pos h]
  by_cases hr : (a.id < 0 ∨ 1073741824 < a.id ∨ a.trip < 0 ∨ 1073741824 < a.trip ∨ a.permit.fuel < 0 ∨ 2000 < a.permit.fuel ∨ a.permit.room < 0 ∨ 60 < a.permit.room ∨ a.permit.hops < 0 ∨ 12 < a.permit.hops)
  · have e := e3 hr
    simp [zcj, hp, hg, Agt.avs]
    generalize (H1.put (nx + 1) (some (.row 3 [.int .i64 a.permit.fuel, .int .i64 a.permit.room, .int .i64 a.permit.hops]))) = H2 at *
    simp only [e]
    repeat' first | exact hK | exact hK2 | apply And.intro | intro _
    all_goals first | trivial | (exfalso; omega)
  have w1 : IntKind.i64.wrap (60 - a.permit.room) = 60 - a.permit.room := i64w (by omega)
  have e0 : VM.agent a away = if a.frames.length < 1 ∨ 12 < a.frames.length then 5 else if 60 - a.permit.room < a.heap.length then 4 else if VM.framesErr a away ≠ 0 then VM.framesErr a away else VM.firstErr (VM.cellErr a.heap.length) a.heap := by
    unfold VM.agent; rw [if_neg (by simpa using hp), if_neg hr]
  simp [zcj, hp, hg, Agt.avs, w1]
  generalize (H1.put (nx + 1) (some (.row 3 [.int .i64 a.permit.fuel, .int .i64 a.permit.room, .int .i64 a.permit.hops]))) = H2 at *
  refine ⟨fun h => by omega, fun _ => ⟨fun h => by omega, fun _ => ⟨fun h => by omega, fun _ => ⟨fun h => by omega, fun _ => ⟨fun h => by omega, fun _ => ⟨fun h => by omega, fun _ => ⟨fun h => by omega, fun _ => ⟨fun h => by omega, fun _ => ⟨fun h => by omega, fun _ => ⟨fun h => by omega, fun _ => ?_⟩⟩⟩⟩⟩⟩⟩⟩⟩⟩
  refine ⟨fun h => ⟨by rw [e0, if_pos (by omega)], hK⟩, fun f1 => ⟨fun h => ⟨by rw [e0, if_pos (by omega)], hK⟩, fun f2 => ⟨fun h => ⟨by rw [e0, if_neg (by omega), if_pos h], hK⟩, fun f3 => ?_⟩⟩⟩
  rw [if_neg (by omega), if_neg (by omega)] at e0
  refine LP.mk (fun m xs H' nx' => ∃ i : Nat, i ≤ a.frames.length ∧ m = a.frames.length - i ∧ xs = [.bool away, .ptr nx 0, .int .i64 a.frames.length, .int .i64 i] ∧ H' nx = some (.row 9 a.avs) ∧ Keep nx H' H ∧ nx < nx' ∧ VM.framesErr a away = VM.firstErr (fun k => VM.frame a k away) ((List.range a.frames.length).drop i)) a.frames.length
    ⟨0, by omega, by omega, by simp, hg2, hK2, by omega, rfl⟩ ?_
  rintro m xs H3 n3 ⟨k, hk, rfl, rfl, hg3, hK3, hn3, hfe⟩
  by_cases hlt : k < a.frames.length
  · have hr : (List.range a.frames.length)[k]? = some k := by simp [hlt]
    rw [zds _ _ _ _ hr] at hfe
    simp [zeg, hlt]
    refine zb.pure_call (zyk a k away H3 n3 nx hg3 hn3 hlt (by omega) hp) ?_
    simp [zhv]
    refine ⟨fun hz => ⟨?_, hK3⟩, fun hz => ?_⟩
    · rw [if_pos hz] at hfe
      rw [e0, hfe, if_pos hz]
    · rw [if_neg (by simpa using hz)] at hfe
      rw [i64w (by omega)]
      exact ⟨a.frames.length - (k + 1), by omega, k + 1, by omega, rfl, rfl, hg3, hK3, hn3, hfe⟩
  obtain rfl : k = a.frames.length := by omega
  have hz : VM.framesErr a away = 0 := by rw [hfe, List.drop_of_length_le (by simp)]; rfl
  rw [if_neg (by simpa using hz)] at e0
  simp [zeg, hg3, Agt.avs]
  refine LP.mk (fun m xs H' nx' => ∃ i : Nat, i ≤ a.heap.length ∧ m = a.heap.length - i ∧ xs = [.ptr nx 0, .ro (a.heap.map Cl.avs), .int .i64 a.heap.length, .int .i64 i] ∧ H' nx = some (.row 9 a.avs) ∧ Keep nx H' H ∧ nx < nx' ∧ VM.agent a away = VM.firstErr (VM.cellErr a.heap.length) (a.heap.drop i)) a.heap.length
    ⟨0, by omega, by omega, by simp, hg3, hK3, by omega, e0⟩ ?_
  rintro m xs H4 n4 ⟨k, hk, rfl, rfl, hg4, hK4, hn4, hfe⟩
  by_cases hlt : k < a.heap.length
  case neg =>
    obtain rfl : k = a.heap.length := by omega
    simp [zeh, hK4]
    rw [hfe]; simp [VM.firstErr]
  obtain ⟨c, hc⟩ : ∃ c, a.heap[k]? = some c := ⟨_, List.getElem?_eq_getElem hlt⟩
  obtain ⟨_, hc'⟩ := List.getElem?_eq_some_iff.1 hc
  rw [zds _ _ _ _ hc] at hfe
  obtain ⟨l, r⟩ := c
  simp [zeh, hlt, hc', Cl.avs, Val.avs]
  have m1 : nx ≠ n4 := by omega
  have m2 : nx ≠ n4 + 1 := by omega
  have hlen : a.heap.length ≤ 60 := by omega
  refine LP.mk (fun m xs H' nx' => ∃ j : Nat, j ≤ 2 ∧ m = 2 - j ∧ xs = [.ptr nx 0, .ro (a.heap.map Cl.avs), .int .i64 a.heap.length, .int .i64 k, .slc (n4 + 1) 0 2, .int .i64 2, .int .i64 j] ∧ H' nx = some (.row 9 a.avs) ∧ Keep nx H' H ∧ n4 + 1 < nx' ∧
    H' (n4 + 1) = some (.row 3 [.int .i64 l.kind, .int .i64 l.n, .str l.text, .int .i64 r.kind, .int .i64 r.n, .str r.text]) ∧ (1 ≤ j → VM.wrong l a.heap.length = 0) ∧ (2 ≤ j → VM.wrong r a.heap.length = 0)) 2
    ⟨0, by omega, by omega, by simp, ?_, ?_, by omega, by simp, by omega, by omega⟩ ?_
  · rw [Heap.put_ne _ _ m2, Heap.put_ne _ _ m1]; exact hg4
  · rw [Keep.put (by omega), Keep.put (by omega)]; exact hK4
  rintro m xs H5 n5 ⟨j, hj, rfl, rfl, hg5, hK5, hn5, hr5, hj1, hj2⟩
  have hce : VM.cellErr a.heap.length ⟨l, r⟩ = if VM.wrong l a.heap.length ≠ 0 then VM.wrong l a.heap.length else VM.wrong r a.heap.length := rfl
  rw [hce] at hfe
  have m3 : nx ≠ n5 := by omega
  have m4 : n4 + 1 ≠ n5 := by omega
  have hj3 : j = 0 ∨ j = 1 ∨ j = 2 := by omega
  rcases hj3 with rfl | rfl | rfl
  · simp [zci, hr5, hg5, m3, m4, Agt.avs]
    refine QC.call (zmy l _) ?_
    simp [zei]
    have hK6 : Keep nx (H5.put n5 (some (.row 3 [.int .i64 l.kind, .int .i64 l.n, .str l.text]))) H := by rw [Keep.put (by omega)]; exact hK5
    refine ⟨fun hz => ⟨by rw [hfe, if_pos hz, if_pos hz], hK6⟩, fun hz => ?_⟩
    exact ⟨2 - 1, by omega, 1, by omega, rfl, by rw [i64w (by omega)]; rfl, by rw [if_neg m3]; exact hg5, hK6, by omega, by rw [if_neg m4]; exact hr5, fun _ => hz, by omega⟩
  · simp [zci, hr5, hg5, m3, m4, Agt.avs]
    refine QC.call (zmy r _) ?_
    simp [zei]
    have hK6 : Keep nx (H5.put n5 (some (.row 3 [.int .i64 r.kind, .int .i64 r.n, .str r.text]))) H := by rw [Keep.put (by omega)]; exact hK5
    have hz1 := hj1 (by omega)
    rw [hz1] at hfe
    simp at hfe
    refine ⟨fun hz => ⟨by rw [hfe]; simp [hz], hK6⟩, fun hz => ?_⟩
    exact ⟨2, by omega, by omega, by rw [i64w (by omega)]; rfl, by rw [if_neg m3]; exact hg5, hK6, by omega, by rw [if_neg m4]; exact hr5, fun _ => hz1, fun _ => hz⟩
  · simp [zci]
    rw [i64w (by omega)]
    have hz1 := hj1 (by omega)
    have hz2 := hj2 (by omega)
    rw [hz1, hz2] at hfe
    simp at hfe
    exact ⟨a.heap.length - (k + 1), by omega, k + 1, by omega, rfl, rfl, hg5, hK5, by omega, hfe⟩
end Go.Proofs.YtobioljjoipimaaDoor
set_option maxRecDepth 8000
namespace Go.Proofs.YtobioljjoipimaaDoor
open Go Go.RowKit
structure zeo (H : Heap) (n sz k : Nat) (cs : List AV) (x : AV) : Prop where
  src : ∀ H' : Heap, (∀ g, g < n → H' g = H g) → ∃ rd, ze sz H' x = some (k, cs, rd)
  len : cs.length = k * sz
  one : cs.all AV.one = true
  x1 : x.cells = [x] ∧ x.one = true ∧ x.sure = true
theorem zeo.keep {H H2 : Heap} {n n2 sz k : Nat} {cs : List AV} {x : AV} (c : zeo H n sz k cs x) (hn : n ≤ n2) (hk : ∀ g, g < n → H2 g = H g) : zeo H2 n2 sz k cs x :=
  ⟨fun H' h => c.src H' fun g hg => (h g (by omega)).trans (hk g hg), c.len, c.one, c.x1⟩
theorem zeo.ro {H : Heap} {n sz : Nat} {xs : List (List AV)} (hs : ∀ x ∈ xs, x.length = sz) (ho : ∀ x ∈ xs, ∀ c ∈ x, c.one = true) : zeo H n sz xs.length xs.flatten (.ro xs) :=
  ⟨fun H' _ => ⟨[], zqu hs⟩, zbu hs, List.all_eq_true.2 fun c hc => by obtain ⟨x, hx, hcx⟩ := List.mem_flatten.1 hc; exact ho x hx c hcx, rfl, rfl, rfl⟩
theorem zeo.slc {H : Heap} {n sz g k : Nat} {cs : List AV} (h : H g = some (.row sz cs)) (hg : g < n) (hl : cs.length = k * sz) (ho : cs.all AV.one = true) : zeo H n sz k cs (.slc g 0 k) := by
  refine ⟨fun H' hk => ⟨[g], ?_⟩, hl, ho, rfl, rfl, rfl⟩
  simp only [ze]
  rw [hk g hg, h]
  simp only [Nat.zero_add, List.drop_zero]
  rw [if_pos (by omega), List.take_of_length_le (by omega)]
set_option maxRecDepth 20000 in
set_option maxHeartbeats 1000000 in
theorem zaab {id trip : Int} {p : Prg} {fa ha va sa : AV} {m : Pmt} {fn at_ : Int} {k : Nat} {cs : List AV} {H : Heap} {n : Nat} {Q : AV → Heap → Nat → Prop} (cp : zeo H n 4 (k + 1) cs fa) (hk : k ≤ 4096) (h1 : ha.cells = [ha] ∧ ha.one = true ∧ ha.sure = true) (v1 : va.one = true ∧ va.sure = true) (s1 : sa.one = true ∧ sa.sure = true)
    (hq : ∀ H' n' g', n ≤ g' → g' < n' → Keep n H' H → H' g' = some (.row 4 (cs.take (k * 4) ++ [.int .i64 fn, .int .i64 at_, va, sa])) → Q (.agg (zl id trip p (.slc g' 0 (k + 1)) ha m)) H' n') :
    zb Tryd.prog 45 [.agg (zl id trip p fa ha m), .agg [.int .i64 fn, .int .i64 at_, va, sa]] H n Q := by
  refine zmj _ _ H n _ ?_
  have av : ∀ fa', (AV.agg (zl id trip p fa' ha m)).cells = zl id trip p fa' ha m := fun fa' => by simp
  unfold zio
  have hsu : (AV.agg (zl id trip p fa ha m)).sure = true := by simp [zl, cp.x1.2.2, h1.2.2]
  refine ⟨hsu, by simp [v1.2, s1.2], ?_⟩
  have e9 : (zl id trip p fa ha m).length = 9 := rfl
  have e4 : (zl id trip p fa ha m)[4]? = some fa := rfl
  rw [av, e9]
  generalize hX : (((H.put n (some (AObj.row 9 (zl id trip p fa ha m)))).put (n + 1) _).put (n + 2) _).put (n + 3) _ = HX
  have x0 : HX n = some (.row 9 (zl id trip p fa ha m)) := by rw [← hX, Heap.put_ne _ _ (by omega), Heap.put_ne _ _ (by omega), Heap.put_ne _ _ (by omega), Heap.put_at]
  have x1 : HX (n + 1) = some (.row 4 [.int .i64 fn, .int .i64 at_, va, sa]) := by rw [← hX, Heap.put_ne _ _ (by omega), Heap.put_ne _ _ (by omega), Heap.put_at]; rfl
  have x2 : ∃ z, HX (n + 2) = some (.row 9 z) ∧ z.length = 9 := ⟨_, by rw [← hX, Heap.put_ne _ _ (by omega), Heap.put_at], rfl⟩
  have x3 : HX (n + 3) = some (.row 4 []) := by rw [← hX, Heap.put_at]
  have xk : ∀ g, g < n → HX g = H g := fun g hg => by rw [← hX, Heap.put_ne _ _ (by omega), Heap.put_ne _ _ (by omega), Heap.put_ne _ _ (by omega), Heap.put_ne _ _ (by omega)]
  obtain ⟨z, z1, z2⟩ := x2
  obtain ⟨rd, hs⟩ := cp.src HX xk
  have hw : IntKind.i64.wrap (k : Int) = k := i64w (by omega)
  have hl := cp.len
  have ho := cp.one
  rw [List.all_eq_true] at ho
  simp [x0, e4, hs, x3, x1, zl, hw, z1, z2, v1.1, s1.1, cp.x1.1, h1.1, h1.2.1]
  refine ⟨ho, by omega, by omega, by omega, hq _ _ (n + 4) (by omega) (by omega) (fun g hg => ?_) ?_⟩
  · rw [Heap.put_ne _ _ (by omega), Heap.put_ne _ _ (by omega), Heap.put_ne _ _ (by omega), Heap.put_ne _ _ (by omega)]
    exact xk g hg
  · rw [Heap.put_ne _ _ (by omega), Heap.put_ne _ _ (by omega), Heap.put_at, List.drop_of_length_le (by omega)]
end Go.Proofs.YtobioljjoipimaaDoor
set_option maxRecDepth 8000
namespace Go.Proofs.YtobioljjoipimaaDoor
open Go Go.RowKit
theorem zjz (fs : List Frm) : ∀ x ∈ fs.map Frm.avs, x.length = 4 := by intro x hx; obtain ⟨f, _, rfl⟩ := List.mem_map.1 hx; rfl
theorem oneF (fs : List Frm) : ∀ x ∈ fs.map Frm.avs, ∀ c ∈ x, c.one = true := by
  intro x hx c hc; obtain ⟨f, _, rfl⟩ := List.mem_map.1 hx
  simp [Frm.avs] at hc
  rcases hc with rfl | rfl | rfl | rfl <;> rfl
theorem zpk {H : Heap} {nx g : Nat} {fs : List Frm} {f : Frm} {va sa : AV} {cs : List AV} (h : H g = some (.row 4 cs)) (hc : cs = (fs.map Frm.avs).flatten ++ [.int .i64 f.fn, .int .i64 f.at_, va, sa]) (hg : nx ≤ g) (hv : Frz H nx va (.ro (f.vars.map Val.avs))) (hs : Frz H nx sa (.ro (f.stack.map Val.avs))) :
    Frz H nx (.slc g 0 (fs.length + 1)) (.ro ((fs ++ [f]).map Frm.avs)) := by
  have hl : ((fs.map Frm.avs).flatten).length = fs.length * 4 := by rw [zbu (zjz fs)]; simp
  have key : ∀ (i : Nat) (x : List AV) (j : Nat) (v : AV), ((fs ++ [f]).map Frm.avs)[i]? = some x → x[j]? = some v → ∃ u, cs[0 + i * 4 + j]? = some u ∧ Frz H nx u v := fun i x j v hx hv' => by
    rw [List.getElem?_map] at hx
    obtain ⟨f', hf, rfl⟩ := Option.map_eq_some_iff.1 hx
    have hj : j < 4 := (List.getElem?_eq_some_iff.1 hv').1
    rw [Nat.zero_add, hc]
    by_cases hi : i < fs.length
    · rw [List.getElem?_append_left hi] at hf
      have hm : (fs.map Frm.avs)[i]? = some f'.avs := by rw [List.getElem?_map, hf]; rfl
      refine ⟨v, ?_, .same _ (ztc f' j v hv')⟩
      have := zwh (zjz fs) hm hv'
      rw [List.getElem?_append_left (by omega)]; exact this
    · have hi' : i = fs.length := by have := (List.getElem?_eq_some_iff.1 hf).1; simp at this; omega
      subst hi'
      rw [List.getElem?_append_right (Nat.le_refl _)] at hf
      simp at hf; subst hf
      rw [List.getElem?_append_right (by omega), hl, show fs.length * 4 + j - fs.length * 4 = j by omega]
      match j, hv' with
      | 0, hv' => cases hv'; exact ⟨_, rfl, .same _ (.int _ _)⟩
      | 1, hv' => cases hv'; exact ⟨_, rfl, .same _ (.int _ _)⟩
      | 2, hv' => cases hv'; exact ⟨_, rfl, hv⟩
      | 3, hv' => cases hv'; exact ⟨_, rfl, hs⟩
      | j + 4, hv' => omega
  refine .slc g 0 _ 4 cs _ hg h (by rw [hc, List.length_append, hl]; simp; omega) (by simp) (zjz _) (fun i j => (cs[0 + i * 4 + j]?).getD .junk) (fun i x j v hx hv' => ?_) (fun i x j v hx hv' => ?_)
  · obtain ⟨u, q1, q2⟩ := key i x j v hx hv'; rw [q1]; rfl
  · obtain ⟨u, q1, q2⟩ := key i x j v hx hv'; rw [q1]; exact q2
set_option maxRecDepth 20000 in
set_option maxHeartbeats 1000000 in
theorem zwb {id : Int} {p : Prg} {m : Pmt} (hp : 0 < p.codes.length) (hv : 0 ≤ (VM.codeAt p 0).vars ∧ (VM.codeAt p 0).vars ≤ 4096) :
    QC Tryd.prog 20 [.int .i64 id, .agg p.avs, .agg m.avs] (.agg (VM.newAgt id p m).avs) := by
  refine QC.of' fun H nx => ?_
  refine zmr _ _ _ H nx _ ?_
  have pv : (AV.agg p.avs).cells = p.avs := by simp
  have pl : p.avs.length = 2 := rfl
  have mv : (AV.agg m.avs).cells = m.avs := by simp
  have ml : m.avs.length = 3 := rfl
  have hsp : (AV.agg p.avs).sure = true := by simp [Prg.avs]
  have hsm : (AV.agg m.avs).sure = true := by simp [Pmt.avs]
  unfold zki
  rw [pv, pl, mv, ml]
  refine ⟨hsp, hsm, ?_⟩
  have hc : p.codes[0]? = some (VM.codeAt p 0) := zaas (p := p) (k := 0) hp
  obtain ⟨k, hk⟩ : ∃ k : Nat, (VM.codeAt p 0).vars = k := ⟨(VM.codeAt p 0).vars.toNat, by omega⟩
  have hc' : p.codes[0] = VM.codeAt p 0 := (List.getElem?_eq_some_iff.1 hc).2
  have na : VM.newAgt id p m = ⟨id, 0, p, [] ++ [⟨0, 0, List.replicate k VM.vzero, []⟩], [], m⟩ := by unfold VM.newAgt; rw [hk]; rfl
  have hr : rowV (List.replicate k VM.vzero) = (List.replicate k [AV.int .i64 0, AV.int .i64 0, AV.str []]).flatten := by unfold rowV; rw [List.map_replicate]; rfl
  simp [Prg.avs, Pmt.avs, hp, hc', Cod.avs, hk]
  refine ⟨by omega, by omega, fun x hx => by rcases hx with (rfl | rfl | rfl | rfl) | rfl | rfl | rfl | rfl | rfl <;> rfl, ?_⟩
  generalize hX : Heap.put _ (nx + 2) (some (AObj.row 9 (AV.int IntKind.i64 id :: _))) = HX
  have x3 : HX (nx + 3) = some (.row 3 (rowV (List.replicate k VM.vzero))) := by rw [← hX, Heap.put_ne _ _ (by omega), Heap.put_ne _ _ (by omega), Heap.put_at, hr]
  have x4 : HX (nx + 4) = some (.row 4 [AV.int .i64 0, AV.int .i64 0, .slc (nx + 3) 0 k, .nils]) := by rw [← hX, Heap.put_ne _ _ (by omega), Heap.put_at]
  rw [na]
  refine zfg (zpk (fs := []) x4 rfl (by omega) (Slot.frzV (.inr ⟨nx + 3, _, by simp, x3, List.take_of_length_le (by simp), by simp⟩) (by simp [own])) .nils) .nils
end Go.Proofs.YtobioljjoipimaaDoor
set_option maxRecDepth 8000
namespace Go.Proofs.YtobioljjoipimaaDoor
open Go Go.RowKit
def Good (H : Heap) (nx : Nat) (v : AV) (r : Agt) : Prop := ∃ xs, v = .agg xs ∧ xs.length = 9 ∧ (∀ x ∈ xs, x.one = true) ∧ (AV.agg xs).sure = true ∧ ∀ H2 : Heap, (∀ g, nx + 4 ≤ g → H2 g = H g) → Frz H2 nx v (.agg r.avs)
structure Outs (H0 H : Heap) (nx : Nat) : Prop where
  r2 : ∃ z, H (nx + 2) = some (.row 9 z) ∧ z.length = 9
  r3 : ∃ z, H (nx + 3) = some (.row 3 z) ∧ z.length = 3
  keep : Keep nx H H0
theorem Outs.more {H0 H H' : Heap} {nx : Nat} (o : Outs H0 H nx) (hk : ∀ g, g < nx + 4 → g ≠ nx → g ≠ nx + 1 → H' g = H g) : Outs H0 H' nx := by
  obtain ⟨z, z1, z2⟩ := o.r2
  obtain ⟨y, y1, y2⟩ := o.r3
  exact ⟨⟨z, by rw [hk _ (by omega) (by omega) (by omega)]; exact z1, z2⟩, ⟨y, by rw [hk _ (by omega) (by omega) (by omega)]; exact y1, y2⟩, fun g hg => by rw [hk g (by omega) (by omega) (by omega)]; exact o.keep g hg⟩
theorem Good.more {H H' : Heap} {nx : Nat} {v : AV} {r : Agt} (g : Good H nx v r) (hk : ∀ g, nx + 4 ≤ g → H' g = H g) : Good H' nx v r := by
  obtain ⟨xs, h1, h2, h3, h4, h5⟩ := g
  exact ⟨xs, h1, h2, h3, h4, fun H2 h => h5 H2 fun g hg => (h g hg).trans (hk g hg)⟩
def zvj (H0 : Heap) (nx : Nat) (r : Agt × Evt) : AV → Heap → Nat → Prop := fun v H' _ => Frz H' nx v (.tup [.agg r.1.avs, .agg r.2.avs]) ∧ Keep nx H' H0
theorem ret {H0 H : Heap} {nx n : Nat} {v : AV} {r : Agt × Evt} (g : Good H nx v r.1) (o : Outs H0 H nx) : ST 9 (.ptr (nx + 2) 0) v H fun H1 => ST 3 (.ptr (nx + 3) 0) (.agg r.2.avs) H1 fun H2 => LD true 9 (.ptr (nx + 2) 0) H2 fun v1 => LD true 3 (.ptr (nx + 3) 0) H2 fun v2 => zvj H0 nx r (.tup [v1, v2]) H2 n := by
  obtain ⟨xs, rfl, h2, h3, h4, h5⟩ := g
  obtain ⟨⟨z, z1, z2⟩, ⟨y, y1, y2⟩, keep⟩ := o
  have tx : xs.take 9 = xs := List.take_of_length_le (by omega)
  have m1 : nx + 2 ≠ nx + 3 := by omega
  have m2 : nx + 3 ≠ nx + 2 := by omega
  have m : min xs.length 9 = 9 := by omega
  simp [z1, y1, z2, y2, h2, tx, Evt.avs, m1, m2, m]
  refine ⟨h3, Frz.tup2 (h5 _ fun g hg => by rw [Heap.put_ne _ _ (by omega), Heap.put_ne _ _ (by omega)]) (.same _ (zrq _)), fun g hg => ?_⟩
  · rw [Heap.put_ne _ _ (by omega), Heap.put_ne _ _ (by omega)]; exact keep g hg
theorem zaay {H : Heap} {nx g : Nat} {l : List Val} (h : H g = some (.row 3 (rowV l))) (hg : nx ≤ g) : Frz H nx (.slc g 0 l.length) (.ro (l.map Val.avs)) :=
  Slot.frzV (.inr ⟨g, _, rfl, h, List.take_of_length_le (by simp), by simp⟩) (by simpa [own] using hg)
def Part (H : Heap) (nx n : Nat) (v r : AV) : Prop := v.cells = [v] ∧ v.one = true ∧ v.sure = true ∧ ∀ H2 : Heap, (∀ g, nx + 4 ≤ g → g < n → H2 g = H g) → Frz H2 nx v r
theorem Part.more {H H' : Heap} {nx n n' : Nat} {v r : AV} (p : Part H nx n v r) (hn : n ≤ n') (hk : ∀ g, nx + 4 ≤ g → g < n → H' g = H g) : Part H' nx n' v r := ⟨p.1, p.2.1, p.2.2.1, fun H2 h => p.2.2.2 H2 fun g hg hl => (h g hg (by omega)).trans (hk g hg hl)⟩
theorem Part.ro {H : Heap} {nx n : Nat} {xs : List (List AV)} (hx : ∀ x ∈ xs, ∀ c ∈ x, scal c = true) : Part H nx n (.ro xs) (.ro xs) := ⟨rfl, rfl, rfl, fun H2 _ => .same _ (zfm hx)⟩
theorem Part.row {H : Heap} {nx n g : Nat} {l : List Val} (h : H g = some (.row 3 (rowV l))) (hg : nx + 4 ≤ g) (hl : g < n) : Part H nx n (.slc g 0 l.length) (.ro (l.map Val.avs)) :=
  ⟨rfl, rfl, rfl, fun H2 hk => zaay (by rw [hk g hg hl]; exact h) (by omega)⟩
theorem Part.nils {H : Heap} {nx n : Nat} : Part H nx n .nils (.ro []) := ⟨rfl, rfl, rfl, fun H2 _ => .nils⟩
theorem zoy {H : Heap} {nx n g : Nat} {id trip : Int} {p : Prg} {fs : List Frm} {f : Frm} {h : List Cl} {m : Pmt} {va sa ha : AV} (hg : nx + 4 ≤ g) (hr : H g = some (.row 4 ((fs.map Frm.avs).flatten ++ [.int .i64 f.fn, .int .i64 f.at_, va, sa]))) (hv : Part H nx n va (.ro (f.vars.map Val.avs))) (hs : Part H nx n sa (.ro (f.stack.map Val.avs))) (hh : Part H nx n ha (.ro (h.map Cl.avs))) :
    Good H nx (.agg (zl id trip p (.slc g 0 (fs.length + 1)) ha m)) ⟨id, trip, p, fs ++ [f], h, m⟩ := by
  refine ⟨_, rfl, rfl, ?_, ?_, fun H2 hk => zfg (zpk (by rw [hk g hg]; exact hr) rfl (by omega) (hv.2.2.2 H2 fun g hg _ => hk g hg) (hs.2.2.2 H2 fun g hg _ => hk g hg)) (hh.2.2.2 H2 fun g hg _ => hk g hg)⟩
  · intro x hx
    simp [zl] at hx
    rcases hx with rfl | rfl | rfl | rfl | rfl | rfl | rfl | rfl | rfl <;> first | rfl | exact hh.2.1
  · simp [zl, hh.2.2.1]
theorem zpg {H : Heap} {nx n ga : Nat} {id trip : Int} {p : Prg} {fs : List Frm} {f : Frm} {h : List Cl} {m : Pmt} {va sa ha w1 w2 w3 w4 : AV} {Q : AV → Heap → Nat → Prop} (hn : nx + 4 ≤ n) (hk : fs.length ≤ 4096) (hl : ga < n) (hr : H ga = some (.row 4 ((fs.map Frm.avs).flatten ++ [w1, w2, w3, w4]))) (hw : w1.one = true ∧ w2.one = true ∧ w3.one = true ∧ w4.one = true)
    (hv : Part H nx n va (.ro (f.vars.map Val.avs))) (hs : Part H nx n sa (.ro (f.stack.map Val.avs))) (hh : Part H nx n ha (.ro (h.map Cl.avs)))
    (hq : ∀ H' n' g', n ≤ g' → g' < n' → Keep n H' H → H' g' = some (.row 4 ((fs.map Frm.avs).flatten ++ [.int .i64 f.fn, .int .i64 f.at_, va, sa])) → Good H' nx (.agg (zl id trip p (.slc g' 0 (fs.length + 1)) ha m)) ⟨id, trip, p, fs ++ [f], h, m⟩ → Q (.agg (zl id trip p (.slc g' 0 (fs.length + 1)) ha m)) H' n') :
    zb Tryd.prog 45 [.agg (zl id trip p (.slc ga 0 (fs.length + 1)) ha m), .agg [.int .i64 f.fn, .int .i64 f.at_, va, sa]] H n Q := by
  have hlf : ((fs.map Frm.avs).flatten).length = fs.length * 4 := by rw [zbu (zjz fs)]; simp
  refine zaab (zeo.slc hr hl (by rw [List.length_append, hlf]; simp; omega) ?_) hk ⟨hh.1, hh.2.1, hh.2.2.1⟩ ⟨hv.2.1, hv.2.2.1⟩ ⟨hs.2.1, hs.2.2.1⟩ fun H' n' g' h1 h2 kp hr' => ?_
  · refine List.all_eq_true.2 fun c hc => ?_
    rcases List.mem_append.1 hc with hc | hc
    · obtain ⟨x, hx, hcx⟩ := List.mem_flatten.1 hc; exact oneF fs x hx c hcx
    · simp at hc; rcases hc with rfl | rfl | rfl | rfl
      · exact hw.1
      · exact hw.2.1
      · exact hw.2.2.1
      · exact hw.2.2.2
  · rw [List.take_append_of_le_length (by omega), List.take_of_length_le (by omega)] at hr'
    exact hq H' n' g' h1 h2 kp hr' (zoy (n := n) (by omega) hr' (hv.more (Nat.le_refl _) fun g _ hg => kp g hg) (hs.more (Nat.le_refl _) fun g _ hg => kp g hg) (hh.more (Nat.le_refl _) fun g _ hg => kp g hg))
end Go.Proofs.YtobioljjoipimaaDoor
set_option maxRecDepth 8000
namespace Go.Proofs.YtobioljjoipimaaDoor
open Go Go.RowKit
section
variable {H0 H : Heap} {nx n ga : Nat} {id trip : Int} {p : Prg} {fs : List Frm} {f : Frm} {h : List Cl} {m : Pmt} {va sa ha w1 w2 w3 w4 : AV}
theorem zabx (er : Int) {xs : List AV} (hx : H nx = some (.row 9 xs)) (hl : xs.length = 9) (ho : ∀ x ∈ xs, x.one = true) (hn : nx < n) {Q : AV → Heap → Nat → Prop} (hq : ∀ H', (∀ g, g < n → H' g = H g) → Q (.tup [.agg xs, .agg (VM.dead er).avs]) H' (n + 2)) : zb Tryd.prog 43 [.int .i64 er, .ptr nx 0] H n Q := by
  refine zkr _ _ H n _ ?_
  have tx : xs.take 9 = xs := List.take_of_length_le (by omega)
  have m1 : nx ≠ n := by omega
  have m2 : nx ≠ n + 1 := by omega
  have m3 : n ≠ n + 1 := by omega
  have m : min xs.length 9 = 9 := by omega
  have d9 : List.drop 9 [AV.int .i64 0, .int .i64 0, .nils, .nils, .nils, .nils, .int .i64 0, .int .i64 0, .int .i64 0] = [] := rfl
  simp [zgz, hx, m1, m2, m3, tx, hl, m]
  exact ⟨ho, fun x hx => by rcases hx with (rfl | rfl) | rfl <;> rfl, hq _ fun g hg => by rw [Heap.put_ne _ _ (by omega), Heap.put_ne _ _ (by omega), Heap.put_ne _ _ (by omega), Heap.put_ne _ _ (by omega)]⟩
set_option maxRecDepth 20000 in
set_option maxHeartbeats 1000000 in
theorem zxv (v : Val) {gs : Nat} (hn : nx + 6 ≤ n) (hk : fs.length ≤ 4096) (hst : f.stack.length ≤ 4096) (r0 : H nx = some (.row 9 (zl id trip p (.slc ga 0 (fs.length + 1)) ha m))) (r4 : H (nx + 4) = some (.row 4 [.int .i64 f.fn, .int .i64 f.at_, va, .slc gs 0 f.stack.length])) (rs : H gs = some (.row 3 (rowV f.stack))) (hgs : nx + 6 ≤ gs ∧ gs < n)
    (hga : nx + 6 ≤ ga ∧ ga < n) (ra : H ga = some (.row 4 ((fs.map Frm.avs).flatten ++ [w1, w2, w3, w4]))) (hne : ga ≠ gs) (hw : w1.one = true ∧ w2.one = true ∧ w3.one = true ∧ w4.one = true)
    (hv : ∀ H' : Heap, (∀ g, nx + 6 ≤ g → g < n → g ≠ gs → H' g = H g) → Part H' nx n va (.ro (f.vars.map Val.avs))) (hh : ∀ H' : Heap, (∀ g, nx + 6 ≤ g → g < n → g ≠ gs → H' g = H g) → Part H' nx n ha (.ro (h.map Cl.avs)))
    {Q : AV → Heap → Nat → Prop} (hq : ∀ v' H' n', Good H' nx v' ⟨id, trip, p, fs ++ [{ f with stack := f.stack ++ [v] }], h, m⟩ → (∀ g, g < nx + 4 → H' g = H g) → Q (.tup [v', .agg VM.ev0.avs]) H' n') :
    zb Tryd.prog 46 [.agg v.avs, .ptr (nx + 4) 0, .ptr nx 0] H n Q := by
  refine zkq _ _ _ H n _ ?_
  have ce : (AV.agg v.avs).cells = v.avs := by simp
  have lv : v.avs.length = 3 := rfl
  have tv : v.avs.take 3 = v.avs := rfl
  unfold zgx
  rw [ce, lv]
  have m0 : nx + 4 ≠ n := by omega
  have m1 : nx + 4 ≠ n + 1 := by omega
  have m2 : nx + 4 ≠ n + 2 := by omega
  have m3 : nx + 4 ≠ n + 3 := by omega
  have ga1 : gs ≠ n := by omega
  have ga2 : gs ≠ n + 1 := by omega
  have ga3 : gs ≠ n + 2 := by omega
  have ga4 : gs ≠ n + 3 := by omega
  refine ⟨by simp [Val.avs], ?_⟩
  have b1 : nx ≠ n := by omega
  have b2 : nx ≠ n + 1 := by omega
  have b3 : nx ≠ n + 2 := by omega
  have b4 : nx ≠ n + 3 := by omega
  have b5 : nx ≠ n + 4 := by omega
  have b6 : nx ≠ gs := by omega
  have b7 : nx + 4 ≠ gs := by omega
  have b8 : nx ≠ nx + 4 := by omega
  have tk : (rowV f.stack).take (f.stack.length * 3) = rowV f.stack := List.take_of_length_le (by simp)
  simp [r4, m0, m1, m2, m3, tv, lv, ga1, ga2, ga3, ga4, rs, b1, b2, b3, b4, b5, b6, b7, b8, r0, zl, tk]
  refine ⟨fun x hx => zqv (zdw v x hx), by omega, ?_⟩
  generalize hX : Heap.put _ (nx + 4) _ = HX
  have old : ∀ g, g < n → g ≠ gs → g ≠ nx + 4 → HX g = H g := fun g h1 h2 h3 => by
    rw [← hX, Heap.put_ne _ _ h3, Heap.put_ne _ _ (by omega), Heap.put_ne _ _ h2, Heap.put_ne _ _ (by omega), Heap.put_ne _ _ (by omega), Heap.put_ne _ _ (by omega), Heap.put_ne _ _ (by omega)]
  have x1 : HX (n + 4) = some (.row 3 (rowV (f.stack ++ [v]))) := by rw [← hX, Heap.put_ne _ _ (by omega), Heap.put_at, zwa]
  have x2 : ∃ z, HX (n + 1) = some (.row 9 z) ∧ z.length = 9 := ⟨_, by rw [← hX, Heap.put_ne _ _ (by omega), Heap.put_ne _ _ (by omega), Heap.put_ne _ _ (by omega), Heap.put_ne _ _ (by omega), Heap.put_ne _ _ (by omega), Heap.put_at], rfl⟩
  have x3 : ∃ z, HX (n + 2) = some (.row 3 z) ∧ z.length = 3 := ⟨_, by rw [← hX, Heap.put_ne _ _ (by omega), Heap.put_ne _ _ (by omega), Heap.put_ne _ _ (by omega), Heap.put_ne _ _ (by omega), Heap.put_at], rfl⟩
  have hs' : Part HX nx (n + 4 + 1) (.slc (n + 4) 0 (f.stack.length + 1)) (.ro ((f.stack ++ [v]).map Val.avs)) := by
    have := Part.row (nx := nx) (n := n + 4 + 1) x1 (by omega) (by omega)
    simpa using this
  have hv0 := hv HX fun g h1 h2 h3 => old g h2 h3 (by omega)
  have hh0 := hh HX fun g h1 h2 h3 => old g h2 h3 (by omega)
  have hv' := hv0.more (n' := n + 4 + 1) (H' := HX) (by omega) fun g _ _ => rfl
  have hh' := hh0.more (n' := n + 4 + 1) (H' := HX) (by omega) fun g _ _ => rfl
  refine zpg (f := { f with stack := f.stack ++ [v] }) (by omega) hk (by omega) (by rw [old ga hga.2 hne (by omega)]; exact ra) hw hv' hs' hh' fun H' n' g' h1 h2 kp hr gd => ?_
  obtain ⟨z, z1, z2⟩ := x2
  obtain ⟨y, y1, y2⟩ := x3
  have q1 := (kp (n + 1) (by omega)).trans z1
  have q2 := (kp (n + 2) (by omega)).trans y1
  have c1 : n + 2 ≠ n + 1 := by omega
  have c2 : n + 1 ≠ n + 2 := by omega
  simp [zgy, zl, q1, q2, z2, y2, c1, c2, hh'.1, hh'.2.1]
  have q4 := (kp (n + 4) (by omega)).trans x1
  have fin : ∀ o o', ∀ g, g ≠ n + 1 → g ≠ n + 2 → ((H'.put (n + 1) o).put (n + 2) o') g = H' g := fun o o' g h1 h2 => by rw [Heap.put_ne _ _ h2, Heap.put_ne _ _ h1]
  refine hq _ _ _ (zoy (n := n') (f := { f with stack := f.stack ++ [v] }) (by omega) (by rw [fin _ _ g' (by omega) (by omega)]; exact hr) (hv0.more (by omega) fun g h1 h2 => ?_) ?_ (hh0.more (by omega) fun g h1 h2 => ?_)) fun g hg => ?_
  · rw [fin _ _ g (by omega) (by omega), kp g (by omega)]
  · have := Part.row (nx := nx) (n := n') ((fin (some (.row 9 (zl id trip p (.slc g' 0 (fs.length + 1)) ha m ++ z.drop 9))) (some (.row 3 (VM.ev0.avs ++ y.drop 3))) (n + 4) (by omega) (by omega)).trans q4) (by omega) (by omega)
    simpa [zl, VM.ev0, Evt.avs] using this
  · rw [fin _ _ g (by omega) (by omega), kp g (by omega)]
  · rw [fin _ _ g (by omega) (by omega), kp g (by omega)]; exact old g (by omega) (by omega) (by omega)
end
end Go.Proofs.YtobioljjoipimaaDoor
set_option maxRecDepth 8000
namespace Go.Proofs.YtobioljjoipimaaDoor
open Go Go.RowKit
structure VSt (H0 H : Heap) (nx n ga : Nat) (b : Agt) (s : Spt) (fs : List Frm) (f : Frm) (ins : List Val) (i : Ins) : Prop where
  o : Outs H0 H nx
  r0 : H nx = some (.row 9 (zl b.id b.trip b.prog (.slc ga 0 (fs.length + 1)) (.ro (b.heap.map Cl.avs)) b.permit))
  r1 : H (nx + 1) = some (.row 4 s.avs)
  r4 : H (nx + 4) = some (.row 4 [.int .i64 f.fn, .int .i64 f.at_, .slc (nx + 11) 0 f.vars.length, .slc (nx + 9) 0 f.stack.length])
  r5 : H (nx + 5) = some (.row 3 i.avs)
  ra : H ga = some (.row 4 ((fs.map Frm.avs).flatten ++ [.int .i64 f.fn, .int .i64 f.at_, .slc (nx + 11) 0 f.vars.length, .slc (nx + 9) 0 f.stack.length]))
  rv : H (nx + 11) = some (.row 3 (rowV f.vars))
  rs : H (nx + 9) = some (.row 3 (rowV f.stack))
  ri : H (nx + 7) = some (.row 3 (rowV ins))
  ga1 : nx + 12 ≤ ga ∧ ga < n
  hk : fs.length ≤ 4096
  hst : f.stack.length ≤ 4096
section
variable {H0 H : Heap} {nx n ga : Nat} {b : Agt} {s : Spt} {fs : List Frm} {f : Frm} {ins : List Val} {i : Ins}
theorem VSt.more (R : VSt H0 H nx n ga b s fs f ins i) {H' : Heap} {n' : Nat} (hn : n ≤ n') (hk : ∀ g, g < n → H' g = H g) : VSt H0 H' nx n' ga b s fs f ins i := by
  have g1 := R.ga1
  exact ⟨R.o.more fun g hg _ _ => hk g (by omega), by rw [hk _ (by omega)]; exact R.r0, by rw [hk _ (by omega)]; exact R.r1, by rw [hk _ (by omega)]; exact R.r4, by rw [hk _ (by omega)]; exact R.r5, by rw [hk _ (by omega)]; exact R.ra, by rw [hk _ (by omega)]; exact R.rv, by rw [hk _ (by omega)]; exact R.rs, by rw [hk _ (by omega)]; exact R.ri, ⟨by omega, by omega⟩, R.hk, R.hst⟩
theorem VSt.push (R : VSt H0 H nx n ga b s fs f ins i) (v : Val) {Q : AV → Heap → Nat → Prop} (hq : ∀ v' H' n', Good H' nx v' ⟨b.id, b.trip, b.prog, fs ++ [{ f with stack := f.stack ++ [v] }], b.heap, b.permit⟩ → Outs H0 H' nx → Q (.tup [v', .agg VM.ev0.avs]) H' n') :
    zb Tryd.prog 46 [.agg v.avs, .ptr (nx + 4) 0, .ptr nx 0] H n Q := by
  have g1 := R.ga1
  refine zxv (f := f) v (by omega) R.hk R.hst R.r0 R.r4 R.rs ⟨by omega, by omega⟩ ⟨by omega, by omega⟩ R.ra (by omega) ⟨rfl, rfl, rfl, rfl⟩ (fun H' hk => ?_) (fun H' hk => .ro (zca _)) fun v' H' n' g hk => hq v' H' n' g (R.o.more fun g hg _ _ => hk g hg)
  exact Part.row (by rw [hk _ (by omega) (by omega) (by omega)]; exact R.rv) (by omega) (by omega)
theorem VSt.good (R : VSt H0 H nx n ga b s fs f ins i) {H' : Heap} (hk : ∀ g, nx + 4 ≤ g → g < n → H' g = H g) : Good H' nx (.agg (zl b.id b.trip b.prog (.slc ga 0 (fs.length + 1)) (.ro (b.heap.map Cl.avs)) b.permit)) ⟨b.id, b.trip, b.prog, fs ++ [f], b.heap, b.permit⟩ := by
  have g1 := R.ga1
  exact zoy (n := n) (by omega) (by rw [hk _ (by omega) (by omega)]; exact R.ra) (Part.row (by rw [hk _ (by omega) (by omega)]; exact R.rv) (by omega) (by omega)) (Part.row (by rw [hk _ (by omega) (by omega)]; exact R.rs) (by omega) (by omega)) (.ro (zca _))
theorem VSt.no (R : VSt H0 H nx n ga b s fs f ins i) (er : Int) {Q : AV → Heap → Nat → Prop} (hq : ∀ v' H' n', Good H' nx v' ⟨b.id, b.trip, b.prog, fs ++ [f], b.heap, b.permit⟩ → Outs H0 H' nx → Q (.tup [v', .agg (VM.dead er).avs]) H' n') :
    zb Tryd.prog 43 [.int .i64 er, .ptr nx 0] H n Q := by
  have g1 := R.ga1
  refine zabx er R.r0 rfl (fun x hx => ?_) (by omega) fun H' hk => hq _ H' _ (R.good fun g _ hg => hk g hg) (R.o.more fun g hg _ _ => hk g (by omega))
  simp [zl] at hx
  rcases hx with rfl | rfl | rfl | rfl | rfl | rfl | rfl | rfl | rfl <;> rfl
theorem VSt.with (R : VSt H0 H nx n ga b s fs f ins i) {f' : Frm} {h : List Cl} {m : Pmt} {va sa ha : AV} (hv : Part H nx n va (.ro (f'.vars.map Val.avs))) (hs : Part H nx n sa (.ro (f'.stack.map Val.avs))) (hh : Part H nx n ha (.ro (h.map Cl.avs))) {Q : AV → Heap → Nat → Prop}
    (hq : ∀ H' n' g', n ≤ g' → g' < n' → Keep n H' H → H' g' = some (.row 4 ((fs.map Frm.avs).flatten ++ [.int .i64 f'.fn, .int .i64 f'.at_, va, sa])) → Good H' nx (.agg (zl b.id b.trip b.prog (.slc g' 0 (fs.length + 1)) ha m)) ⟨b.id, b.trip, b.prog, fs ++ [f'], h, m⟩ → Outs H0 H' nx → Q (.agg (zl b.id b.trip b.prog (.slc g' 0 (fs.length + 1)) ha m)) H' n') :
    zb Tryd.prog 45 [.agg (zl b.id b.trip b.prog (.slc ga 0 (fs.length + 1)) ha m), .agg [.int .i64 f'.fn, .int .i64 f'.at_, va, sa]] H n Q := by
  have g1 := R.ga1
  exact zpg (by omega) R.hk g1.2 R.ra ⟨rfl, rfl, rfl, rfl⟩ hv hs hh fun H' n' g' h1 h2 kp hr gd => hq H' n' g' h1 h2 kp hr gd (R.o.more fun g hg _ _ => kp g (by omega))
end
end Go.Proofs.YtobioljjoipimaaDoor
set_option maxRecDepth 8000
namespace Go.Proofs.YtobioljjoipimaaDoor
open Go Go.RowKit
section
variable {H0 H : Heap} {nx n ga : Nat} {b : Agt} {s : Spt} {fs : List Frm} {f : Frm} {ins : List Val} {ia ib : Int}
end
end Go.Proofs.YtobioljjoipimaaDoor
set_option maxRecDepth 8000
namespace Go.Proofs.YtobioljjoipimaaDoor
open Go Go.RowKit
section
variable {H0 H : Heap} {nx n ga : Nat} {b : Agt} {s : Spt} {fs : List Frm} {f : Frm} {ins : List Val} {ia ib : Int}
theorem Part.rowC {H : Heap} {nx n g : Nat} {l : List Cl} (h : H g = some (.row 6 (rowC l))) (hg : nx + 4 ≤ g) (hl : g < n) : Part H nx n (.slc g 0 l.length) (.ro (l.map Cl.avs)) :=
  ⟨rfl, rfl, rfl, fun H2 hk => Slot.frzH (.inr ⟨g, _, rfl, by rw [hk g hg hl]; exact h, List.take_of_length_le (by simp), by simp⟩) (by simp [own]; omega)⟩
end
end Go.Proofs.YtobioljjoipimaaDoor
set_option maxRecDepth 8000
namespace Go.Proofs.YtobioljjoipimaaDoor
open Go Go.RowKit
section
variable {H0 H : Heap} {nx n ga : Nat} {b : Agt} {s : Spt} {fs : List Frm} {f : Frm} {ins : List Val} {ia ib : Int}
end
end Go.Proofs.YtobioljjoipimaaDoor
set_option maxRecDepth 8000
namespace Go.Proofs.YtobioljjoipimaaDoor
open Go Go.RowKit
section
variable {H0 H : Heap} {nx n ga : Nat} {b : Agt} {s : Spt} {fs : List Frm} {f : Frm} {ins : List Val} {i : Ins} {ia ib : Int}
end
end Go.Proofs.YtobioljjoipimaaDoor
set_option maxRecDepth 8000
namespace Go.Proofs.YtobioljjoipimaaDoor
open Go Go.RowKit
end Go.Proofs.YtobioljjoipimaaDoor
set_option maxRecDepth 8000
namespace Go.Proofs.YtobioljjoipimaaDoor
open Go Go.RowKit
section
variable {H0 H : Heap} {nx n ga : Nat} {b : Agt} {s : Spt} {fs : List Frm} {f : Frm} {ins : List Val} {i : Ins} {g : Frm} {ia ib : Int}
theorem zvj.of {r : Agt × Evt} {v : AV} {e : AV} {HF : Heap} (g : Good HF nx v r.1) (he : e = .agg r.2.avs) (hk : Keep nx HF H0) : zvj H0 nx r (.tup [v, e]) HF n := by
  obtain ⟨xs, h1, h2, h3, h4, h5⟩ := g
  subst he
  exact ⟨Frz.tup2 (h5 HF fun g _ => rfl) (.same _ (zrq _)), hk⟩
end
end Go.Proofs.YtobioljjoipimaaDoor
set_option maxRecDepth 8000
namespace Go.Proofs.YtobioljjoipimaaDoor
open Go Go.RowKit
inductive FL (H : Heap) (nx : Nat) : List AV → List AV → Prop
  | nil : FL H nx [] []
  | cons {u v : AV} {us vs : List AV} : Frz H nx u v → FL H nx us vs → FL H nx (u :: us) (v :: vs)
section
variable {H : Heap} {nx : Nat}
theorem FL.append : ∀ {us vs us' vs' : List AV}, FL H nx us vs → FL H nx us' vs' → FL H nx (us ++ us') (vs ++ vs')
  | _, _, _, _, .nil, k => k
  | _, _, _, _, .cons a b, k => .cons a (b.append k)
theorem FL.same : ∀ {l : List AV}, (∀ c ∈ l, Bel (· < nx) c) → FL H nx l l
  | [], _ => .nil
  | c :: r, h => .cons (.same _ (h c (by simp))) (FL.same fun x hx => h x (by simp [hx]))
theorem FL.get : ∀ {us vs : List AV}, FL H nx us vs → ∀ {j : Nat} {v : AV}, vs[j]? = some v → ∃ u, us[j]? = some u ∧ Frz H nx u v
  | _, _, .nil, j, v, h => by simp at h
  | _, _, .cons a b, 0, v, h => by simp at h; subst h; exact ⟨_, rfl, a⟩
  | _, _, .cons a b, j + 1, v, h => by simpa using b.get (j := j) (by simpa using h)
theorem FL.len : ∀ {us vs : List AV}, FL H nx us vs → us.length = vs.length
  | _, _, .nil => rfl
  | _, _, .cons a b => by simp [b.len]
theorem FL.agg {us vs : List AV} (h : FL H nx us vs) : Frz H nx (.agg us) (.agg vs) := by
  refine .agg _ _ h.len.symm fun j v u hv hu => ?_
  obtain ⟨w, q1, q2⟩ := h.get hu
  rw [hv] at q1; cases q1; exact q2
theorem FL.tup {us vs : List AV} (h : FL H nx us vs) : Frz H nx (.tup us) (.tup vs) := by
  refine .tup _ _ h.len.symm fun j v u hv hu => ?_
  obtain ⟨w, q1, q2⟩ := h.get hu
  rw [hv] at q1; cases q1; exact q2
end
end Go.Proofs.YtobioljjoipimaaDoor
set_option maxRecDepth 8000
namespace Go.Proofs.YtobioljjoipimaaDoor
open Go Go.RowKit
section
variable {H0 H : Heap} {nx n ga : Nat} {b : Agt} {s : Spt} {fs : List Frm} {f : Frm} {ins : List Val} {i : Ins} {g : Frm} {ia ib : Int}
end
end Go.Proofs.YtobioljjoipimaaDoor
set_option maxRecDepth 8000
namespace Go.Proofs.YtobioljjoipimaaDoor
open Go Go.RowKit
section
variable {H0 H : Heap} {nx n ga : Nat} {b : Agt} {s : Spt} {fs : List Frm} {f : Frm} {ins : List Val} {i : Ins} {g : Frm} {ia ib : Int}
end
end Go.Proofs.YtobioljjoipimaaDoor
set_option maxRecDepth 8000
namespace Go.Proofs.YtobioljjoipimaaDoor
open Go Go.RowKit
section
variable {H0 H : Heap} {nx n ga : Nat} {a : Agt} {s : Spt} {fs : List Frm} {f : Frm}
end
end Go.Proofs.YtobioljjoipimaaDoor
set_option maxRecDepth 8000
namespace Go.Proofs.YtobioljjoipimaaDoor
open Go Go.RowKit
section
variable {ki : IntKind}
@[simp ↓] theorem zaga {s : Nat} {xs : List (List AV)} {a : Int} {H : Heap} {k : AV → Prop} : SL s (.ro xs) (some (.int ki a)) none H k = (0 ≤ a ∧ a ≤ xs.length ∧ (∀ x ∈ xs, x.length = s) ∧ k (.ro (xs.drop a.toNat))) := by
  simp [SL, zbc, lohi, PURE, qk]
@[simp ↓] theorem zagb {s : Nat} {xs : List (List AV)} {b : Int} {H : Heap} {k : AV → Prop} : SL s (.ro xs) none (some (.int ki b)) H k = (0 ≤ b ∧ b ≤ xs.length ∧ (∀ x ∈ xs, x.length = s) ∧ k (.ro (xs.take b.toNat))) := by
  simp [SL, zbc, lohi, PURE, qk]
end
section
variable {a : Agt} {s : Spt} {fs : List Frm} {f : Frm}
theorem Good.val {H : Heap} {nx : Nat} (a : Agt) : Good H nx (.agg a.avs) a := by
  refine ⟨_, rfl, rfl, fun x hx => ?_, ?_, fun H2 _ => zfg (fs := a.frames) (h := a.heap) (m := a.permit) (.same _ (zaat _)) (.same _ (zfm (zca _)))⟩
  · simp [Agt.avs] at hx
    rcases hx with rfl | rfl | rfl | rfl | rfl | rfl | rfl | rfl | rfl <;> rfl
  · simp [Agt.avs]
end
end Go.Proofs.YtobioljjoipimaaDoor
set_option maxRecDepth 8000
namespace Go.Proofs.YtobioljjoipimaaDoor
open Go Go.RowKit
set_option maxRecDepth 20000 in
set_option maxHeartbeats 2000000 in
theorem zno (p : Prg) (id : Int) (m : Pmt) (hp : p.ok) : QC Tryd.prog 5 [.agg p.avs, .int .i64 id, .agg m.avs] (.bool true) := by
  refine QC.of' fun H nx => ?_
  suffices main : ∀ Q : AV → Heap → Nat → Prop, (∀ H' n', Keep nx H' H → Q (.bool true) H' n') → zb Tryd.prog 5 [.agg p.avs, .int .i64 id, .agg m.avs] H nx Q from main _ fun H' n' h => ⟨zyj, h⟩
  intro Q hQ
  refine zge _ _ _ H nx _ ?_
  have pl : p.avs.length = 2 := rfl
  have pt2 : p.avs.take 2 = p.avs := rfl
  have mav : m.avs = [.int .i64 m.fuel, .int .i64 m.room, .int .i64 m.hops] := rfl
  have hsu : (AV.agg p.avs).sure = true := by simp [Prg.avs]
  have hss : (AV.agg m.avs).sure = true := by simp [Pmt.avs]
  unfold zdd
  refine ⟨hsu, hss, ?_⟩
  generalize hX : Heap.put _ (nx + 1) _ = X
  have x0 : X nx = some (.row 2 p.avs) := by rw [← hX, Heap.put_ne _ _ (by omega), Heap.put_at]; rfl
  have x1 : X (nx + 1) = some (.row 3 [.int .i64 m.fuel, .int .i64 m.room, .int .i64 m.hops]) := by rw [← hX, Heap.put_at]; rfl
  have xk : Keep nx X H := fun g hg => by rw [← hX, Heap.put_ne _ _ (by omega), Heap.put_ne _ _ (by omega)]
  clear hX
  refine QC.call zxd ?_
  simp [zde, x0, pl, pt2]
  refine QC.call (znt p hp) ?_
  have fin := fun n' => hQ X n' xk
  by_cases h0 : VM.program p = 0
  case neg => simp [zi, h0]; exact fin _
  by_cases h1 : id < 0
  · simp [zi, h0, h1]; exact fin _
  by_cases h2 : 1000 < id
  · simp [zi, h0, h1, h2]; exact fin _
  by_cases h3 : m.fuel < 0
  · simp [zi, h0, h1, h2, x1, h3]; exact fin _
  by_cases h4 : 2000 < m.fuel
  · simp [zi, h0, h1, h2, x1, h3, h4]; exact fin _
  by_cases h5 : m.room < 0
  · simp [zi, h0, h1, h2, x1, h3, h4, h5]; exact fin _
  by_cases h6 : 60 < m.room
  · simp [zi, h0, h1, h2, x1, h3, h4, h5, h6]; exact fin _
  by_cases h7 : m.hops < 0
  · simp [zi, h0, h1, h2, x1, h3, h4, h5, h6, h7]; exact fin _
  by_cases h8 : 12 < m.hops
  · simp [zi, h0, h1, h2, x1, h3, h4, h5, h6, h7, h8]; exact fin _
  simp [zi, h0, h1, h2, x0, x1, pl, pt2, h3, h4, h5, h6, h7, h8]
  obtain ⟨c1, c2, c3, c4, c5⟩ := VM.first_code h0
  have lv := VM.new_live (id := id) (m := m) h0 (by omega) (by omega) (by omega) (by omega)
  have la := VM.live_agent lv
  have lb := VM.new_away (id := id) (m := m) h0 (by omega) (by omega) (by omega) (by omega)
  have hr := zwb (id := id) (p := p) (m := m) c1 ⟨c3, by omega⟩
  rw [mav] at hr
  refine QC.call hr ?_
  generalize hb : VM.newAgt id p m = b at la lb
  have hbp : b.prog.ok := by rw [← hb]; exact hp
  obtain ⟨bd, bt, bl⟩ := zxe b
  have ob := zaak b
  have sb : ((AV.agg b.avs).sure = true) := by simp [Agt.avs]
  simp [zdf, bl, bt, sb]
  refine ⟨ob, ?_⟩
  refine QC.call (zrs b false hbp) ?_
  simp [zdg, la, bl, bt]
  refine QC.call (zrs b true hbp) ?_
  simp [zdh, lb]
  refine hQ _ _ fun g hg => ?_
  rw [Heap.put_ne _ _ (by omega)]
  exact xk g hg
end Go.Proofs.YtobioljjoipimaaDoor
namespace Go.Proofs.YtobioljjoipimaaDoor
open Go Go.RowKit
theorem LayE.of_var {n : String} {w : World} {t : TypeId} {p : Value} (h : w.var? Tryd.prog n = some #[.iface t p]) : LayE n (fun b => w.heap[b]?) := fun g hg => by
  unfold World.var? at h
  rw [hg, Option.bind_some] at h
  split at h
  · rename_i cs e m hc
    cases h
    exact ⟨_, _, e, m, hc⟩
  · cases h
theorem zre : "*" ++ "errors.errorString" = "*errors.errorString" := by decide
theorem zsx (u : TypeId) (h : Tryd.prog.typeName? 3 u = some "*errors.errorString") : u = 216 :=
  typeName_ptr_named (nm := "errors.errorString") (by rw [zre]; kernel_rfl) (by kernel_rfl) (by decide) u (by rw [zre]; exact h)
theorem zuo {r : List (String × DataW Unit)} {text : List UInt8} {W : World} (h : laidMet Tryd.prog (("strconv.ErrRange", .iface "*errors.errorString" (.ptr (.agg [.lit (.string text)]))) :: r) W) : LayE "strconv.ErrRange" (fun b => W.heap[b]?) := by
  obtain ⟨a, s, h1, _⟩ := laid_sentinel (g := 2) (ti := 180) (tp := 216) (te := 218) (ts := 9) h (by kernel_rfl) (by kernel_rfl) Tryd.underlying180 zsx Tryd.underlying216 Tryd.underlying218 rfl rfl Tryd.underlying9 (by kernel_rfl) (by kernel_rfl)
  exact .of_var h1
theorem zsf {r : List (String × DataW Unit)} {text : List UInt8} {W : World} (h : laidMet Tryd.prog (("strconv.ErrSyntax", .iface "*errors.errorString" (.ptr (.agg [.lit (.string text)]))) :: r) W) : LayE "strconv.ErrSyntax" (fun b => W.heap[b]?) := by
  obtain ⟨a, s, h1, _⟩ := laid_sentinel (g := 1) (ti := 180) (tp := 216) (te := 218) (ts := 9) h (by kernel_rfl) (by kernel_rfl) Tryd.underlying180 zsx Tryd.underlying216 Tryd.underlying218 rfl rfl Tryd.underlying9 (by kernel_rfl) (by kernel_rfl)
  exact .of_var h1
end Go.Proofs.YtobioljjoipimaaDoor
