/- Frames: what the program's function says is wrong with one. Agents: what the program's function says is wrong with one. The document's machine: a frame in the last one's place. The document's machine: Answer, New. The document's machine: what a step gives back. The document's machine: what a step does, in small. The document's machine: where a step's instruction begins. The document's machine: instructions. The document's machine: instructions. The document's machine: instructions on cells. The document's machine: other instructions. The document's machine: `with`, where the order is drawn. -/
import Derived.Test.YtobioljjoipimaaDoorG12
import Derived.Test.YtobioljjoipimaaDoorG10
set_option linter.unusedSimpArgs false
set_option linter.unusedVariables false
set_option maxRecDepth 8000
namespace Go.Proofs.YtobioljjoipimaaDoor
open Go Go.RowKit
set_option maxHeartbeats 2000000 in
theorem zsk (a : Agt) (f : Frm) (h' : Int) (H H0 : Heap) (nx n0 g : Nat) (hg : H g = some (.row 9 a.avs)) (hgn : g < nx) (hn0 : n0 ≤ nx) (hK : Keep n0 H H0) (hv : f.vars.length ≤ 8) (hb : h' ≤ 16) :
    zbu (fun v H' _ => Frz H' n0 v (.int .i64 (zck a f.vars f.stack h')) ∧ Keep n0 H' H0) [.ptr g 0, .rop f.avs 0, .int .i64 h'] H nx := by
  by_cases h1 : h' < 0 ∨ (f.stack.length : Int) ≠ h'
  · have e : zck a f.vars f.stack h' = 10 := by unfold zck; rw [if_pos h1]
    rw [e]
    by_cases h2 : h' < 0
    · simp [zbu, h2, hK]
    · have h3 : ¬ (f.stack.length : Int) = h' := by omega
      simp [zbu, h2, h3, hK, Frm.avs]
  have e : zck a f.vars f.stack h' = VM.firstErr (fun v => VM.wrong v a.heap.length) (f.vars ++ f.stack) := by unfold zck; rw [if_neg h1]
  rw [e]
  have h2 : ¬ h' < 0 := by omega
  have h3 : (f.stack.length : Int) = h' := by omega
  have hne : g ≠ nx := by omega
  simp [zbu, h2, h3, Frm.avs]
  refine LP.mk (fun m xs H' nx' => ∃ (t : Nat) (l : List Val), t ≤ 2 ∧ m = 2 - t ∧ xs = [.ptr g 0, .slc nx 0 2, .int .i64 2, .int .i64 t] ∧ H' nx = some (.row 1 [.ro (f.vars.map Val.avs), .ro (f.stack.map Val.avs)]) ∧ H' g = some (.row 9 a.avs) ∧ Keep n0 H' H0 ∧ nx < nx' ∧
    l = (if t = 0 then f.vars ++ f.stack else if t = 1 then f.stack else []) ∧ VM.firstErr (fun v => VM.wrong v a.heap.length) (f.vars ++ f.stack) = VM.firstErr (fun v => VM.wrong v a.heap.length) l) 2
    ⟨0, _, by omega, by omega, by simp, by simp, by simp [hne, hg], by rw [Keep.put (by omega)]; exact hK, by omega, rfl, rfl⟩ ?_
  rintro m xs H1 n1 ⟨t, l, ht, rfl, rfl, hb1, hg1, hK1, hn1, hl, hfe⟩
  by_cases ht2 : t = 2
  · subst ht2
    simp at hl
    subst hl
    simp [zfn, hK1]
    rw [hfe]; rfl
  have hone : ∃ (cur rest : List Val), (([.ro (f.vars.map Val.avs), .ro (f.stack.map Val.avs)] : List AV)[t]? = some (.ro (cur.map Val.avs))) ∧ l = cur ++ rest ∧ cur.length ≤ 16 ∧ rest = (if t + 1 = 0 then f.vars ++ f.stack else if t + 1 = 1 then f.stack else []) := by
    have : t = 0 ∨ t = 1 := by omega
    rcases this with rfl | rfl
    · exact ⟨f.vars, f.stack, rfl, by simpa using hl, by omega, by simp⟩
    · exact ⟨f.stack, [], rfl, by simpa using hl, by omega, by simp⟩
  obtain ⟨cur, rest, hcur, hlr, hcl, hrest⟩ := hone
  have hlt : t < 2 := by omega
  obtain ⟨_, hcur'⟩ := List.getElem?_eq_some_iff.1 hcur
  have hlt' : (t : Int) < 2 := by omega
  simp [zfn, hlt, hlt', Int.not_le.2 hlt', hb1, hcur']
  refine LP.mk (fun m xs H' nx' => ∃ (j : Nat), j ≤ cur.length ∧ m = cur.length - j ∧ xs = [.ptr g 0, .slc nx 0 2, .int .i64 2, .int .i64 t, .ro (cur.map Val.avs), .int .i64 cur.length, .int .i64 j] ∧ H' nx = some (.row 1 [.ro (f.vars.map Val.avs), .ro (f.stack.map Val.avs)]) ∧ H' g = some (.row 9 a.avs) ∧ Keep n0 H' H0 ∧ nx < nx' ∧
    VM.firstErr (fun v => VM.wrong v a.heap.length) (f.vars ++ f.stack) = VM.firstErr (fun v => VM.wrong v a.heap.length) (cur.drop j ++ rest)) cur.length
    ⟨0, by omega, by omega, by simp, hb1, hg1, hK1, hn1, by rw [hfe, hlr]; rfl⟩ ?_
  rintro m xs H2 n2 ⟨j, hj, rfl, rfl, hb2, hg2, hK2, hn2, hfj⟩
  by_cases hjl : j < cur.length
  · obtain ⟨v, hv⟩ : ∃ v, cur[j]? = some v := ⟨_, List.getElem?_eq_getElem hjl⟩
    obtain ⟨_, hv'⟩ := List.getElem?_eq_some_iff.1 hv
    have m1 : g ≠ n2 := by omega
    have m2 : nx ≠ n2 := by omega
    simp [zfo, hjl, hv', Val.avs, hg2, m1, Agt.avs]
    refine zx.of_qc (zqm v _) (.int _ _) ?_
    simp [zjr]
    rw [List.drop_eq_getElem_cons hjl, hv', List.cons_append] at hfj
    simp only [VM.firstErr] at hfj
    have hK3 : Keep n0 (H2.put n2 (some (.row 3 [.int .i64 v.kind, .int .i64 v.n, .str v.text]))) H0 := by rw [Keep.put (by omega)]; exact hK2
    refine ⟨fun hz => ⟨?_, hK3⟩, fun hz => ?_⟩
    · rw [if_pos hz] at hfj; exact hfj
    · rw [if_neg (by simpa using hz)] at hfj
      rw [i64w (by omega)]
      exact ⟨cur.length - (j + 1), by omega, j + 1, by omega, rfl, rfl, by rw [if_neg m2]; exact hb2, by rw [if_neg m1]; exact hg2, hK3, by omega, hfj⟩
  obtain rfl : j = cur.length := by omega
  simp [zfo]
  rw [i64w (by omega)]
  exact ⟨2 - (t + 1), by omega, t + 1, by omega, rfl, rfl, hb2, hg2, hK2, by omega, by rw [← hrest]; simpa using hfj⟩
set_option maxHeartbeats 4000000 in
theorem zaek (a : Agt) (k : Nat) (away : Bool) (H : Heap) (nx g : Nat) (hg : H g = some (.row 9 a.avs)) (hgn : g < nx) (hk : k < a.frames.length) (hl : a.frames.length ≤ 12) (hp : VM.program a.prog = 0) :
    za Tryd.prog 40 [.ptr g 0, .int .i64 k, .bool away] H nx fun v H' nx' => Frz H' nx v (.int .i64 (VM.frame a k away)) ∧ Keep nx H' H := by
  refine zoe _ _ _ H nx _ ?_
  obtain ⟨f, hf⟩ : ∃ f, a.frames[k]? = some f := ⟨_, List.getElem?_eq_getElem hk⟩
  obtain ⟨_, hf'⟩ := List.getElem?_eq_some_iff.1 hf
  obtain ⟨fn, at_, vs, st⟩ := f
  by_cases h1 : 0 ≤ fn ∧ fn < a.prog.codes.length
  case neg =>
    have e : VM.frame a k away = 3 := by
      unfold VM.frame
      rw [hf]
      have : (if 0 ≤ fn then a.prog.codes[fn.toNat]? else none) = none := by
        split
        · exact List.getElem?_eq_none (by omega)
        · rfl
      simp only [this]
    rw [e]
    by_cases h0 : fn < 0
    · simp [zaz, hg, Agt.avs, hk, hf', Frm.avs, h0]
    · have : (a.prog.codes.length : Int) ≤ fn := by omega
      simp [zaz, hg, Agt.avs, hk, hf', Frm.avs, h0, this]
  obtain ⟨h10, h11⟩ := h1
  obtain ⟨n, rfl⟩ : ∃ n : Nat, fn = n := ⟨fn.toNat, by omega⟩
  have hnl : n < a.prog.codes.length := by omega
  obtain ⟨c, hc⟩ : ∃ c, a.prog.codes[n]? = some c := ⟨_, List.getElem?_eq_getElem hnl⟩
  obtain ⟨_, hc'⟩ := List.getElem?_eq_some_iff.1 hc
  obtain ⟨hcr, hcalm, hch⟩ := (zz hp).1 c (List.mem_of_getElem? hc)
  have hcr' : ¬ (c.params < 0 ∨ 4 < c.params ∨ c.vars < c.params ∨ 8 < c.vars ∨ c.ins.length < 1 ∨ 200 < c.ins.length) := by
    unfold VM.codeRange at hcr
    rwa [decide_eq_false_iff_not] at hcr
  by_cases h2 : (0 ≤ at_ ∧ at_ < c.ins.length) ∧ (vs.length : Int) = c.vars
  case neg =>
    have e : VM.frame a k away = 3 := by
      unfold VM.frame
      rw [hf]
      simp only [Int.toNat_natCast]
      rw [if_pos (by omega), hc]
      simp only
      by_cases hat : 0 ≤ at_ ∧ at_ < c.ins.length
      · rw [if_pos hat.1, List.getElem?_eq_getElem (by omega)]
        simp only
        rw [if_pos (by omega)]
      · have : (if 0 ≤ at_ then c.ins[at_.toNat]? else none) = none := by
          split
          · exact List.getElem?_eq_none (by omega)
          · rfl
        simp only [this]
    rw [e]
    by_cases h0 : at_ < 0
    · simp [zaz, hg, Agt.avs, hk, hf', Frm.avs, Int.not_le.2 h11, hnl, hc', h0, Cod.avs]
    · by_cases h3 : (c.ins.length : Int) ≤ at_
      · simp [zaz, hg, Agt.avs, hk, hf', Frm.avs, Int.not_le.2 h11, hnl, hc', h0, h3, Cod.avs]
      · have h4 : ¬ (vs.length : Int) = c.vars := by omega
        simp [zaz, hg, Agt.avs, hk, hf', Frm.avs, Int.not_le.2 h11, hnl, hc', h0, h3, h4, Cod.avs]
  obtain ⟨⟨h20, h21⟩, h22⟩ := h2
  obtain ⟨m, rfl⟩ : ∃ m : Nat, at_ = m := ⟨at_.toNat, by omega⟩
  have hml : m < c.ins.length := by omega
  obtain ⟨hhl, hhb⟩ := zdf hcalm hch
  obtain ⟨h, hh⟩ : ∃ h, (VM.heights c.ins).1[m]? = some h := ⟨_, List.getElem?_eq_getElem (by omega)⟩
  obtain ⟨hm1, hh'⟩ := List.getElem?_eq_some_iff.1 hh
  have hhb' := hhb h (List.mem_of_getElem? hh)
  have hfe := zqt (away := away) hf hc hml h22 rfl hh
  have hnm : ¬ (c.ins.length ≤ m) := by omega
  have hnn : ¬ (a.prog.codes.length ≤ n) := by omega
  simp [zaz, hg, Agt.avs, hk, hf', Frm.avs, hnl, hc', h22, Cod.avs, hml, hnm, hnn]
  refine ⟨fun h => by omega, fun h => by omega, QC.call (zsh c (by omega) hcalm) ?_⟩
  simp [zjq, hm1, hh']
  refine JN.same ?_
  have w1 : IntKind.i64.wrap ((a.frames.length : Int) - 1) = (a.frames.length : Int) - 1 := i64w (by omega)
  simp [zjt, hg, Agt.avs, w1]
  have key : zjs (fun v H' nx' => Frz H' nx v (.int .i64 (VM.frame a k away)) ∧ Keep nx H' H) [.ptr g 0, .int .i64 k, .rop [.int .i64 n, .int .i64 m, .ro (vs.map Val.avs), .ro (st.map Val.avs)] 0,
      .rop [.int .i64 c.params, .int .i64 c.vars, .ro (c.ins.map Ins.avs)] 0, .ro ((VM.heights c.ins).1.map fun n => [.int .i64 n]), .int .i64 h, .bool (!decide (k + 1 = a.frames.length) || away)] H nx := by
    refine JN.same ?_
    have hvl : vs.length ≤ 8 := by omega
    cases hw : (!decide (k + 1 = a.frames.length) || away)
    · rw [hw] at hfe
      simp only [Bool.false_and, Bool.false_eq_true, if_false] at hfe
      rw [hfe]
      simp [zdg]
      exact zsk a ⟨n, m, vs, st⟩ h H H nx nx g hg hgn (Nat.le_refl _) (by simp) hvl hhb'.2
    rw [hw] at hfe
    simp only [Bool.true_and, if_true] at hfe
    cases m with
    | zero =>
      simp [zdg]
      rw [hfe]; simp
    | succ m =>
    have h00 : ¬ ((m : Int) + 1 = 0) := by omega
    have w2 : IntKind.i64.wrap (h - 1) = h - 1 := i64w (by omega)
    have w3 : IntKind.i64.wrap (m : Int) = m := i64w (by omega)
    have hml' : m < c.ins.length := by omega
    obtain ⟨i, hi⟩ : ∃ i, c.ins[m]? = some i := ⟨_, List.getElem?_eq_getElem hml'⟩
    obtain ⟨_, hi'⟩ := List.getElem?_eq_some_iff.1 hi
    obtain ⟨q, hq⟩ : ∃ q, (VM.heights c.ins).1[m]? = some q := ⟨_, List.getElem?_eq_getElem (by omega)⟩
    obtain ⟨hqm, hq'⟩ := List.getElem?_eq_some_iff.1 hq
    simp [zdg, h00, w2]
    refine JN.same ?_
    simp [zju, w3, hml', hi', Ins.avs]
    have hn1 : g ≠ nx := by omega
    have hg2 : (H.put nx (some (.row 3 [.int .i64 i.op, .int .i64 i.a, .int .i64 i.b]))) g = some (.row 9 a.avs) := by rw [Heap.put_ne _ _ hn1]; exact hg
    have hi2 : (H.put nx (some (.row 3 [.int .i64 i.op, .int .i64 i.a, .int .i64 i.b]))) nx = some (.row 3 [.int .i64 i.op, .int .i64 i.a, .int .i64 i.b]) := Heap.put_at _ _ _
    have hK2 : Keep nx (H.put nx (some (.row 3 [.int .i64 i.op, .int .i64 i.a, .int .i64 i.b]))) H := by simp
    generalize (H.put nx (some (.row 3 [.int .i64 i.op, .int .i64 i.a, .int .i64 i.b]))) = H2 at *
    have hfin : zii a k c (VM.heights c.ins).1 (m + 1) = false → zbu (fun v H' nx' => Frz H' nx v (.int .i64 (VM.frame a k away)) ∧ Keep nx H' H) [.ptr g 0, .rop [.int .i64 n, .int .i64 (m + 1), .ro (vs.map Val.avs), .ro (st.map Val.avs)] 0, .int .i64 (h - 1)] H2 (nx + 1) := by
      intro hb
      have : VM.frame a k away = zck a vs st (h - 1) := by rw [hfe, if_neg (by simp [hb]; omega)]
      rw [this]
      exact zsk a ⟨n, m + 1, vs, st⟩ (h - 1) H2 H (nx + 1) nx g hg2 (by omega) (by omega) hK2 hvl (by omega)
    have hbadv : zii a k c (VM.heights c.ins).1 (m + 1) = true → VM.frame a k away = 10 := fun hb => by rw [hfe, if_pos (by simp [hb])]
    have hbp : zii a k c (VM.heights c.ins).1 (m + 1) = ((!decide (k + 1 = a.frames.length) && (decide (i.op ≠ 17) || decide (i.a ≠ ((a.frames[k + 1]?).map (·.fn)).getD 0))) || (decide (k + 1 = a.frames.length) && decide (i.op ≠ 13)) || decide (q < 0)) := by
      unfold zii
      simp only [Nat.add_sub_cancel, List.getD_eq_getElem?_getD, hi, hq, Option.getD_some]
    rw [hbp] at hfin hbadv
    by_cases hlast : k + 1 = a.frames.length
    · have l1 : ¬ ((k : Int) < (a.frames.length : Int) - 1) := by omega
      have l2 : (k : Int) = (a.frames.length : Int) - 1 := by omega
      simp [hlast] at hfin hbadv
      simp [zfp, hg2, hi2, Agt.avs, w1, l2, w3, hqm, hq']
      refine ⟨fun h13 => ⟨hbadv (.inl h13), hK2⟩, fun h13 => ⟨fun hq0 => ⟨hbadv (.inr hq0), hK2⟩, fun hq0 => hfin h13 hq0⟩⟩
    · have l1 : (k : Int) < (a.frames.length : Int) - 1 := by omega
      have l2 : ¬ ((k : Int) = (a.frames.length : Int) - 1) := by omega
      have hk2 : k + 1 < a.frames.length := by omega
      obtain ⟨f2, hf2⟩ : ∃ f2, a.frames[k + 1]? = some f2 := ⟨_, List.getElem?_eq_getElem hk2⟩
      obtain ⟨_, hf2'⟩ := List.getElem?_eq_some_iff.1 hf2
      rw [hf2] at hfin hbadv
      simp [hlast] at hfin hbadv
      have w4 : IntKind.i64.wrap ((k : Int) + 1) = (k : Int) + 1 := i64w (by omega)
      have hk2i : (k : Int) + 1 < a.frames.length := by omega
      have hk0 : (0 : Int) ≤ (k : Int) + 1 := by omega
      have htn : ((k : Int) + 1).toNat = k + 1 := by omega
      simp [zfp, hg2, hi2, Agt.avs, w1, l1, l2, w3, w4, hqm, hq', hk2i, hk0, htn, hk2, hf2', Frm.avs]
      refine ⟨fun h17 => ⟨hbadv (.inl (.inl h17)), hK2⟩, fun h17 => ⟨fun ha => ⟨hbadv (.inl (.inr ha)), hK2⟩, fun ha => ⟨fun hq0 => ⟨hbadv (.inr hq0), hK2⟩, fun hq0 => hfin h17 ha hq0⟩⟩⟩
  refine ⟨fun hlt => ?_, fun hge => ?_⟩
  · have : (!decide (k + 1 = a.frames.length) || away) = true := by simp; left; omega
    rw [this] at key; exact key
  · have : (!decide (k + 1 = a.frames.length) || away) = away := by simp; intro; omega
    rw [this] at key; exact key
end Go.Proofs.YtobioljjoipimaaDoor
set_option maxRecDepth 8000
namespace Go.Proofs.YtobioljjoipimaaDoor
open Go Go.RowKit
set_option maxHeartbeats 4000000 in
theorem zmt (a : Agt) (away : Bool) (ha : a.prog.ok) : QC Tryd.prog 15 [.agg a.avs, .bool away] (.int .i64 (VM.agent a away)) := by
  refine QC.of' fun H nx => zof _ _ H nx _ ?_
  simp [zjv, Agt.avs]
  refine QC.call (zzo a.prog ha) ?_
  have hg : (H.put nx (some (.row 9 [.int .i64 a.id, .int .i64 a.trip, .ro (a.prog.codes.map Cod.avs), .ro (a.prog.words.map fun w => [.str w]), .ro (a.frames.map Frm.avs), .ro (a.heap.map Cl.avs), .int .i64 a.permit.fuel, .int .i64 a.permit.room, .int .i64 a.permit.hops]))) nx = some (.row 9 a.avs) := Heap.put_at _ _ _
  have hK : Keep nx (H.put nx (some (.row 9 [.int .i64 a.id, .int .i64 a.trip, .ro (a.prog.codes.map Cod.avs), .ro (a.prog.words.map fun w => [.str w]), .ro (a.frames.map Frm.avs), .ro (a.heap.map Cl.avs), .int .i64 a.permit.fuel, .int .i64 a.permit.room, .int .i64 a.permit.hops]))) H := by simp
  generalize (H.put nx (some (.row 9 [.int .i64 a.id, .int .i64 a.trip, .ro (a.prog.codes.map Cod.avs), .ro (a.prog.words.map fun w => [.str w]), .ro (a.frames.map Frm.avs), .ro (a.heap.map Cl.avs), .int .i64 a.permit.fuel, .int .i64 a.permit.room, .int .i64 a.permit.hops]))) = H1 at *
  by_cases hp : VM.program a.prog = 0
  case neg =>
    have e : VM.agent a away = VM.program a.prog := by unfold VM.agent; rw [if_pos hp]
    rw [e]
    simp [zdi, hp, hK]
  have hn1 : nx ≠ nx + 1 := by omega
  have hg2 : (H1.put (nx + 1) (some (.row 3 [.int .i64 a.permit.fuel, .int .i64 a.permit.room, .int .i64 a.permit.hops]))) nx = some (.row 9 a.avs) := by rw [Heap.put_ne _ _ hn1]; exact hg
  have hK2 : Keep nx (H1.put (nx + 1) (some (.row 3 [.int .i64 a.permit.fuel, .int .i64 a.permit.room, .int .i64 a.permit.hops]))) H := by rw [Keep.put (by omega)]; exact hK
  have hr2 : (H1.put (nx + 1) (some (.row 3 [.int .i64 a.permit.fuel, .int .i64 a.permit.room, .int .i64 a.permit.hops]))) (nx + 1) = some (.row 3 [.int .i64 a.permit.fuel, .int .i64 a.permit.room, .int .i64 a.permit.hops]) := Heap.put_at _ _ _
  have e3 : (a.id < 0 ∨ 1073741824 < a.id ∨ a.trip < 0 ∨ 1073741824 < a.trip ∨ a.permit.fuel < 0 ∨ 2000 < a.permit.fuel ∨ a.permit.room < 0 ∨ 60 < a.permit.room ∨ a.permit.hops < 0 ∨ 12 < a.permit.hops) → VM.agent a away = 3 := fun h => by
    unfold VM.agent; rw [if_neg (by simpa using hp), if_pos h]
  by_cases hr : (a.id < 0 ∨ 1073741824 < a.id ∨ a.trip < 0 ∨ 1073741824 < a.trip ∨ a.permit.fuel < 0 ∨ 2000 < a.permit.fuel ∨ a.permit.room < 0 ∨ 60 < a.permit.room ∨ a.permit.hops < 0 ∨ 12 < a.permit.hops)
  · have e := e3 hr
    simp [zdi, hp, hg, Agt.avs]
    generalize (H1.put (nx + 1) (some (.row 3 [.int .i64 a.permit.fuel, .int .i64 a.permit.room, .int .i64 a.permit.hops]))) = H2 at *
    simp only [e]
    repeat' first | exact hK | exact hK2 | apply And.intro | intro _
    all_goals first | trivial | (exfalso; omega)
  have w1 : IntKind.i64.wrap (60 - a.permit.room) = 60 - a.permit.room := i64w (by omega)
  have e0 : VM.agent a away = if a.frames.length < 1 ∨ 12 < a.frames.length then 5 else if 60 - a.permit.room < a.heap.length then 4 else if VM.framesErr a away ≠ 0 then VM.framesErr a away else VM.firstErr (VM.cellErr a.heap.length) a.heap := by
    unfold VM.agent; rw [if_neg (by simpa using hp), if_neg hr]
  simp [zdi, hp, hg, Agt.avs, w1]
  generalize (H1.put (nx + 1) (some (.row 3 [.int .i64 a.permit.fuel, .int .i64 a.permit.room, .int .i64 a.permit.hops]))) = H2 at *
  refine ⟨fun h => by omega, fun _ => ⟨fun h => by omega, fun _ => ⟨fun h => by omega, fun _ => ⟨fun h => by omega, fun _ => ⟨fun h => by omega, fun _ => ⟨fun h => by omega, fun _ => ⟨fun h => by omega, fun _ => ⟨fun h => by omega, fun _ => ⟨fun h => by omega, fun _ => ⟨fun h => by omega, fun _ => ?_⟩⟩⟩⟩⟩⟩⟩⟩⟩⟩
  refine ⟨fun h => ⟨by rw [e0, if_pos (by omega)], hK⟩, fun f1 => ⟨fun h => ⟨by rw [e0, if_pos (by omega)], hK⟩, fun f2 => ⟨fun h => ⟨by rw [e0, if_neg (by omega), if_pos h], hK⟩, fun f3 => ?_⟩⟩⟩
  rw [if_neg (by omega), if_neg (by omega)] at e0
  refine LP.mk (fun m xs H' nx' => ∃ i : Nat, i ≤ a.frames.length ∧ m = a.frames.length - i ∧ xs = [.bool away, .ptr nx 0, .int .i64 a.frames.length, .int .i64 i] ∧ H' nx = some (.row 9 a.avs) ∧ Keep nx H' H ∧ nx < nx' ∧ VM.framesErr a away = VM.firstErr (fun k => VM.frame a k away) ((List.range a.frames.length).drop i)) a.frames.length
    ⟨0, by omega, by omega, by simp, hg2, hK2, by omega, rfl⟩ ?_
  rintro m xs H3 n3 ⟨k, hk, rfl, rfl, hg3, hK3, hn3, hfe⟩
  by_cases hlt : k < a.frames.length
  · have hr : (List.range a.frames.length)[k]? = some k := by simp [hlt]
    rw [zeu _ _ _ _ hr] at hfe
    simp [zfq, hlt]
    refine za.pure_call (zaek a k away H3 n3 nx hg3 hn3 hlt (by omega) hp) ?_
    simp [zjw]
    refine ⟨fun hz => ⟨?_, hK3⟩, fun hz => ?_⟩
    · rw [if_pos hz] at hfe
      rw [e0, hfe, if_pos hz]
    · rw [if_neg (by simpa using hz)] at hfe
      rw [i64w (by omega)]
      exact ⟨a.frames.length - (k + 1), by omega, k + 1, by omega, rfl, rfl, hg3, hK3, hn3, hfe⟩
  obtain rfl : k = a.frames.length := by omega
  have hz : VM.framesErr a away = 0 := by rw [hfe, List.drop_of_length_le (by simp)]; rfl
  rw [if_neg (by simpa using hz)] at e0
  simp [zfq, hg3, Agt.avs]
  refine LP.mk (fun m xs H' nx' => ∃ i : Nat, i ≤ a.heap.length ∧ m = a.heap.length - i ∧ xs = [.ptr nx 0, .ro (a.heap.map Cl.avs), .int .i64 a.heap.length, .int .i64 i] ∧ H' nx = some (.row 9 a.avs) ∧ Keep nx H' H ∧ nx < nx' ∧ VM.agent a away = VM.firstErr (VM.cellErr a.heap.length) (a.heap.drop i)) a.heap.length
    ⟨0, by omega, by omega, by simp, hg3, hK3, by omega, e0⟩ ?_
  rintro m xs H4 n4 ⟨k, hk, rfl, rfl, hg4, hK4, hn4, hfe⟩
  by_cases hlt : k < a.heap.length
  case neg =>
    obtain rfl : k = a.heap.length := by omega
    simp [zfr, hK4]
    rw [hfe]; simp [VM.firstErr]
  obtain ⟨c, hc⟩ : ∃ c, a.heap[k]? = some c := ⟨_, List.getElem?_eq_getElem hlt⟩
  obtain ⟨_, hc'⟩ := List.getElem?_eq_some_iff.1 hc
  rw [zeu _ _ _ _ hc] at hfe
  obtain ⟨l, r⟩ := c
  simp [zfr, hlt, hc', Cl.avs, Val.avs]
  have m1 : nx ≠ n4 := by omega
  have m2 : nx ≠ n4 + 1 := by omega
  have hlen : a.heap.length ≤ 60 := by omega
  refine LP.mk (fun m xs H' nx' => ∃ j : Nat, j ≤ 2 ∧ m = 2 - j ∧ xs = [.ptr nx 0, .ro (a.heap.map Cl.avs), .int .i64 a.heap.length, .int .i64 k, .slc (n4 + 1) 0 2, .int .i64 2, .int .i64 j] ∧ H' nx = some (.row 9 a.avs) ∧ Keep nx H' H ∧ n4 + 1 < nx' ∧
    H' (n4 + 1) = some (.row 3 [.int .i64 l.kind, .int .i64 l.n, .str l.text, .int .i64 r.kind, .int .i64 r.n, .str r.text]) ∧ (1 ≤ j → VM.wrong l a.heap.length = 0) ∧ (2 ≤ j → VM.wrong r a.heap.length = 0)) 2
    ⟨0, by omega, by omega, by simp, ?_, ?_, by omega, by simp, by omega, by omega⟩ ?_
  · rw [Heap.put_ne _ _ m2, Heap.put_ne _ _ m1]; exact hg4
  · rw [Keep.put (by omega), Keep.put (by omega)]; exact hK4
  rintro m xs H5 n5 ⟨j, hj, rfl, rfl, hg5, hK5, hn5, hr5, hj1, hj2⟩
  have hce : VM.cellErr a.heap.length ⟨l, r⟩ = if VM.wrong l a.heap.length ≠ 0 then VM.wrong l a.heap.length else VM.wrong r a.heap.length := rfl
  rw [hce] at hfe
  have m3 : nx ≠ n5 := by omega
  have m4 : n4 + 1 ≠ n5 := by omega
  have hj3 : j = 0 ∨ j = 1 ∨ j = 2 := by omega
  rcases hj3 with rfl | rfl | rfl
  · simp [zdh, hr5, hg5, m3, m4, Agt.avs]
    refine QC.call (zqm l _) ?_
    simp [zfs]
    have hK6 : Keep nx (H5.put n5 (some (.row 3 [.int .i64 l.kind, .int .i64 l.n, .str l.text]))) H := by rw [Keep.put (by omega)]; exact hK5
    refine ⟨fun hz => ⟨by rw [hfe, if_pos hz, if_pos hz], hK6⟩, fun hz => ?_⟩
    exact ⟨2 - 1, by omega, 1, by omega, rfl, by rw [i64w (by omega)]; rfl, by rw [if_neg m3]; exact hg5, hK6, by omega, by rw [if_neg m4]; exact hr5, fun _ => hz, by omega⟩
  · simp [zdh, hr5, hg5, m3, m4, Agt.avs]
    refine QC.call (zqm r _) ?_
    simp [zfs]
    have hK6 : Keep nx (H5.put n5 (some (.row 3 [.int .i64 r.kind, .int .i64 r.n, .str r.text]))) H := by rw [Keep.put (by omega)]; exact hK5
    have hz1 := hj1 (by omega)
    rw [hz1] at hfe
    simp at hfe
    refine ⟨fun hz => ⟨by rw [hfe]; simp [hz], hK6⟩, fun hz => ?_⟩
    exact ⟨2, by omega, by omega, by rw [i64w (by omega)]; rfl, by rw [if_neg m3]; exact hg5, hK6, by omega, by rw [if_neg m4]; exact hr5, fun _ => hz1, fun _ => hz⟩
  · simp [zdh]
    rw [i64w (by omega)]
    have hz1 := hj1 (by omega)
    have hz2 := hj2 (by omega)
    rw [hz1, hz2] at hfe
    simp at hfe
    exact ⟨a.heap.length - (k + 1), by omega, k + 1, by omega, rfl, rfl, hg5, hK5, by omega, hfe⟩
end Go.Proofs.YtobioljjoipimaaDoor
set_option maxRecDepth 8000
namespace Go.Proofs.YtobioljjoipimaaDoor
open Go Go.RowKit
structure zcu (H : Heap) (n sz k : Nat) (cs : List AV) (x : AV) : Prop where
  src : ∀ H' : Heap, (∀ g, g < n → H' g = H g) → ∃ rd, zg sz H' x = some (k, cs, rd)
  len : cs.length = k * sz
  one : cs.all AV.one = true
  x1 : x.cells = [x] ∧ x.one = true ∧ x.sure = true
theorem zcu.keep {H H2 : Heap} {n n2 sz k : Nat} {cs : List AV} {x : AV} (c : zcu H n sz k cs x) (hn : n ≤ n2) (hk : ∀ g, g < n → H2 g = H g) : zcu H2 n2 sz k cs x :=
  ⟨fun H' h => c.src H' fun g hg => (h g (by omega)).trans (hk g hg), c.len, c.one, c.x1⟩
theorem zcu.ro {H : Heap} {n sz : Nat} {xs : List (List AV)} (hs : ∀ x ∈ xs, x.length = sz) (ho : ∀ x ∈ xs, ∀ c ∈ x, c.one = true) : zcu H n sz xs.length xs.flatten (.ro xs) :=
  ⟨fun H' _ => ⟨[], zeg hs⟩, zat hs, List.all_eq_true.2 fun c hc => by obtain ⟨x, hx, hcx⟩ := List.mem_flatten.1 hc; exact ho x hx c hcx, rfl, rfl, rfl⟩
theorem zcu.slc {H : Heap} {n sz g k : Nat} {cs : List AV} (h : H g = some (.row sz cs)) (hg : g < n) (hl : cs.length = k * sz) (ho : cs.all AV.one = true) : zcu H n sz k cs (.slc g 0 k) := by
  refine ⟨fun H' hk => ⟨[g], ?_⟩, hl, ho, rfl, rfl, rfl⟩
  simp only [zg]
  rw [hk g hg, h]
  simp only [Nat.zero_add, List.drop_zero]
  rw [if_pos (by omega), List.take_of_length_le (by omega)]
set_option maxRecDepth 20000 in
set_option maxHeartbeats 1000000 in
theorem zpj {id trip : Int} {p : Prg} {fa ha va sa : AV} {m : Pmt} {fn at_ : Int} {k : Nat} {cs : List AV} {H : Heap} {n : Nat} {Q : AV → Heap → Nat → Prop} (cp : zcu H n 4 (k + 1) cs fa) (hk : k ≤ 4096) (h1 : ha.cells = [ha] ∧ ha.one = true ∧ ha.sure = true) (v1 : va.one = true ∧ va.sure = true) (s1 : sa.one = true ∧ sa.sure = true)
    (hq : ∀ H' n' g', n ≤ g' → g' < n' → Keep n H' H → H' g' = some (.row 4 (cs.take (k * 4) ++ [.int .i64 fn, .int .i64 at_, va, sa])) → Q (.agg (zc id trip p (.slc g' 0 (k + 1)) ha m)) H' n') :
    za Tryd.prog 45 [.agg (zc id trip p fa ha m), .agg [.int .i64 fn, .int .i64 at_, va, sa]] H n Q := by
  refine zpr _ _ H n _ ?_
  have av : ∀ fa', (AV.agg (zc id trip p fa' ha m)).cells = zc id trip p fa' ha m := fun fa' => by simp
  unfold zks
  have hsu : (AV.agg (zc id trip p fa ha m)).sure = true := by simp [zc, cp.x1.2.2, h1.2.2]
  refine ⟨hsu, by simp [v1.2, s1.2], ?_⟩
  have e9 : (zc id trip p fa ha m).length = 9 := rfl
  have e4 : (zc id trip p fa ha m)[4]? = some fa := rfl
  rw [av, e9]
  generalize hX : (((H.put n (some (AObj.row 9 (zc id trip p fa ha m)))).put (n + 1) _).put (n + 2) _).put (n + 3) _ = HX
  have x0 : HX n = some (.row 9 (zc id trip p fa ha m)) := by rw [← hX, Heap.put_ne _ _ (by omega), Heap.put_ne _ _ (by omega), Heap.put_ne _ _ (by omega), Heap.put_at]
  have x1 : HX (n + 1) = some (.row 4 [.int .i64 fn, .int .i64 at_, va, sa]) := by rw [← hX, Heap.put_ne _ _ (by omega), Heap.put_ne _ _ (by omega), Heap.put_at]; rfl
  have x2 : ∃ z, HX (n + 2) = some (.row 9 z) ∧ z.length = 9 := ⟨_, by rw [← hX, Heap.put_ne _ _ (by omega), Heap.put_at], rfl⟩
  have x3 : HX (n + 3) = some (.row 4 []) := by rw [← hX, Heap.put_at]
  have xk : ∀ g, g < n → HX g = H g := fun g hg => by rw [← hX, Heap.put_ne _ _ (by omega), Heap.put_ne _ _ (by omega), Heap.put_ne _ _ (by omega), Heap.put_ne _ _ (by omega)]
  obtain ⟨z, z1, z2⟩ := x2
  obtain ⟨rd, hs⟩ := cp.src HX xk
  have hw : IntKind.i64.wrap (k : Int) = k := i64w (by omega)
  have hl := cp.len
  have ho := cp.one
  rw [List.all_eq_true] at ho
  simp [x0, e4, hs, x3, x1, zc, hw, z1, z2, v1.1, s1.1, cp.x1.1, h1.1, h1.2.1]
  refine ⟨ho, by omega, by omega, by omega, hq _ _ (n + 4) (by omega) (by omega) (fun g hg => ?_) ?_⟩
  · rw [Heap.put_ne _ _ (by omega), Heap.put_ne _ _ (by omega), Heap.put_ne _ _ (by omega), Heap.put_ne _ _ (by omega)]
    exact xk g hg
  · rw [Heap.put_ne _ _ (by omega), Heap.put_ne _ _ (by omega), Heap.put_at, List.drop_of_length_le (by omega)]
end Go.Proofs.YtobioljjoipimaaDoor
set_option maxRecDepth 8000
namespace Go.Proofs.YtobioljjoipimaaDoor
open Go Go.RowKit
theorem zcm (fs : List Frm) : ∀ x ∈ fs.map Frm.avs, x.length = 4 := by intro x hx; obtain ⟨f, _, rfl⟩ := List.mem_map.1 hx; rfl
theorem oneF (fs : List Frm) : ∀ x ∈ fs.map Frm.avs, ∀ c ∈ x, c.one = true := by
  intro x hx c hc; obtain ⟨f, _, rfl⟩ := List.mem_map.1 hx
  simp [Frm.avs] at hc
  rcases hc with rfl | rfl | rfl | rfl <;> rfl
theorem zuf {H : Heap} {nx g : Nat} {fs : List Frm} {f : Frm} {va sa : AV} {cs : List AV} (h : H g = some (.row 4 cs)) (hc : cs = (fs.map Frm.avs).flatten ++ [.int .i64 f.fn, .int .i64 f.at_, va, sa]) (hg : nx ≤ g) (hv : Frz H nx va (.ro (f.vars.map Val.avs))) (hs : Frz H nx sa (.ro (f.stack.map Val.avs))) :
    Frz H nx (.slc g 0 (fs.length + 1)) (.ro ((fs ++ [f]).map Frm.avs)) := by
  have hl : ((fs.map Frm.avs).flatten).length = fs.length * 4 := by rw [zat (zcm fs)]; simp
  have key : ∀ (i : Nat) (x : List AV) (j : Nat) (v : AV), ((fs ++ [f]).map Frm.avs)[i]? = some x → x[j]? = some v → ∃ u, cs[0 + i * 4 + j]? = some u ∧ Frz H nx u v := fun i x j v hx hv' => by
    rw [List.getElem?_map] at hx
    obtain ⟨f', hf, rfl⟩ := Option.map_eq_some_iff.1 hx
    have hj : j < 4 := (List.getElem?_eq_some_iff.1 hv').1
    rw [Nat.zero_add, hc]
    by_cases hi : i < fs.length
    · rw [List.getElem?_append_left hi] at hf
      have hm : (fs.map Frm.avs)[i]? = some f'.avs := by rw [List.getElem?_map, hf]; rfl
      refine ⟨v, ?_, .same _ (ztv f' j v hv')⟩
      have := zabw (zcm fs) hm hv'
      rw [List.getElem?_append_left (by omega)]; exact this
    · have hi' : i = fs.length := by have := (List.getElem?_eq_some_iff.1 hf).1; simp at this; omega
      subst hi'
      rw [List.getElem?_append_right (Nat.le_refl _)] at hf
      simp at hf; subst hf
      rw [List.getElem?_append_right (by omega), hl, show fs.length * 4 + j - fs.length * 4 = j by omega]
      match j, hv' with
      | 0, hv' => cases hv'; exact ⟨_, rfl, .same _ (.int _ _)⟩
      | 1, hv' => cases hv'; exact ⟨_, rfl, .same _ (.int _ _)⟩
      | 2, hv' => cases hv'; exact ⟨_, rfl, hv⟩
      | 3, hv' => cases hv'; exact ⟨_, rfl, hs⟩
      | j + 4, hv' => omega
  refine .slc g 0 _ 4 cs _ hg h (by rw [hc, List.length_append, hl]; simp; omega) (by simp) (zcm _) (fun i j => (cs[0 + i * 4 + j]?).getD .junk) (fun i x j v hx hv' => ?_) (fun i x j v hx hv' => ?_)
  · obtain ⟨u, q1, q2⟩ := key i x j v hx hv'; rw [q1]; rfl
  · obtain ⟨u, q1, q2⟩ := key i x j v hx hv'; rw [q1]; exact q2
theorem zqa {H : Heap} {n : Nat} (fs : List Frm) : zcu H n 4 fs.length (fs.map Frm.avs).flatten (.ro (fs.map Frm.avs)) := by
  have := zcu.ro (H := H) (n := n) (zcm fs) (oneF fs)
  simpa using this
theorem zsj (fs : List Frm) (f : Frm) : (((fs ++ [f]).map Frm.avs).flatten).take (fs.length * 4) = (fs.map Frm.avs).flatten := by
  have hl : ((fs.map Frm.avs).flatten).length = fs.length * 4 := by rw [zat (zcm fs)]; simp
  rw [List.map_append, List.flatten_append, List.take_append_of_le_length (by omega), List.take_of_length_le (by omega)]
set_option maxRecDepth 20000 in
set_option maxHeartbeats 1000000 in
theorem zwb {a : Agt} {fs : List Frm} {f : Frm} {k : Int} (hfr : a.frames = fs ++ [f]) (hf : fs.length ≤ 4096) (hst : f.stack.length ≤ 4096) :
    QC Tryd.prog 18 [.agg a.avs, .int .i64 k] (.agg (VM.answer a k).avs) := by
  refine QC.of' fun H n => ?_
  refine znr _ _ H n _ ?_
  have av : (AV.agg a.avs).cells = a.avs := by simp
  have hsu : (AV.agg a.avs).sure = true := by simp [Agt.avs]
  have e9 : a.avs.length = 9 := rfl
  have e4 : a.avs[4]? = some (.ro (a.frames.map Frm.avs)) := rfl
  unfold zim
  rw [av, e9]
  refine ⟨hsu, ?_⟩
  have hw : IntKind.i64.wrap (fs.length : Int) = fs.length := i64w (by omega)
  have hlast : (fs ++ [f])[fs.length]? = some f := by simp
  rw [hfr] at e4
  have hsrc : ∀ (H : Heap) (l : List Val), zg 3 H (.ro (l.map Val.avs)) = some (l.length, rowV l, []) := fun H l => by rw [zeg (zdt l)]; simp [rowV]
  have hones : ∀ l : List Val, ∀ x ∈ rowV l, x.one = true := fun l c hc => zaj (zgq l c hc)
  have tk : (rowV f.stack).take (f.stack.length * 3) = rowV f.stack := List.take_of_length_le (by simp)
  have at9 : a.avs.take 9 = a.avs := by rw [← e9, List.take_length]
  simp [e4, hw]
  have nn1 : n ≠ n + 4 + 1 + 1 := by omega
  have nn2 : n ≠ n + 4 + 1 := by omega
  simp [Frm.avs, hsrc, tk, e9, at9, nn1, nn2]
  refine ⟨by omega, hones _, by omega, by omega, ?_⟩
  generalize hX : Heap.put _ (n + 2) _ = HX
  have x1 : ∃ z, HX (n + 1) = some (.row 9 z) ∧ z.length = 9 := ⟨_, by rw [← hX, Heap.put_ne _ _ (by omega), Heap.put_ne _ _ (by omega), Heap.put_ne _ _ (by omega), Heap.put_ne _ _ (by omega), Heap.put_ne _ _ (by omega), Heap.put_ne _ _ (by omega), Heap.put_ne _ _ (by omega), Heap.put_at], rfl⟩
  have x2 : HX (n + 4 + 1 + 1) = some (.row 3 (rowV f.stack ++ [.int .i64 0, .int .i64 k, .str []])) := by rw [← hX, Heap.put_ne _ _ (by omega), Heap.put_at]
  have xk : ∀ g, g < n → HX g = H g := fun g hg => by rw [← hX]; rw [Heap.put_ne _ _ (by omega), Heap.put_ne _ _ (by omega), Heap.put_ne _ _ (by omega), Heap.put_ne _ _ (by omega), Heap.put_ne _ _ (by omega), Heap.put_ne _ _ (by omega), Heap.put_ne _ _ (by omega), Heap.put_ne _ _ (by omega), Heap.put_ne _ _ (by omega)]
  have ea : a.avs = zc a.id a.trip a.prog (.ro ((fs ++ [f]).map Frm.avs)) (.ro (a.heap.map Cl.avs)) a.permit := by rw [Agt.avs_eq, hfr]
  rw [ea]
  have cpy := zqa (H := HX) (n := n + 4 + 1 + 1 + 1) (fs ++ [f])
  rw [show (fs ++ [f]).length = fs.length + 1 by simp] at cpy
  refine zpj cpy hf ⟨rfl, rfl, rfl⟩ ⟨rfl, rfl⟩ ⟨rfl, rfl⟩ fun H' n' g' hg1 hg2 kp hr => ?_
  rw [zsj] at hr
  obtain ⟨z, z1, z2⟩ := x1
  have e1 := (kp (n + 1) (by omega)).trans z1
  have e2 := (kp (n + 4 + 1 + 1) (by omega)).trans x2
  simp [zin, zc, e1, z2]
  rw [zuu hfr]
  refine ⟨zdo (zuf (by rw [Heap.put_ne _ _ (by omega)]; exact hr) rfl (by omega) (.same _ (zcr (zcw _))) ?_) (.same _ (zcr (zab _))), fun g hg => ?_⟩
  · refine Slot.frzV (.inr ⟨n + 4 + 1 + 1, _, by simp, by rw [Heap.put_ne _ _ (by omega)]; exact e2, ?_, by simp; omega⟩) (by simp [own]; omega)
    rw [List.take_of_length_le (by simp; omega), zom]; rfl
  · rw [kp g (by omega)]; exact xk g hg
end Go.Proofs.YtobioljjoipimaaDoor
set_option maxRecDepth 8000
namespace Go.Proofs.YtobioljjoipimaaDoor
open Go Go.RowKit
def Good (H : Heap) (nx : Nat) (v : AV) (r : Agt) : Prop := ∃ xs, v = .agg xs ∧ xs.length = 9 ∧ (∀ x ∈ xs, x.one = true) ∧ (AV.agg xs).sure = true ∧ ∀ H2 : Heap, (∀ g, nx + 4 ≤ g → H2 g = H g) → Frz H2 nx v (.agg r.avs)
structure Outs (H0 H : Heap) (nx : Nat) : Prop where
  r2 : ∃ z, H (nx + 2) = some (.row 9 z) ∧ z.length = 9
  r3 : ∃ z, H (nx + 3) = some (.row 3 z) ∧ z.length = 3
  keep : Keep nx H H0
theorem Outs.more {H0 H H' : Heap} {nx : Nat} (o : Outs H0 H nx) (hk : ∀ g, g < nx + 4 → g ≠ nx → g ≠ nx + 1 → H' g = H g) : Outs H0 H' nx := by
  obtain ⟨z, z1, z2⟩ := o.r2
  obtain ⟨y, y1, y2⟩ := o.r3
  exact ⟨⟨z, by rw [hk _ (by omega) (by omega) (by omega)]; exact z1, z2⟩, ⟨y, by rw [hk _ (by omega) (by omega) (by omega)]; exact y1, y2⟩, fun g hg => by rw [hk g (by omega) (by omega) (by omega)]; exact o.keep g hg⟩
theorem Good.more {H H' : Heap} {nx : Nat} {v : AV} {r : Agt} (g : Good H nx v r) (hk : ∀ g, nx + 4 ≤ g → H' g = H g) : Good H' nx v r := by
  obtain ⟨xs, h1, h2, h3, h4, h5⟩ := g
  exact ⟨xs, h1, h2, h3, h4, fun H2 h => h5 H2 fun g hg => (h g hg).trans (hk g hg)⟩
def zfy (H0 : Heap) (nx : Nat) (r : Agt × Evt) : AV → Heap → Nat → Prop := fun v H' _ => Frz H' nx v (.tup [.agg r.1.avs, .agg r.2.avs]) ∧ Keep nx H' H0
theorem ret {H0 H : Heap} {nx n : Nat} {v : AV} {r : Agt × Evt} (g : Good H nx v r.1) (o : Outs H0 H nx) : ST 9 (.ptr (nx + 2) 0) v H fun H1 => ST 3 (.ptr (nx + 3) 0) (.agg r.2.avs) H1 fun H2 => LD true 9 (.ptr (nx + 2) 0) H2 fun v1 => LD true 3 (.ptr (nx + 3) 0) H2 fun v2 => zfy H0 nx r (.tup [v1, v2]) H2 n := by
  obtain ⟨xs, rfl, h2, h3, h4, h5⟩ := g
  obtain ⟨⟨z, z1, z2⟩, ⟨y, y1, y2⟩, keep⟩ := o
  have tx : xs.take 9 = xs := List.take_of_length_le (by omega)
  have m1 : nx + 2 ≠ nx + 3 := by omega
  have m2 : nx + 3 ≠ nx + 2 := by omega
  have m : min xs.length 9 = 9 := by omega
  simp [z1, y1, z2, y2, h2, tx, Evt.avs, m1, m2, m]
  refine ⟨h3, Frz.tup2 (h5 _ fun g hg => by rw [Heap.put_ne _ _ (by omega), Heap.put_ne _ _ (by omega)]) (.same _ (zwv _)), fun g hg => ?_⟩
  · rw [Heap.put_ne _ _ (by omega), Heap.put_ne _ _ (by omega)]; exact keep g hg
theorem ex_0 {a b : AV} {k : AV → Prop} : EX (.tup [a, b]) 0 k = k a := by simp
theorem ex_1 {a b : AV} {k : AV → Prop} : EX (.tup [a, b]) 1 k = k b := by simp
theorem retE {H0 H : Heap} {nx n : Nat} {v : AV} {r : Agt × Evt} (g : Good H nx v r.1) (o : Outs H0 H nx) : EX (.tup [v, .agg r.2.avs]) 0 fun a => EX (.tup [v, .agg r.2.avs]) 1 fun b => ST 9 (.ptr (nx + 2) 0) a H fun H1 => ST 3 (.ptr (nx + 3) 0) b H1 fun H2 => LD true 9 (.ptr (nx + 2) 0) H2 fun v1 => LD true 3 (.ptr (nx + 3) 0) H2 fun v2 => zfy H0 nx r (.tup [v1, v2]) H2 n := by
  rw [ex_0, ex_1]; exact ret g o
theorem zsc {H : Heap} {nx g : Nat} {l : List Val} (h : H g = some (.row 3 (rowV l))) (hg : nx ≤ g) : Frz H nx (.slc g 0 l.length) (.ro (l.map Val.avs)) :=
  Slot.frzV (.inr ⟨g, _, rfl, h, List.take_of_length_le (by simp), by simp⟩) (by simpa [own] using hg)
def Part (H : Heap) (nx n : Nat) (v r : AV) : Prop := v.cells = [v] ∧ v.one = true ∧ v.sure = true ∧ ∀ H2 : Heap, (∀ g, nx + 4 ≤ g → g < n → H2 g = H g) → Frz H2 nx v r
theorem Part.more {H H' : Heap} {nx n n' : Nat} {v r : AV} (p : Part H nx n v r) (hn : n ≤ n') (hk : ∀ g, nx + 4 ≤ g → g < n → H' g = H g) : Part H' nx n' v r := ⟨p.1, p.2.1, p.2.2.1, fun H2 h => p.2.2.2 H2 fun g hg hl => (h g hg (by omega)).trans (hk g hg hl)⟩
theorem Part.ro {H : Heap} {nx n : Nat} {xs : List (List AV)} (hx : ∀ x ∈ xs, ∀ c ∈ x, scal c = true) : Part H nx n (.ro xs) (.ro xs) := ⟨rfl, rfl, rfl, fun H2 _ => .same _ (zcr hx)⟩
theorem Part.row {H : Heap} {nx n g : Nat} {l : List Val} (h : H g = some (.row 3 (rowV l))) (hg : nx + 4 ≤ g) (hl : g < n) : Part H nx n (.slc g 0 l.length) (.ro (l.map Val.avs)) :=
  ⟨rfl, rfl, rfl, fun H2 hk => zsc (by rw [hk g hg hl]; exact h) (by omega)⟩
theorem Part.nils {H : Heap} {nx n : Nat} : Part H nx n .nils (.ro []) := ⟨rfl, rfl, rfl, fun H2 _ => .nils⟩
theorem zih {H : Heap} {nx n g : Nat} {id trip : Int} {p : Prg} {fs : List Frm} {f : Frm} {h : List Cl} {m : Pmt} {va sa ha : AV} (hg : nx + 4 ≤ g) (hr : H g = some (.row 4 ((fs.map Frm.avs).flatten ++ [.int .i64 f.fn, .int .i64 f.at_, va, sa]))) (hv : Part H nx n va (.ro (f.vars.map Val.avs))) (hs : Part H nx n sa (.ro (f.stack.map Val.avs))) (hh : Part H nx n ha (.ro (h.map Cl.avs))) :
    Good H nx (.agg (zc id trip p (.slc g 0 (fs.length + 1)) ha m)) ⟨id, trip, p, fs ++ [f], h, m⟩ := by
  refine ⟨_, rfl, rfl, ?_, ?_, fun H2 hk => zdo (zuf (by rw [hk g hg]; exact hr) rfl (by omega) (hv.2.2.2 H2 fun g hg _ => hk g hg) (hs.2.2.2 H2 fun g hg _ => hk g hg)) (hh.2.2.2 H2 fun g hg _ => hk g hg)⟩
  · intro x hx
    simp [zc] at hx
    rcases hx with rfl | rfl | rfl | rfl | rfl | rfl | rfl | rfl | rfl <;> first | rfl | exact hh.2.1
  · simp [zc, hh.2.2.1]
theorem zcf {H : Heap} {nx n ga : Nat} {id trip : Int} {p : Prg} {fs : List Frm} {f : Frm} {h : List Cl} {m : Pmt} {va sa ha w1 w2 w3 w4 : AV} {Q : AV → Heap → Nat → Prop} (hn : nx + 4 ≤ n) (hk : fs.length ≤ 4096) (hl : ga < n) (hr : H ga = some (.row 4 ((fs.map Frm.avs).flatten ++ [w1, w2, w3, w4]))) (hw : w1.one = true ∧ w2.one = true ∧ w3.one = true ∧ w4.one = true)
    (hv : Part H nx n va (.ro (f.vars.map Val.avs))) (hs : Part H nx n sa (.ro (f.stack.map Val.avs))) (hh : Part H nx n ha (.ro (h.map Cl.avs)))
    (hq : ∀ H' n' g', n ≤ g' → g' < n' → Keep n H' H → H' g' = some (.row 4 ((fs.map Frm.avs).flatten ++ [.int .i64 f.fn, .int .i64 f.at_, va, sa])) → Good H' nx (.agg (zc id trip p (.slc g' 0 (fs.length + 1)) ha m)) ⟨id, trip, p, fs ++ [f], h, m⟩ → Q (.agg (zc id trip p (.slc g' 0 (fs.length + 1)) ha m)) H' n') :
    za Tryd.prog 45 [.agg (zc id trip p (.slc ga 0 (fs.length + 1)) ha m), .agg [.int .i64 f.fn, .int .i64 f.at_, va, sa]] H n Q := by
  have hlf : ((fs.map Frm.avs).flatten).length = fs.length * 4 := by rw [zat (zcm fs)]; simp
  refine zpj (zcu.slc hr hl (by rw [List.length_append, hlf]; simp; omega) ?_) hk ⟨hh.1, hh.2.1, hh.2.2.1⟩ ⟨hv.2.1, hv.2.2.1⟩ ⟨hs.2.1, hs.2.2.1⟩ fun H' n' g' h1 h2 kp hr' => ?_
  · refine List.all_eq_true.2 fun c hc => ?_
    rcases List.mem_append.1 hc with hc | hc
    · obtain ⟨x, hx, hcx⟩ := List.mem_flatten.1 hc; exact oneF fs x hx c hcx
    · simp at hc; rcases hc with rfl | rfl | rfl | rfl
      · exact hw.1
      · exact hw.2.1
      · exact hw.2.2.1
      · exact hw.2.2.2
  · rw [List.take_append_of_le_length (by omega), List.take_of_length_le (by omega)] at hr'
    exact hq H' n' g' h1 h2 kp hr' (zih (n := n) (by omega) hr' (hv.more (Nat.le_refl _) fun g _ hg => kp g hg) (hs.more (Nat.le_refl _) fun g _ hg => kp g hg) (hh.more (Nat.le_refl _) fun g _ hg => kp g hg))
end Go.Proofs.YtobioljjoipimaaDoor
set_option maxRecDepth 8000
namespace Go.Proofs.YtobioljjoipimaaDoor
open Go Go.RowKit
section
variable {H0 H : Heap} {nx n ga : Nat} {id trip : Int} {p : Prg} {fs : List Frm} {f : Frm} {h : List Cl} {m : Pmt} {va sa ha w1 w2 w3 w4 : AV}
theorem zzt (er : Int) {xs : List AV} (hx : H nx = some (.row 9 xs)) (hl : xs.length = 9) (ho : ∀ x ∈ xs, x.one = true) (hn : nx < n) {Q : AV → Heap → Nat → Prop} (hq : ∀ H', (∀ g, g < n → H' g = H g) → Q (.tup [.agg xs, .agg (VM.dead er).avs]) H' (n + 2)) : za Tryd.prog 43 [.int .i64 er, .ptr nx 0] H n Q := by
  refine znq _ _ H n _ ?_
  have tx : xs.take 9 = xs := List.take_of_length_le (by omega)
  have m1 : nx ≠ n := by omega
  have m2 : nx ≠ n + 1 := by omega
  have m3 : n ≠ n + 1 := by omega
  have m : min xs.length 9 = 9 := by omega
  have d9 : List.drop 9 [AV.int .i64 0, .int .i64 0, .nils, .nils, .nils, .nils, .int .i64 0, .int .i64 0, .int .i64 0] = [] := rfl
  simp [zil, hx, m1, m2, m3, tx, hl, m]
  exact ⟨ho, fun x hx => by rcases hx with (rfl | rfl) | rfl <;> rfl, hq _ fun g hg => by rw [Heap.put_ne _ _ (by omega), Heap.put_ne _ _ (by omega), Heap.put_ne _ _ (by omega), Heap.put_ne _ _ (by omega)]⟩
set_option maxRecDepth 20000 in
set_option maxHeartbeats 1000000 in
theorem zvv (v : Val) {gs : Nat} (hn : nx + 6 ≤ n) (hk : fs.length ≤ 4096) (hst : f.stack.length ≤ 4096) (r0 : H nx = some (.row 9 (zc id trip p (.slc ga 0 (fs.length + 1)) ha m))) (r4 : H (nx + 4) = some (.row 4 [.int .i64 f.fn, .int .i64 f.at_, va, .slc gs 0 f.stack.length])) (rs : H gs = some (.row 3 (rowV f.stack))) (hgs : nx + 6 ≤ gs ∧ gs < n)
    (hga : nx + 6 ≤ ga ∧ ga < n) (ra : H ga = some (.row 4 ((fs.map Frm.avs).flatten ++ [w1, w2, w3, w4]))) (hne : ga ≠ gs) (hw : w1.one = true ∧ w2.one = true ∧ w3.one = true ∧ w4.one = true)
    (hv : ∀ H' : Heap, (∀ g, nx + 6 ≤ g → g < n → g ≠ gs → H' g = H g) → Part H' nx n va (.ro (f.vars.map Val.avs))) (hh : ∀ H' : Heap, (∀ g, nx + 6 ≤ g → g < n → g ≠ gs → H' g = H g) → Part H' nx n ha (.ro (h.map Cl.avs)))
    {Q : AV → Heap → Nat → Prop} (hq : ∀ v' H' n', Good H' nx v' ⟨id, trip, p, fs ++ [{ f with stack := f.stack ++ [v] }], h, m⟩ → (∀ g, g < nx + 4 → H' g = H g) → Q (.tup [v', .agg VM.ev0.avs]) H' n') :
    za Tryd.prog 46 [.agg v.avs, .ptr (nx + 4) 0, .ptr nx 0] H n Q := by
  refine znp _ _ _ H n _ ?_
  have ce : (AV.agg v.avs).cells = v.avs := by simp
  have lv : v.avs.length = 3 := rfl
  have tv : v.avs.take 3 = v.avs := rfl
  unfold zij
  rw [ce, lv]
  have m0 : nx + 4 ≠ n := by omega
  have m1 : nx + 4 ≠ n + 1 := by omega
  have m2 : nx + 4 ≠ n + 2 := by omega
  have m3 : nx + 4 ≠ n + 3 := by omega
  have ga1 : gs ≠ n := by omega
  have ga2 : gs ≠ n + 1 := by omega
  have ga3 : gs ≠ n + 2 := by omega
  have ga4 : gs ≠ n + 3 := by omega
  refine ⟨by simp [Val.avs], ?_⟩
  have b1 : nx ≠ n := by omega
  have b2 : nx ≠ n + 1 := by omega
  have b3 : nx ≠ n + 2 := by omega
  have b4 : nx ≠ n + 3 := by omega
  have b5 : nx ≠ n + 4 := by omega
  have b6 : nx ≠ gs := by omega
  have b7 : nx + 4 ≠ gs := by omega
  have b8 : nx ≠ nx + 4 := by omega
  have tk : (rowV f.stack).take (f.stack.length * 3) = rowV f.stack := List.take_of_length_le (by simp)
  simp [r4, m0, m1, m2, m3, tv, lv, ga1, ga2, ga3, ga4, rs, b1, b2, b3, b4, b5, b6, b7, b8, r0, zc, tk]
  refine ⟨fun x hx => zaj (zda v x hx), by omega, ?_⟩
  generalize hX : Heap.put _ (nx + 4) _ = HX
  have old : ∀ g, g < n → g ≠ gs → g ≠ nx + 4 → HX g = H g := fun g h1 h2 h3 => by
    rw [← hX, Heap.put_ne _ _ h3, Heap.put_ne _ _ (by omega), Heap.put_ne _ _ h2, Heap.put_ne _ _ (by omega), Heap.put_ne _ _ (by omega), Heap.put_ne _ _ (by omega), Heap.put_ne _ _ (by omega)]
  have x1 : HX (n + 4) = some (.row 3 (rowV (f.stack ++ [v]))) := by rw [← hX, Heap.put_ne _ _ (by omega), Heap.put_at, zom]
  have x2 : ∃ z, HX (n + 1) = some (.row 9 z) ∧ z.length = 9 := ⟨_, by rw [← hX, Heap.put_ne _ _ (by omega), Heap.put_ne _ _ (by omega), Heap.put_ne _ _ (by omega), Heap.put_ne _ _ (by omega), Heap.put_ne _ _ (by omega), Heap.put_at], rfl⟩
  have x3 : ∃ z, HX (n + 2) = some (.row 3 z) ∧ z.length = 3 := ⟨_, by rw [← hX, Heap.put_ne _ _ (by omega), Heap.put_ne _ _ (by omega), Heap.put_ne _ _ (by omega), Heap.put_ne _ _ (by omega), Heap.put_at], rfl⟩
  have hs' : Part HX nx (n + 4 + 1) (.slc (n + 4) 0 (f.stack.length + 1)) (.ro ((f.stack ++ [v]).map Val.avs)) := by
    have := Part.row (nx := nx) (n := n + 4 + 1) x1 (by omega) (by omega)
    simpa using this
  have hv0 := hv HX fun g h1 h2 h3 => old g h2 h3 (by omega)
  have hh0 := hh HX fun g h1 h2 h3 => old g h2 h3 (by omega)
  have hv' := hv0.more (n' := n + 4 + 1) (H' := HX) (by omega) fun g _ _ => rfl
  have hh' := hh0.more (n' := n + 4 + 1) (H' := HX) (by omega) fun g _ _ => rfl
  refine zcf (f := { f with stack := f.stack ++ [v] }) (by omega) hk (by omega) (by rw [old ga hga.2 hne (by omega)]; exact ra) hw hv' hs' hh' fun H' n' g' h1 h2 kp hr gd => ?_
  obtain ⟨z, z1, z2⟩ := x2
  obtain ⟨y, y1, y2⟩ := x3
  have q1 := (kp (n + 1) (by omega)).trans z1
  have q2 := (kp (n + 2) (by omega)).trans y1
  have c1 : n + 2 ≠ n + 1 := by omega
  have c2 : n + 1 ≠ n + 2 := by omega
  simp [zik, zc, q1, q2, z2, y2, c1, c2, hh'.1, hh'.2.1]
  have q4 := (kp (n + 4) (by omega)).trans x1
  have fin : ∀ o o', ∀ g, g ≠ n + 1 → g ≠ n + 2 → ((H'.put (n + 1) o).put (n + 2) o') g = H' g := fun o o' g h1 h2 => by rw [Heap.put_ne _ _ h2, Heap.put_ne _ _ h1]
  refine hq _ _ _ (zih (n := n') (f := { f with stack := f.stack ++ [v] }) (by omega) (by rw [fin _ _ g' (by omega) (by omega)]; exact hr) (hv0.more (by omega) fun g h1 h2 => ?_) ?_ (hh0.more (by omega) fun g h1 h2 => ?_)) fun g hg => ?_
  · rw [fin _ _ g (by omega) (by omega), kp g (by omega)]
  · have := Part.row (nx := nx) (n := n') ((fin (some (.row 9 (zc id trip p (.slc g' 0 (fs.length + 1)) ha m ++ z.drop 9))) (some (.row 3 (VM.ev0.avs ++ y.drop 3))) (n + 4) (by omega) (by omega)).trans q4) (by omega) (by omega)
    simpa [zc, VM.ev0, Evt.avs] using this
  · rw [fin _ _ g (by omega) (by omega), kp g (by omega)]
  · rw [fin _ _ g (by omega) (by omega), kp g (by omega)]; exact old g (by omega) (by omega) (by omega)
end
end Go.Proofs.YtobioljjoipimaaDoor
set_option maxRecDepth 8000
namespace Go.Proofs.YtobioljjoipimaaDoor
open Go Go.RowKit
structure VSt (H0 H : Heap) (nx n ga : Nat) (b : Agt) (s : Spt) (fs : List Frm) (f : Frm) (ins : List Val) (i : Ins) : Prop where
  o : Outs H0 H nx
  r0 : H nx = some (.row 9 (zc b.id b.trip b.prog (.slc ga 0 (fs.length + 1)) (.ro (b.heap.map Cl.avs)) b.permit))
  r1 : H (nx + 1) = some (.row 4 s.avs)
  r4 : H (nx + 4) = some (.row 4 [.int .i64 f.fn, .int .i64 f.at_, .slc (nx + 11) 0 f.vars.length, .slc (nx + 9) 0 f.stack.length])
  r5 : H (nx + 5) = some (.row 3 i.avs)
  ra : H ga = some (.row 4 ((fs.map Frm.avs).flatten ++ [.int .i64 f.fn, .int .i64 f.at_, .slc (nx + 11) 0 f.vars.length, .slc (nx + 9) 0 f.stack.length]))
  rv : H (nx + 11) = some (.row 3 (rowV f.vars))
  rs : H (nx + 9) = some (.row 3 (rowV f.stack))
  ri : H (nx + 7) = some (.row 3 (rowV ins))
  ga1 : nx + 12 ≤ ga ∧ ga < n
  hk : fs.length ≤ 4096
  hst : f.stack.length ≤ 4096
section
variable {H0 H : Heap} {nx n ga : Nat} {b : Agt} {s : Spt} {fs : List Frm} {f : Frm} {ins : List Val} {i : Ins}
theorem VSt.more (R : VSt H0 H nx n ga b s fs f ins i) {H' : Heap} {n' : Nat} (hn : n ≤ n') (hk : ∀ g, g < n → H' g = H g) : VSt H0 H' nx n' ga b s fs f ins i := by
  have g1 := R.ga1
  exact ⟨R.o.more fun g hg _ _ => hk g (by omega), by rw [hk _ (by omega)]; exact R.r0, by rw [hk _ (by omega)]; exact R.r1, by rw [hk _ (by omega)]; exact R.r4, by rw [hk _ (by omega)]; exact R.r5, by rw [hk _ (by omega)]; exact R.ra, by rw [hk _ (by omega)]; exact R.rv, by rw [hk _ (by omega)]; exact R.rs, by rw [hk _ (by omega)]; exact R.ri, ⟨by omega, by omega⟩, R.hk, R.hst⟩
theorem zabu {H : Heap} {g : Nat} {o : Option AObj} (h : H g = o) : H.put g o = H := by
  funext x
  by_cases e : x = g
  · subst e; rw [Heap.put_at, h]
  · rw [Heap.put_ne _ _ e]
theorem VSt.self (R : VSt H0 H nx n ga b s fs f ins i) : H.put nx (some (.row 9 [.int .i64 b.id, .int .i64 b.trip, .ro (b.prog.codes.map Cod.avs), .ro (b.prog.words.map fun w => [.str w]), .slc ga 0 (fs.length + 1), .ro (b.heap.map Cl.avs), .int .i64 b.permit.fuel, .int .i64 b.permit.room, .int .i64 b.permit.hops])) = H := zabu R.r0
theorem VSt.push (R : VSt H0 H nx n ga b s fs f ins i) (v : Val) {Q : AV → Heap → Nat → Prop} (hq : ∀ v' H' n', Good H' nx v' ⟨b.id, b.trip, b.prog, fs ++ [{ f with stack := f.stack ++ [v] }], b.heap, b.permit⟩ → Outs H0 H' nx → Q (.tup [v', .agg VM.ev0.avs]) H' n') :
    za Tryd.prog 46 [.agg v.avs, .ptr (nx + 4) 0, .ptr nx 0] H n Q := by
  have g1 := R.ga1
  refine zvv (f := f) v (by omega) R.hk R.hst R.r0 R.r4 R.rs ⟨by omega, by omega⟩ ⟨by omega, by omega⟩ R.ra (by omega) ⟨rfl, rfl, rfl, rfl⟩ (fun H' hk => ?_) (fun H' hk => .ro (zab _)) fun v' H' n' g hk => hq v' H' n' g (R.o.more fun g hg _ _ => hk g hg)
  exact Part.row (by rw [hk _ (by omega) (by omega) (by omega)]; exact R.rv) (by omega) (by omega)
theorem VSt.good (R : VSt H0 H nx n ga b s fs f ins i) {H' : Heap} (hk : ∀ g, nx + 4 ≤ g → g < n → H' g = H g) : Good H' nx (.agg (zc b.id b.trip b.prog (.slc ga 0 (fs.length + 1)) (.ro (b.heap.map Cl.avs)) b.permit)) ⟨b.id, b.trip, b.prog, fs ++ [f], b.heap, b.permit⟩ := by
  have g1 := R.ga1
  exact zih (n := n) (by omega) (by rw [hk _ (by omega) (by omega)]; exact R.ra) (Part.row (by rw [hk _ (by omega) (by omega)]; exact R.rv) (by omega) (by omega)) (Part.row (by rw [hk _ (by omega) (by omega)]; exact R.rs) (by omega) (by omega)) (.ro (zab _))
theorem VSt.no (R : VSt H0 H nx n ga b s fs f ins i) (er : Int) {Q : AV → Heap → Nat → Prop} (hq : ∀ v' H' n', Good H' nx v' ⟨b.id, b.trip, b.prog, fs ++ [f], b.heap, b.permit⟩ → Outs H0 H' nx → Q (.tup [v', .agg (VM.dead er).avs]) H' n') :
    za Tryd.prog 43 [.int .i64 er, .ptr nx 0] H n Q := by
  have g1 := R.ga1
  refine zzt er R.r0 rfl (fun x hx => ?_) (by omega) fun H' hk => hq _ H' _ (R.good fun g _ hg => hk g hg) (R.o.more fun g hg _ _ => hk g (by omega))
  simp [zc] at hx
  rcases hx with rfl | rfl | rfl | rfl | rfl | rfl | rfl | rfl | rfl <;> rfl
theorem VSt.with (R : VSt H0 H nx n ga b s fs f ins i) {f' : Frm} {h : List Cl} {m : Pmt} {va sa ha : AV} (hv : Part H nx n va (.ro (f'.vars.map Val.avs))) (hs : Part H nx n sa (.ro (f'.stack.map Val.avs))) (hh : Part H nx n ha (.ro (h.map Cl.avs))) {Q : AV → Heap → Nat → Prop}
    (hq : ∀ H' n' g', n ≤ g' → g' < n' → Keep n H' H → H' g' = some (.row 4 ((fs.map Frm.avs).flatten ++ [.int .i64 f'.fn, .int .i64 f'.at_, va, sa])) → Good H' nx (.agg (zc b.id b.trip b.prog (.slc g' 0 (fs.length + 1)) ha m)) ⟨b.id, b.trip, b.prog, fs ++ [f'], h, m⟩ → Outs H0 H' nx → Q (.agg (zc b.id b.trip b.prog (.slc g' 0 (fs.length + 1)) ha m)) H' n') :
    za Tryd.prog 45 [.agg (zc b.id b.trip b.prog (.slc ga 0 (fs.length + 1)) ha m), .agg [.int .i64 f'.fn, .int .i64 f'.at_, va, sa]] H n Q := by
  have g1 := R.ga1
  exact zcf (by omega) R.hk g1.2 R.ra ⟨rfl, rfl, rfl, rfl⟩ hv hs hh fun H' n' g' h1 h2 kp hr gd => hq H' n' g' h1 h2 kp hr gd (R.o.more fun g hg _ _ => kp g (by omega))
def Then (H0 H : Heap) (nx n ga : Nat) (b : Agt) (fs : List Frm) (ins : List Val) (r : Agt × Evt) : Prop :=
  ze nx (zfy H0 nx r) (.slc (nx + 7) 0 ins.length) (.agg (zc b.id b.trip b.prog (.slc ga 0 (fs.length + 1)) (.ro (b.heap.map Cl.avs)) b.permit)) H n
end
end Go.Proofs.YtobioljjoipimaaDoor
set_option maxRecDepth 8000
namespace Go.Proofs.YtobioljjoipimaaDoor
open Go Go.RowKit
section
variable {H0 H : Heap} {nx n ga : Nat} {b : Agt} {s : Spt} {fs : List Frm} {f : Frm} {ins : List Val} {ia ib : Int}
set_option maxRecDepth 20000 in
set_option maxHeartbeats 1000000 in
theorem zahy (R : VSt H0 H nx n ga b s fs f ins ⟨1, ia, ib⟩) : Then H0 H nx n ga b fs ins (VM.push b fs f f.stack ⟨0, ia, []⟩) := by
  unfold Then
  have r0 := R.r0
  have r5 := R.r5
  have self := R.self
  simp [ze, r0, zc, r5, self, Ins.avs]
  exact R.push ⟨0, ia, []⟩ fun v' H' n' g o => retE (r := VM.push b fs f f.stack ⟨0, ia, []⟩) g o
set_option maxRecDepth 20000 in
set_option maxHeartbeats 1000000 in
theorem zahx (R : VSt H0 H nx n ga b s fs f ins ⟨2, ia, ib⟩) (h0 : 0 ≤ ia) {w : Str} (hw : b.prog.words[ia.toNat]? = some w) (hl : w.length ≤ maxLen) : Then H0 H nx n ga b fs ins (VM.push b fs f f.stack (VM.cText w)) := by
  unfold Then
  have r0 := R.r0
  have r5 := R.r5
  have self := R.self
  obtain ⟨hlt, hwe⟩ := List.getElem?_eq_some_iff.1 hw
  have hlt' : ia < b.prog.words.length := by omega
  simp [ze, r0, zc, r5, self, Ins.avs, h0, hlt, hlt', hwe]
  refine QC.call (zqn w hl) ?_
  simp only [zkw]
  exact R.push (VM.cText w) fun v' H' n' g o => retE (r := VM.push b fs f f.stack (VM.cText w)) g o
set_option maxRecDepth 20000 in
set_option maxHeartbeats 1000000 in
theorem zagq (R : VSt H0 H nx n ga b s fs f ins ⟨12, ia, ib⟩) (hl : s.name.length ≤ maxLen) : Then H0 H nx n ga b fs ins (VM.push b fs f f.stack (VM.cText s.name)) := by
  unfold Then
  have r0 := R.r0
  have r1 := R.r1
  have r5 := R.r5
  have self := R.self
  simp [ze, r0, r1, zc, r5, self, Ins.avs, Spt.avs]
  refine QC.call (zqn s.name hl) ?_
  simp only [zkv]
  exact R.push (VM.cText s.name) fun v' H' n' g o => retE (r := VM.push b fs f f.stack (VM.cText s.name)) g o
set_option maxRecDepth 20000 in
set_option maxHeartbeats 1000000 in
theorem zahw (R : VSt H0 H nx n ga b s fs f ins ⟨3, ia, ib⟩) (h0 : 0 ≤ ia) {v : Val} (hv : f.vars[ia.toNat]? = some v) : Then H0 H nx n ga b fs ins (VM.push b fs f f.stack v) := by
  unfold Then
  have r0 := R.r0
  have r4 := R.r4
  have r5 := R.r5
  have rv := R.rv
  have self := R.self
  obtain ⟨hlt, hve⟩ := List.getElem?_eq_some_iff.1 hv
  have hlt' : ia < f.vars.length := by omega
  have row := zagw hv
  have hle : ia.toNat * 3 + 3 ≤ f.vars.length * 3 := by omega
  simp [ze, r0, zc, r4, r5, rv, self, Ins.avs, h0, hlt', row, hle]
  exact R.push v fun v' H' n' g o => retE (r := VM.push b fs f f.stack v) g o
set_option maxRecDepth 20000 in
set_option maxHeartbeats 1000000 in
theorem zahv (R : VSt H0 H nx n ga b s fs f ins ⟨4, ia, ib⟩) (h0 : 0 ≤ ia) {v : Val} (hlt : ia.toNat < f.vars.length) (hi : ins = [v]) : Then H0 H nx n ga b fs ins (VM.toF b fs { f with vars := f.vars.set ia.toNat v }, VM.ev0) := by
  unfold Then
  have r0 := R.r0
  have r4 := R.r4
  have r5 := R.r5
  have rv := R.rv
  have ri := R.ri
  have self := R.self
  subst hi
  have hlt' : ia < f.vars.length := by omega
  have hle : ia.toNat * 3 + 3 ≤ f.vars.length * 3 := by omega
  have one : rowV [v] = v.avs := by simp [rowV]
  have lv : v.avs.length = 3 := rfl
  have tv : v.avs.take 3 = v.avs := rfl
  rw [one] at ri
  simp [ze, r0, zc, r4, r5, rv, ri, self, Ins.avs, h0, hlt', hle, lv, tv]
  refine ⟨fun x hx => zaj (zda v x hx), ?_⟩
  have g1 := R.ga1
  generalize hX : Heap.put H (nx + 11) _ = HX
  have xk : ∀ g, g ≠ nx + 11 → HX g = H g := fun g hg => by rw [← hX, Heap.put_ne _ _ hg]
  have x1 : HX (nx + 11) = some (.row 3 (rowV (f.vars.set ia.toNat v))) := by rw [← hX, Heap.put_at, ← zwa hlt, List.append_assoc]
  have hv : Part HX nx n (.slc (nx + 11) 0 f.vars.length) (.ro ((f.vars.set ia.toNat v).map Val.avs)) := by
    have := Part.row (nx := nx) (n := n) x1 (by omega) (by omega)
    simpa using this
  refine zcf (f := { f with vars := f.vars.set ia.toNat v }) (by omega) R.hk g1.2 (by rw [xk ga (by omega)]; exact R.ra) ⟨rfl, rfl, rfl, rfl⟩ hv (.row (by rw [xk _ (by omega)]; exact R.rs) (by omega) (by omega)) (.ro (zab _)) fun H' n' g' h1 h2 kp hr gd => ?_
  exact ret (r := (VM.toF b fs { f with vars := f.vars.set ia.toNat v }, VM.ev0)) gd (R.o.more fun g hg _ _ => by rw [kp g (by omega)]; exact xk g (by omega))
end
end Go.Proofs.YtobioljjoipimaaDoor
set_option maxRecDepth 8000
namespace Go.Proofs.YtobioljjoipimaaDoor
open Go Go.RowKit
section
variable {H0 H : Heap} {nx n ga : Nat} {b : Agt} {s : Spt} {fs : List Frm} {f : Frm} {ins : List Val} {ia ib : Int}
theorem zafk {A : Nat → Prop} {a b : AV} (h1 : Bel A a) (h2 : Bel A b) : Bel A (.tup [a, b]) := by
  refine .tup _ fun i x hx => ?_
  match i, hx with
  | 0, hx => cases hx; exact h1
  | 1, hx => cases hx; exact h2
  | i + 2, hx => simp at hx
theorem Part.rowC {H : Heap} {nx n g : Nat} {l : List Cl} (h : H g = some (.row 6 (rowC l))) (hg : nx + 4 ≤ g) (hl : g < n) : Part H nx n (.slc g 0 l.length) (.ro (l.map Cl.avs)) :=
  ⟨rfl, rfl, rfl, fun H2 hk => Slot.frzH (.inr ⟨g, _, rfl, by rw [hk g hg hl]; exact h, List.take_of_length_le (by simp), by simp⟩) (by simp [own]; omega)⟩
theorem zvz (x y : Val) : (rowV [x, y]).take 3 = x.avs ∧ ((rowV [x, y]).drop 3).take 3 = y.avs ∧ (rowV [x, y]).length = 6 := ⟨rfl, rfl, rfl⟩
set_option maxRecDepth 20000 in
set_option maxHeartbeats 1000000 in
theorem zahu (R : VSt H0 H nx n ga b s fs f ins ⟨5, ia, ib⟩) {x y : Val} (hi : ins = [x, y]) {N M : Int} (wx : VM.wrong x N = 0) (wy : VM.wrong y M = 0) : Then H0 H nx n ga b fs ins (if (VM.two ia x y).2 = 0 then VM.push b fs f f.stack (VM.two ia x y).1 else (VM.toF b fs f, VM.dead (VM.two ia x y).2)) := by
  unfold Then
  have r0 := R.r0
  have r4 := R.r4
  have r5 := R.r5
  have ri := R.ri
  have self := R.self
  subst hi
  have g1 := R.ga1
  obtain ⟨w1, w2, w3⟩ := zvz x y
  have n1 : n ≠ nx + 5 := by omega
  have n2 : n ≠ nx + 7 := by omega
  simp [ze, r0, zc, r4, r5, ri, self, Ins.avs, w1, w2, w3]
  refine zx.of_qc (r := .tup [.agg (VM.two ia x y).1.avs, .int .i64 (VM.two ia x y).2]) (zagf ia x y N M wx wy) ?_ ?_
  · exact zafk (zud _) (.int _ _)
  have one := zgh (VM.two ia x y).1
  have R' := R.more (H' := H.put n (some (.row 3 (VM.two ia x y).1.avs))) (n' := n + 1) (by omega) fun g hg => Heap.put_ne _ _ (by omega)
  by_cases h2 : (VM.two ia x y).2 = 0
  · simp [zff, h2, n1, n2]
    exact ⟨one, R'.push _ fun v' H' n' g o => retE (r := VM.push b fs f f.stack (VM.two ia x y).1) g o⟩
  · simp [zff, h2, n1, n2]
    exact ⟨one, R'.no _ fun v' H' n' g o => retE (r := (VM.toF b fs f, VM.dead (VM.two ia x y).2)) g o⟩
set_option maxRecDepth 20000 in
set_option maxHeartbeats 1000000 in
theorem zaht (R : VSt H0 H nx n ga b s fs f ins ⟨6, ia, ib⟩) {x y : Val} (hi : ins = [x, y]) (h0 : 0 ≤ b.permit.room) (hh : b.heap.length ≤ 4096) (hm : b.permit.room ≤ 4096) : Then H0 H nx n ga b fs ins (if b.permit.room = 0 then (VM.toF b fs f, VM.dead 13) else VM.push { b with heap := b.heap ++ [Cl.mk x y], permit := { b.permit with room := b.permit.room - 1 } } fs f f.stack ⟨2, b.heap.length, []⟩) := by
  unfold Then
  have r0 := R.r0
  have r4 := R.r4
  have r5 := R.r5
  have ri := R.ri
  have self := R.self
  subst hi
  have g1 := R.ga1
  obtain ⟨w1, w2, w3⟩ := zvz x y
  have n1 : n ≠ nx + 5 := by omega
  have n2 : n ≠ nx + 7 := by omega
  by_cases hr : b.permit.room = 0
  · have hr1 : b.permit.room < 1 := by omega
    simp [ze, r0, zc, r4, r5, ri, self, Ins.avs, w1, w2, w3, hr]
    rw [hr] at self
    rw [self]
    exact R.no 13 fun v' H' n' g o => retE (r := (VM.toF b fs f, VM.dead 13)) g o
  · have hr1 : ¬ b.permit.room < 1 := by omega
    have hw : IntKind.i64.wrap (b.permit.room - 1) = b.permit.room - 1 := i64w (by omega)
    have hsrc : ∀ (H : Heap), zg 6 H (.ro (b.heap.map Cl.avs)) = some (b.heap.length, rowC b.heap, []) := fun H => by rw [zeg (zdc b.heap)]; simp [rowC]
    have tk : (rowC b.heap).take (b.heap.length * 6) = rowC b.heap := List.take_of_length_le (by simp)
    have hw2 : IntKind.i64.wrap (b.heap.length : Int) = b.heap.length := i64w (by omega)
    have one := zgh x
    have one2 := zgh y
    have lx : x.avs.length = 3 := rfl
    have ly : y.avs.length = 3 := rfl
    have e6 : List.drop 6 (x.avs ++ [AV.int .i64 0, AV.int .i64 0, AV.str []]) = [] := rfl
    have t6 : List.take 6 (x.avs ++ y.avs) = x.avs ++ y.avs := rfl
    have ne_0 : nx ≠ nx + 4 ∧ nx + 4 ≠ nx ∧ nx ≠ nx + 5 ∧ nx + 5 ≠ nx ∧ nx ≠ nx + 7 ∧ nx + 7 ≠ nx ∧ nx + 4 ≠ nx + 5 ∧ nx + 5 ≠ nx + 4 ∧ nx + 4 ≠ nx + 7 ∧ nx + 7 ≠ nx + 4 ∧ nx + 5 ≠ nx + 7 ∧ nx + 7 ≠ nx + 5 ∧ nx ≠ n ∧ n ≠ nx ∧ nx ≠ n + 1 ∧ n + 1 ≠ nx ∧ nx ≠ n + 1 + 1 ∧ n + 1 + 1 ≠ nx ∧ nx ≠ n + 1 + 1 + 1 ∧ n + 1 + 1 + 1 ≠ nx ∧ nx ≠ n + 2 ∧ n + 2 ≠ nx ∧ nx ≠ n + 3 ∧ n + 3 ≠ nx ∧ nx + 4 ≠ n ∧ n ≠ nx + 4 ∧ nx + 4 ≠ n + 1 ∧ n + 1 ≠ nx + 4 ∧ nx + 4 ≠ n + 1 + 1 ∧ n + 1 + 1 ≠ nx + 4 ∧ nx + 4 ≠ n + 1 + 1 + 1 ∧ n + 1 + 1 + 1 ≠ nx + 4 ∧ nx + 4 ≠ n + 2 ∧ n + 2 ≠ nx + 4 ∧ nx + 4 ≠ n + 3 ∧ n + 3 ≠ nx + 4 ∧ nx + 5 ≠ n ∧ n ≠ nx + 5 ∧ nx + 5 ≠ n + 1 ∧ n + 1 ≠ nx + 5 ∧ nx + 5 ≠ n + 1 + 1 ∧ n + 1 + 1 ≠ nx + 5 ∧ nx + 5 ≠ n + 1 + 1 + 1 ∧ n + 1 + 1 + 1 ≠ nx + 5 ∧ nx + 5 ≠ n + 2 ∧ n + 2 ≠ nx + 5 ∧ nx + 5 ≠ n + 3 ∧ n + 3 ≠ nx + 5 ∧ nx + 7 ≠ n ∧ n ≠ nx + 7 ∧ nx + 7 ≠ n + 1 ∧ n + 1 ≠ nx + 7 ∧ nx + 7 ≠ n + 1 + 1 ∧ n + 1 + 1 ≠ nx + 7 ∧ nx + 7 ≠ n + 1 + 1 + 1 ∧ n + 1 + 1 + 1 ≠ nx + 7 ∧ nx + 7 ≠ n + 2 ∧ n + 2 ≠ nx + 7 ∧ nx + 7 ≠ n + 3 ∧ n + 3 ≠ nx + 7 := ⟨by omega, by omega, by omega, by omega, by omega, by omega, by omega, by omega, by omega, by omega, by omega, by omega, by omega, by omega, by omega, by omega, by omega, by omega, by omega, by omega, by omega, by omega, by omega, by omega, by omega, by omega, by omega, by omega, by omega, by omega, by omega, by omega, by omega, by omega, by omega, by omega, by omega, by omega, by omega, by omega, by omega, by omega, by omega, by omega, by omega, by omega, by omega, by omega, by omega, by omega, by omega, by omega, by omega, by omega, by omega, by omega, by omega, by omega, by omega, by omega⟩
    simp [ze, r0, zc, r4, r5, ri, self, Ins.avs, w1, w2, w3, hr, hr1, hw, hsrc, tk, hw2, lx, ly, ne_0, e6, t6]
    refine ⟨fun c hc => zaj (zcg _ c hc), by omega, fun c hc => by rcases hc with h | h; exact one c h; exact one2 c h, by omega, by omega, by omega, by omega, ?_⟩
    generalize hX : Heap.put _ nx _ = HX
    have x0 : HX nx = some (.row 9 (zc b.id b.trip b.prog (.slc ga 0 (fs.length + 1)) (.slc (n + 1 + 1 + 1) 0 (b.heap.length + 1)) (Pmt.mk b.permit.fuel (b.permit.room - 1) b.permit.hops))) := by rw [← hX, Heap.put_at]; rfl
    have x1 : HX (n + 1 + 1 + 1) = some (.row 6 (rowC (b.heap ++ [Cl.mk x y]))) := by rw [← hX, Heap.put_ne _ _ (by omega), Heap.put_at, zabo]; rfl
    have xk : ∀ g, g < n → g ≠ nx → HX g = H g := fun g h1 h2 => by
      rw [← hX, Heap.put_ne _ _ h2, Heap.put_ne _ _ (by omega), Heap.put_ne _ _ (by omega), Heap.put_ne _ _ (by omega), Heap.put_ne _ _ (by omega), Heap.put_ne _ _ (by omega), Heap.put_ne _ _ h2]
    refine zvv (f := f) (h := b.heap ++ [Cl.mk x y]) (m := Pmt.mk b.permit.fuel (b.permit.room - 1) b.permit.hops) ⟨2, b.heap.length, []⟩ (by omega) R.hk R.hst x0 (by rw [xk _ (by omega) (by omega)]; exact R.r4) (by rw [xk _ (by omega) (by omega)]; exact R.rs) ⟨by omega, by omega⟩ ⟨by omega, by omega⟩ (by rw [xk _ (by omega) (by omega)]; exact R.ra) (by omega) ⟨rfl, rfl, rfl, rfl⟩ (fun H' hk => ?_) (fun H' hk => ?_) fun v' H' n' g hk => retE (r := VM.push { b with heap := b.heap ++ [Cl.mk x y], permit := { b.permit with room := b.permit.room - 1 } } fs f f.stack ⟨2, b.heap.length, []⟩) g (R.o.more fun g hg h1 _ => by rw [hk g hg]; exact xk g (by omega) h1)
    · exact Part.row (by rw [hk _ (by omega) (by omega) (by omega), xk _ (by omega) (by omega)]; exact R.rv) (by omega) (by omega)
    · have := Part.rowC (H := H') (nx := nx) (n := n + 4) (g := n + 1 + 1 + 1) (l := b.heap ++ [Cl.mk x y]) (by rw [hk _ (by omega) (by omega) (by omega)]; exact x1) (by omega) (by omega)
      simpa using this
end
end Go.Proofs.YtobioljjoipimaaDoor
set_option maxRecDepth 8000
namespace Go.Proofs.YtobioljjoipimaaDoor
open Go Go.RowKit
section
variable {H0 H : Heap} {nx n ga : Nat} {b : Agt} {s : Spt} {fs : List Frm} {f : Frm} {ins : List Val} {ia ib : Int}
theorem zqo : ∀ {L : List Cl} {i : Nat} {c : Cl}, i < L.length → (rowC L).take (i * 6) ++ c.avs ++ (rowC L).drop (i * 6 + 6) = rowC (L.set i c)
  | [], i, c, h => by simp at h
  | w :: L, 0, c, h => by simp [rowC, Cl.avs, List.drop_append, List.drop_of_length_le, Val.avs]
  | w :: L, i + 1, c, h => by
    have ih := zqo (L := L) (i := i) (c := c) (by simpa using h)
    have hw : w.avs.length = 6 := rfl
    have e : rowC (w :: L) = w.avs ++ rowC L := by simp [rowC]
    have e2 : rowC ((w :: L).set (i + 1) c) = w.avs ++ rowC (L.set i c) := by simp [rowC]
    rw [e, e2, ← ih, List.take_append, List.take_of_length_le (by omega), List.drop_append, List.drop_of_length_le (by omega), hw, show (i + 1) * 6 - 6 = i * 6 by omega, show (i + 1) * 6 + 6 - 6 = i * 6 + 6 by omega, List.nil_append]
    simp only [List.append_assoc]
theorem zbo (x : Val) : rowV [x] = x.avs := by simp [rowV]
set_option maxRecDepth 20000 in
set_option maxHeartbeats 1000000 in
theorem zagi (R : VSt H0 H nx n ga b s fs f ins ⟨7, ia, ib⟩) {x : Val} (hi : ins = [x]) (hk : x.kind ≠ 2) : Then H0 H nx n ga b fs ins (VM.toF b fs f, VM.dead 11) := by
  unfold Then
  have r0 := R.r0
  have r4 := R.r4
  have r5 := R.r5
  have ri := R.ri
  have self := R.self
  subst hi
  have g1 := R.ga1
  have ri' : H (nx + 7) = some (.row 3 [.int .i64 x.kind, .int .i64 x.n, .str x.text]) := by rw [ri, zbo]; rfl
  simp [ze, r0, zc, r4, r5, ri', self, Ins.avs]
  refine JN.same ?_
  simp [zm]
  simp [zl, r0, zc, r4, r5, ri', Ins.avs, hk, CALL]
  exact R.no 11 fun v' H' n' g o => retE (r := (VM.toF b fs f, VM.dead 11)) g o
set_option maxRecDepth 20000 in
set_option maxHeartbeats 1000000 in
theorem zahs (R : VSt H0 H nx n ga b s fs f ins ⟨7, ia, ib⟩) {x : Val} (hi : ins = [x]) (hk : x.kind = 2) (h0 : 0 ≤ x.n) {c : Cl} (hc : b.heap[x.n.toNat]? = some c) : Then H0 H nx n ga b fs ins (VM.push b fs f f.stack c.left) := by
  unfold Then
  have r0 := R.r0
  have r4 := R.r4
  have r5 := R.r5
  have ri := R.ri
  have self := R.self
  subst hi
  have g1 := R.ga1
  have ri' : H (nx + 7) = some (.row 3 [.int .i64 x.kind, .int .i64 x.n, .str x.text]) := by rw [ri, zbo]; rfl
  have h1 := (List.getElem?_eq_some_iff.1 hc).1
  have h2 : x.n < b.heap.length := by omega
  have hce : b.heap[x.n.toNat] = c := (List.getElem?_eq_some_iff.1 hc).2
  have c6 : c.avs.take 6 = c.avs := rfl
  have c3 : c.avs.take 3 = c.left.avs := rfl
  have d3 : (c.avs.drop 3).take 3 = c.right.avs := rfl
  have lc : c.avs.length = 6 := rfl
  have ne_0 : nx ≠ nx + 4 ∧ nx + 4 ≠ nx ∧ nx ≠ nx + 5 ∧ nx + 5 ≠ nx ∧ nx ≠ nx + 7 ∧ nx + 7 ≠ nx ∧ nx + 4 ≠ nx + 5 ∧ nx + 5 ≠ nx + 4 ∧ nx + 4 ≠ nx + 7 ∧ nx + 7 ≠ nx + 4 ∧ nx + 5 ≠ nx + 7 ∧ nx + 7 ≠ nx + 5 ∧ nx ≠ n ∧ n ≠ nx ∧ nx + 4 ≠ n ∧ n ≠ nx + 4 ∧ nx + 5 ≠ n ∧ n ≠ nx + 5 ∧ nx + 7 ≠ n ∧ n ≠ nx + 7 := ⟨by omega, by omega, by omega, by omega, by omega, by omega, by omega, by omega, by omega, by omega, by omega, by omega, by omega, by omega, by omega, by omega, by omega, by omega, by omega, by omega⟩
  simp [ze, r0, zc, r4, r5, ri', self, Ins.avs]
  refine JN.same ?_
  simp [zm]
  simp [zl, r0, zc, r4, r5, ri', Ins.avs, hk, h0, h2, hce, c6, c3, d3, lc, CALL, ne_0]
  exact ⟨fun y hy => zaj (zcg [c] y (by simpa [rowC] using hy)), (R.more (by omega) fun g hg => Heap.put_ne _ _ (by omega)).push _ fun v' H' n' g o => retE (r := VM.push b fs f f.stack c.left) g o⟩
set_option maxRecDepth 20000 in
set_option maxHeartbeats 1000000 in
theorem zagh (R : VSt H0 H nx n ga b s fs f ins ⟨8, ia, ib⟩) {x : Val} (hi : ins = [x]) (hk : x.kind ≠ 2) : Then H0 H nx n ga b fs ins (VM.toF b fs f, VM.dead 11) := by
  unfold Then
  have r0 := R.r0
  have r4 := R.r4
  have r5 := R.r5
  have ri := R.ri
  have self := R.self
  subst hi
  have g1 := R.ga1
  have ri' : H (nx + 7) = some (.row 3 [.int .i64 x.kind, .int .i64 x.n, .str x.text]) := by rw [ri, zbo]; rfl
  simp [ze, r0, zc, r4, r5, ri', self, Ins.avs]
  refine JN.same ?_
  simp [zm]
  simp [zl, r0, zc, r4, r5, ri', Ins.avs, hk, CALL]
  exact R.no 11 fun v' H' n' g o => retE (r := (VM.toF b fs f, VM.dead 11)) g o
set_option maxRecDepth 20000 in
set_option maxHeartbeats 1000000 in
theorem zahr (R : VSt H0 H nx n ga b s fs f ins ⟨8, ia, ib⟩) {x : Val} (hi : ins = [x]) (hk : x.kind = 2) (h0 : 0 ≤ x.n) {c : Cl} (hc : b.heap[x.n.toNat]? = some c) : Then H0 H nx n ga b fs ins (VM.push b fs f f.stack c.right) := by
  unfold Then
  have r0 := R.r0
  have r4 := R.r4
  have r5 := R.r5
  have ri := R.ri
  have self := R.self
  subst hi
  have g1 := R.ga1
  have ri' : H (nx + 7) = some (.row 3 [.int .i64 x.kind, .int .i64 x.n, .str x.text]) := by rw [ri, zbo]; rfl
  have h1 := (List.getElem?_eq_some_iff.1 hc).1
  have h2 : x.n < b.heap.length := by omega
  have hce : b.heap[x.n.toNat] = c := (List.getElem?_eq_some_iff.1 hc).2
  have c6 : c.avs.take 6 = c.avs := rfl
  have c3 : c.avs.take 3 = c.left.avs := rfl
  have d3 : (c.avs.drop 3).take 3 = c.right.avs := rfl
  have lc : c.avs.length = 6 := rfl
  have ne_1 : nx ≠ nx + 4 ∧ nx + 4 ≠ nx ∧ nx ≠ nx + 5 ∧ nx + 5 ≠ nx ∧ nx ≠ nx + 7 ∧ nx + 7 ≠ nx ∧ nx + 4 ≠ nx + 5 ∧ nx + 5 ≠ nx + 4 ∧ nx + 4 ≠ nx + 7 ∧ nx + 7 ≠ nx + 4 ∧ nx + 5 ≠ nx + 7 ∧ nx + 7 ≠ nx + 5 ∧ nx ≠ n ∧ n ≠ nx ∧ nx + 4 ≠ n ∧ n ≠ nx + 4 ∧ nx + 5 ≠ n ∧ n ≠ nx + 5 ∧ nx + 7 ≠ n ∧ n ≠ nx + 7 := ⟨by omega, by omega, by omega, by omega, by omega, by omega, by omega, by omega, by omega, by omega, by omega, by omega, by omega, by omega, by omega, by omega, by omega, by omega, by omega, by omega⟩
  simp [ze, r0, zc, r4, r5, ri', self, Ins.avs]
  refine JN.same ?_
  simp [zm]
  simp [zl, r0, zc, r4, r5, ri', Ins.avs, hk, h0, h2, hce, c6, c3, d3, lc, CALL, ne_1]
  exact ⟨fun y hy => zaj (zcg [c] y (by simpa [rowC] using hy)), (R.more (by omega) fun g hg => Heap.put_ne _ _ (by omega)).push _ fun v' H' n' g o => retE (r := VM.push b fs f f.stack c.right) g o⟩
set_option maxRecDepth 20000 in
set_option maxHeartbeats 1000000 in
theorem zagg (R : VSt H0 H nx n ga b s fs f ins ⟨9, ia, ib⟩) {x y : Val} (hi : ins = [x, y]) (hk : x.kind ≠ 2) : Then H0 H nx n ga b fs ins (VM.toF b fs f, VM.dead 11) := by
  unfold Then
  have r0 := R.r0
  have r4 := R.r4
  have r5 := R.r5
  have ri := R.ri
  have self := R.self
  subst hi
  have g1 := R.ga1
  have ri' : H (nx + 7) = some (.row 3 [.int .i64 x.kind, .int .i64 x.n, .str x.text, .int .i64 y.kind, .int .i64 y.n, .str y.text]) := by rw [ri]; rfl
  simp [ze, r0, zc, r4, r5, ri', self, Ins.avs]
  refine JN.same ?_
  simp [zm]
  simp [zl, r0, zc, r4, r5, ri', Ins.avs, hk, CALL]
  exact R.no 11 fun v' H' n' g o => retE (r := (VM.toF b fs f, VM.dead 11)) g o
set_option maxRecDepth 20000 in
set_option maxHeartbeats 1000000 in
theorem zahq (R : VSt H0 H nx n ga b s fs f ins ⟨9, ia, ib⟩) {x y : Val} (hi : ins = [x, y]) (hk : x.kind = 2) (h0 : 0 ≤ x.n) (hh : b.heap.length ≤ 4096) {c : Cl} (hc : b.heap[x.n.toNat]? = some c) : Then H0 H nx n ga b fs ins (VM.toF { b with heap := b.heap.set x.n.toNat ⟨y, c.right⟩ } fs f, VM.ev0) := by
  unfold Then
  have r0 := R.r0
  have r4 := R.r4
  have r5 := R.r5
  have ri := R.ri
  have self := R.self
  subst hi
  have g1 := R.ga1
  have ri' : H (nx + 7) = some (.row 3 ([.int .i64 x.kind, .int .i64 x.n, .str x.text] ++ y.avs)) := by rw [ri]; rfl
  have h1 := (List.getElem?_eq_some_iff.1 hc).1
  have h2 : x.n < b.heap.length := by omega
  have hce : b.heap[x.n.toNat] = c := (List.getElem?_eq_some_iff.1 hc).2
  have c6 : c.avs.take 6 = c.avs := rfl
  have c3 : c.avs.take 3 = c.left.avs := rfl
  have d3 : c.avs.drop 3 = c.right.avs := rfl
  have d6 : c.avs.drop 6 = [] := rfl
  have nc : y.avs ++ c.right.avs = (Cl.mk y c.right).avs := rfl
  have n6 : (Cl.mk y c.right).avs.take 6 = (Cl.mk y c.right).avs := rfl
  have nl : (Cl.mk y c.right).avs.length = 6 := rfl
  have lc : c.avs.length = 6 := rfl
  have ly : y.avs.length = 3 := rfl
  have ty : y.avs.take 3 = y.avs := rfl
  have hsrc : ∀ (H : Heap), zg 6 H (.ro (b.heap.map Cl.avs)) = some (b.heap.length, rowC b.heap, []) := fun H => by rw [zeg (zdc b.heap)]; simp [rowC]
  have ne_2 : nx ≠ nx + 4 ∧ nx + 4 ≠ nx ∧ nx ≠ nx + 5 ∧ nx + 5 ≠ nx ∧ nx ≠ nx + 7 ∧ nx + 7 ≠ nx ∧ nx ≠ n ∧ n ≠ nx ∧ nx + 4 ≠ nx + 5 ∧ nx + 5 ≠ nx + 4 ∧ nx + 4 ≠ nx + 7 ∧ nx + 7 ≠ nx + 4 ∧ nx + 4 ≠ n ∧ n ≠ nx + 4 ∧ nx + 5 ≠ nx + 7 ∧ nx + 7 ≠ nx + 5 ∧ nx + 5 ≠ n ∧ n ≠ nx + 5 ∧ nx + 7 ≠ n ∧ n ≠ nx + 7 ∧ nx ≠ n + 1 ∧ n + 1 ≠ nx ∧ nx ≠ n + 2 ∧ n + 2 ≠ nx ∧ nx ≠ n + 1 + 1 ∧ n + 1 + 1 ≠ nx ∧ nx + 4 ≠ n + 1 ∧ n + 1 ≠ nx + 4 ∧ nx + 4 ≠ n + 2 ∧ n + 2 ≠ nx + 4 ∧ nx + 4 ≠ n + 1 + 1 ∧ n + 1 + 1 ≠ nx + 4 ∧ nx + 5 ≠ n + 1 ∧ n + 1 ≠ nx + 5 ∧ nx + 5 ≠ n + 2 ∧ n + 2 ≠ nx + 5 ∧ nx + 5 ≠ n + 1 + 1 ∧ n + 1 + 1 ≠ nx + 5 ∧ nx + 7 ≠ n + 1 ∧ n + 1 ≠ nx + 7 ∧ nx + 7 ≠ n + 2 ∧ n + 2 ≠ nx + 7 ∧ nx + 7 ≠ n + 1 + 1 ∧ n + 1 + 1 ≠ nx + 7 ∧ n ≠ n + 1 ∧ n + 1 ≠ n ∧ n ≠ n + 2 ∧ n + 2 ≠ n ∧ n ≠ n + 1 + 1 ∧ n + 1 + 1 ≠ n := ⟨by omega, by omega, by omega, by omega, by omega, by omega, by omega, by omega, by omega, by omega, by omega, by omega, by omega, by omega, by omega, by omega, by omega, by omega, by omega, by omega, by omega, by omega, by omega, by omega, by omega, by omega, by omega, by omega, by omega, by omega, by omega, by omega, by omega, by omega, by omega, by omega, by omega, by omega, by omega, by omega, by omega, by omega, by omega, by omega, by omega, by omega, by omega, by omega, by omega, by omega⟩
  simp [ze, r0, zc, r4, r5, ri', self, Ins.avs]
  refine JN.same ?_
  simp [zm]
  simp [zl, r0, zc, r4, r5, ri', Ins.avs, hk, h0, h2, hce, c6, c3, d3, d6, nc, n6, nl, lc, ly, ty, hsrc, CALL, ne_2]
  refine ⟨fun z hz => zaj (zcg [c] z (by simpa [rowC] using hz)), fun z hz => zaj (zcg _ z hz), by omega, zgh y, by omega, fun z hz => zaj (zcg [Cl.mk y c.right] z (by simpa [rowC] using hz)), ?_⟩
  generalize hX : Heap.put _ (n + 1 + 1) (some (AObj.row 6 (List.take _ _ ++ _))) = HX
  have xk : ∀ g, g < n → g ≠ nx → HX g = H g := fun g h1 h2 => by
    rw [← hX, Heap.put_ne _ _ (by omega), Heap.put_ne _ _ (by omega), Heap.put_ne _ _ h2, Heap.put_ne _ _ (by omega), Heap.put_ne _ _ (by omega), Heap.put_ne _ _ (by omega)]
  have x1 : HX (n + 1 + 1) = some (.row 6 (rowC (b.heap.set x.n.toNat (Cl.mk y c.right)))) := by rw [← hX, Heap.put_at, ← zqo h1, List.append_assoc]
  have hh' : Part HX nx (n + 3) (.slc (n + 1 + 1) 0 b.heap.length) (.ro ((b.heap.set x.n.toNat (Cl.mk y c.right)).map Cl.avs)) := by
    have := Part.rowC (nx := nx) (n := n + 3) x1 (by omega) (by omega)
    simpa using this
  refine zcf (f := f) (by omega) R.hk (by omega) (by rw [xk ga (by omega) (by omega)]; exact R.ra) ⟨rfl, rfl, rfl, rfl⟩ (.row (by rw [xk _ (by omega) (by omega)]; exact R.rv) (by omega) (by omega)) (.row (by rw [xk _ (by omega) (by omega)]; exact R.rs) (by omega) (by omega)) hh' fun H' n' g' q1 q2 kp hr gd => ?_
  exact ret (r := (VM.toF { b with heap := b.heap.set x.n.toNat (Cl.mk y c.right) } fs f, VM.ev0)) gd (R.o.more fun g hg q3 _ => by rw [kp g (by omega)]; exact xk g (by omega) q3)
set_option maxRecDepth 20000 in
set_option maxHeartbeats 1000000 in
theorem zadt (R : VSt H0 H nx n ga b s fs f ins ⟨10, ia, ib⟩) {x y : Val} (hi : ins = [x, y]) (hk : x.kind ≠ 2) : Then H0 H nx n ga b fs ins (VM.toF b fs f, VM.dead 11) := by
  unfold Then
  have r0 := R.r0
  have r4 := R.r4
  have r5 := R.r5
  have ri := R.ri
  have self := R.self
  subst hi
  have g1 := R.ga1
  have ri' : H (nx + 7) = some (.row 3 [.int .i64 x.kind, .int .i64 x.n, .str x.text, .int .i64 y.kind, .int .i64 y.n, .str y.text]) := by rw [ri]; rfl
  simp [ze, r0, zc, r4, r5, ri', self, Ins.avs]
  refine JN.same ?_
  simp [zm]
  simp [zl, r0, zc, r4, r5, ri', Ins.avs, hk, CALL]
  exact R.no 11 fun v' H' n' g o => retE (r := (VM.toF b fs f, VM.dead 11)) g o
set_option maxRecDepth 20000 in
set_option maxHeartbeats 1000000 in
theorem zags (R : VSt H0 H nx n ga b s fs f ins ⟨10, ia, ib⟩) {x y : Val} (hi : ins = [x, y]) (hk : x.kind = 2) (h0 : 0 ≤ x.n) (hh : b.heap.length ≤ 4096) {c : Cl} (hc : b.heap[x.n.toNat]? = some c) : Then H0 H nx n ga b fs ins (VM.toF { b with heap := b.heap.set x.n.toNat ⟨c.left, y⟩ } fs f, VM.ev0) := by
  unfold Then
  have r0 := R.r0
  have r4 := R.r4
  have r5 := R.r5
  have ri := R.ri
  have self := R.self
  subst hi
  have g1 := R.ga1
  have ri' : H (nx + 7) = some (.row 3 ([.int .i64 x.kind, .int .i64 x.n, .str x.text] ++ y.avs)) := by rw [ri]; rfl
  have h1 := (List.getElem?_eq_some_iff.1 hc).1
  have h2 : x.n < b.heap.length := by omega
  have hce : b.heap[x.n.toNat] = c := (List.getElem?_eq_some_iff.1 hc).2
  have c6 : c.avs.take 6 = c.avs := rfl
  have c3 : c.avs.take 3 = c.left.avs := rfl
  have d3 : c.avs.drop 3 = c.right.avs := rfl
  have d6 : c.avs.drop 6 = [] := rfl
  have nc : c.left.avs ++ y.avs = (Cl.mk c.left y).avs := rfl
  have n6 : (Cl.mk c.left y).avs.take 6 = (Cl.mk c.left y).avs := rfl
  have nl : (Cl.mk c.left y).avs.length = 6 := rfl
  have lc : c.avs.length = 6 := rfl
  have ly : y.avs.length = 3 := rfl
  have ty : y.avs.take 3 = y.avs := rfl
  have hsrc : ∀ (H : Heap), zg 6 H (.ro (b.heap.map Cl.avs)) = some (b.heap.length, rowC b.heap, []) := fun H => by rw [zeg (zdc b.heap)]; simp [rowC]
  have ne_3 : nx ≠ nx + 4 ∧ nx + 4 ≠ nx ∧ nx ≠ nx + 5 ∧ nx + 5 ≠ nx ∧ nx ≠ nx + 7 ∧ nx + 7 ≠ nx ∧ nx ≠ n ∧ n ≠ nx ∧ nx + 4 ≠ nx + 5 ∧ nx + 5 ≠ nx + 4 ∧ nx + 4 ≠ nx + 7 ∧ nx + 7 ≠ nx + 4 ∧ nx + 4 ≠ n ∧ n ≠ nx + 4 ∧ nx + 5 ≠ nx + 7 ∧ nx + 7 ≠ nx + 5 ∧ nx + 5 ≠ n ∧ n ≠ nx + 5 ∧ nx + 7 ≠ n ∧ n ≠ nx + 7 ∧ nx ≠ n + 1 ∧ n + 1 ≠ nx ∧ nx ≠ n + 2 ∧ n + 2 ≠ nx ∧ nx ≠ n + 1 + 1 ∧ n + 1 + 1 ≠ nx ∧ nx + 4 ≠ n + 1 ∧ n + 1 ≠ nx + 4 ∧ nx + 4 ≠ n + 2 ∧ n + 2 ≠ nx + 4 ∧ nx + 4 ≠ n + 1 + 1 ∧ n + 1 + 1 ≠ nx + 4 ∧ nx + 5 ≠ n + 1 ∧ n + 1 ≠ nx + 5 ∧ nx + 5 ≠ n + 2 ∧ n + 2 ≠ nx + 5 ∧ nx + 5 ≠ n + 1 + 1 ∧ n + 1 + 1 ≠ nx + 5 ∧ nx + 7 ≠ n + 1 ∧ n + 1 ≠ nx + 7 ∧ nx + 7 ≠ n + 2 ∧ n + 2 ≠ nx + 7 ∧ nx + 7 ≠ n + 1 + 1 ∧ n + 1 + 1 ≠ nx + 7 ∧ n ≠ n + 1 ∧ n + 1 ≠ n ∧ n ≠ n + 2 ∧ n + 2 ≠ n ∧ n ≠ n + 1 + 1 ∧ n + 1 + 1 ≠ n := ⟨by omega, by omega, by omega, by omega, by omega, by omega, by omega, by omega, by omega, by omega, by omega, by omega, by omega, by omega, by omega, by omega, by omega, by omega, by omega, by omega, by omega, by omega, by omega, by omega, by omega, by omega, by omega, by omega, by omega, by omega, by omega, by omega, by omega, by omega, by omega, by omega, by omega, by omega, by omega, by omega, by omega, by omega, by omega, by omega, by omega, by omega, by omega, by omega, by omega, by omega⟩
  simp [ze, r0, zc, r4, r5, ri', self, Ins.avs]
  refine JN.same ?_
  simp [zm]
  simp [zl, r0, zc, r4, r5, ri', Ins.avs, hk, h0, h2, hce, c6, c3, d3, d6, nc, n6, nl, lc, ly, ty, hsrc, CALL, ne_3]
  refine ⟨fun z hz => zaj (zcg [c] z (by simpa [rowC] using hz)), fun z hz => zaj (zcg _ z hz), by omega, zgh y, by omega, fun z hz => zaj (zcg [Cl.mk c.left y] z (by simpa [rowC] using hz)), ?_⟩
  generalize hX : Heap.put _ (n + 1 + 1) (some (AObj.row 6 (List.take _ _ ++ _))) = HX
  have xk : ∀ g, g < n → g ≠ nx → HX g = H g := fun g h1 h2 => by
    rw [← hX, Heap.put_ne _ _ (by omega), Heap.put_ne _ _ (by omega), Heap.put_ne _ _ h2, Heap.put_ne _ _ (by omega), Heap.put_ne _ _ (by omega), Heap.put_ne _ _ (by omega)]
  have x1 : HX (n + 1 + 1) = some (.row 6 (rowC (b.heap.set x.n.toNat (Cl.mk c.left y)))) := by rw [← hX, Heap.put_at, ← zqo h1, List.append_assoc]
  have hh' : Part HX nx (n + 3) (.slc (n + 1 + 1) 0 b.heap.length) (.ro ((b.heap.set x.n.toNat (Cl.mk c.left y)).map Cl.avs)) := by
    have := Part.rowC (nx := nx) (n := n + 3) x1 (by omega) (by omega)
    simpa using this
  refine zcf (f := f) (by omega) R.hk (by omega) (by rw [xk ga (by omega) (by omega)]; exact R.ra) ⟨rfl, rfl, rfl, rfl⟩ (.row (by rw [xk _ (by omega) (by omega)]; exact R.rv) (by omega) (by omega)) (.row (by rw [xk _ (by omega) (by omega)]; exact R.rs) (by omega) (by omega)) hh' fun H' n' g' q1 q2 kp hr gd => ?_
  exact ret (r := (VM.toF { b with heap := b.heap.set x.n.toNat (Cl.mk c.left y) } fs f, VM.ev0)) gd (R.o.more fun g hg q3 _ => by rw [kp g (by omega)]; exact xk g (by omega) q3)
end
end Go.Proofs.YtobioljjoipimaaDoor
set_option maxRecDepth 8000
namespace Go.Proofs.YtobioljjoipimaaDoor
open Go Go.RowKit
section
variable {H0 H : Heap} {nx n ga : Nat} {b : Agt} {s : Spt} {fs : List Frm} {f : Frm} {ins : List Val} {i : Ins} {ia ib : Int}
theorem VSt.withV (R : VSt H0 H nx n ga b s fs f ins i) (f' : Frm) (h1 : f'.vars = f.vars) (h2 : f'.stack = f.stack) {H1 : Heap} (hk : ∀ g, nx + 6 ≤ g → H1 g = H g) (ho : Outs H0 H1 nx) {m : Pmt} {Q : AV → Heap → Nat → Prop}
    (hq : ∀ H' n' g', n ≤ g' → g' < n' → Keep n H' H1 → H' g' = some (.row 4 ((fs.map Frm.avs).flatten ++ [.int .i64 f'.fn, .int .i64 f'.at_, .slc (nx + 11) 0 f'.vars.length, .slc (nx + 9) 0 f'.stack.length])) → Good H' nx (.agg (zc b.id b.trip b.prog (.slc g' 0 (fs.length + 1)) (.ro (b.heap.map Cl.avs)) m)) ⟨b.id, b.trip, b.prog, fs ++ [f'], b.heap, m⟩ → Outs H0 H' nx → Q (.agg (zc b.id b.trip b.prog (.slc g' 0 (fs.length + 1)) (.ro (b.heap.map Cl.avs)) m)) H' n') :
    za Tryd.prog 45 [.agg (zc b.id b.trip b.prog (.slc ga 0 (fs.length + 1)) (.ro (b.heap.map Cl.avs)) m), .agg [.int .i64 f'.fn, .int .i64 f'.at_, .slc (nx + 11) 0 f'.vars.length, .slc (nx + 9) 0 f'.stack.length]] H1 n Q := by
  have g1 := R.ga1
  exact zcf (f := f') (by omega) R.hk g1.2 (by rw [hk _ (by omega)]; exact R.ra) ⟨rfl, rfl, rfl, rfl⟩ (by rw [h1]; exact .row (by rw [hk _ (by omega)]; exact R.rv) (by omega) (by omega)) (by rw [h2]; exact .row (by rw [hk _ (by omega)]; exact R.rs) (by omega) (by omega)) (.ro (zab _)) fun H' n' g' q1 q2 kp hr gd => hq H' n' g' q1 q2 kp hr gd (ho.more fun g hg _ _ => kp g (by omega))
set_option maxRecDepth 20000 in
set_option maxHeartbeats 1000000 in
theorem zagj (R : VSt H0 H nx n ga b s fs f ins ⟨19, ia, ib⟩) : Then H0 H nx n ga b fs ins (VM.toF b fs f, VM.ev0) := by
  unfold Then
  have r0 := R.r0
  have r1 := R.r1
  have r4 := R.r4
  have r5 := R.r5
  have ri := R.ri
  have self := R.self
  have g1 := R.ga1
  simp [ze, r0, zc, r4, r5, self, Ins.avs]
  refine JN.same ?_
  simp [zm]
  simp [zl]
  refine JN.same ?_
  simp [zw]
  simp [zu, r0, zc, r4, r5, Ins.avs]
  exact R.withV f rfl rfl (fun _ _ => rfl) R.o fun H' n' g' q1 q2 kp hr gd o => ret (r := (VM.toF b fs f, VM.ev0)) gd o
set_option maxRecDepth 20000 in
set_option maxHeartbeats 1000000 in
theorem zagn (R : VSt H0 H nx n ga b s fs f ins ⟨15, ia, ib⟩) : Then H0 H nx n ga b fs ins (VM.toF b fs { f with at_ := ia }, VM.ev0) := by
  unfold Then
  have r0 := R.r0
  have r1 := R.r1
  have r4 := R.r4
  have r5 := R.r5
  have ri := R.ri
  have self := R.self
  have g1 := R.ga1
  have ne_0 : nx ≠ nx + 4 ∧ nx + 4 ≠ nx ∧ nx ≠ nx + 5 ∧ nx + 5 ≠ nx ∧ nx + 4 ≠ nx + 5 ∧ nx + 5 ≠ nx + 4 ∧ nx ≠ n ∧ n ≠ nx ∧ nx + 4 ≠ n ∧ n ≠ nx + 4 ∧ nx + 5 ≠ n ∧ n ≠ nx + 5 := ⟨by omega, by omega, by omega, by omega, by omega, by omega, by omega, by omega, by omega, by omega, by omega, by omega⟩
  simp [ze, r0, zc, r4, r5, self, Ins.avs]
  refine JN.same ?_
  simp [zm]
  simp [zl]
  refine JN.same ?_
  simp [zw]
  simp [zu, r0, zc, r4, r5, Ins.avs, ne_0]
  exact R.withV { f with at_ := ia } rfl rfl (fun g hg => Heap.put_ne _ _ (by omega)) (R.o.more fun g hg _ _ => Heap.put_ne _ _ (by omega)) fun H' n' g' q1 q2 kp hr gd o => ret (r := (VM.toF b fs { f with at_ := ia }, VM.ev0)) gd o
set_option maxRecDepth 20000 in
set_option maxHeartbeats 1000000 in
theorem zagm (R : VSt H0 H nx n ga b s fs f ins ⟨16, ia, ib⟩) {x : Val} (hi : ins = [x]) (hx : x.kind = 0 → x.text = []) : Then H0 H nx n ga b fs ins (VM.toF b fs { f with at_ := if x.kind = 0 ∧ x.n = 0 then ia else f.at_ }, VM.ev0) := by
  unfold Then
  have r0 := R.r0
  have r1 := R.r1
  have r4 := R.r4
  have r5 := R.r5
  have ri := R.ri
  have self := R.self
  have g1 := R.ga1
  subst hi
  have ri' : H (nx + 7) = some (.row 3 [.int .i64 x.kind, .int .i64 x.n, .str x.text]) := by rw [ri, zbo]; rfl
  have ne_1 : nx ≠ nx + 4 ∧ nx + 4 ≠ nx ∧ nx ≠ nx + 5 ∧ nx + 5 ≠ nx ∧ nx + 4 ≠ nx + 5 ∧ nx + 5 ≠ nx + 4 ∧ nx ≠ n ∧ n ≠ nx ∧ nx + 4 ≠ n ∧ n ≠ nx + 4 ∧ nx + 5 ≠ n ∧ n ≠ nx + 5 := ⟨by omega, by omega, by omega, by omega, by omega, by omega, by omega, by omega, by omega, by omega, by omega, by omega⟩
  by_cases hz : x.kind = 0 ∧ x.n = 0
  · obtain ⟨z1, z2⟩ := hz
    have z3 := hx z1
    rw [if_pos ⟨z1, z2⟩]
    simp [ze, r0, zc, r4, r5, self, Ins.avs]
    refine JN.same ?_
    simp [zm]
    simp [zl]
    refine JN.same ?_
    simp [zw]
    simp [zu, r0, zc, r4, r5, Ins.avs, ri', z1, z2, z3, ne_1]
    exact R.withV { f with at_ := ia } rfl rfl (fun g hg => Heap.put_ne _ _ (by omega)) (R.o.more fun g hg _ _ => Heap.put_ne _ _ (by omega)) fun H' n' g' q1 q2 kp hr gd o => ret (r := (VM.toF b fs { f with at_ := ia }, VM.ev0)) gd o
  · rw [if_neg hz]
    simp [ze, r0, zc, r4, r5, self, Ins.avs]
    refine JN.same ?_
    simp [zm]
    simp [zl]
    refine JN.same ?_
    simp [zw]
    simp [zu, r0, zc, r4, r5, Ins.avs, ri', hz, ne_1]
    exact ⟨fun a c _ => absurd ⟨a, c⟩ hz, fun _ => R.withV f rfl rfl (fun _ _ => rfl) R.o fun H' n' g' q1 q2 kp hr gd o => ret (r := (VM.toF b fs f, VM.ev0)) gd o⟩
set_option maxRecDepth 20000 in
set_option maxHeartbeats 1000000 in
theorem zads (R : VSt H0 H nx n ga b s fs f ins ⟨11, ia, ib⟩) {x : Val} (hi : ins = [x]) (hk : x.kind ≠ 1) : Then H0 H nx n ga b fs ins (VM.toF b fs f, VM.dead 11) := by
  unfold Then
  have r0 := R.r0
  have r1 := R.r1
  have r4 := R.r4
  have r5 := R.r5
  have ri := R.ri
  have self := R.self
  have g1 := R.ga1
  subst hi
  have ri' : H (nx + 7) = some (.row 3 [.int .i64 x.kind, .int .i64 x.n, .str x.text]) := by rw [ri, zbo]; rfl
  simp [ze, r0, zc, r4, r5, self, Ins.avs]
  refine JN.same ?_
  simp [zm]
  simp [zl]
  refine JN.same ?_
  simp [zw]
  simp [zu, r0, zc, r4, r5, Ins.avs, ri', hk, CALL]
  exact R.no 11 fun v' H' n' g o => retE (r := (VM.toF b fs f, VM.dead 11)) g o
set_option maxRecDepth 20000 in
set_option maxHeartbeats 1000000 in
theorem zadq (R : VSt H0 H nx n ga b s fs f ins ⟨13, ia, ib⟩) {x : Val} (hi : ins = [x]) (hk : x.kind ≠ 1) : Then H0 H nx n ga b fs ins (VM.toF b fs f, VM.dead 11) := by
  unfold Then
  have r0 := R.r0
  have r1 := R.r1
  have r4 := R.r4
  have r5 := R.r5
  have ri := R.ri
  have self := R.self
  have g1 := R.ga1
  subst hi
  have ri' : H (nx + 7) = some (.row 3 [.int .i64 x.kind, .int .i64 x.n, .str x.text]) := by rw [ri, zbo]; rfl
  simp [ze, r0, zc, r4, r5, self, Ins.avs]
  refine JN.same ?_
  simp [zm]
  simp [zl]
  refine JN.same ?_
  simp [zw]
  simp [zu, r0, zc, r4, r5, Ins.avs, ri', hk, CALL]
  exact R.no 11 fun v' H' n' g o => retE (r := (VM.toF b fs f, VM.dead 11)) g o
set_option maxRecDepth 20000 in
set_option maxHeartbeats 1000000 in
theorem zadp (R : VSt H0 H nx n ga b s fs f ins ⟨13, ia, ib⟩) {x : Val} (hi : ins = [x]) (hk : x.kind = 1) (hh : b.permit.hops = 0) (hl : s.facts.length ≤ 4611686018427387903) : Then H0 H nx n ga b fs ins (VM.push b fs f f.stack VM.vzero) := by
  unfold Then
  have r0 := R.r0
  have r1 := R.r1
  have r4 := R.r4
  have r5 := R.r5
  have ri := R.ri
  have self := R.self
  have g1 := R.ga1
  subst hi
  have ri' : H (nx + 7) = some (.row 3 [.int .i64 x.kind, .int .i64 x.n, .str x.text]) := by rw [ri, zbo]; rfl
  rw [hh] at self
  have hw : IntKind.i64.wrap ((s.facts.length : Int) - 1) = s.facts.length - 1 := i64w (by omega)
  have ne_2 : nx ≠ nx + 1 ∧ nx + 1 ≠ nx ∧ nx ≠ nx + 4 ∧ nx + 4 ≠ nx ∧ nx ≠ nx + 5 ∧ nx + 5 ≠ nx ∧ nx ≠ nx + 7 ∧ nx + 7 ≠ nx ∧ nx + 1 ≠ nx + 4 ∧ nx + 4 ≠ nx + 1 ∧ nx + 1 ≠ nx + 5 ∧ nx + 5 ≠ nx + 1 ∧ nx + 1 ≠ nx + 7 ∧ nx + 7 ≠ nx + 1 ∧ nx + 4 ≠ nx + 5 ∧ nx + 5 ≠ nx + 4 ∧ nx + 4 ≠ nx + 7 ∧ nx + 7 ≠ nx + 4 ∧ nx + 5 ≠ nx + 7 ∧ nx + 7 ≠ nx + 5 ∧ nx ≠ n ∧ n ≠ nx ∧ nx + 1 ≠ n ∧ n ≠ nx + 1 ∧ nx + 4 ≠ n ∧ n ≠ nx + 4 ∧ nx + 5 ≠ n ∧ n ≠ nx + 5 ∧ nx + 7 ≠ n ∧ n ≠ nx + 7 := ⟨by omega, by omega, by omega, by omega, by omega, by omega, by omega, by omega, by omega, by omega, by omega, by omega, by omega, by omega, by omega, by omega, by omega, by omega, by omega, by omega, by omega, by omega, by omega, by omega, by omega, by omega, by omega, by omega, by omega, by omega⟩
  simp [ze, r0, zc, r4, r5, self, Ins.avs]
  refine JN.same ?_
  simp [zm]
  simp [zl]
  refine JN.same ?_
  simp [zw]
  simp [zu, r0, zc, r4, r5, Ins.avs, ri', hk, hh, r1, Spt.avs, hw, self, CALL, ne_2]
  generalize hX : Heap.put H n _ = HX
  have x5 : HX (nx + 5) = some (.row 3 [.int .i64 13, .int .i64 ia, .int .i64 ib]) := by rw [← hX, Heap.put_ne _ _ (by omega)]; exact r5
  have xn : HX n = some (.row 3 [.int .i64 0, .int .i64 0, .str []]) := by rw [← hX, Heap.put_at]
  have P := (R.more (H' := HX) (n' := n + 1) (by omega) fun g hg => by rw [← hX, Heap.put_ne _ _ (by omega)]).push (Q := fun v H' n' => EX v 0 fun a => EX v 1 fun b_1 => ST 9 (.ptr (nx + 2) 0) a H' fun H1 => ST 3 (.ptr (nx + 3) 0) b_1 H1 fun H2 => LD true 9 (.ptr (nx + 2) 0) H2 fun v1 => LD true 3 (.ptr (nx + 3) 0) H2 fun v2 => zfy H0 nx (VM.push b fs f f.stack VM.vzero) (.tup [v1, v2]) H2 n') VM.vzero fun v' H' n' g o => retE (r := VM.push b fs f f.stack VM.vzero) g o
  refine LP.mk (fun _ xs H' n' => H' = HX ∧ n' = n + 1 ∧ xs = [.ptr (nx + 1) 0, .ptr (nx + 2) 0, .ptr (nx + 3) 0, .ptr (nx + 5) 0, .slc (nx + 7) 0 1, .clo 46 [.ptr (nx + 4) 0, .ptr nx 0], .ptr n 0, .int .i64 ((s.facts.length : Int) - 1)]) 0 ⟨rfl, rfl, rfl⟩ ?_
  rintro k xs H' n' ⟨rfl, rfl, rfl⟩
  simp [zku, x5, xn, CALL]
  exact ⟨fun _ => P, fun _ => P⟩
set_option maxRecDepth 20000 in
set_option maxHeartbeats 1000000 in
theorem zagr (R : VSt H0 H nx n ga b s fs f ins ⟨11, ia, ib⟩) {x : Val} (hi : ins = [x]) (hk : x.kind = 1) (hl : s.facts.length ≤ 4611686018427387903) : Then H0 H nx n ga b fs ins (VM.push b fs f f.stack (VM.ask s.facts x.text)) := by
  unfold Then
  have r0 := R.r0
  have r1 := R.r1
  have r4 := R.r4
  have r5 := R.r5
  have ri := R.ri
  have self := R.self
  have g1 := R.ga1
  subst hi
  have ri' : H (nx + 7) = some (.row 3 [.int .i64 x.kind, .int .i64 x.n, .str x.text]) := by rw [ri, zbo]; rfl
  have hw : IntKind.i64.wrap ((s.facts.length : Int) - 1) = s.facts.length - 1 := i64w (by omega)
  have ne_3 : nx ≠ nx + 1 ∧ nx + 1 ≠ nx ∧ nx ≠ nx + 4 ∧ nx + 4 ≠ nx ∧ nx ≠ nx + 5 ∧ nx + 5 ≠ nx ∧ nx ≠ nx + 7 ∧ nx + 7 ≠ nx ∧ nx + 1 ≠ nx + 4 ∧ nx + 4 ≠ nx + 1 ∧ nx + 1 ≠ nx + 5 ∧ nx + 5 ≠ nx + 1 ∧ nx + 1 ≠ nx + 7 ∧ nx + 7 ≠ nx + 1 ∧ nx + 4 ≠ nx + 5 ∧ nx + 5 ≠ nx + 4 ∧ nx + 4 ≠ nx + 7 ∧ nx + 7 ≠ nx + 4 ∧ nx + 5 ≠ nx + 7 ∧ nx + 7 ≠ nx + 5 ∧ nx ≠ n ∧ n ≠ nx ∧ nx + 1 ≠ n ∧ n ≠ nx + 1 ∧ nx + 4 ≠ n ∧ n ≠ nx + 4 ∧ nx + 5 ≠ n ∧ n ≠ nx + 5 ∧ nx + 7 ≠ n ∧ n ≠ nx + 7 := ⟨by omega, by omega, by omega, by omega, by omega, by omega, by omega, by omega, by omega, by omega, by omega, by omega, by omega, by omega, by omega, by omega, by omega, by omega, by omega, by omega, by omega, by omega, by omega, by omega, by omega, by omega, by omega, by omega, by omega, by omega⟩
  simp [ze, r0, zc, r4, r5, self, Ins.avs]
  refine JN.same ?_
  simp [zm]
  simp [zl]
  refine JN.same ?_
  simp [zw]
  simp [zu, r0, zc, r4, r5, Ins.avs, ri', hk, r1, Spt.avs, hw, self, CALL, ne_3]
  refine LP.mk (fun k xs H' n' => ∃ j : Nat, k = j ∧ j ≤ s.facts.length ∧ n' = n + 1 ∧ xs = [.ptr (nx + 1) 0, .ptr (nx + 2) 0, .ptr (nx + 3) 0, .ptr (nx + 5) 0, .slc (nx + 7) 0 1, .clo 46 [.ptr (nx + 4) 0, .ptr nx 0], .ptr n 0, .int .i64 ((j : Int) - 1)] ∧
    H' n = some (.row 3 (VM.ask (s.facts.drop j) x.text).avs) ∧ ∀ g, g ≠ n → H' g = H g) s.facts.length ⟨_, rfl, Nat.le_refl _, rfl, rfl, by rw [Heap.put_at, List.drop_length]; rfl, fun g hg => Heap.put_ne _ _ hg⟩ ?_
  rintro k xs H' n' ⟨j, rfl, hj, rfl, rfl, xn, xk⟩
  suffices key : ∀ K : J3, (∀ (j' : Nat) H', j' < k → j' ≤ s.facts.length → H' n = some (.row 3 (VM.ask (s.facts.drop j') x.text).avs) → (∀ g, g ≠ n → H' g = H g) → K [.ptr (nx + 1) 0, .ptr (nx + 2) 0, .ptr (nx + 3) 0, .ptr (nx + 5) 0, .slc (nx + 7) 0 1, .clo 46 [.ptr (nx + 4) 0, .ptr nx 0], .ptr n 0, .int .i64 ((j' : Int) - 1)] H' (n + 1)) →
      zcn (zfy H0 nx (VM.push b fs f f.stack (VM.ask s.facts x.text))) K [.ptr (nx + 1) 0, .ptr (nx + 2) 0, .ptr (nx + 3) 0, .ptr (nx + 5) 0, .slc (nx + 7) 0 1, .clo 46 [.ptr (nx + 4) 0, .ptr nx 0], .ptr n 0, .int .i64 ((k : Int) - 1)] H' (n + 1) from
    key _ fun j' H' h1 h2 h3 h4 => ⟨j', h1, j', rfl, h2, rfl, rfl, h3, h4⟩
  intro K hK
  have x5 := (xk (nx + 5) (by omega)).trans r5
  have x1 := (xk (nx + 1) (by omega)).trans r1
  have x7 := (xk (nx + 7) (by omega)).trans ri'
  have lv : ∀ v : Val, v.avs.length = 3 := fun v => rfl
  have tv : ∀ v : Val, v.avs.take 3 = v.avs := fun v => rfl
  cases k with
  | zero =>
    have R' := R.more (H' := H') (n' := n + 1) (by omega) fun g hg => xk g (by omega)
    simp [zcn, xn, CALL, lv, tv]
    exact R'.push _ fun v' H' n' g o => retE (r := VM.push b fs f f.stack (VM.ask s.facts x.text)) g o
  | succ j =>
    have hc : 0 ≤ ((j + 1 : Nat) : Int) - 1 := by omega
    have hjl : j < s.facts.length := by omega
    have hd : s.facts.drop j = s.facts[j] :: s.facts.drop (j + 1) := List.drop_eq_getElem_cons hjl
    have ask : VM.ask (s.facts.drop j) x.text = if s.facts[j].key = x.text then s.facts[j].val else VM.ask (s.facts.drop (j + 1)) x.text := by
      rw [hd]; unfold VM.ask; rw [List.find?_cons]
      by_cases e : s.facts[j].key = x.text
      · simp [e]
      · simp [e]
    have hj1 : ((j + 1 : Nat) : Int) - 1 = (j : Int) := by omega
    have hw2 : IntKind.i64.wrap ((j : Int) - 1) = (j : Int) - 1 := i64w (by omega)
    rw [hj1]
    by_cases e : s.facts[j].key = x.text
    · simp [zcn, x5, x1, x7, xn, Spt.avs, Ins.avs, hjl, e, lv, tv, hw2]
      exact ⟨zgh _, hK j _ (by omega) (by omega) (by rw [Heap.put_at, ask, if_pos e]; rfl) fun g hg => by rw [Heap.put_ne _ _ hg]; exact xk g hg⟩
    · simp [zcn, x5, x1, x7, xn, Spt.avs, Ins.avs, hjl, e, lv, tv, hw2]
      exact hK j H' (by omega) (by omega) (by rw [xn, ask, if_neg e]) xk
end
end Go.Proofs.YtobioljjoipimaaDoor
set_option maxRecDepth 8000
namespace Go.Proofs.YtobioljjoipimaaDoor
open Go Go.RowKit
theorem zke {A : Nat → Prop} (fs : List Frm) : ∀ c ∈ (fs.map Frm.avs).flatten, Bel A c := fun c hc => by
  obtain ⟨x, hx, hcx⟩ := List.mem_flatten.1 hc
  obtain ⟨f, _, rfl⟩ := List.mem_map.1 hx
  obtain ⟨j, hj⟩ := List.getElem?_of_mem hcx
  exact ztv f j c hj
theorem zx.withD {H : Heap} {n ga gv gs nv ns : Nat} {id trip : Int} {p : Prg} {fs : List Frm} {h : List Cl} {m : Pmt} {fn at_ : Int} {w1 w2 w3 w4 : AV} (hk : fs.length ≤ 4096) (ra : H ga = some (.row 4 ((fs.map Frm.avs).flatten ++ [w1, w2, w3, w4]))) (hw : w1.one = true ∧ w2.one = true ∧ w3.one = true ∧ w4.one = true) (hv : (H gv).isSome = true) (hs : (H gs).isSome = true) {kt : Kt}
    (hkt : kt (.agg (zc id trip p (.slc n 0 (fs.length + 1)) (.ro (h.map Cl.avs)) m)) [ga, gv, gs] [n] [(n, some (.row 4 ((fs.map Frm.avs).flatten ++ [.int .i64 fn, .int .i64 at_, .slc gv 0 nv, .slc gs 0 ns])))]) :
    zx Tryd.prog (.clo 45 []) [.agg (zc id trip p (.slc ga 0 (fs.length + 1)) (.ro (h.map Cl.avs)) m), .agg [.int .i64 fn, .int .i64 at_, .slc gv 0 nv, .slc gs 0 ns]] H n kt := by
  have hlf : ((fs.map Frm.avs).flatten).length = fs.length * 4 := by rw [zat (zcm fs)]; simp
  refine ⟨_, [ga, gv, gs], [n], _, .inr (.inl rfl), LC.of_callsN (fun g hg => ?_) (by simp) (fun A hA hB H' n' hag => ?_), hkt⟩
  · simp at hg
    rcases hg with rfl | rfl | rfl
    · rw [ra]; rfl
    · exact hv
    · exact hs
  · obtain ⟨e1, l1⟩ := hag ga (by simp)
    refine zpj (zcu.slc (e1.trans ra) l1 (by rw [List.length_append, hlf]; simp; omega) ?_) hk ⟨rfl, rfl, rfl⟩ ⟨rfl, rfl⟩ ⟨rfl, rfl⟩ fun H'' n'' g' h1 h2 kp hr => ?_
    · refine List.all_eq_true.2 fun c hc => ?_
      rcases List.mem_append.1 hc with hc | hc
      · obtain ⟨x, hx, hcx⟩ := List.mem_flatten.1 hc; exact oneF fs x hx c hcx
      · simp at hc; rcases hc with rfl | rfl | rfl | rfl
        · exact hw.1
        · exact hw.2.1
        · exact hw.2.2.1
        · exact hw.2.2.2
    · rw [List.take_append_of_le_length (by omega), List.take_of_length_le (by omega)] at hr
      refine ⟨g', h1, h2, .agg _ _ rfl fun j v u hv hu => ?_, fun g hg _ => kp g hg, fun g o hg hne => absurd (by simpa using hg) hne, ⟨.row 4 ((fs.map Frm.avs).flatten ++ [.int .i64 fn, .int .i64 at_, .slc gv 0 nv, .slc gs 0 ns]), _, by simp only [zcd, zct]; rw [Heap.put_at], hr, rfl, rfl, fun j v u hv hu => ?_⟩⟩
      · match j with
        | 0 => cases hv; cases hu; exact .same _ (.int _ _)
        | 1 => cases hv; cases hu; exact .same _ (.int _ _)
        | 2 => cases hv; cases hu; exact .same _ (zur _)
        | 3 => cases hv; cases hu; exact .same _ (zuq _)
        | 4 => cases hv; cases hu; exact .slc _ _
        | 5 => cases hv; cases hu; exact .same _ (zcr (zab _))
        | 6 => cases hv; cases hu; exact .same _ (.int _ _)
        | 7 => cases hv; cases hu; exact .same _ (.int _ _)
        | 8 => cases hv; cases hu; exact .same _ (.int _ _)
        | j + 9 => simp [zc] at hv
      · rw [hv] at hu; cases hu
        refine .same _ ?_
        rcases List.mem_append.1 (List.mem_of_getElem? hv) with hc | hc
        · exact zke fs _ hc
        · simp at hc
          rcases hc with rfl | rfl | rfl | rfl
          · exact .int _ _
          · exact .int _ _
          · exact .slc _ _ _ (hA gv (by simp))
          · exact .slc _ _ _ (hA gs (by simp))
end Go.Proofs.YtobioljjoipimaaDoor
