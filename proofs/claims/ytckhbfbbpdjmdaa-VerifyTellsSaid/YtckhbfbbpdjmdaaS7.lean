/- Frames: what the program's function says is wrong with one. -/
import Derived.Test.YtckhbfbbpdjmdaaS6
namespace Go.Proofs.Ytckhbfbbpdjmdaa
open Go Go.RowKit

def Frm.avs (f : Frm) : List AV := [.int .i64 f.fn, .int .i64 f.at_, .ro (f.vars.map Val.avs), .ro (f.stack.map Val.avs)]
def Cl.avs (c : Cl) : List AV := c.left.avs ++ c.right.avs
def Agt.avs (a : Agt) : List AV := [.int .i64 a.id, .int .i64 a.trip, .ro (a.prog.codes.map Cod.avs), .ro (a.prog.words.map fun w => [.str w]), .ro (a.frames.map Frm.avs), .ro (a.heap.map Cl.avs), .int .i64 a.permit.fuel, .int .i64 a.permit.room, .int .i64 a.permit.hops]

set_option maxHeartbeats 2000000 in
theorem frame_rest (a : Agt) (f : Frm) (h' : Int) (H H0 : Heap) (nx n0 g : Nat) (hg : H g = some (.row 9 a.avs)) (hgn : g < nx) (hn0 : n0 ≤ nx) (hK : Keep n0 H H0) (hv : f.vars.length ≤ 8) (hb : h' ≤ 16) :
    verify_frame_j2 (fun v H' _ => Frz H' n0 v (.int .i64 (frameRest a f.vars f.stack h')) ∧ Keep n0 H' H0) [.ptr g 0, .rop f.avs 0, .int .i64 h'] H nx := by
  by_cases h1 : h' < 0 ∨ (f.stack.length : Int) ≠ h'
  · have e : frameRest a f.vars f.stack h' = 10 := by unfold frameRest; rw [if_pos h1]
    rw [e]
    by_cases h2 : h' < 0
    · simp [verify_frame_j2, h2, hK]
    · have h3 : ¬ (f.stack.length : Int) = h' := by omega
      simp [verify_frame_j2, h2, h3, hK, Frm.avs]
  have e : frameRest a f.vars f.stack h' = VM.firstErr (fun v => VM.wrong v a.heap.length) (f.vars ++ f.stack) := by unfold frameRest; rw [if_neg h1]
  rw [e]
  have h2 : ¬ h' < 0 := by omega
  have h3 : (f.stack.length : Int) = h' := by omega
  have hne : g ≠ nx := by omega
  simp [verify_frame_j2, h2, h3, Frm.avs]
  refine LP.mk (fun m xs H' nx' => ∃ (t : Nat) (l : List Val), t ≤ 2 ∧ m = 2 - t ∧ xs = [.ptr g 0, .slc nx 0 2, .int .i64 2, .int .i64 t] ∧ H' nx = some (.row 1 [.ro (f.vars.map Val.avs), .ro (f.stack.map Val.avs)]) ∧ H' g = some (.row 9 a.avs) ∧ Keep n0 H' H0 ∧ nx < nx' ∧
    l = (if t = 0 then f.vars ++ f.stack else if t = 1 then f.stack else []) ∧ VM.firstErr (fun v => VM.wrong v a.heap.length) (f.vars ++ f.stack) = VM.firstErr (fun v => VM.wrong v a.heap.length) l) 2
    ⟨0, _, by omega, by omega, by simp, by simp, by simp [hne, hg], by rw [Keep.put (by omega)]; exact hK, by omega, rfl, rfl⟩ ?_
  rintro m xs H1 n1 ⟨t, l, ht, rfl, rfl, hb1, hg1, hK1, hn1, hl, hfe⟩
  by_cases ht2 : t = 2
  · subst ht2
    simp at hl
    subst hl
    simp [verify_frame_l2, hK1]
    rw [hfe]; rfl
  have hone : ∃ (cur rest : List Val), (([.ro (f.vars.map Val.avs), .ro (f.stack.map Val.avs)] : List AV)[t]? = some (.ro (cur.map Val.avs))) ∧ l = cur ++ rest ∧ cur.length ≤ 16 ∧ rest = (if t + 1 = 0 then f.vars ++ f.stack else if t + 1 = 1 then f.stack else []) := by
    have : t = 0 ∨ t = 1 := by omega
    rcases this with rfl | rfl
    · exact ⟨f.vars, f.stack, rfl, by simpa using hl, by omega, by simp⟩
    · exact ⟨f.stack, [], rfl, by simpa using hl, by omega, by simp⟩
  obtain ⟨cur, rest, hcur, hlr, hcl, hrest⟩ := hone
  have hlt : t < 2 := by omega
  obtain ⟨_, hcur'⟩ := List.getElem?_eq_some_iff.1 hcur
  have hlt' : (t : Int) < 2 := by omega
  simp [verify_frame_l2, hlt, hlt', Int.not_le.2 hlt', hb1, hcur']
  refine LP.mk (fun m xs H' nx' => ∃ (j : Nat), j ≤ cur.length ∧ m = cur.length - j ∧ xs = [.ptr g 0, .slc nx 0 2, .int .i64 2, .int .i64 t, .ro (cur.map Val.avs), .int .i64 cur.length, .int .i64 j] ∧ H' nx = some (.row 1 [.ro (f.vars.map Val.avs), .ro (f.stack.map Val.avs)]) ∧ H' g = some (.row 9 a.avs) ∧ Keep n0 H' H0 ∧ nx < nx' ∧
    VM.firstErr (fun v => VM.wrong v a.heap.length) (f.vars ++ f.stack) = VM.firstErr (fun v => VM.wrong v a.heap.length) (cur.drop j ++ rest)) cur.length
    ⟨0, by omega, by omega, by simp, hb1, hg1, hK1, hn1, by rw [hfe, hlr]; rfl⟩ ?_
  rintro m xs H2 n2 ⟨j, hj, rfl, rfl, hb2, hg2, hK2, hn2, hfj⟩
  by_cases hjl : j < cur.length
  · obtain ⟨v, hv⟩ : ∃ v, cur[j]? = some v := ⟨_, List.getElem?_eq_getElem hjl⟩
    obtain ⟨_, hv'⟩ := List.getElem?_eq_some_iff.1 hv
    have m1 : g ≠ n2 := by omega
    have m2 : nx ≠ n2 := by omega
    simp [verify_frame_l1, hjl, hv', Val.avs, hg2, m1, Agt.avs]
    refine CALLD.of_qc (wrong_qc v _) (.int _ _) ?_
    simp [verify_frame_k1]
    rw [List.drop_eq_getElem_cons hjl, hv', List.cons_append] at hfj
    simp only [VM.firstErr] at hfj
    have hK3 : Keep n0 (H2.put n2 (some (.row 3 [.int .i64 v.kind, .int .i64 v.n, .str v.text]))) H0 := by rw [Keep.put (by omega)]; exact hK2
    refine ⟨fun hz => ⟨?_, hK3⟩, fun hz => ?_⟩
    · rw [if_pos hz] at hfj; exact hfj
    · rw [if_neg (by simpa using hz)] at hfj
      rw [i64w (by omega)]
      exact ⟨cur.length - (j + 1), by omega, j + 1, by omega, rfl, rfl, by rw [if_neg m2]; exact hb2, by rw [if_neg m1]; exact hg2, hK3, by omega, hfj⟩
  obtain rfl : j = cur.length := by omega
  simp [verify_frame_l1]
  rw [i64w (by omega)]
  exact ⟨2 - (t + 1), by omega, t + 1, by omega, rfl, rfl, hb2, hg2, hK2, by omega, by rw [← hrest]; simpa using hfj⟩

set_option maxHeartbeats 4000000 in
theorem frame_ac (a : Agt) (k : Nat) (away : Bool) (H : Heap) (nx g : Nat) (hg : H g = some (.row 9 a.avs)) (hgn : g < nx) (hk : k < a.frames.length) (hl : a.frames.length ≤ 12) (hp : VM.program a.prog = 0) :
    ACalls Try.prog 27 [.ptr g 0, .int .i64 k, .bool away] H nx fun v H' nx' => Frz H' nx v (.int .i64 (VM.frame a k away)) ∧ Keep nx H' H := by
  refine verify_frame_calls _ _ _ H nx _ ?_
  obtain ⟨f, hf⟩ : ∃ f, a.frames[k]? = some f := ⟨_, List.getElem?_eq_getElem hk⟩
  obtain ⟨_, hf'⟩ := List.getElem?_eq_some_iff.1 hf
  obtain ⟨fn, at_, vs, st⟩ := f
  by_cases h1 : 0 ≤ fn ∧ fn < a.prog.codes.length
  case neg =>
    have e : VM.frame a k away = 3 := by
      unfold VM.frame
      rw [hf]
      have : (if 0 ≤ fn then a.prog.codes[fn.toNat]? else none) = none := by
        split
        · exact List.getElem?_eq_none (by omega)
        · rfl
      simp only [this]
    rw [e]
    by_cases h0 : fn < 0
    · simp [verify_frame_vc, hg, Agt.avs, hk, hf', Frm.avs, h0]
    · have : (a.prog.codes.length : Int) ≤ fn := by omega
      simp [verify_frame_vc, hg, Agt.avs, hk, hf', Frm.avs, h0, this]
  obtain ⟨h10, h11⟩ := h1
  obtain ⟨n, rfl⟩ : ∃ n : Nat, fn = n := ⟨fn.toNat, by omega⟩
  have hnl : n < a.prog.codes.length := by omega
  obtain ⟨c, hc⟩ : ∃ c, a.prog.codes[n]? = some c := ⟨_, List.getElem?_eq_getElem hnl⟩
  obtain ⟨_, hc'⟩ := List.getElem?_eq_some_iff.1 hc
  obtain ⟨hcr, hcalm, hch⟩ := (program_right hp).1 c (List.mem_of_getElem? hc)
  have hcr' : ¬ (c.params < 0 ∨ 4 < c.params ∨ c.vars < c.params ∨ 8 < c.vars ∨ c.ins.length < 1 ∨ 200 < c.ins.length) := by
    unfold VM.codeRange at hcr
    rwa [decide_eq_false_iff_not] at hcr
  by_cases h2 : (0 ≤ at_ ∧ at_ < c.ins.length) ∧ (vs.length : Int) = c.vars
  case neg =>
    have e : VM.frame a k away = 3 := by
      unfold VM.frame
      rw [hf]
      simp only [Int.toNat_natCast]
      rw [if_pos (by omega), hc]
      simp only
      by_cases hat : 0 ≤ at_ ∧ at_ < c.ins.length
      · rw [if_pos hat.1, List.getElem?_eq_getElem (by omega)]
        simp only
        rw [if_pos (by omega)]
      · have : (if 0 ≤ at_ then c.ins[at_.toNat]? else none) = none := by
          split
          · exact List.getElem?_eq_none (by omega)
          · rfl
        simp only [this]
    rw [e]
    by_cases h0 : at_ < 0
    · simp [verify_frame_vc, hg, Agt.avs, hk, hf', Frm.avs, Int.not_le.2 h11, hnl, hc', h0, Cod.avs]
    · by_cases h3 : (c.ins.length : Int) ≤ at_
      · simp [verify_frame_vc, hg, Agt.avs, hk, hf', Frm.avs, Int.not_le.2 h11, hnl, hc', h0, h3, Cod.avs]
      · have h4 : ¬ (vs.length : Int) = c.vars := by omega
        simp [verify_frame_vc, hg, Agt.avs, hk, hf', Frm.avs, Int.not_le.2 h11, hnl, hc', h0, h3, h4, Cod.avs]
  obtain ⟨⟨h20, h21⟩, h22⟩ := h2
  obtain ⟨m, rfl⟩ : ∃ m : Nat, at_ = m := ⟨at_.toNat, by omega⟩
  have hml : m < c.ins.length := by omega
  obtain ⟨hhl, hhb⟩ := heights_len hcalm hch
  obtain ⟨h, hh⟩ : ∃ h, (VM.heights c.ins).1[m]? = some h := ⟨_, List.getElem?_eq_getElem (by omega)⟩
  obtain ⟨hm1, hh'⟩ := List.getElem?_eq_some_iff.1 hh
  have hhb' := hhb h (List.mem_of_getElem? hh)
  have hfe := frame_eq (away := away) hf hc hml h22 rfl hh
  have hnm : ¬ (c.ins.length ≤ m) := by omega
  have hnn : ¬ (a.prog.codes.length ≤ n) := by omega
  simp [verify_frame_vc, hg, Agt.avs, hk, hf', Frm.avs, hnl, hc', h22, Cod.avs, hml, hnm, hnn]
  refine ⟨fun h => by omega, fun h => by omega, QC.call (heights_qc c (by omega) hcalm) ?_⟩
  simp [verify_frame_k2, hm1, hh']
  refine JN.same ?_
  have w1 : IntKind.i64.wrap ((a.frames.length : Int) - 1) = (a.frames.length : Int) - 1 := i64w (by omega)
  simp [verify_frame_b3, hg, Agt.avs, w1]
  have key : verify_frame_j3 (fun v H' nx' => Frz H' nx v (.int .i64 (VM.frame a k away)) ∧ Keep nx H' H) [.ptr g 0, .int .i64 k, .rop [.int .i64 n, .int .i64 m, .ro (vs.map Val.avs), .ro (st.map Val.avs)] 0,
      .rop [.int .i64 c.params, .int .i64 c.vars, .ro (c.ins.map Ins.avs)] 0, .ro ((VM.heights c.ins).1.map fun n => [.int .i64 n]), .int .i64 h, .bool (!decide (k + 1 = a.frames.length) || away)] H nx := by
    refine JN.same ?_
    have hvl : vs.length ≤ 8 := by omega
    cases hw : (!decide (k + 1 = a.frames.length) || away)
    · rw [hw] at hfe
      simp only [Bool.false_and, Bool.false_eq_true, if_false] at hfe
      rw [hfe]
      simp [verify_frame_b2]
      exact frame_rest a ⟨n, m, vs, st⟩ h H H nx nx g hg hgn (Nat.le_refl _) (by simp) hvl hhb'.2
    rw [hw] at hfe
    simp only [Bool.true_and, if_true] at hfe
    cases m with
    | zero =>
      simp [verify_frame_b2]
      rw [hfe]; simp
    | succ m =>
    have h00 : ¬ ((m : Int) + 1 = 0) := by omega
    have w2 : IntKind.i64.wrap (h - 1) = h - 1 := i64w (by omega)
    have w3 : IntKind.i64.wrap (m : Int) = m := i64w (by omega)
    have hml' : m < c.ins.length := by omega
    obtain ⟨i, hi⟩ : ∃ i, c.ins[m]? = some i := ⟨_, List.getElem?_eq_getElem hml'⟩
    obtain ⟨_, hi'⟩ := List.getElem?_eq_some_iff.1 hi
    obtain ⟨q, hq⟩ : ∃ q, (VM.heights c.ins).1[m]? = some q := ⟨_, List.getElem?_eq_getElem (by omega)⟩
    obtain ⟨hqm, hq'⟩ := List.getElem?_eq_some_iff.1 hq
    simp [verify_frame_b2, h00, w2]
    refine JN.same ?_
    simp [verify_frame_b1, w3, hml', hi', Ins.avs]
    have hn1 : g ≠ nx := by omega
    have hg2 : (H.put nx (some (.row 3 [.int .i64 i.op, .int .i64 i.a, .int .i64 i.b]))) g = some (.row 9 a.avs) := by rw [Heap.put_ne _ _ hn1]; exact hg
    have hi2 : (H.put nx (some (.row 3 [.int .i64 i.op, .int .i64 i.a, .int .i64 i.b]))) nx = some (.row 3 [.int .i64 i.op, .int .i64 i.a, .int .i64 i.b]) := Heap.put_at _ _ _
    have hK2 : Keep nx (H.put nx (some (.row 3 [.int .i64 i.op, .int .i64 i.a, .int .i64 i.b]))) H := by simp
    generalize (H.put nx (some (.row 3 [.int .i64 i.op, .int .i64 i.a, .int .i64 i.b]))) = H2 at *
    have hfin : badPrev a k c (VM.heights c.ins).1 (m + 1) = false → verify_frame_j2 (fun v H' nx' => Frz H' nx v (.int .i64 (VM.frame a k away)) ∧ Keep nx H' H) [.ptr g 0, .rop [.int .i64 n, .int .i64 (m + 1), .ro (vs.map Val.avs), .ro (st.map Val.avs)] 0, .int .i64 (h - 1)] H2 (nx + 1) := by
      intro hb
      have : VM.frame a k away = frameRest a vs st (h - 1) := by rw [hfe, if_neg (by simp [hb]; omega)]
      rw [this]
      exact frame_rest a ⟨n, m + 1, vs, st⟩ (h - 1) H2 H (nx + 1) nx g hg2 (by omega) (by omega) hK2 hvl (by omega)
    have hbadv : badPrev a k c (VM.heights c.ins).1 (m + 1) = true → VM.frame a k away = 10 := fun hb => by rw [hfe, if_pos (by simp [hb])]
    have hbp : badPrev a k c (VM.heights c.ins).1 (m + 1) = ((!decide (k + 1 = a.frames.length) && (decide (i.op ≠ 17) || decide (i.a ≠ ((a.frames[k + 1]?).map (·.fn)).getD 0))) || (decide (k + 1 = a.frames.length) && decide (i.op ≠ 13)) || decide (q < 0)) := by
      unfold badPrev
      simp only [Nat.add_sub_cancel, List.getD_eq_getElem?_getD, hi, hq, Option.getD_some]
    rw [hbp] at hfin hbadv
    by_cases hlast : k + 1 = a.frames.length
    · have l1 : ¬ ((k : Int) < (a.frames.length : Int) - 1) := by omega
      have l2 : (k : Int) = (a.frames.length : Int) - 1 := by omega
      simp [hlast] at hfin hbadv
      simp [verify_frame_j1, hg2, hi2, Agt.avs, w1, l2, w3, hqm, hq']
      refine ⟨fun h13 => ⟨hbadv (.inl h13), hK2⟩, fun h13 => ⟨fun hq0 => ⟨hbadv (.inr hq0), hK2⟩, fun hq0 => hfin h13 hq0⟩⟩
    · have l1 : (k : Int) < (a.frames.length : Int) - 1 := by omega
      have l2 : ¬ ((k : Int) = (a.frames.length : Int) - 1) := by omega
      have hk2 : k + 1 < a.frames.length := by omega
      obtain ⟨f2, hf2⟩ : ∃ f2, a.frames[k + 1]? = some f2 := ⟨_, List.getElem?_eq_getElem hk2⟩
      obtain ⟨_, hf2'⟩ := List.getElem?_eq_some_iff.1 hf2
      rw [hf2] at hfin hbadv
      simp [hlast] at hfin hbadv
      have w4 : IntKind.i64.wrap ((k : Int) + 1) = (k : Int) + 1 := i64w (by omega)
      have hk2i : (k : Int) + 1 < a.frames.length := by omega
      have hk0 : (0 : Int) ≤ (k : Int) + 1 := by omega
      have htn : ((k : Int) + 1).toNat = k + 1 := by omega
      simp [verify_frame_j1, hg2, hi2, Agt.avs, w1, l1, l2, w3, w4, hqm, hq', hk2i, hk0, htn, hk2, hf2', Frm.avs]
      refine ⟨fun h17 => ⟨hbadv (.inl (.inl h17)), hK2⟩, fun h17 => ⟨fun ha => ⟨hbadv (.inl (.inr ha)), hK2⟩, fun ha => ⟨fun hq0 => ⟨hbadv (.inr hq0), hK2⟩, fun hq0 => hfin h17 ha hq0⟩⟩⟩
  refine ⟨fun hlt => ?_, fun hge => ?_⟩
  · have : (!decide (k + 1 = a.frames.length) || away) = true := by simp; left; omega
    rw [this] at key; exact key
  · have : (!decide (k + 1 = a.frames.length) || away) = away := by simp; intro; omega
    rw [this] at key; exact key
end Go.Proofs.Ytckhbfbbpdjmdaa
