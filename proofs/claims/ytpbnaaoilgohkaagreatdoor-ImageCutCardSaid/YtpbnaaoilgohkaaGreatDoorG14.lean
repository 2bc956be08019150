/- Agents: what the document's function says is wrong with one, on. Agents: what the document's function says is wrong with one, whole. Each operation, reckoned: what it comes to, what it reads, what is new, what it changes. A function's text, run: what a call comes to, reckoned. A function's text, run: the steps. What a run comes to is so: operations, and calls. -/
import Derived.Test.YtpbnaaoilgohkaaGreatDoorG13
import Derived.Test.YtpbnaaoilgohkaaGreatDoorG3
import Derived.Test.YtpbnaaoilgohkaaGreatDoorG5
set_option linter.unusedSimpArgs false
set_option linter.unusedVariables false
set_option maxRecDepth 8000
namespace Go.Proofs.YtpbnaaoilgohkaaGreatDoor
open Go Go.RowKit
set_option maxHeartbeats 4000000 in
theorem zadq (a : Agt) (k : Nat) (away : Bool) (H H0 : Heap) (nx n0 g : Nat) (K : J3) (R : Int) (hg : H g = some (.row 9 a.avs)) (hgn : g < nx) (hn0 : n0 ≤ nx) (hK : Keep n0 H H0) (hk : k < a.frames.length) (hl : a.frames.length ≤ 12) (hp : VM.program a.prog = 0)
    (hbad : VM.frame a k away ≠ 0 → R = VM.frame a k away)
    (hgo : VM.frame a k away = 0 → ∀ H' nx', H' g = some (.row 9 a.avs) → Keep n0 H' H0 → nx ≤ nx' → K [.bool away, .ptr g 0, .ro (a.frames.map Frm.avs), .int .i64 a.frames.length, .int .i64 (k + 1)] H' nx') :
    zaj (fun v H' _ => Frz H' n0 v (.int .i64 R) ∧ Keep n0 H' H0) K [.bool away, .ptr g 0, .ro (a.frames.map Frm.avs), .int .i64 a.frames.length, .int .i64 k] H nx := by
  obtain ⟨f, hf⟩ : ∃ f, a.frames[k]? = some f := ⟨_, List.getElem?_eq_getElem hk⟩
  obtain ⟨_, hf'⟩ := List.getElem?_eq_some_iff.1 hf
  obtain ⟨fn, at_, vs, st⟩ := f
  have hgx : g ≠ nx := by omega
  have hgx1 : g ≠ nx + 1 := by omega
  have hKf : ∀ o, Keep n0 (H.put nx o) H0 := fun o => by rw [Keep.put (by omega)]; exact hK
  have hKf2 : ∀ o o', Keep n0 ((H.put nx o).put (nx + 1) o') H0 := fun o o' => by rw [Keep.put (by omega), Keep.put (by omega)]; exact hK
  by_cases h1 : 0 ≤ fn ∧ fn < a.prog.codes.length
  case neg =>
    have e : VM.frame a k away = 3 := by
      unfold VM.frame
      rw [hf]
      have : (if 0 ≤ fn then a.prog.codes[fn.toNat]? else none) = none := by
        split
        · exact List.getElem?_eq_none (by omega)
        · rfl
      simp only [this]
    have hR := hbad (by omega)
    rw [hR, e]
    by_cases h0 : fn < 0
    · simp [zaj, hg, Agt.avs, hk, hf', Frm.avs, h0, hKf]
    · have : (a.prog.codes.length : Int) ≤ fn := by omega
      simp [zaj, hg, Agt.avs, hk, hf', Frm.avs, h0, this, hKf, hgx]
  obtain ⟨h10, h11⟩ := h1
  obtain ⟨n, rfl⟩ : ∃ n : Nat, fn = n := ⟨fn.toNat, by omega⟩
  have hnl : n < a.prog.codes.length := by omega
  obtain ⟨c, hc⟩ : ∃ c, a.prog.codes[n]? = some c := ⟨_, List.getElem?_eq_getElem hnl⟩
  obtain ⟨_, hc'⟩ := List.getElem?_eq_some_iff.1 hc
  obtain ⟨hcr, hcalm, hch⟩ := (zbv hp).1 c (List.mem_of_getElem? hc)
  have hcr' : ¬ (c.params < 0 ∨ 4 < c.params ∨ c.vars < c.params ∨ 8 < c.vars ∨ c.ins.length < 1 ∨ 200 < c.ins.length) := by
    unfold VM.codeRange at hcr
    rwa [decide_eq_false_iff_not] at hcr
  have hnn : ¬ (a.prog.codes.length ≤ n) := by omega
  have hn0' : ¬ ((n : Int) < 0) := by omega
  by_cases h2 : (0 ≤ at_ ∧ at_ < c.ins.length) ∧ (vs.length : Int) = c.vars
  case neg =>
    have e : VM.frame a k away = 3 := by
      unfold VM.frame
      rw [hf]
      simp only [Int.toNat_natCast]
      rw [if_pos (by omega), hc]
      simp only
      by_cases hat : 0 ≤ at_ ∧ at_ < c.ins.length
      · rw [if_pos hat.1, List.getElem?_eq_getElem (by omega)]
        simp only
        rw [if_pos (by omega)]
      · have : (if 0 ≤ at_ then c.ins[at_.toNat]? else none) = none := by
          split
          · exact List.getElem?_eq_none (by omega)
          · rfl
        simp only [this]
    have hR := hbad (by omega)
    rw [hR, e]
    by_cases h0 : at_ < 0
    · simp [zaj, hg, Agt.avs, hk, hf', Frm.avs, hn0', hnn, hnl, hc', h0, Cod.avs, hKf, hKf2, hgx, hgx1]
    · by_cases h3 : (c.ins.length : Int) ≤ at_
      · simp [zaj, hg, Agt.avs, hk, hf', Frm.avs, hn0', hnn, hnl, hc', h0, h3, Cod.avs, hKf, hKf2, hgx, hgx1]
      · have h4 : ¬ (vs.length : Int) = c.vars := by omega
        simp [zaj, hg, Agt.avs, hk, hf', Frm.avs, hn0', hnn, hnl, hc', h0, h3, h4, Cod.avs, hKf, hKf2, hgx, hgx1]
  obtain ⟨⟨h20, h21⟩, h22⟩ := h2
  obtain ⟨m, rfl⟩ : ∃ m : Nat, at_ = m := ⟨at_.toNat, by omega⟩
  have hml : m < c.ins.length := by omega
  have hm0' : ¬ ((m : Int) < 0) := by omega
  obtain ⟨hhl, hhb⟩ := zeh hcalm hch
  obtain ⟨h, hh⟩ : ∃ h, (VM.heights c.ins).1[m]? = some h := ⟨_, List.getElem?_eq_getElem (by omega)⟩
  obtain ⟨hm1, hh'⟩ := List.getElem?_eq_some_iff.1 hh
  have hhb' := hhb h (List.mem_of_getElem? hh)
  have hfe := zabs (away := away) hf hc hml h22 rfl hh
  have hnm : ¬ (c.ins.length ≤ m) := by omega
  simp [zaj, hg, Agt.avs, hk, hf', Frm.avs, hn0', hnn, hnl, hc', h22, Cod.avs, hm0', hml, hnm, hgx, hgx1]
  refine QC.call (zvg c (by omega) hcalm) ?_
  have hg2 : ((H.put nx (some (.row 4 [.int .i64 n, .int .i64 m, .ro (vs.map Val.avs), .ro (st.map Val.avs)]))).put (nx + 1) (some (.row 3 [.int .i64 c.params, .int .i64 c.vars, .ro (c.ins.map Ins.avs)]))) g = some (.row 9 a.avs) := by rw [Heap.put_ne _ _ hgx1, Heap.put_ne _ _ hgx]; exact hg
  have hf2 : ((H.put nx (some (.row 4 [.int .i64 n, .int .i64 m, .ro (vs.map Val.avs), .ro (st.map Val.avs)]))).put (nx + 1) (some (.row 3 [.int .i64 c.params, .int .i64 c.vars, .ro (c.ins.map Ins.avs)]))) nx = some (.row 4 [.int .i64 n, .int .i64 m, .ro (vs.map Val.avs), .ro (st.map Val.avs)]) := by rw [Heap.put_ne _ _ (by omega), Heap.put_at]
  have hc2 : ((H.put nx (some (.row 4 [.int .i64 n, .int .i64 m, .ro (vs.map Val.avs), .ro (st.map Val.avs)]))).put (nx + 1) (some (.row 3 [.int .i64 c.params, .int .i64 c.vars, .ro (c.ins.map Ins.avs)]))) (nx + 1) = some (.row 3 [.int .i64 c.params, .int .i64 c.vars, .ro (c.ins.map Ins.avs)]) := Heap.put_at _ _ _
  have hK2 := hKf2 (some (.row 4 [.int .i64 n, .int .i64 m, .ro (vs.map Val.avs), .ro (st.map Val.avs)])) (some (.row 3 [.int .i64 c.params, .int .i64 c.vars, .ro (c.ins.map Ins.avs)]))
  generalize ((H.put nx (some (.row 4 [.int .i64 n, .int .i64 m, .ro (vs.map Val.avs), .ro (st.map Val.avs)]))).put (nx + 1) (some (.row 3 [.int .i64 c.params, .int .i64 c.vars, .ro (c.ins.map Ins.avs)]))) = H1 at *
  have w1 : IntKind.i64.wrap ((a.frames.length : Int) - 1) = (a.frames.length : Int) - 1 := i64w (by omega)
  have hvl : vs.length ≤ 8 := by omega
  simp [znm, hf2, hm1, hh', hg2, Agt.avs, w1]
  refine JN.same ?_
  simp [zno]
  refine JN.same ?_
  have key : zci (fun v H' _ => Frz H' n0 v (.int .i64 R) ∧ Keep n0 H' H0) (zbg (fun v H' _ => Frz H' n0 v (.int .i64 R) ∧ Keep n0 H' H0) K)
      [.bool away, .ptr g 0, .int .i64 k, .ptr nx 0, .ptr (nx + 1) 0, .ro ((VM.heights c.ins).1.map fun n => [.int .i64 n]), .int .i64 h, .bool (decide (k + 1 = a.frames.length)), .ro (a.frames.map Frm.avs), .int .i64 a.frames.length, .int .i64 k, .bool (!decide (k + 1 = a.frames.length) || away)] H1 (nx + 2) := by
    cases hw : (!decide (k + 1 = a.frames.length) || away)
    · rw [hw] at hfe
      simp only [Bool.false_and, Bool.false_eq_true, if_false] at hfe
      rw [hfe] at hbad hgo
      simp [zci]
      exact zvh a k ⟨n, m, vs, st⟩ h away _ _ H1 H0 (nx + 2) n0 g nx K R hg2 (by omega) hf2 (by omega) (by omega) hK2 hvl hhb'.2 (by omega) hbad fun h0 H' nx' q1 q2 q3 => hgo h0 H' nx' q1 q2 (by omega)
    rw [hw] at hfe
    simp only [Bool.true_and, if_true] at hfe
    cases m with
    | zero =>
      have e10 : VM.frame a k away = 10 := by rw [hfe]; simp
      have hR := hbad (by omega)
      rw [hR, e10]
      have w2 : IntKind.i64.wrap (h - 1) = h - 1 := i64w (by omega)
      simp [zci, hf2, hK2]
    | succ m =>
    have h00 : ¬ ((m : Int) + 1 = 0) := by omega
    have w2 : IntKind.i64.wrap (h - 1) = h - 1 := i64w (by omega)
    have w3 : IntKind.i64.wrap (m : Int) = m := i64w (by omega)
    have hml' : m < c.ins.length := by omega
    obtain ⟨i, hi⟩ : ∃ i, c.ins[m]? = some i := ⟨_, List.getElem?_eq_getElem hml'⟩
    obtain ⟨_, hi'⟩ := List.getElem?_eq_some_iff.1 hi
    obtain ⟨q, hq⟩ : ∃ q, (VM.heights c.ins).1[m]? = some q := ⟨_, List.getElem?_eq_getElem (by omega)⟩
    obtain ⟨hqm, hq'⟩ := List.getElem?_eq_some_iff.1 hq
    have z1 : nx ≠ nx + 2 := by omega
    have z2 : nx + 1 ≠ nx + 2 := by omega
    have z3 : g ≠ nx + 2 := by omega
    have hg3 : (H1.put (nx + 2) (some (.row 3 [.int .i64 i.op, .int .i64 i.a, .int .i64 i.b]))) g = some (.row 9 a.avs) := by rw [Heap.put_ne _ _ z3]; exact hg2
    have hf3 : (H1.put (nx + 2) (some (.row 3 [.int .i64 i.op, .int .i64 i.a, .int .i64 i.b]))) nx = some (.row 4 [.int .i64 n, .int .i64 ((m + 1 : Nat) : Int), .ro (vs.map Val.avs), .ro (st.map Val.avs)]) := by rw [Heap.put_ne _ _ z1]; exact hf2
    have hi3 : (H1.put (nx + 2) (some (.row 3 [.int .i64 i.op, .int .i64 i.a, .int .i64 i.b]))) (nx + 2) = some (.row 3 [.int .i64 i.op, .int .i64 i.a, .int .i64 i.b]) := Heap.put_at _ _ _
    have hK3 : Keep n0 (H1.put (nx + 2) (some (.row 3 [.int .i64 i.op, .int .i64 i.a, .int .i64 i.b]))) H0 := by rw [Keep.put (by omega)]; exact hK2
    have hbp : zft a k c (VM.heights c.ins).1 (m + 1) = ((!decide (k + 1 = a.frames.length) && (decide (i.op ≠ 17) || decide (i.a ≠ ((a.frames[k + 1]?).map (·.fn)).getD 0))) || (decide (k + 1 = a.frames.length) && decide (i.op ≠ 13)) || decide (q < 0)) := by
      unfold zft
      simp only [Nat.add_sub_cancel, List.getD_eq_getElem?_getD, hi, hq, Option.getD_some]
    have hbadv : zft a k c (VM.heights c.ins).1 (m + 1) = true → R = 10 := fun hb => by
      have : VM.frame a k away = 10 := by rw [hfe, if_pos (by simp [hb])]
      rw [hbad (by omega), this]
    have hfin : zft a k c (VM.heights c.ins).1 (m + 1) = false → zbg (fun v H' _ => Frz H' n0 v (.int .i64 R) ∧ Keep n0 H' H0) K [.bool away, .ptr g 0, .ptr nx 0, .int .i64 (h - 1), .ro (a.frames.map Frm.avs), .int .i64 a.frames.length, .int .i64 k] (H1.put (nx + 2) (some (.row 3 [.int .i64 i.op, .int .i64 i.a, .int .i64 i.b]))) (nx + 2 + 1) := by
      intro hb
      have e : VM.frame a k away = zam a vs st (h - 1) := by rw [hfe, if_neg (by simp [hb]; omega)]
      rw [e] at hbad hgo
      exact zvh a k ⟨n, ((m + 1 : Nat) : Int), vs, st⟩ (h - 1) away _ _ _ H0 (nx + 2 + 1) n0 g nx K R hg3 (by omega) hf3 (by omega) (by omega) hK3 hvl (by omega) (by omega) hbad fun h0 H' nx' q1 q2 q3 => hgo h0 H' nx' q1 q2 (by omega)
    rw [hbp] at hfin hbadv
    by_cases hlast : k + 1 = a.frames.length
    · simp [hlast] at hfin hbadv
      simp [zci, hf2, hc2, h00, w2, w3, hml', hi', Ins.avs, z1, z2, hqm, hq', hlast]
      refine ⟨fun hq0 => ⟨fun h13 => ⟨hbadv (.inl h13), hK3⟩, fun h13 => hfin h13 hq0⟩, fun hq0 => ⟨hbadv (.inr hq0), hK3⟩⟩
    · have hk2 : k + 1 < a.frames.length := by omega
      obtain ⟨f2, hf2'⟩ : ∃ f2, a.frames[k + 1]? = some f2 := ⟨_, List.getElem?_eq_getElem hk2⟩
      obtain ⟨_, hf2''⟩ := List.getElem?_eq_some_iff.1 hf2'
      rw [hf2'] at hfin hbadv
      simp [hlast] at hfin hbadv
      have w4 : IntKind.i64.wrap ((k : Int) + 1) = (k : Int) + 1 := i64w (by omega)
      have hk2i : (k : Int) + 1 < a.frames.length := by omega
      have hk0 : (0 : Int) ≤ (k : Int) + 1 := by omega
      have htn : ((k : Int) + 1).toNat = k + 1 := by omega
      simp [zci, hf2, hc2, h00, w2, w3, w4, hml', hi', Ins.avs, z1, z2, z3, hqm, hq', hlast, hg2, Agt.avs, hk2i, hk0, htn, hk2, hf2'', Frm.avs]
      refine ⟨fun hq0 => ⟨fun h17 => ⟨fun ha => ⟨hbadv (.inl (.inr ha)), hK3⟩, fun ha => hfin h17 ha hq0⟩, fun h17 => ⟨hbadv (.inl (.inl h17)), hK3⟩⟩, fun hq0 => ⟨hbadv (.inr hq0), hK3⟩⟩
  by_cases hlast : k + 1 = a.frames.length
  · have l2 : (k : Int) = (a.frames.length : Int) - 1 := by omega
    simp [zil, l2]
    simp [hlast, l2] at key
    exact key
  · have l2 : ¬ (k : Int) = (a.frames.length : Int) - 1 := by omega
    simp [zil, l2]
    simp [hlast] at key
    exact key
end Go.Proofs.YtpbnaaoilgohkaaGreatDoor
set_option maxRecDepth 8000
namespace Go.Proofs.YtpbnaaoilgohkaaGreatDoor
open Go Go.RowKit
set_option maxHeartbeats 4000000 in
theorem zajy (a : Agt) (away : Bool) (ha : a.prog.ok) (hhl : a.heap.length ≤ 4611686018427387904) : QC Tryz.prog 7 [.agg a.avs, .bool away] (.int .i64 (VM.agent a away)) := by
  refine QC.of' fun H nx => zsq _ _ H nx _ ?_
  simp [znj, Agt.avs]
  refine QC.call (zadf a.prog ha) ?_
  have hg : (H.put nx (some (.row 9 [.int .i64 a.id, .int .i64 a.trip, .ro (a.prog.codes.map Cod.avs), .ro (a.prog.words.map fun w => [.str w]), .ro (a.frames.map Frm.avs), .ro (a.heap.map Cl.avs), .int .i64 a.permit.fuel, .int .i64 a.permit.room, .int .i64 a.permit.hops]))) nx = some (.row 9 a.avs) := Heap.put_at _ _ _
  have hK : Keep nx (H.put nx (some (.row 9 [.int .i64 a.id, .int .i64 a.trip, .ro (a.prog.codes.map Cod.avs), .ro (a.prog.words.map fun w => [.str w]), .ro (a.frames.map Frm.avs), .ro (a.heap.map Cl.avs), .int .i64 a.permit.fuel, .int .i64 a.permit.room, .int .i64 a.permit.hops]))) H := by simp
  generalize (H.put nx (some (.row 9 [.int .i64 a.id, .int .i64 a.trip, .ro (a.prog.codes.map Cod.avs), .ro (a.prog.words.map fun w => [.str w]), .ro (a.frames.map Frm.avs), .ro (a.heap.map Cl.avs), .int .i64 a.permit.fuel, .int .i64 a.permit.room, .int .i64 a.permit.hops]))) = H1 at *
  by_cases hp : VM.program a.prog = 0
  case neg =>
    have e : VM.agent a away = VM.program a.prog := by unfold VM.agent; rw [if_pos hp]
    rw [e]
    simp [zik, hp, hK]
  simp [zik, hp, hg, Agt.avs]
  have e3 : (a.id < 0 ∨ 1073741824 < a.id ∨ a.trip < 0 ∨ 1073741824 < a.trip ∨ a.permit.fuel < 0 ∨ 2000 < a.permit.fuel ∨ a.permit.room < 0 ∨ 60 < a.permit.room ∨ a.permit.hops < 0 ∨ 12 < a.permit.hops) → VM.agent a away = 3 := fun h => by
    unfold VM.agent; rw [if_neg (by simpa using hp), if_pos h]
  refine LP.mk (fun m xs H' nx' => ∃ i : Nat, i ≤ 5 ∧ m = 5 - i ∧ xs = [.bool away, .ptr nx 0, .slc (nx + 1) 0 5, .int .i64 5, .int .i64 i] ∧ H' nx = some (.row 9 a.avs) ∧
    H' (nx + 1) = some (.row 2 [.int .i64 a.id, .int .i64 1073741824, .int .i64 a.trip, .int .i64 1073741824, .int .i64 a.permit.fuel, .int .i64 2000, .int .i64 a.permit.room, .int .i64 60, .int .i64 a.permit.hops, .int .i64 12]) ∧ Keep nx H' H ∧ nx + 1 < nx' ∧
    (1 ≤ i → 0 ≤ a.id ∧ a.id ≤ 1073741824) ∧ (2 ≤ i → 0 ≤ a.trip ∧ a.trip ≤ 1073741824) ∧ (3 ≤ i → 0 ≤ a.permit.fuel ∧ a.permit.fuel ≤ 2000) ∧ (4 ≤ i → 0 ≤ a.permit.room ∧ a.permit.room ≤ 60) ∧ (5 ≤ i → 0 ≤ a.permit.hops ∧ a.permit.hops ≤ 12)) 5
    ⟨0, by omega, by omega, by simp, by rw [Heap.put_ne _ _ (by omega)]; exact hg, by simp, by simp [hK], by omega, by omega, by omega, by omega, by omega, by omega⟩ ?_
  rintro m xs H2 n2 ⟨i, hi, rfl, rfl, hg2, hr2, hK2, hn2, i1, i2, i3, i4, i5⟩
  have z1 : nx ≠ n2 := by omega
  have z2 : nx + 1 ≠ n2 := by omega
  have hKf : ∀ o, Keep nx (H2.put n2 o) H := fun o => by rw [Keep.put (by omega)]; exact hK2
  have hic : i = 5 ∨ i = 0 ∨ i = 1 ∨ i = 2 ∨ i = 3 ∨ i = 4 := by omega
  rcases hic with rfl | hic
  · have e0 : VM.agent a away = if a.frames.length < 1 ∨ 12 < a.frames.length then 5 else if 60 - a.permit.room < a.heap.length then 4 else if VM.framesErr a away ≠ 0 then VM.framesErr a away else VM.firstErr (VM.cellErr a.heap.length) a.heap := by
      unfold VM.agent; rw [if_neg (by simpa using hp), if_neg (by have := i1 (by omega); have := i2 (by omega); have := i3 (by omega); have := i4 (by omega); have := i5 (by omega); omega)]
    have i4' := i4 (by omega)
    have w1 : IntKind.i64.wrap ((a.heap.length : Int) + a.permit.room) = (a.heap.length : Int) + a.permit.room := i64w (by omega)
    simp [zbf, hg2, Agt.avs, w1]
    refine ⟨fun h => ⟨by rw [e0, if_pos (by rw [h]; simp)], hK2⟩, fun f1 => ?_⟩
    have hpos : 0 < a.frames.length := List.length_pos_iff.2 f1
    refine ⟨fun h => ⟨by rw [e0, if_pos (by omega)], hK2⟩, fun f2 => ⟨fun h => ⟨by rw [e0, if_neg (by omega), if_pos (by omega)], hK2⟩, fun f3 => ?_⟩⟩
    rw [if_neg (by omega), if_neg (by omega)] at e0
    refine LP.mk (fun m xs H' nx' => ∃ i : Nat, i ≤ a.frames.length ∧ m = a.frames.length - i ∧ xs = [.bool away, .ptr nx 0, .ro (a.frames.map Frm.avs), .int .i64 a.frames.length, .int .i64 i] ∧ H' nx = some (.row 9 a.avs) ∧ Keep nx H' H ∧ nx < nx' ∧ VM.framesErr a away = VM.firstErr (fun k => VM.frame a k away) ((List.range a.frames.length).drop i)) a.frames.length
      ⟨0, by omega, by omega, by simp, hg2, hK2, by omega, rfl⟩ ?_
    rintro m xs H3 n3 ⟨k, hk, rfl, rfl, hg3, hK3, hn3, hfe⟩
    by_cases hlt : k < a.frames.length
    · have hr : (List.range a.frames.length)[k]? = some k := by simp [hlt]
      rw [zay _ _ _ _ hr] at hfe
      refine zadq a k away H3 H n3 nx nx _ _ hg3 hn3 (by omega) hK3 hlt (by omega) hp (fun hz => ?_) fun hz H' nx' q1 q2 q3 => ?_
      · rw [if_pos hz] at hfe
        rw [e0, hfe, if_pos hz]
      · rw [if_neg (by simpa using hz)] at hfe
        exact ⟨a.frames.length - (k + 1), by omega, k + 1, by omega, rfl, rfl, q1, q2, by omega, hfe⟩
    obtain rfl : k = a.frames.length := by omega
    have hz : VM.framesErr a away = 0 := by rw [hfe, List.drop_of_length_le (by simp)]; rfl
    rw [if_neg (by simpa using hz)] at e0
    simp [zaj, hg3, Agt.avs]
    refine LP.mk (fun m xs H' nx' => ∃ i : Nat, i ≤ a.heap.length ∧ m = a.heap.length - i ∧ xs = [.ptr nx 0, .ro (a.heap.map Cl.avs), .int .i64 a.heap.length, .int .i64 i] ∧ H' nx = some (.row 9 a.avs) ∧ Keep nx H' H ∧ nx < nx' ∧ VM.agent a away = VM.firstErr (VM.cellErr a.heap.length) (a.heap.drop i)) a.heap.length
      ⟨0, by omega, by omega, by simp, hg3, hK3, by omega, e0⟩ ?_
    rintro m xs H4 n4 ⟨k, hk, rfl, rfl, hg4, hK4, hn4, hfe⟩
    by_cases hlt : k < a.heap.length
    case neg =>
      obtain rfl : k = a.heap.length := by omega
      simp [zii, hK4]
      rw [hfe]; simp [VM.firstErr]
    obtain ⟨c, hc⟩ : ∃ c, a.heap[k]? = some c := ⟨_, List.getElem?_eq_getElem hlt⟩
    obtain ⟨_, hc'⟩ := List.getElem?_eq_some_iff.1 hc
    rw [zay _ _ _ _ hc] at hfe
    obtain ⟨l, r⟩ := c
    have m1 : nx ≠ n4 := by omega
    have hce : VM.cellErr a.heap.length ⟨l, r⟩ = if VM.wrong l a.heap.length ≠ 0 then VM.wrong l a.heap.length else VM.wrong r a.heap.length := rfl
    rw [hce] at hfe
    have hg5 : (H4.put n4 (some (.row 6 [.int .i64 l.kind, .int .i64 l.n, .str l.text, .int .i64 r.kind, .int .i64 r.n, .str r.text]))) nx = some (.row 9 a.avs) := by rw [Heap.put_ne _ _ m1]; exact hg4
    have hc5 : (H4.put n4 (some (.row 6 [.int .i64 l.kind, .int .i64 l.n, .str l.text, .int .i64 r.kind, .int .i64 r.n, .str r.text]))) n4 = some (.row 6 [.int .i64 l.kind, .int .i64 l.n, .str l.text, .int .i64 r.kind, .int .i64 r.n, .str r.text]) := Heap.put_at _ _ _
    have hK5 : Keep nx (H4.put n4 (some (.row 6 [.int .i64 l.kind, .int .i64 l.n, .str l.text, .int .i64 r.kind, .int .i64 r.n, .str r.text]))) H := by rw [Keep.put (by omega)]; exact hK4
    simp [zii, hlt, hc', Cl.avs, Val.avs, hg4, m1, Agt.avs]
    generalize (H4.put n4 (some (.row 6 [.int .i64 l.kind, .int .i64 l.n, .str l.text, .int .i64 r.kind, .int .i64 r.n, .str r.text]))) = H5 at *
    refine QC.call (zsy l _) ?_
    simp [znk, hc5, hg5, Agt.avs]
    refine ⟨fun hz => ⟨by rw [hfe, if_pos hz, if_pos hz], hK5⟩, fun hz => ?_⟩
    refine QC.call (zsy r _) ?_
    rw [hz] at hfe
    simp at hfe
    simp [znl]
    refine ⟨fun hz2 => ⟨by rw [hfe]; simp [hz2], hK5⟩, fun hz2 => ?_⟩
    rw [hz2] at hfe
    simp at hfe
    rw [i64w (by omega)]
    exact ⟨a.heap.length - (k + 1), by omega, k + 1, by omega, rfl, rfl, hg5, hK5, by omega, hfe⟩
  rcases hic with rfl | rfl | rfl | rfl | rfl
  · simp [zbf, hr2, hKf]
    refine ⟨fun h => e3 (by omega), fun h => ⟨fun h' => e3 (by omega), fun h' => ?_⟩⟩
    exact ⟨5 - 1, by omega, 1, by omega, rfl, by rw [i64w (by omega)]; rfl, by simp [z1, hg2], by simp [z2], by omega, by omega, by omega, by omega, by omega, by omega⟩
  · simp [zbf, hr2, hKf]
    refine ⟨fun h => e3 (by omega), fun h => ⟨fun h' => e3 (by omega), fun h' => ?_⟩⟩
    exact ⟨5 - 2, by omega, 2, by omega, rfl, by rw [i64w (by omega)]; rfl, by simp [z1, hg2], by simp [z2], by omega, by omega, by omega, by omega, by omega, by omega⟩
  · simp [zbf, hr2, hKf]
    refine ⟨fun h => e3 (by omega), fun h => ⟨fun h' => e3 (by omega), fun h' => ?_⟩⟩
    exact ⟨5 - 3, by omega, 3, by omega, rfl, by rw [i64w (by omega)]; rfl, by simp [z1, hg2], by simp [z2], by omega, by omega, by omega, by omega, by omega, by omega⟩
  · simp [zbf, hr2, hKf]
    refine ⟨fun h => e3 (by omega), fun h => ⟨fun h' => e3 (by omega), fun h' => ?_⟩⟩
    exact ⟨5 - 4, by omega, 4, by omega, rfl, by rw [i64w (by omega)]; rfl, by simp [z1, hg2], by simp [z2], by omega, by omega, by omega, by omega, by omega, by omega⟩
  · simp [zbf, hr2, hKf]
    refine ⟨fun h => e3 (by omega), fun h => ⟨fun h' => e3 (by omega), fun h' => ?_⟩⟩
    exact ⟨5, by omega, by omega, by rw [i64w (by omega)]; rfl, by simp [z1, hg2], by simp [z2], by omega, by omega, by omega, by omega, by omega, by omega⟩
end Go.Proofs.YtpbnaaoilgohkaaGreatDoor
set_option maxRecDepth 8000
namespace Go.Proofs.YtpbnaaoilgohkaaGreatDoor
open Go Go.RowKit
abbrev XR := AV × List Nat × List Nat × zg
abbrev xp (v : AV) : Option XR := some (v, [], [], [])
abbrev xn (nx : Nat) (o : AObj) (v : AV) : Option XR := some (v, [], [nx], [(nx, some o)])
def xg (b : Bool) (r : Option XR) : Option XR := match b with | true => r | false => none
abbrev XOk (r : Option XR) (A : Kt → Prop) : Prop := ∀ v rd fr D, r = some (v, rd, fr, D) → ∀ k : Kt, k v rd fr D → A k
theorem XOk.none {A : Kt → Prop} : XOk none A := fun _ _ _ _ h => by cases h
theorem XOk.some {v : AV} {rd fr : List Nat} {D : zg} {A : Kt → Prop} (h : ∀ k : Kt, k v rd fr D → A k) : XOk (some (v, rd, fr, D)) A := fun _ _ _ _ e k hk => by cases e; exact h k hk
theorem XOk.pure {v : AV} : XOk (xp v) (PURE v) := XOk.some fun _ h => h
theorem XOk.new {nx : Nat} {o : AObj} {v : AV} : XOk (xn nx o v) (NEW nx o v) := XOk.some fun _ h => h
theorem XOk.gd {b : Bool} {r : Option XR} {A : Kt → Prop} (h : b = true → XOk r A) : XOk (xg b r) A := by
  cases b with
  | true => exact h rfl
  | false => exact XOk.none
theorem zme {b : Bool} {r : Option XR} {x : XR} : xg b r = some x ↔ b = true ∧ r = some x := by cases b <;> simp [xg]
theorem XOk.mono {r : Option XR} {A B : Kt → Prop} (h : XOk r A) (k : ∀ kt, A kt → B kt) : XOk r B := fun v rd fr D e kt hk => k kt (h v rd fr D e kt hk)
def zaex (c a b : AV) : Option XR := match c with | .bool t => xp (bif t then a else b) | _ => none
theorem zakd {c a b : AV} : XOk (zaex c a b) (PICK c a b) := by
  unfold zaex PICK; split <;> first | exact XOk.pure | exact XOk.none
def zul (agg : Bool) (sz : Nat) (p : AV) (H : Heap) : Option XR := match rdp H p with
  | some (cells, off, rd) => match ldv agg sz cells off with | some v => some (v, rd, [], []) | none => none
  | none => none
theorem zakg {agg : Bool} {sz : Nat} {p : AV} {H : Heap} : XOk (zul agg sz p H) (LOAD agg sz p H) := by
  intro v rd fr D e k hk
  unfold zul at e; unfold LOAD
  repeat' split at e
  all_goals (cases e <;> simp_all [PURE, NEW])
def zaap (sz : Nat) (p v : AV) (H : Heap) : Option XR := match p with
  | .ptr g off => match H g with
    | some (.row es cells) => xg (Nat.beq v.cells.length sz && Nat.ble (off + sz) cells.length && v.cells.all AV.one && v.sure) (some (.und, [g], [], [(g, some (.row es (zak cells off v.cells)))]))
    | _ => none
  | _ => none
theorem zahq {sz : Nat} {p v : AV} {H : Heap} : XOk (zaap sz p v H) (zbd sz p v H) := by
  intro v' rd fr D e k hk
  unfold zaap at e; unfold zbd
  repeat' split at e
  · simp only [zme, Bool.and_eq_true, Nat.beq_eq, Nat.ble_eq] at e
    obtain ⟨h, e⟩ := e
    cases e
    simp_all
  · cases e
  · cases e
def zaey (x : AV) : Option XR := match x with
  | .ptr _ _ | .rop _ _ | .clo _ _ => xp x
  | _ => none
theorem zake {x : AV} : XOk (zaey x) (NILC x) := by
  unfold zaey NILC; split <;> first | exact XOk.pure | exact XOk.none
def zaau (off : Nat) (p : AV) : Option XR := match p with
  | .ptr g o => xp (.ptr g (o + off))
  | .rop cs o => xp (.rop cs (o + off))
  | _ => none
theorem zsv {off : Nat} {p : AV} : XOk (zaau off p) (zox off p) := by
  unfold zaau zox; split <;> first | exact XOk.pure | exact XOk.none
def zwj (agg : Bool) (sz off : Nat) (x : AV) : Option XR := match x with
  | .agg cs => match ztt agg sz off cs with | some v => xp v | none => none
  | _ => none
theorem zyi {agg : Bool} {sz off : Nat} {x : AV} : XOk (zwj agg sz off x) (zet agg sz off x) := by
  intro v rd fr D e k hk
  unfold zwj at e; unfold zet
  repeat' split at e
  all_goals (cases e <;> simp_all [PURE, NEW])
def xat (i : AV) (len : Nat) (f : Nat → Option XR) : Option XR := match i with
  | .int _ n => match n with
    | .ofNat m => xg (Nat.blt m len) (f m)
    | .negSucc _ => none
  | _ => none
theorem zss {i : AV} {len : Nat} {f : Nat → Option XR} {A : Kt → Prop} (h : ∀ (k : IntKind) (m : Nat), i = .int k (m : Int) → m < len → XOk (f m) A) : XOk (xat i len f) A := by
  unfold xat
  split
  · split
    · exact XOk.gd fun hb => h _ _ rfl (by simpa using hb)
    · exact XOk.none
  · exact XOk.none
def zaat (esz : Nat) (x i : AV) : Option XR := match x with
  | .slc g off len => xat i len fun m => xp (.ptr g (off + m * esz))
  | .ro xs => xat i xs.length fun m => match xs.getD m [] with | c => xg (Nat.beq c.length esz) (xp (.rop c 0))
  | _ => none
theorem zsu {esz : Nat} {x i : AV} : XOk (zaat esz x i) (zsc esz x i) := by
  unfold zaat
  split
  · refine zss fun k m e hm => ?_
    subst e
    exact XOk.pure.mono fun kt h => ⟨by omega, by omega, by simpa using h⟩
  · refine zss fun k m e hm => ?_
    subst e
    refine XOk.gd fun hb => ?_
    exact XOk.pure.mono fun kt h => ⟨by omega, by omega, by simpa using hb, by simpa using h⟩
  · exact XOk.none
def zaht (esz len : Nat) (p i : AV) : Option XR := xat i len fun m => match p with
  | .ptr g o => xp (.ptr g (o + m * esz))
  | .rop cs o => xp (.rop cs (o + m * esz))
  | _ => none
theorem zsx {esz len : Nat} {p i : AV} : XOk (zaht esz len p i) (zsd esz len p i) := by
  refine zss fun k m e hm => ?_
  subst e
  split
  · exact XOk.pure.mono fun kt h => ⟨by omega, by omega, by simpa using h⟩
  · exact XOk.pure.mono fun kt h => ⟨by omega, by omega, by simpa using h⟩
  · exact XOk.none
def zaar (x i : AV) : Option XR := match x with
  | .str s => xat i s.length fun m => xp (.int .u8 ((s.getD m 0).toNat : Int))
  | _ => none
theorem zahr {x i : AV} : XOk (zaar x i) (zsb x i) := by
  unfold zaar
  split
  · refine zss fun k m e hm => ?_
    subst e
    exact XOk.pure.mono fun kt h => ⟨by omega, by omega, by simpa using h⟩
  · exact XOk.none
def zaeb (agg : Bool) (esz len : Nat) (x i : AV) : Option XR := xat i len fun m => zwj agg esz (m * esz) x
theorem zafq {agg : Bool} {esz len : Nat} {x i : AV} : XOk (zaeb agg esz len x i) (zkt agg esz len x i) := by
  refine zss fun k m e hm => ?_
  subst e
  exact zyi.mono fun kt h => ⟨by omega, by omega, by simpa using h⟩
def zafd (x : AV) : Option XR := match x with
  | .str s => xp (.int .i64 (.ofNat s.length))
  | _ => none
theorem zakh {x : AV} : XOk (zafd x) (LENS x) := by unfold zafd LENS; split <;> first | exact XOk.pure | exact XOk.none
def zaff (x : AV) : Option XR := match x with
  | .nils | .zs => xp (.int .i64 0)
  | .slc _ _ n => xp (.int .i64 (.ofNat n))
  | .ro xs => xp (.int .i64 (.ofNat xs.length))
  | _ => none
theorem zakj {x : AV} : XOk (zaff x) (LENL x) := by unfold zaff LENL; split <;> first | exact XOk.pure | exact XOk.none
def zafe (x : AV) (H : Heap) : Option XR := match x with
  | .nilm => xp (.int .i64 0)
  | .amap g => match H g with | some (.mp es) => some (.int .i64 (.ofNat es.length), [g], [], []) | _ => none
  | _ => none
theorem zaki {x : AV} {H : Heap} : XOk (zafe x H) (LENM x H) := by
  intro v rd fr D e k hk
  unfold zafe at e; unfold LENM
  repeat' split at e
  all_goals (cases e <;> simp_all [PURE, NEW])
def zafg (x : AV) (i : Nat) : Option XR := match x with
  | .tup vs => match vs[i]? with | some v => xp v | none => none
  | _ => none
theorem zakk {x : AV} {i : Nat} : XOk (zafg x i) (EXTR x i) := by
  intro v rd fr D e k hk
  unfold zafg at e; unfold EXTR
  repeat' split at e
  all_goals (cases e <;> simp_all [PURE, NEW])
def zwk (place : Nat → Option (Nat × Nat)) (zero : List AV) (parts : List (Nat × AV)) : Option XR := match zcc place zero parts with
  | some cells => xp (.agg cells)
  | none => none
theorem zsw {place : Nat → Option (Nat × Nat)} {zero : List AV} {parts : List (Nat × AV)} : XOk (zwk place zero parts) (zhn place zero parts) := by
  intro v rd fr D e k hk
  unfold zwk at e; unfold zhn
  repeat' split at e
  all_goals (cases e <;> simp_all [PURE, NEW])
def zxu (len esz : Nat) (zero : List AV) (parts : List (Nat × AV)) (r : AV) (nx : Nat) : Option XR :=
  match zcc (fun i => some (i * esz, esz)) ((List.replicate len zero).flatten) parts with
  | some cells => xn nx (.row esz cells) r
  | none => none
theorem zra {len esz : Nat} {zero : List AV} {parts : List (Nat × AV)} {r : AV} {nx : Nat} : XOk (zxu len esz zero parts r nx) (zuj len esz zero parts r nx) := by
  intro v rd fr D e k hk
  unfold zxu at e; unfold zuj
  repeat' split at e
  all_goals (cases e <;> simp_all [PURE, NEW])
def iLt : Int → Int → Bool
  | .ofNat a, .ofNat b => Nat.blt a b
  | .ofNat _, .negSucc _ => false
  | .negSucc _, .ofNat _ => true
  | .negSucc a, .negSucc b => Nat.blt b a
theorem zabo (a b : Int) : iLt a b = decide (a < b) := by
  rw [Bool.eq_iff_iff]
  cases a <;> cases b <;> simp [iLt] <;> omega
def iEq : Int → Int → Bool
  | .ofNat a, .ofNat b => Nat.beq a b
  | .negSucc a, .negSucc b => Nat.beq a b
  | _, _ => false
theorem zxb (a b : Int) : iEq a b = (a == b) := by
  rw [Bool.eq_iff_iff]
  cases a <;> cases b <;> simp [iEq]
  all_goals omega
def zrc (k : IntKind) (n : Int) : Int := match k, n with
  | .i64, .ofNat m => bif Nat.blt m 9223372036854775808 then .ofNat m else k.wrap n
  | .i64, .negSucc m => bif Nat.blt m 9223372036854775808 then .negSucc m else k.wrap n
  | _, _ => k.wrap n
theorem zaax (k : IntKind) (n : Int) : zrc k n = k.wrap n := by
  have key : ∀ z : Int, -9223372036854775808 ≤ z → z < 9223372036854775808 → IntKind.wrap .i64 z = z := by
    intro z h1 h2
    unfold IntKind.wrap
    have eb : IntKind.i64.bits = 64 := rfl
    have es : IntKind.i64.signed = true := rfl
    simp only [eb, es, Bool.true_and, decide_eq_true_eq]
    have e1 : (2 : Int) ^ 64 = 18446744073709551616 := by simp
    have e2 : (2 : Int) ^ (64 - 1) = 9223372036854775808 := by simp
    rw [e1, e2]
    split <;> omega
  unfold zrc
  split
  · rename_i m
    cases h : Nat.blt m 9223372036854775808 with
    | false => rw [cond_false]
    | true =>
      simp only [Nat.blt_eq] at h
      rw [cond_true, key _ (by simp only [Int.ofNat_eq_natCast]; omega) (by simp only [Int.ofNat_eq_natCast]; omega)]
  · rename_i m
    cases h : Nat.blt m 9223372036854775808 with
    | false => rw [cond_false]
    | true =>
      simp only [Nat.blt_eq] at h
      rw [cond_true, key _ (by omega) (by omega)]
  · rfl
def sEq : List UInt8 → List UInt8 → Bool
  | [], [] => true
  | a :: r, b :: s => Nat.beq a.toNat b.toNat && sEq r s
  | _, _ => false
theorem zabb : ∀ a b : List UInt8, sEq a b = (a == b)
  | [], [] => rfl
  | [], _ :: _ => rfl
  | _ :: _, [] => rfl
  | a :: r, b :: s => by
    rw [Bool.eq_iff_iff]
    simp only [sEq, zabb r s, Bool.and_eq_true, Nat.beq_eq, beq_iff_eq, List.cons.injEq]
    rw [UInt8.toNat_inj]
def zwi (op : BinOp) (k : IntKind) (a b : Int) : Option XR := match op with
  | .add => xp (.int k (zrc k (a + b)))
  | .sub => xp (.int k (zrc k (a - b)))
  | .mul => xp (.int k (zrc k (a * b)))
  | .quo => xg (!iEq b 0) (xp (.int k (zrc k (a.tdiv b))))
  | .rem => xg (!iEq b 0) (xp (.int k (a.tmod b)))
  | .shl => xg (!iLt b 0) (xp (.int k (k.wrap (a * 2 ^ (min b.toNat k.bits)))))
  | .shr => xg (!iLt b 0) (xp (.int k (a.fdiv (2 ^ (min b.toNat k.bits)))))
  | .and | .or | .xor | .andNot => match zfo op k a b with | some r => xp (.int k r) | none => none
  | .eql => xp (.bool (iEq a b))
  | .neq => xp (.bool (!iEq a b))
  | .lss => xp (.bool (iLt a b))
  | .leq => xp (.bool (!iLt b a))
  | .gtr => xp (.bool (iLt b a))
  | .geq => xp (.bool (!iLt a b))
theorem zaas {op : BinOp} {k : IntKind} {a b : Int} : XOk (zwi op k a b) (IBIN op k a b) := by
  unfold zwi IBIN
  cases op <;> simp only [zaax, zxb, zabo]
  case quo => exact XOk.gd fun h => XOk.pure.mono fun kt hk => ⟨by simpa using h, hk⟩
  case rem => exact XOk.gd fun h => XOk.pure.mono fun kt hk => ⟨by simpa using h, hk⟩
  case shl => exact XOk.gd fun h => XOk.pure.mono fun kt hk => ⟨by simpa using h, hk⟩
  case shr => exact XOk.gd fun h => XOk.pure.mono fun kt hk => ⟨by simpa using h, hk⟩
  case and =>
    generalize zfo .and k a b = r
    cases r <;> first | exact XOk.none | exact XOk.pure
  case or =>
    generalize zfo .or k a b = r
    cases r <;> first | exact XOk.none | exact XOk.pure
  case xor =>
    generalize zfo .xor k a b = r
    cases r <;> first | exact XOk.none | exact XOk.pure
  case andNot =>
    generalize zfo .andNot k a b = r
    cases r <;> first | exact XOk.none | exact XOk.pure
  case eql => exact XOk.pure
  case neq => exact XOk.pure.mono fun kt h => by simpa [icmp, bne] using h
  case lss => exact XOk.pure
  case leq =>
    have : (!decide (b < a)) = decide (a ≤ b) := by rw [Bool.eq_iff_iff]; simp
    rw [this]; exact XOk.pure
  case gtr => exact XOk.pure
  case geq =>
    have : (!decide (a < b)) = decide (a ≥ b) := by rw [Bool.eq_iff_iff]; simp
    rw [this]; exact XOk.pure
  all_goals exact XOk.pure
def zaew (op : BinOp) (a b : List UInt8) : Option XR := match op with
  | .add => xg (Nat.ble (a.length + b.length) 9223372036854775807) (xp (.str (a ++ b)))
  | .eql => xp (.bool (sEq a b))
  | .neq => xp (.bool (!sEq a b))
  | .lss => xp (.bool (Op.bytesLess a b))
  | .leq => xp (.bool (Op.bytesLess a b || a == b))
  | .gtr => xp (.bool (!(Op.bytesLess a b || a == b)))
  | .geq => xp (.bool (!Op.bytesLess a b))
  | _ => none
theorem zakc {op : BinOp} {a b : List UInt8} : XOk (zaew op a b) (SBIN op a b) := by
  unfold zaew SBIN
  cases op <;> simp only [zabb] <;> first | exact XOk.pure | exact XOk.none | skip
  exact XOk.gd fun h => XOk.pure.mono fun kt hk => ⟨by simpa using h, hk⟩
def zafn (op : BinOp) (x y : AV) : Option XR := match x, y with
  | .int k a, .int k' b => xg (zao op || decide (k' = k)) (zwi op k a b)
  | _, _ => none
theorem zako {op : BinOp} {x y : AV} : XOk (zafn op x y) (BINI op x y) := by
  unfold zafn BINI
  split
  · exact XOk.gd fun h => zaas.mono fun kt hk => ⟨fun hs => by simpa [hs] using h, hk⟩
  · exact XOk.none
def zafk (op : BinOp) (x y : AV) : Option XR := match x, y with
  | .str a, .str b => zaew op a b
  | _, _ => none
theorem zakl {op : BinOp} {x y : AV} : XOk (zafk op x y) (BINS op x y) := by
  unfold zafk BINS
  split
  · exact zakc
  · exact XOk.none
def zafp (op : BinOp) (x y : AV) : Option XR := match zal op with
  | some neg => match x, y with
    | .bool a, .bool b => xp (.bool (neg ^^ (a == b)))
    | _, _ => none
  | none => none
theorem zakq {op : BinOp} {x y : AV} : XOk (zafp op x y) (BINB op x y) := by
  intro v rd fr D e k hk
  unfold zafp at e; unfold BINB
  repeat' split at e
  all_goals (cases e <;> simp_all [PURE, NEW])
def zaad (zs : List AV) (op : BinOp) (x y : AV) : Option XR := match zal op with
  | some neg => match x, y with
    | .agg a, .agg b => xg (zc zs a).isSome (match zc a b with | some t => xp (.bool (neg ^^ t)) | none => none)
    | _, _ => none
  | none => none
theorem zvr {zs : List AV} {op : BinOp} {x y : AV} : XOk (zaad zs op x y) (BINA zs op x y) := by
  intro v rd fr D e k hk
  unfold zaad at e; unfold BINA
  split at e
  · rename_i neg h1
    simp only [h1]
    split at e
    · rw [zme] at e
      obtain ⟨h, e⟩ := e
      refine ⟨h, ?_⟩
      split at e <;> cases e
      rename_i h3
      simp only [h3, PURE]; exact hk
    · cases e
  · cases e
def zafl (op : BinOp) (x y : AV) : Option XR := match zal op with
  | some neg => match x, y with
    | .nilp, v => match nilP v with | some t => xp (.bool (neg ^^ t)) | none => none
    | v, .nilp => match nilP v with | some t => xp (.bool (neg ^^ t)) | none => none
    | _, _ => none
  | none => none
theorem zakm {op : BinOp} {x y : AV} : XOk (zafl op x y) (BINP op x y) := by
  intro v rd fr D e k hk
  unfold zafl at e; unfold BINP
  repeat' split at e
  all_goals (cases e <;> simp_all [PURE, NEW])
def zafm (op : BinOp) (x y : AV) : Option XR := match zal op, y with
  | some neg, .nils => match x with
    | .nils => xp (.bool (neg ^^ true))
    | .zs => xp .bany
    | .ro xs => match xs with | [] => xp .bany | _ :: _ => xp (.bool (neg ^^ false))
    | .slc _ _ n => match n with | 0 => xp .bany | _ + 1 => xp (.bool (neg ^^ false))
    | _ => none
  | _, _ => none
theorem zakn {op : BinOp} {x y : AV} : XOk (zafm op x y) (BINL op x y) := by
  intro v rd fr D e k hk
  unfold zafm at e; unfold BINL
  repeat' split at e
  all_goals (cases e <;> simp_all [PURE])
def zafo (op : BinOp) (x y : AV) : Option XR := match zal op, y with
  | some neg, .inil => match x with
    | .inil => xp (.bool (neg ^^ true))
    | .ifc => xp (.bool (neg ^^ false))
    | _ => none
  | _, _ => none
theorem zakp {op : BinOp} {x y : AV} : XOk (zafo op x y) (BINF op x y) := by
  intro v rd fr D e k hk
  unfold zafo at e; unfold BINF
  repeat' split at e
  all_goals (cases e <;> simp_all [PURE])
def xUN (op : UnOp) (x : AV) : Option XR := match op, x with
  | .not, .bool b => xp (.bool (!b))
  | .neg, .int k n => zwi .sub k 0 n
  | .xor, .int k n => zwi .xor k (if k.signed then -1 else k.max) n
  | _, _ => none
theorem zaoy {op : UnOp} {x : AV} : XOk (xUN op x) (UN op x) := by
  unfold xUN UN
  split <;> first | exact XOk.pure | exact zaas | exact XOk.none
def xlh (lo hi : Option AV) (n : Nat) (f : Nat → Nat → Option XR) : Option XR := match lohi lo hi n with
  | some (a, b) => match a, b with
    | .ofNat a, .ofNat b => xg (Nat.ble a b && Nat.ble b n) (f a b)
    | _, _ => none
  | none => none
theorem zpn {lo hi : Option AV} {n : Nat} {f : Nat → Nat → Option XR} {A : Kt → Prop} (h : ∀ a b : Nat, lohi lo hi n = some ((a : Int), (b : Int)) → a ≤ b → b ≤ n → XOk (f a b) A) : XOk (xlh lo hi n f) A := by
  unfold xlh
  split
  · rename_i a b e
    split
    · refine XOk.gd fun hb => ?_
      simp only [Bool.and_eq_true, Nat.ble_eq] at hb
      exact h _ _ e hb.1 hb.2
    · exact XOk.none
  · exact XOk.none
def zxp (x : AV) (lo hi : Option AV) : Option XR := match x with
  | .str s => xlh lo hi s.length fun a b => xp (.str ((s.take b).drop a))
  | _ => none
theorem zaev {x : AV} {lo hi : Option AV} : XOk (zxp x lo hi) (zkq x lo hi) := by
  unfold zxp zkq
  split
  · refine zpn fun a b e h1 h2 => XOk.pure.mono fun kt hk => ?_
    simp only [e]
    exact ⟨by omega, by omega, by omega, by simpa using hk⟩
  · exact XOk.none
def zaaq (esz : Nat) (x : AV) (lo hi : Option AV) (H : Heap) : Option XR := match x with
  | .ro xs => xlh lo hi xs.length fun a b => xg (xs.all fun x => Nat.beq x.length esz) (xp (.ro ((xs.take b).drop a)))
  | .slc g off len => xlh lo hi len fun a b => match H g with
      | some (.row sz _) => xg (Nat.beq sz esz) (some (.slc g (off + a * esz) (b - a), [g], [], []))
      | _ => none
  | .nils => xlh lo hi 0 fun _ _ => xp .nils
  | .zs => xlh lo hi 0 fun _ _ => xp .zs
  | _ => none
theorem zst {esz : Nat} {x : AV} {lo hi : Option AV} {H : Heap} : XOk (zaaq esz x lo hi H) (zby esz x lo hi H) := by
  unfold zaaq zby
  split
  · refine zpn fun a b e h1 h2 => XOk.gd fun h3 => XOk.pure.mono fun kt hk => ?_
    simp only [e]
    exact ⟨by omega, by omega, by omega, fun x hx => by simpa using List.all_eq_true.1 h3 x hx, by simpa using hk⟩
  · refine zpn fun a b e h1 h2 => ?_
    split
    · rename_i sz cs hg
      refine XOk.gd fun h3 => XOk.some fun kt hk => ?_
      simp only [e]
      simp only [hg]
      refine ⟨by simpa using h3, by omega, by omega, by omega, ?_⟩
      have : ((b : Int) - (a : Int)).toNat = b - a := by omega
      rw [this]; simpa using hk
    · exact XOk.none
  · refine zpn fun a b e h1 h2 => XOk.pure.mono fun kt hk => ?_
    simp only [e]
    exact ⟨by omega, by omega, hk⟩
  · refine zpn fun a b e h1 h2 => XOk.pure.mono fun kt hk => ?_
    simp only [e]
    exact ⟨by omega, by omega, hk⟩
  · exact XOk.none
def zxr (x : AV) (lo hi mx : AV) : Option XR := match lo, hi, mx with
  | .int _ a, .int _ b, .int _ c => xg (iEq a 0 && iEq b 0 && iEq c 0) (match x with
    | .nils => xp .nils
    | .zs | .ro _ | .slc _ _ _ => xp .zs
    | _ => none)
  | _, _, _ => none
theorem zqy {x lo hi mx : AV} : XOk (zxr x lo hi mx) (zkr x lo hi mx) := by
  unfold zxr zkr
  split
  · refine XOk.gd fun h => ?_
    simp only [zxb, Bool.and_eq_true, beq_iff_eq] at h
    split <;> first | exact XOk.pure.mono fun kt hk => ⟨h.1.1, h.1.2, h.2, hk⟩ | exact XOk.none
  · exact XOk.none
def zaav (k : IntKind) (x : AV) : Option XR := match x with | .int _ n => xp (.int k (zrc k n)) | _ => none
theorem zahs {k : IntKind} {x : AV} : XOk (zaav k x) (zoy k x) := by
  unfold zaav zoy
  split
  · rw [zaax]; exact XOk.pure
  · exact XOk.none
def zxq (esz n : Nat) (x : AV) (lo hi : Option AV) (H : Heap) : Option XR := match x with
  | .ptr g off => xlh lo hi n fun a b => match H g with
      | some (.row sz cells) => xg (Nat.beq sz esz && Nat.ble (off + n * esz) cells.length) (some (.slc g (off + a * esz) (b - a), [g], [], []))
      | _ => none
  | _ => none
theorem zqx {esz n : Nat} {x : AV} {lo hi : Option AV} {H : Heap} : XOk (zxq esz n x lo hi H) (znb esz n x lo hi H) := by
  unfold zxq znb
  split
  · refine zpn fun a b e h1 h2 => ?_
    split
    · rename_i sz cs hg
      refine XOk.gd fun h3 => XOk.some fun kt hk => ?_
      simp only [Bool.and_eq_true, Nat.beq_eq, Nat.ble_eq] at h3
      simp only [e]
      simp only [hg]
      refine ⟨h3.1, h3.2, by omega, by omega, by omega, ?_⟩
      have : ((b : Int) - (a : Int)).toNat = b - a := by omega
      rw [this]; simpa using hk
    · exact XOk.none
  · exact XOk.none
def xMM (mn : Bool) (x y : AV) : Option AV := match x, y with
  | .int ki a, .int kj b => match decide (ki = kj) with
    | true => some (.int ki (bif mn then (bif iLt b a then b else a) else (bif iLt a b then b else a)))
    | false => none
  | _, _ => none
def zmf (mn : Bool) (x y : AV) : Option XR := match xMM mn x y with | some v => xp v | none => none
theorem zqz {mn : Bool} {x y : AV} : XOk (zmf mn x y) (zcq mn x y) := by
  unfold zmf xMM zcq
  split
  · rename_i h
    split at h
    · split at h
      · rename_i hk
        cases h
        refine XOk.pure.mono fun kt hk' => ⟨by simpa using hk, ?_⟩
        simp only [zabo] at hk'
        cases mn <;> simp only [cond_true, cond_false, Bool.cond_decide] at hk' ⊢ <;> exact hk'
      · cases h
    · cases h
  · exact XOk.none
def zafa (x y z : AV) : Option XR := match xMM false x y with | some v => zmf false v z | none => none
theorem zakf {x y z : AV} : XOk (zafa x y z) (MAX3 x y z) := by
  unfold zafa MAX3
  split
  · rename_i v h
    intro v' rd fr D e k hk
    refine zqz v [] [] [] (by unfold zmf; rw [h]) _ (zqz v' rd fr D e k hk)
  · exact XOk.none
def zxt (x : AV) (H : Heap) : Option XR := match x with
  | .str _ => none
  | x => match ze 1 H x with
    | some (_, news, rd) => match bytesOf? news with
      | some s => some (.str s, rd, [], [])
      | none => none
    | none => none
theorem zafj {x : AV} {H : Heap} : XOk (zxt x H) (zks x H) := by
  intro v rd fr D e k hk
  unfold zxt at e; unfold zks
  repeat' split at e
  all_goals (cases e <;> simp_all [PURE, NEW])
def zxs (x : AV) (nx : Nat) : Option XR := match x with
  | .str s => xn nx (.row 1 (s.map fun b => .int .u8 (b.toNat : Int))) (.slc nx 0 s.length)
  | _ => none
theorem zafi {x : AV} {nx : Nat} : XOk (zxs x nx) (zqq x nx) := by
  unfold zxs zqq; split <;> first | exact XOk.new | exact XOk.none
def zxv (esz bytes : Nat) (s x : AV) (H : Heap) (nx : Nat) : Option XR :=
  match ze esz H x with
  | some (m, news, rd) => xg (news.all AV.one) (match s with
    | .nils => match m with | 0 => some (.nils, rd, [], []) | m + 1 => xg (Nat.ble ((m + 1) * bytes) 140737488355328) (some (.slc nx 0 (m + 1), rd, [nx], [(nx, some (.row esz news))]))
    | .zs => match m with | 0 => some (.zs, rd, [], []) | m + 1 => xg (Nat.ble ((m + 1) * bytes) 140737488355328) (some (.slc nx 0 (m + 1), rd, [nx], [(nx, some (.row esz news))]))
    | .slc g off len => match H g with
      | some (.row sz cells) => xg (Nat.beq sz esz && Nat.ble (off + len * esz) cells.length && Nat.ble ((len + m) * bytes) 140737488355328)
          (some (.slc nx 0 (len + m), g :: rd, [nx], [(g, none), (nx, some (.row esz ((cells.drop off).take (len * esz) ++ news)))]))
      | _ => none
    | _ => none)
  | none => none
theorem zlq {esz bytes : Nat} {s x : AV} {H : Heap} {nx : Nat} : XOk (zxv esz bytes s x H nx) (zx esz bytes s x H nx) := by
  unfold zxv zx
  cases hs : ze esz H x with
  | none => exact XOk.none
  | some p =>
    obtain ⟨m, news, rd⟩ := p
    refine XOk.gd fun h0 => ?_
    cases s
    case nils =>
      cases m with
      | zero => exact XOk.some fun kt hk => ⟨h0, fun _ => hk, fun h => absurd rfl h⟩
      | succ m => exact XOk.gd fun h => XOk.some fun kt hk => ⟨h0, fun h => by omega, fun _ => ⟨by simpa using h, hk⟩⟩
    case zs =>
      cases m with
      | zero => exact XOk.some fun kt hk => ⟨h0, fun _ => hk, fun h => absurd rfl h⟩
      | succ m => exact XOk.gd fun h => XOk.some fun kt hk => ⟨h0, fun h => by omega, fun _ => ⟨by simpa using h, hk⟩⟩
    case slc g off len =>
      cases hg : H g with
      | none => simp only [hg]; exact XOk.none
      | some ob =>
        cases ob with
        | row sz cells =>
          simp only [hg]
          refine XOk.gd fun h => XOk.some fun kt hk => ?_
          simp only [Bool.and_eq_true, Nat.beq_eq, Nat.ble_eq] at h
          exact ⟨h0, h.1.1, h.1.2, Nat.le_add_right_of_le h.2, hk⟩
        | mp es => simp only [hg]; exact XOk.none
        | it a b c => simp only [hg]; exact XOk.none
    all_goals exact XOk.none
def zafb (esz bytes : Nat) (zero : List AV) (l c : AV) (nx : Nat) : Option XR := match l, c with
  | .int _ n, .int _ m => match n with
    | .ofNat a => xg (iEq m n && Nat.ble a 140737488355328 && Nat.ble (a * bytes) 140737488355328) (xn nx (.row esz ((List.replicate a zero).flatten)) (.slc nx 0 a))
    | .negSucc _ => none
  | _, _ => none
theorem zvo {esz bytes : Nat} {zero : List AV} {l c : AV} {nx : Nat} : XOk (zafb esz bytes zero l c nx) (MAKE esz bytes zero l c nx) := by
  unfold zafb MAKE
  split
  · split
    · refine XOk.gd fun h => XOk.new.mono fun kt hk => ?_
      simp only [zxb, Bool.and_eq_true, beq_iff_eq, Nat.ble_eq] at h
      exact ⟨h.1.1, by simp, by rw [Int.ofNat_eq_natCast]; omega, by simpa using h.2, by simpa using hk⟩
    · exact XOk.none
  · exact XOk.none
def zafh (esz : Nat) (d x : AV) (H : Heap) : Option XR :=
  match ze esz H x with
  | some (m, news, rd) => match d with
    | .nils | .zs => some (.int .i64 0, rd, [], [])
    | .slc g off len => match H g with
      | some (.row sz cells) => xg (Nat.beq sz esz && Nat.ble (off + len * esz) cells.length && news.all AV.one)
          (some (.int .i64 (min m len : Nat), g :: rd, [], [(g, some (.row sz (zak cells off (news.take (min m len * esz)))))]))
      | _ => none
    | _ => none
  | none => none
theorem zvq {esz : Nat} {d x : AV} {H : Heap} : XOk (zafh esz d x H) (COPY esz d x H) := by
  unfold zafh COPY
  cases hs : ze esz H x with
  | none => exact XOk.none
  | some p =>
    obtain ⟨m, news, rd⟩ := p
    cases d
    case nils => exact XOk.some fun _ h => h
    case zs => exact XOk.some fun _ h => h
    case slc g off len =>
      cases hg : H g with
      | none => simp only [hg]; exact XOk.none
      | some ob =>
        cases ob with
        | row sz cells =>
          simp only [hg]
          refine XOk.gd fun h => XOk.some fun kt hk => ?_
          simp only [Bool.and_eq_true, Nat.beq_eq, Nat.ble_eq] at h
          exact ⟨h.1.1, h.1.2, h.2, hk⟩
        | mp es => simp only [hg]; exact XOk.none
        | it a b c => simp only [hg]; exact XOk.none
    all_goals exact XOk.none
def zafc (zero : List AV) (agg : Bool) (m key : AV) (ok : Bool) (H : Heap) : Option XR :=
  match m with
  | .nilm => xp (bif ok then .tup [(bif agg then .agg zero else zero.getD 0 .junk), .bool false] else (bif agg then .agg zero else zero.getD 0 .junk))
  | .amap g => match H g with
    | some (.mp es) => match zai key es with
      | some (some (_, v)) => some (bif ok then .tup [v, .bool true] else v, [g], [], [])
      | some none => some (bif ok then .tup [(bif agg then .agg zero else zero.getD 0 .junk), .bool false] else (bif agg then .agg zero else zero.getD 0 .junk), [g], [], [])
      | none => none
    | _ => none
  | _ => none
theorem zvp {zero : List AV} {agg ok : Bool} {m key : AV} {H : Heap} : XOk (zafc zero agg m key ok H) (LOOK zero agg m key ok H) := by
  intro v rd fr D e k hk
  unfold zafc at e; unfold LOOK
  repeat' split at e
  all_goals (cases e <;> simp_all [PURE, NEW])
def zaez (m key v : AV) (H : Heap) : Option XR := match m with
  | .amap g => match H g with
    | some (.mp es) => match zai key es with
      | some (some (i, _)) => some (.und, [g], [], [(g, some (.mp (es.set i (key, v))))])
      | some none => some (.und, [g], [], [(g, some (.mp (es ++ [(key, v)])))])
      | none => none
    | _ => none
  | _ => none
theorem zvn {m key v : AV} {H : Heap} : XOk (zaez m key v H) (MUPD m key v H) := by
  intro v rd fr D e k hk
  unfold zaez at e; unfold MUPD
  repeat' split at e
  all_goals (cases e <;> simp_all [PURE, NEW])
section
variable (T : Nat → Option AT) (eqs : Nat → Bool)
def xaop (e : Operand → AV) (H : Heap) (nx : Nat) (o : Oper) : Option XR :=
  match o.op with
  | .move x | .assign x => xp (e x)
  | .pick c a b => zaex (e c) (e a) (e b)
  | .alloc t => match T t with | some a => xn nx (.row (zaae T a) a.zero) (.ptr nx 0) | none => none
  | .box _ v => match e v with | v => xg v.sure (xn nx (.row v.cells.length v.cells) (.ptr nx 0))
  | .build t ps => match T t with
    | some ⟨.struct fs, _, _, zero⟩ => xg (fs.all fun p => zb T p.1 != 0) (zwk (zz T fs) zero (ps.toList.map fun p => (p.1, e p.2)))
    | some ⟨.array _ el, _, _, zero⟩ => xg (zb T el != 0) (zwk (fun i => some (i * zb T el, zb T el)) zero (ps.toList.map fun p => (p.1, e p.2)))
    | _ => none
  | .buildSlice t len ps => match T t with
    | some ⟨.slice el, _, _, _⟩ => match T el with
      | some a => xg (Nat.ble (len * a.size) 16777216 && Nat.blt 0 a.size) (zxu len a.size a.zero (ps.toList.map fun p => (p.1, e p.2)) (zv eqs t len nx) nx)
      | none => none
    | _ => none
  | .load t p => match T t with | some a => zul a.kind.isAgg a.size (e p) H | none => none
  | .store t p v => match T t with | some a => zaap a.size (e p) (e v) H | none => none
  | .nilCheck x => zaey (e x)
  | .binOp op t x y _ => match T t with
    | some ⟨.int _, _, _, _⟩ => zafn op (e x) (e y)
    | some ⟨.str, _, _, _⟩ => zafk op (e x) (e y)
    | some ⟨.bool, _, _, _⟩ => zafp op (e x) (e y)
    | some ⟨.struct _, _, _, zs⟩ => xg (eqs t) (zaad zs op (e x) (e y))
    | some ⟨.array _ _, _, _, zs⟩ => xg (eqs t) (zaad zs op (e x) (e y))
    | some ⟨.ptr _, _, _, _⟩ => zafl op (e x) (e y)
    | some ⟨.slice _, _, _, _⟩ => zafm op (e x) (e y)
    | some ⟨.iface, _, _, _⟩ => match y with | .const _ => zafo op (e x) (e y) | _ => none
    | _ => none
  | .unOp op _ x => xUN op (e x)
  | .convert s d x => match T s, T d with
    | some ⟨.int _, _, _, _⟩, some ⟨.int kd, _, _, _⟩ => zaav kd (e x)
    | some ⟨.slice el, _, _, _⟩, some ⟨.str, _, _, _⟩ => match T el with
      | some ⟨.int .u8, _, _, _⟩ => zxt (e x) H
      | _ => none
    | some ⟨.str, _, _, _⟩, some ⟨.slice el, _, _, _⟩ => match T el with
      | some ⟨.int .u8, _, _, _⟩ => zxs (e x) nx
      | _ => none
    | _, _ => none
  | .makeFunc fn first cap => match fn, first.toList with
    | .func f, [] => xp (.clo f (cap.toList.map e))
    | _, _ => none
  | .makeMap _ r => match r with
    | none => xn nx (.mp []) (.amap nx)
    | some _ => none
  | .makeSlice t l c => match T t with
    | some ⟨.slice el, _, _, _⟩ => match T el with | some a => xg (Nat.blt 0 a.size) (zafb a.size a.bytes a.zero (e l) (e c) nx) | none => none
    | _ => none
  | .slice t x lo hi mx => match mx with
    | none => match T t with
      | some ⟨.slice el, _, _, _⟩ => xg (zb T el != 0) (zaaq (zb T el) (e x) (lo.map e) (hi.map e) H)
      | some ⟨.str, _, _, _⟩ => zxp (e x) (lo.map e) (hi.map e)
      | some ⟨.ptr ar, _, _, _⟩ => match T ar with
        | some ⟨.array n el, _, _, _⟩ => xg (zb T el != 0) (zxq (zb T el) n (e x) (lo.map e) (hi.map e) H)
        | _ => none
      | _ => none
    | some mx => match lo, hi with
      | some lo, some hi => match T t with
        | some ⟨.slice el, _, _, _⟩ => xg (zb T el != 0) (zxr (e x) (e lo) (e hi) (e mx))
        | _ => none
      | _, _ => none
  | .fieldAddr t x f => match T t with
    | some ⟨.struct fs, _, _, _⟩ => match zz T fs f with | some (off, sz) => xg (sz != 0) (zaau off (e x)) | none => none
    | _ => none
  | .field t x f => match T t with
    | some ⟨.struct fs, _, _, _⟩ => match fs[f]? with
      | some (ft, off) => match T ft with | some a => zwj a.kind.isAgg a.size off (e x) | none => none
      | none => none
    | _ => none
  | .indexAddr t x i => match T t with
    | some ⟨.slice el, _, _, _⟩ => xg (zb T el != 0) (zaat (zb T el) (e x) (e i))
    | some ⟨.array n el, _, _, _⟩ => xg (zb T el != 0) (zaht (zb T el) n (e x) (e i))
    | _ => none
  | .index t x i => match T t with
    | some ⟨.str, _, _, _⟩ => zaar (e x) (e i)
    | some ⟨.array n el, _, _, _⟩ => match T el with | some a => zaeb a.kind.isAgg a.size n (e x) (e i) | none => none
    | _ => none
  | .lookup t m key ok => match T t with
    | some ⟨.map kt el, _, _, _⟩ => match T el, T kt with | some a, some ka => xg (zw ka.kind (e key)) (zafc a.zero a.kind.isAgg (e m) (e key) ok H) | _, _ => none
    | _ => none
  | .mapUpdate t m key v | .insert t m key v => match T t with
    | some ⟨.map kt _, _, _, _⟩ => match T kt with | some ka => xg (zw ka.kind (e key)) (zaez (e m) (e key) (e v) H) | none => none
    | _ => none
  | .extract x i => zafg (e x) i
  | .call c => match c.callee, c.args.toList, c.argTypes.toList with
    | .builtin .len, [x], [t] => match T t with
      | some ⟨.str, _, _, _⟩ => zafd (e x)
      | some ⟨.slice _, _, _, _⟩ => zaff (e x)
      | some ⟨.map _ _, _, _, _⟩ => zafe (e x) H
      | _ => none
    | .builtin .min, [x, y], [_, _] => zmf true (e x) (e y)
    | .builtin .max, [x, y], [_, _] => zmf false (e x) (e y)
    | .builtin .max, [x, y, z], [_, _, _] => zafa (e x) (e y) (e z)
    | .builtin .append, [s, x], [t, t2] => match T t with
      | some ⟨.slice el, _, _, _⟩ => match T el with | some a => xg (Nat.blt 0 a.size && Nat.blt 0 a.bytes && (zki T t2 || zog T t2)) (zxv a.size a.bytes (e s) (srcV T t2 a.zero (e x)) H nx) | none => none
      | _ => none
    | .builtin .copy, [d, x], [t, _] => match T t with
      | some ⟨.slice el, _, _, _⟩ => match T el with | some a => xg (Nat.blt 0 a.size) (zafh a.size (e d) (e x) H) | none => none
      | _ => none
    | _, _, _ => none
  | _ => none
theorem zaea {e : Operand → AV} {H : Heap} {nx : Nat} {o : Oper} : XOk (xaop T eqs e H nx o) (aop T eqs e H nx o) := by
  intro v rd fr D h k hk
  cases hop : o.op <;> simp only [xaop, hop] at h <;> simp only [aop, hop]
  all_goals (repeat' split at h)
  all_goals first
    | (cases h; done)
    | (simp only [zme, Bool.and_eq_true, Nat.blt_eq, Nat.ble_eq, bne_iff_ne] at h; simp only [*])
    | simp only [*]
    | skip
  all_goals first
    | with_reducible exact hk
    | (cases h; exact hk)
    | with_reducible exact zakd _ _ _ _ h _ hk
    | with_reducible exact zakg _ _ _ _ h _ hk
    | with_reducible exact zahq _ _ _ _ h _ hk
    | with_reducible exact zake _ _ _ _ h _ hk
    | with_reducible exact zako _ _ _ _ h _ hk
    | with_reducible exact zakl _ _ _ _ h _ hk
    | with_reducible exact zakq _ _ _ _ h _ hk
    | with_reducible exact zakm _ _ _ _ h _ hk
    | with_reducible exact zakn _ _ _ _ h _ hk
    | with_reducible exact zakp _ _ _ _ h _ hk
    | with_reducible exact zaoy _ _ _ _ h _ hk
    | with_reducible exact zahs _ _ _ _ h _ hk
    | with_reducible exact zafj _ _ _ _ h _ hk
    | with_reducible exact zafi _ _ _ _ h _ hk
    | with_reducible exact zaev _ _ _ _ h _ hk
    | with_reducible exact zyi _ _ _ _ h _ hk
    | with_reducible exact zahr _ _ _ _ h _ hk
    | with_reducible exact zafq _ _ _ _ h _ hk
    | with_reducible exact zakk _ _ _ _ h _ hk
    | with_reducible exact zakh _ _ _ _ h _ hk
    | with_reducible exact zakj _ _ _ _ h _ hk
    | with_reducible exact zaki _ _ _ _ h _ hk
    | with_reducible exact zqz _ _ _ _ h _ hk
    | with_reducible exact zakf _ _ _ _ h _ hk
    | (obtain ⟨hb, h⟩ := h; try simp only [true_and]
       first
        | (cases h; exact hk)
        | with_reducible exact zsw _ _ _ _ h _ hk
        | with_reducible exact ⟨hb, zsw _ _ _ _ h _ hk⟩
        | with_reducible exact ⟨hb.1, hb.2, zsw _ _ _ _ h _ hk⟩
        | with_reducible exact zvr _ _ _ _ h _ hk
        | with_reducible exact ⟨hb, zvr _ _ _ _ h _ hk⟩
        | with_reducible exact ⟨hb.1, hb.2, zvr _ _ _ _ h _ hk⟩
        | with_reducible exact zst _ _ _ _ h _ hk
        | with_reducible exact ⟨hb, zst _ _ _ _ h _ hk⟩
        | with_reducible exact ⟨hb.1, hb.2, zst _ _ _ _ h _ hk⟩
        | with_reducible exact zqx _ _ _ _ h _ hk
        | with_reducible exact ⟨hb, zqx _ _ _ _ h _ hk⟩
        | with_reducible exact ⟨hb.1, hb.2, zqx _ _ _ _ h _ hk⟩
        | with_reducible exact zqy _ _ _ _ h _ hk
        | with_reducible exact ⟨hb, zqy _ _ _ _ h _ hk⟩
        | with_reducible exact ⟨hb.1, hb.2, zqy _ _ _ _ h _ hk⟩
        | with_reducible exact zsv _ _ _ _ h _ hk
        | with_reducible exact ⟨hb, zsv _ _ _ _ h _ hk⟩
        | with_reducible exact ⟨hb.1, hb.2, zsv _ _ _ _ h _ hk⟩
        | with_reducible exact zsu _ _ _ _ h _ hk
        | with_reducible exact ⟨hb, zsu _ _ _ _ h _ hk⟩
        | with_reducible exact ⟨hb.1, hb.2, zsu _ _ _ _ h _ hk⟩
        | with_reducible exact zsx _ _ _ _ h _ hk
        | with_reducible exact ⟨hb, zsx _ _ _ _ h _ hk⟩
        | with_reducible exact ⟨hb.1, hb.2, zsx _ _ _ _ h _ hk⟩
        | with_reducible exact zvo _ _ _ _ h _ hk
        | with_reducible exact ⟨hb, zvo _ _ _ _ h _ hk⟩
        | with_reducible exact ⟨hb.1, hb.2, zvo _ _ _ _ h _ hk⟩
        | with_reducible exact zvq _ _ _ _ h _ hk
        | with_reducible exact ⟨hb, zvq _ _ _ _ h _ hk⟩
        | with_reducible exact ⟨hb.1, hb.2, zvq _ _ _ _ h _ hk⟩
        | with_reducible exact zvp _ _ _ _ h _ hk
        | with_reducible exact ⟨hb, zvp _ _ _ _ h _ hk⟩
        | with_reducible exact ⟨hb.1, hb.2, zvp _ _ _ _ h _ hk⟩
        | with_reducible exact zvn _ _ _ _ h _ hk
        | with_reducible exact ⟨hb, zvn _ _ _ _ h _ hk⟩
        | with_reducible exact ⟨hb.1, hb.2, zvn _ _ _ _ h _ hk⟩
        | with_reducible exact zra _ _ _ _ h _ hk
        | with_reducible exact ⟨hb, zra _ _ _ _ h _ hk⟩
        | with_reducible exact ⟨hb.1, hb.2, zra _ _ _ _ h _ hk⟩
        | with_reducible exact zlq _ _ _ _ h _ hk
        | with_reducible exact ⟨hb, zlq _ _ _ _ h _ hk⟩
        | with_reducible exact ⟨hb.1, hb.2, zlq _ _ _ _ h _ hk⟩
        | exact ⟨hb.1.1, hb.1.2, hb.2, zlq _ _ _ _ h _ hk⟩)
    | skip
end
end Go.Proofs.YtpbnaaoilgohkaaGreatDoor
set_option maxRecDepth 8000
namespace Go.Proofs.YtpbnaaoilgohkaaGreatDoor
open Go Go.RowKit
/-! Trees by number. -/
inductive Tr (α : Type) where
  | nil
  | node (v : Option α) (l r : Tr α)
noncomputable def Tr.get {α : Type} (t : Tr α) : Nat → Option α :=
  Tr.rec (motive := fun _ => Nat → Option α) (fun _ => none) (fun v _ _ gl gr k => match k with
    | 0 => v
    | k + 1 => bif Nat.beq (Nat.mod k 2) 0 then gl (Nat.div k 2) else gr (Nat.div k 2)) t
def Tr.setK {α β : Type} : Nat → Tr α → Nat → Option α → (Tr α → β) → β
  | 0, t, _, _, c => c t
  | f + 1, t, k, v, c => match k with
    | 0 => match t with
      | .nil => c (.node v .nil .nil)
      | .node _ l r => c (.node v l r)
    | k + 1 => match t with
      | .nil => bif Nat.beq (Nat.mod k 2) 0 then Tr.setK f .nil (Nat.div k 2) v fun l => c (.node none l .nil) else Tr.setK f .nil (Nat.div k 2) v fun r => c (.node none .nil r)
      | .node w l r => bif Nat.beq (Nat.mod k 2) 0 then Tr.setK f l (Nat.div k 2) v fun l => c (.node w l r) else Tr.setK f r (Nat.div k 2) v fun r => c (.node w l r)
def Tr.set {α : Type} (t : Tr α) (k : Nat) (v : Option α) : Tr α := Tr.setK (k + 1) t k v id
theorem Tr.setK_eq {α β : Type} : ∀ (f : Nat) (t : Tr α) (k : Nat) (v : Option α) (c : Tr α → β), Tr.setK f t k v c = c (Tr.setK f t k v id)
  | 0, t, k, v, c => rfl
  | f + 1, t, 0, v, c => by cases t <;> rfl
  | f + 1, t, k + 1, v, c => by
    cases t with
    | nil =>
      simp only [Tr.setK]
      cases Nat.beq (Nat.mod k 2) 0 with
      | true => exact (Tr.setK_eq f _ _ _ _).trans (congrArg c (Tr.setK_eq f _ _ _ (fun l => Tr.node none l .nil)).symm)
      | false => exact (Tr.setK_eq f _ _ _ _).trans (congrArg c (Tr.setK_eq f _ _ _ (fun r => Tr.node none .nil r)).symm)
    | node w l r =>
      simp only [Tr.setK]
      cases Nat.beq (Nat.mod k 2) 0 with
      | true => exact (Tr.setK_eq f _ _ _ _).trans (congrArg c (Tr.setK_eq f _ _ _ (fun l => Tr.node w l r)).symm)
      | false => exact (Tr.setK_eq f _ _ _ _).trans (congrArg c (Tr.setK_eq f _ _ _ (fun r => Tr.node w l r)).symm)
theorem Tr.get_nil {α : Type} (j : Nat) : (Tr.nil : Tr α).get j = none := rfl
theorem Tr.get_set {α : Type} : ∀ (f : Nat) (t : Tr α) (k : Nat) (v : Option α) (j : Nat), k < f → (Tr.setK f t k v id).get j = if j = k then v else t.get j
  | 0, t, k, v, j, h => by omega
  | f + 1, t, 0, v, j, _ => by
    cases t <;> cases j <;> simp [Tr.setK, Tr.get]
  | f + 1, t, k + 1, v, j, h => by
    have hk : Nat.div k 2 < f := by have : Nat.div k 2 = k / 2 := rfl; omega
    have e2 : ∀ a : Nat, Nat.div a 2 = a / 2 := fun _ => rfl
    have m2 : ∀ a : Nat, Nat.mod a 2 = a % 2 := fun _ => rfl
    cases t with
    | nil =>
      simp only [Tr.setK]
      cases hb : Nat.beq (Nat.mod k 2) 0 with
      | true =>
        simp only [cond_true]
        rw [Tr.setK_eq]
        cases j with
        | zero => simp [Tr.get]
        | succ j =>
          show (bif Nat.beq (Nat.mod j 2) 0 then (Tr.setK f .nil (Nat.div k 2) v id).get (Nat.div j 2) else (Tr.nil : Tr α).get (Nat.div j 2)) = _
          rw [Nat.beq_eq, m2] at hb
          cases hj : Nat.beq (Nat.mod j 2) 0 with
          | true =>
            rw [Nat.beq_eq, m2] at hj
            simp only [cond_true]
            rw [Tr.get_set f _ _ _ _ hk, e2, e2]
            by_cases he : j = k
            · simp [he]
            · rw [if_neg (by omega), if_neg (by omega)]; rfl
          | false =>
            rw [← Bool.not_eq_true, Nat.beq_eq, m2] at hj
            simp only [cond_false]
            rw [if_neg (by omega)]; rfl
      | false =>
        simp only [cond_false]
        rw [Tr.setK_eq]
        cases j with
        | zero => simp [Tr.get]
        | succ j =>
          show (bif Nat.beq (Nat.mod j 2) 0 then (Tr.nil : Tr α).get (Nat.div j 2) else (Tr.setK f .nil (Nat.div k 2) v id).get (Nat.div j 2)) = _
          rw [← Bool.not_eq_true, Nat.beq_eq, m2] at hb
          cases hj : Nat.beq (Nat.mod j 2) 0 with
          | true =>
            rw [Nat.beq_eq, m2] at hj
            simp only [cond_true]
            rw [if_neg (by omega)]; rfl
          | false =>
            rw [← Bool.not_eq_true, Nat.beq_eq, m2] at hj
            simp only [cond_false]
            rw [Tr.get_set f _ _ _ _ hk, e2, e2]
            by_cases he : j = k
            · simp [he]
            · rw [if_neg (by omega), if_neg (by omega)]; rfl
    | node w l r =>
      simp only [Tr.setK]
      cases hb : Nat.beq (Nat.mod k 2) 0 with
      | true =>
        simp only [cond_true]
        rw [Tr.setK_eq]
        cases j with
        | zero => simp [Tr.get]
        | succ j =>
          show (bif Nat.beq (Nat.mod j 2) 0 then (Tr.setK f l (Nat.div k 2) v id).get (Nat.div j 2) else r.get (Nat.div j 2)) = if _ then _ else (bif Nat.beq (Nat.mod j 2) 0 then l.get (Nat.div j 2) else r.get (Nat.div j 2))
          rw [Nat.beq_eq, m2] at hb
          cases hj : Nat.beq (Nat.mod j 2) 0 with
          | true =>
            rw [Nat.beq_eq, m2] at hj
            simp only [cond_true]
            rw [Tr.get_set f _ _ _ _ hk, e2, e2]
            by_cases he : j = k
            · simp [he]
            · rw [if_neg (by omega), if_neg (by omega)]
          | false =>
            rw [← Bool.not_eq_true, Nat.beq_eq, m2] at hj
            simp only [cond_false]
            rw [if_neg (by omega)]
      | false =>
        simp only [cond_false]
        rw [Tr.setK_eq]
        cases j with
        | zero => simp [Tr.get]
        | succ j =>
          show (bif Nat.beq (Nat.mod j 2) 0 then l.get (Nat.div j 2) else (Tr.setK f r (Nat.div k 2) v id).get (Nat.div j 2)) = if _ then _ else (bif Nat.beq (Nat.mod j 2) 0 then l.get (Nat.div j 2) else r.get (Nat.div j 2))
          rw [← Bool.not_eq_true, Nat.beq_eq, m2] at hb
          cases hj : Nat.beq (Nat.mod j 2) 0 with
          | true =>
            rw [Nat.beq_eq, m2] at hj
            simp only [cond_true]
            rw [if_neg (by omega)]
          | false =>
            rw [← Bool.not_eq_true, Nat.beq_eq, m2] at hj
            simp only [cond_false]
            rw [Tr.get_set f _ _ _ _ hk, e2, e2]
            by_cases he : j = k
            · simp [he]
            · rw [if_neg (by omega), if_neg (by omega)]
/-! Values, looked at before they are laid. -/
section
variable {β : Type}
def fN (n : Nat) (c : Nat → β) : β := match n with
  | 0 => c 0
  | m + 1 => c (Nat.succ m)
theorem zaag (n : Nat) (c : Nat → β) : fN n c = c n := by cases n <;> rfl
def fI (n : Int) (c : Int → β) : β := match n with
  | .ofNat a => fN a fun a => c (.ofNat a)
  | .negSucc a => fN a fun a => c (.negSucc a)
theorem zaqv (n : Int) (c : Int → β) : fI n c = c n := by cases n <;> simp [fI, zaag]
def fL {α : Type} : List α → (List α → β) → β
  | [], c => c []
  | x :: r, c => fL r fun r => c (x :: r)
theorem zags {α : Type} : ∀ (l : List α) (c : List α → β), fL l c = c l
  | [], c => rfl
  | x :: r, c => by simp only [fL]; rw [zags r]
def fV0 (v : AV) (c : AV → β) : β := match v with
  | .int k n => fI n fun n => c (.int k n)
  | .bool b => match b with | true => c (.bool true) | false => c (.bool false)
  | .str s => fL s fun s => c (.str s)
  | .ptr g o => fN g fun g => fN o fun o => c (.ptr g o)
  | .slc g o n => fN g fun g => fN o fun o => fN n fun n => c (.slc g o n)
  | .amap g => fN g fun g => c (.amap g)
  | .ro xs => fL xs fun xs => c (.ro xs)
  | .rop cs o => fL cs fun cs => fN o fun o => c (.rop cs o)
  | .clo f xs => fL xs fun xs => c (.clo f xs)
  | .junk => c .junk | .und => c .und | .bany => c .bany | .nilp => c .nilp | .nils => c .nils | .nilf => c .nilf | .nilm => c .nilm | .zs => c .zs | .inil => c .inil | .ifc => c .ifc
  | .agg xs => c (.agg xs)
  | .tup xs => c (.tup xs)
theorem zxh (v : AV) (c : AV → β) : fV0 v c = c v := by
  cases v <;> simp only [fV0, zaqv, zags, zaag]
  rename_i b; cases b <;> rfl
def fCs : List AV → (List AV → β) → β
  | [], c => c []
  | x :: r, c => fV0 x fun x => fCs r fun r => c (x :: r)
theorem zabv : ∀ (l : List AV) (c : List AV → β), fCs l c = c l
  | [], c => rfl
  | x :: r, c => by simp only [fCs, zxh]; rw [zabv r]
def fV (v : AV) (c : AV → β) : β := match v with
  | .agg xs => fCs xs fun xs => c (.agg xs)
  | .tup xs => fCs xs fun xs => c (.tup xs)
  | v => fV0 v c
theorem zxg (v : AV) (c : AV → β) : fV v c = c v := by
  cases v <;> simp only [fV, zxh, zabv]
def fO (o : AObj) (c : AObj → β) : β := match o with
  | .row s cs => fCs cs fun cs => c (.row s cs)
  | .mp es => fL es fun es => c (.mp es)
  | .it g n l => fL l fun l => c (.it g n l)
theorem zano (o : AObj) (c : AObj → β) : fO o c = c o := by cases o <;> simp only [fO, zabv, zags]
end
abbrev EB := Tr AV
abbrev HB := Tr AObj
noncomputable def toE (E : EB) : Env := fun k => match E.get k with | some v => v | none => .junk
noncomputable def toH (H : HB) : Heap := fun g => H.get g
section
variable {β : Type}
def putE (E : EB) (d : Option Nat) (v : AV) (c : EB → β) : β := match d with
  | none => c E
  | some t => Tr.setK (t + 1) E t (some v) c
def putD : zg → HB → (HB → β) → β
  | [], H, c => c H
  | (g, o) :: r, H, c => match o with
    | none => Tr.setK (g + 1) H g none fun H => putD r H c
    | some o => fO o fun o => Tr.setK (g + 1) H g (some o) fun H => putD r H c
end
def zun (E : EB) (d : Option Nat) (v : AV) : EB := putE E d v id
def ziz (D : zg) (H : HB) : HB := putD D H id
theorem zum {β : Type} (E : EB) (d : Option Nat) (v : AV) (c : EB → β) : putE E d v c = c (zun E d v) := by
  cases d with
  | none => rfl
  | some t => simp only [putE, zun]; rw [Tr.setK_eq]
theorem zuo {β : Type} : ∀ (D : zg) (H : HB) (c : HB → β), putD D H c = c (ziz D H)
  | [], H, c => rfl
  | (g, none) :: r, H, c => by
    simp only [putD, ziz]
    rw [Tr.setK_eq, Tr.setK_eq (c := fun H => putD r H id), zuo r]; rfl
  | (g, some o) :: r, H, c => by
    simp only [putD, ziz, zano]
    rw [Tr.setK_eq, Tr.setK_eq (c := fun H => putD r H id), zuo r]; rfl
theorem zfg (E : EB) (d : Option Nat) (v : AV) : toE (zun E d v) = (toE E).putO d v := by
  cases d with
  | none => rfl
  | some t =>
    funext u
    show (match (Tr.setK (t + 1) E t (some v) id).get u with | some v => v | none => .junk) = bif Nat.beq u t then v else toE E u
    rw [Tr.get_set _ _ _ _ _ (Nat.lt_succ_self _)]
    by_cases h : u = t
    · subst h; simp
    · have : Nat.beq u t = false := by rw [← Bool.not_eq_true, Nat.beq_eq]; exact h
      rw [if_neg h, this]; rfl
theorem zxy (H : HB) (g : Nat) (o : Option AObj) : toH (Tr.setK (g + 1) H g o id) = (toH H).put g o := by
  funext u
  show (Tr.setK (g + 1) H g o id).get u = bif Nat.beq u g then o else toH H u
  rw [Tr.get_set _ _ _ _ _ (Nat.lt_succ_self _)]
  by_cases h : u = g
  · subst h; simp
  · have : Nat.beq u g = false := by rw [← Bool.not_eq_true, Nat.beq_eq]; exact h
    rw [if_neg h, this]; rfl
theorem zpp : ∀ (D : zg) (H : HB), toH (ziz D H) = (toH H).apply D
  | [], H => rfl
  | (g, none) :: r, H => by
    simp only [ziz, putD]
    rw [Tr.setK_eq, show putD r _ id = ziz r _ from rfl, zpp r, zxy]; rfl
  | (g, some o) :: r, H => by
    simp only [ziz, putD, zano]
    rw [Tr.setK_eq, show putD r _ id = ziz r _ from rfl, zpp r, zxy]; rfl
/-! Are two values the same? -/
def all2 {α : Type} (p : α → α → Bool) : List α → List α → Bool
  | [], [] => true
  | x :: r, y :: s => p x y && all2 p r s
  | _, _ => false
theorem zif {α : Type} {p : α → α → Bool} (h : ∀ x y, p x y = true → x = y) : ∀ l m : List α, all2 p l m = true → l = m
  | [], [], _ => rfl
  | x :: r, y :: s, e => by
    simp only [all2, Bool.and_eq_true] at e
    rw [h x y e.1, zif h r s e.2]
  | [], _ :: _, e => by cases e
  | _ :: _, [], e => by cases e
def avEq : Nat → AV → AV → Bool
  | 0, _, _ => false
  | n + 1, x, y => match x, y with
    | .int k a, .int j b => decide (k = j) && iEq a b
    | .bool a, .bool b => a == b
    | .str a, .str b => sEq a b
    | .nilp, .nilp | .nils, .nils | .nilf, .nilf | .nilm, .nilm | .zs, .zs | .inil, .inil => true
    | .ptr g o, .ptr h q => Nat.beq g h && Nat.beq o q
    | .slc g o n, .slc h q m => Nat.beq g h && Nat.beq o q && Nat.beq n m
    | .amap g, .amap h => Nat.beq g h
    | .ro a, .ro b => all2 (all2 (avEq n)) a b
    | .rop a o, .rop b q => all2 (avEq n) a b && Nat.beq o q
    | .agg a, .agg b => all2 (avEq n) a b
    | .tup a, .tup b => all2 (avEq n) a b
    | .clo f a, .clo g b => Nat.beq f g && all2 (avEq n) a b
    | _, _ => false
theorem zqp : ∀ (n : Nat) (x y : AV), avEq n x y = true → x = y
  | 0, x, y, h => by simp [avEq] at h
  | n + 1, x, y, h => by
    have ih := zqp n
    unfold avEq at h
    split at h <;> try simp only [Bool.and_eq_true, Nat.beq_eq, zxb, zabb, beq_iff_eq, decide_eq_true_eq, reduceCtorEq] at h
    all_goals first
      | rfl
      | (cases h; done)
      | (obtain ⟨rfl, rfl⟩ := h; rfl)
      | (obtain ⟨⟨rfl, rfl⟩, rfl⟩ := h; rfl)
      | (subst h; rfl)
      | (rw [zif (zif ih) _ _ h])
      | (rw [zif ih _ _ h])
      | (rw [zif ih _ _ h.1, h.2])
      | (rw [zif ih _ _ h.2, h.1])
def obEq (x y : Option AObj) : Bool := match x, y with
  | some (.row s a), some (.row t b) => Nat.beq s t && all2 (avEq 40) a b
  | some (.mp a), some (.mp b) => all2 (fun p q => avEq 40 p.1 q.1 && avEq 40 p.2 q.2) a b
  | none, none => true
  | _, _ => false
theorem zaok {x y : Option AObj} (h : obEq x y = true) : x = y := by
  unfold obEq at h
  split at h
  · simp only [Bool.and_eq_true, Nat.beq_eq] at h
    rw [h.1, zif (zqp 40) _ _ h.2]
  · rw [zif (fun p q e => by simp only [Bool.and_eq_true] at e; exact Prod.ext (zqp 40 _ _ e.1) (zqp 40 _ _ e.2)) _ _ h]
  · rfl
  · cases h
end Go.Proofs.YtpbnaaoilgohkaaGreatDoor
set_option maxRecDepth 8000
namespace Go.Proofs.YtpbnaaoilgohkaaGreatDoor
open Go Go.RowKit
abbrev XCl := Nat → List AV → HB → Nat → Option (AV × HB × Nat)
noncomputable def isH (H : HB) (g : Nat) : Bool := match H.get g with | some _ => true | none => false
noncomputable def chkD (H : HB) (rd fr : List Nat) (D : zg) : Bool := rd.all (isH H) && D.all fun p => isH H p.1 || fr.any fun g => Nat.beq p.1 g
noncomputable def zmg (seen : List Nat) : Nat → List Nat
  | 0 => []
  | n + 1 => bif seen.any (fun j => Nat.beq j n) then zmg seen n else n :: zmg seen n
section
variable (T : Nat → Option AT) (eqs : Nat → Bool)
noncomputable def xpl (o : Oper) (e : Operand → AV) (H : HB) (nx : Nat) : Option XR := match o.op with
  | .range t x => xg (zaaf T t) (match e x with
    | .amap g => match H.get g with
      | some (.mp es) => some (.ptr nx 0, [g], [nx], [(nx, some (.it g es.length []))])
      | _ => none
    | _ => none)
  | .next x false => match e x with
    | .ptr y 0 => match H.get y with
      | some (.it g n seen) => match H.get g with
        | some (.mp es) => xg (Nat.beq es.length n) (match zmg seen n with
          | [] => some (.tup [.bool false], [y, g], [], [])
          | [i] => match es[i]? with
            | some e => some (.tup [.bool true, e.1, e.2], [y, g], [], [(y, some (.it g n (seen ++ [i])))])
            | none => none
          | _ => none)
        | _ => none
      | _ => none
    | _ => none
  | .entry x => match e x with
    | .ptr y 0 => match H.get y with
      | some (.it g n seen) => match H.get g with
        | some (.mp es) => xg (Nat.beq es.length n) (match seen.getLast? with
          | some i => match es[i]? with
            | some e => some (.tup [e.1, e.2], [y, g], [], [])
            | none => none
          | none => none)
        | _ => none
      | _ => none
    | _ => none
  | _ => xaop T eqs e (toH H) nx o
section
variable {β : Type} (call : XCl)
noncomputable def xcal (o : Oper) (e : Operand → AV) : Option (Nat × List AV) := match o.op with
  | .call c => match c.callee with
    | .value f => match e f with
      | .clo f cap => some (f, c.args.toList.map e ++ cap)
      | _ => none
    | _ => none
  | _ => none
noncomputable def zuk (o : Oper) (E : EB) (H : HB) (nx : Nat) (c : AV → HB → Nat → Option β) : Option β := match isCl o with
  | true => match xcal o (toE E).ev with
    | some (f, args) => match call f args H nx with
      | some (v, H, nx) => c v H nx
      | none => none
    | none => none
  | false => match xpl T eqs o (toE E).ev H nx with
    | some (v, rd, fr, D) => match chkD H rd fr D with
      | true => fV v fun v => putD D H fun H => fN (nx + fr.length) fun nx => c v H nx
      | false => none
    | none => none
noncomputable def xops (all : List Oper) : List Oper → zbe → EB → HB → Nat → (EB → HB → Nat → Option β) → Option β
  | [], _, E, H, nx, c => c E H nx
  | o :: r, kn, E, H, nx, c => match o.guard with
    | none => zuk T eqs call o E H nx fun v H nx => putE E o.dst v fun E => xops all r (zcr o.dst kn) E H nx c
    | some (j, want) => match gdst all j with
      | none => none
      | some t => match zrp t kn with
        | some none => putE E o.dst .und fun E => xops all r (zcz o.dst kn) E H nx c
        | some (some b) => match b == want with
          | true => zuk T eqs call o E H nx fun v H nx => putE E o.dst v fun E => xops all r (zcr o.dst kn) E H nx c
          | false => putE E o.dst .und fun E => xops all r (zcz o.dst kn) E H nx c
        | none => match toE E t with
          | .bool b => match b == want with
            | true => zuk T eqs call o E H nx fun v H nx => putE E o.dst v fun E => xops all r (zcr o.dst ((t, some b) :: kn)) E H nx c
            | false => putE E o.dst .und fun E => xops all r (zcz o.dst ((t, some b) :: kn)) E H nx c
          | _ => none
/-! Where the order is drawn. -/
def ztv : Nat → AV → List Nat → List Nat
  | 0, _, l => l
  | n + 1, v, l => match v with
    | .ptr g _ | .slc g _ _ | .amap g => bif l.any (Nat.beq g) then l else g :: l
    | .agg xs | .tup xs | .clo _ xs => xs.foldl (fun l v => ztv n v l) l
    | _ => l
noncomputable def zpr (H : HB) : Nat → List Nat → List Nat → List Nat
  | 0, _, done => done
  | _ + 1, [], done => done
  | f + 1, g :: todo, done => bif done.any (Nat.beq g) then zpr H f todo done else match H.get g with
    | some (.row _ cs) => zpr H f (cs.foldl (fun l v => ztv 3 v l) todo) (g :: done)
    | some (.mp es) => zpr H f (es.foldl (fun l v => ztv 3 v.2 l) todo) (g :: done)
    | _ => zpr H f todo done
noncomputable def zcg (H : HB) : List Nat → HB
  | [] => .nil
  | g :: r => match H.get g with
    | some o => Tr.setK (g + 1) (zcg H r) g (some o) id
    | none => zcg H r
noncomputable def zfp (H H' : HB) : List Nat → zg
  | [] => []
  | g :: r => match H'.get g with
    | o => match obEq (H.get g) o with
      | true => zfp H H' r
      | false => (g, o) :: zfp H H' r
def zds (nx : Nat) : Nat → List Nat
  | 0 => []
  | n + 1 => nx :: zds (nx + 1) n
noncomputable def zaao (f : Nat) (args : List AV) (H : HB) (nx : Nat) : Option XR :=
  match zpr H 1000 (args.foldl (fun l v => ztv 3 v l) []) [] with
  | rs => match zcg H rs with
    | H0 => match call f args H0 nx with
      | some (v, H1, nx1) => match zds nx (nx1 - nx) with
        | fr => some (v, rs, fr, zfp H0 H1 rs ++ fr.map fun g => (g, H1.get g))
      | none => none
noncomputable def zwh (o : Oper) (E : EB) (H : HB) (nx : Nat) : Option XR := match isCl o with
  | true => match xcal o (toE E).ev with
    | some (f, args) => zaao call f args H nx
    | none => none
  | false => xaop T eqs (toE E).ev (toH H) nx o
noncomputable def zqw (all : List Oper) : List Oper → zbe → EB → HB → Nat → List Rec → (EB → HB → Nat → List Rec → Option β) → Option β
  | [], _, E, H, nx, log, c => c E H nx log
  | o :: r, kn, E, H, nx, log, c =>
    let run : zbe → Option β := fun kn => match zwh T eqs call o E H nx with
      | some (v, rd, fr, D) => match chkD H rd fr D with
        | true => fV v fun v => putD D H fun H' => fN (nx + fr.length) fun nx' => putE E o.dst v fun E' => zqw all r (zcr o.dst kn) E' H' nx' (log ++ [⟨v, rd, fr, D, false, fun _ => .junk, fun _ => none, ptOf T (toE E).ev o, isCl o⟩]) c
        | false => none
      | none => none
    let skip : zbe → Option β := fun kn => putE E o.dst .und fun E' => zqw all r (zcz o.dst kn) E' H nx (log ++ [⟨.und, [], [], [], true, fun _ => .junk, fun _ => none, none, false⟩]) c
    match o.guard with
    | none => run kn
    | some (j, want) => match gdst all j with
      | none => none
      | some t => match zrp t kn with
        | some none => skip kn
        | some (some b) => match b == want with
          | true => run kn
          | false => skip kn
        | none => match toE E t with
          | .bool b => match b == want with
            | true => run ((t, some b) :: kn)
            | false => skip ((t, some b) :: kn)
          | _ => none
def zaah (l m : List Nat) : Bool := l.all fun g => !m.any (Nat.beq g)
def zarc (g q : Nat) (v : AV) (D : zg) : Bool := D.all fun p => !Nat.beq p.1 g || match p.2 with
  | some (.row _ cs) => match cs[q]? with | some u => avEq 40 u v | none => false
  | _ => false
def zani (a b : Rec) : Bool := match b.cl, a.pt with
  | true, some (.ptr g q) => zarc g q a.v b.D
  | _, _ => zaah (domD b.D) a.rd
def zage (L : List Rec) (p : Nat × Nat) : Bool := match L[p.1]?, L[p.2]? with
  | some a, some b => zaah (domD a.D) b.rd && zaah (domD a.D) (domD b.D) && zani a b
  | _, _ => false
/-! The text. -/
inductive XO where
  | nrm | exi (i : Nat) | ret
noncomputable def zwg (body : EB → HB → Nat → Option (XO × EB × HB × Nat)) : Nat → EB → HB → Nat → Option (XO × EB × HB × Nat)
  | 0, _, _, _ => none
  | n + 1, E, H, nx => match body E H nx with
    | some (x, E, H, nx) => match x with
      | .nrm => zwg body n E H nx
      | .exi i => some (.exi i, E, H, nx)
      | .ret => some (.ret, E, H, nx)
    | none => none
noncomputable def zcj : Code → EB → HB → Nat → Option (XO × EB × HB × Nat)
  | .skip, E, H, nx => some (.nrm, E, H, nx)
  | .label _, E, H, nx => some (.nrm, E, H, nx)
  | .exit i, E, H, nx => some (.exi i, E, H, nx)
  | .ret, E, H, nx => some (.ret, E, H, nx)
  | .region _ ops false, E, H, nx => xops T eqs call ops.toList ops.toList [] E H nx fun E H nx => some (.nrm, E, H, nx)
  | .region _ ops true, E, H, nx => zqw T eqs call ops.toList ops.toList [] E H nx [] fun E H nx log => match (zqm ops).all (zage log) with
    | true => some (.nrm, E, H, nx)
    | false => none
  | .seq a b, E, H, nx => match zcj a E H nx with
    | some (x, E, H, nx) => match x with
      | .nrm => zcj b E H nx
      | .exi i => some (.exi i, E, H, nx)
      | .ret => some (.ret, E, H, nx)
    | none => none
  | .cond c a b, E, H, nx => match (toE E).ev c with
    | .bool t => match t with
      | true => zcj a E H nx
      | false => zcj b E H nx
    | _ => none
  | .block id a, E, H, nx => match zcj a E H nx with
    | some (x, E, H, nx) => match x with
      | .nrm => some (.nrm, E, H, nx)
      | .exi i => match Nat.beq i id with
        | true => some (.nrm, E, H, nx)
        | false => some (.exi i, E, H, nx)
      | .ret => some (.ret, E, H, nx)
    | none => none
  | .loop a, E, H, nx => zwg (zcj a) 3000 E H nx
  | .scope a, E, H, nx => zcj a E H nx
  | _, _, _, _ => none
noncomputable def xret : List ResultVar → EB → HB → (List AV → Option β) → Option β
  | [], _, _, c => c []
  | .tmp t :: r, E, H, c => fV0 (toE E t) fun v => xret r E H fun vs => c (v :: vs)
  | .cell a t :: r, E, H, c => match T t with
    | some at_ => match zul at_.kind.isAgg at_.size (toE E a) (toH H) with
      | some (v, _, _, _) => fV v fun v => xret r E H fun vs => c (v :: vs)
      | none => none
    | none => none
noncomputable def zaai : List AV → Nat → EB → (EB → Option β) → Option β
  | [], _, E, c => c E
  | v :: r, t, E, c => fV v fun v => Tr.setK (t + 1) E t (some v) fun E => zaai r (t + 1) E c
end
noncomputable def xfun (P : Program) (ok : Nat → Bool) (orc : Nat → List AV → Option AV) : Nat → XCl
  | 0, _, _, _, _ => none
  | n + 1, f, args, H, nx => match orc f args with
    | some v => some (v, H, nx)
    | none => match ok f with
      | false => none
      | true => match P.funcs[f]? with
        | some fn => match fn.body with
          | some c => match Nat.ble args.length fn.ntmps with
            | true => zaai args 0 .nil fun E => match zcj T eqs (xfun P ok orc n) c E H nx with
              | some (x, E, H, nx) => match x with
                | .exi _ => none
                | .nrm => xret T fn.results.toList E H fun vs => some (match vs with | [v] => v | vs => .tup vs, H, nx)
                | .ret => xret T fn.results.toList E H fun vs => some (match vs with | [v] => v | vs => .tup vs, H, nx)
              | none => none
            | false => none
          | none => none
        | none => none
end
end Go.Proofs.YtpbnaaoilgohkaaGreatDoor
set_option maxRecDepth 8000
namespace Go.Proofs.YtpbnaaoilgohkaaGreatDoor
open Go Go.RowKit
theorem zmj {H : HB} {g : Nat} : isH H g = true ↔ ∃ o, toH H g = some o := by
  unfold isH toH
  cases H.get g <;> simp
theorem zjr {H : HB} {g : Nat} (h : ¬ isH H g = true) : toH H g = none := by
  cases e : toH H g with
  | none => rfl
  | some o => exact absurd (zmj.2 ⟨o, e⟩) h
def Tk (X : HB) (n0 nE : Nat) (g : Nat) : Prop := isH X g = true ∨ (n0 ≤ g ∧ g < nE)
open Classical in
noncomputable def mix (Hm : Heap) (X : HB) (n0 nE : Nat) (H : HB) : Heap := fun g => if Tk X n0 nE g then toH H g else Hm g
theorem zde {Hm : Heap} {X : HB} {n0 nE : Nat} {H : HB} {g : Nat} (h : Tk X n0 nE g) : mix Hm X n0 nE H g = toH H g := if_pos h
theorem zfi {Hm : Heap} {X : HB} {n0 nE : Nat} {H : HB} {g : Nat} (h : ¬ Tk X n0 nE g) : mix Hm X n0 nE H g = Hm g := if_neg h
def zant (A : Nat → Prop) (ρ : Nat → Loc) (Hm : Heap) (w : World) (H : HB) (nx : Nat) (v : AV) (H' : HB) (nx' : Nat) (cv : Value) (w' : World) : Prop :=
  ∃ ρ', Sim (fun g => A g ∨ nx ≤ g ∧ g < nx') ρ' (mix Hm H nx nx' H') w' ∧ VRel (Kof ρ' (mix Hm H nx nx' H') w') ρ' (fun g => A g ∨ nx ≤ g ∧ g < nx') v cv ∧ Fr A ρ Hm w (fun g => A g ∨ nx ≤ g ∧ g < nx') ρ' (mix Hm H nx nx' H') w'
structure Does (P : Program) (H : HB) (nx : Nat) (v : AV) (H' : HB) (nx' : Nat) (pre : zh → (Nat → Loc) → (Nat → Prop) → Prop) (run : World → Result Next) : Prop where
  le : nx ≤ nx'
  dom : ∀ g, isH H' g = true → isH H g = true ∨ nx ≤ g ∧ g < nx'
  run : ∀ (A : Nat → Prop) (ρ : Nat → Loc) (Hm : Heap) (w : World), Bdd A → Sim A ρ Hm w → pre (Kof ρ Hm w) ρ A → (∀ g, isH H g = true → Hm g = toH H g) → (∀ g, nx ≤ g → g < nx' → ¬ A g) → zu P (zant A ρ Hm w H nx v H' nx') (run w)
theorem zahj {D : zg} : ∀ {H : Heap} {g : Nat} {o : AObj}, H.apply D g = some o → g ∈ domD D ∨ H g = some o := by
  intro H g o h
  by_cases hg : g ∈ domD D
  · exact .inl hg
  · rw [zcu D H g hg] at h; exact .inr h
theorem zzn {H : HB} {rd fr : List Nat} {D : zg} (h : chkD H rd fr D = true) : (∀ g ∈ rd, isH H g = true) ∧ ∀ g ∈ domD D, isH H g = true ∨ g ∈ fr := by
  unfold chkD at h
  simp only [Bool.and_eq_true, List.all_eq_true, Bool.or_eq_true, List.any_eq_true, Nat.beq_eq] at h
  refine ⟨h.1, fun g hg => ?_⟩
  obtain ⟨p, hp, rfl⟩ := List.mem_map.1 hg
  rcases h.2 p hp with h | ⟨x, hx, e⟩
  · exact .inl h
  · exact .inr (e ▸ hx)
theorem Does.eff {P : Program} {o : Oper} {e : Operand → AV} {H : HB} {nx : Nat} {v : AV} {rd fr : List Nat} {D : zg} (he : EffB P o e (toH H) rd fr D v) (hfr : ∀ g, g ∈ fr ↔ nx ≤ g ∧ g < nx + fr.length) (hc : chkD H rd fr D = true) (ev : Operand → Value) :
    Does P H nx v (ziz D H) (nx + fr.length) (fun K ρ A => ∀ x ∈ o.op.operands.toList, VRel K ρ A (e x) (ev x)) fun w => (execOp ev o).run P w := by
  obtain ⟨c1, c2⟩ := zzn hc
  refine ⟨by omega, fun g hg => ?_, fun A ρ Hm w hB s hx hag hfree => ?_⟩
  · obtain ⟨ob, h⟩ := zmj.1 hg
    rw [zpp] at h
    rcases zahj h with h | h
    · rcases c2 g h with h | h
      · exact .inl h
      · exact .inr ((hfr g).1 h)
    · exact .inl (zmj.2 ⟨ob, h⟩)
  · refine zj (he A ρ Hm w ev hB s hx (fun g hg => hag g (c1 g hg)) fun g hg => hfree g ((hfr g).1 hg).1 ((hfr g).1 hg).2) fun cv w' ⟨ρ', q1, q2, q3⟩ => ?_
    have hA : (fun x => A x ∨ x ∈ fr) = (fun g => A g ∨ nx ≤ g ∧ g < nx + fr.length) := by funext g; rw [hfr]
    have hH : Hm.apply D = mix Hm H nx (nx + fr.length) (ziz D H) := by
      funext g
      by_cases ht : Tk H nx (nx + fr.length) g
      · rw [zde ht, zpp]
        refine zjg D _ _ g (.inl ?_)
        by_cases hi : isH H g = true
        · exact hag g hi
        · rw [zjr hi]
          rcases ht with h | h
          · exact absurd h hi
          · cases e : Hm g with
            | none => rfl
            | some o => exact absurd (s.live g o e) (hfree g h.1 h.2)
      · rw [zfi ht]
        refine zcu D Hm g fun hg => ht ?_
        rcases c2 g hg with h | h
        · exact .inl h
        · exact .inr ((hfr g).1 h)
    rw [hA, hH] at q1 q2 q3
    exact ⟨ρ', q1, q2, q3⟩
theorem zaip {nx : Nat} {fr : List Nat} (h : fr = [] ∨ fr = [nx]) (g : Nat) : g ∈ fr ↔ nx ≤ g ∧ g < nx + fr.length := by
  rcases h with rfl | rfl
  · simp
  · simp; omega
theorem zgx {seen : List Nat} : ∀ {n i : Nat}, i ∈ zmg seen n ↔ i < n ∧ i ∉ seen
  | 0, i => by simp [zmg]
  | n + 1, i => by
    unfold zmg
    cases h : seen.any (fun j => Nat.beq j n) with
    | true =>
      simp only [cond_true, zgx]
      simp only [List.any_eq_true, Nat.beq_eq] at h
      obtain ⟨j, hj, rfl⟩ := h
      constructor
      · rintro ⟨h1, h2⟩; exact ⟨by omega, h2⟩
      · rintro ⟨h1, h2⟩
        exact ⟨by rcases Nat.lt_or_ge i j with h | h
                  · exact h
                  · exact absurd hj (by rwa [show j = i by omega]), h2⟩
    | false =>
      simp only [cond_false, List.mem_cons, zgx]
      have hn : n ∉ seen := fun hn => by
        have : seen.any (fun j => Nat.beq j n) = true := List.any_eq_true.2 ⟨n, hn, by simp⟩
        rw [h] at this; cases this
      constructor
      · rintro (rfl | ⟨h1, h2⟩)
        · exact ⟨by omega, hn⟩
        · exact ⟨by omega, h2⟩
      · rintro ⟨h1, h2⟩
        rcases Nat.lt_or_ge i n with h | h
        · exact .inr ⟨h, h2⟩
        · exact .inl (by omega)
section
variable {P : Program} {T : Nat → Option AT} {eqs : Nat → Bool} (hT : TOk P T) (hE : EOk P T eqs)
include hT hE in
theorem zaox {o : Oper} {e : Operand → AV} {H : HB} {nx : Nat} {v : AV} {rd fr : List Nat} {D : zg} (h : xpl T eqs o e H nx = some (v, rd, fr, D)) : (fr = [] ∨ fr = [nx]) ∧ Eff P o e (toH H) rd fr D v := by
  unfold xpl at h
  split at h
  · rename_i t x hop
    rw [zme] at h
    obtain ⟨hm, h⟩ := h
    split at h
    · rename_i g hx
      split at h
      · rename_i es hg
        cases h
        unfold zaaf at hm
        split at hm
        · rename_i kt el s0 b0 z0 ht
          obtain ⟨i, d, z, hat⟩ := hT.at ht
          exact ⟨.inr rfl, zyw hx hg (zpt hat) hop⟩
        · cases hm
      · cases h
    · cases h
  · rename_i x hop
    split at h
    · rename_i y hx
      split at h
      · rename_i g n seen hy
        split at h
        · rename_i es hg
          rw [zme] at h
          obtain ⟨hn, h⟩ := h
          rw [Nat.beq_eq] at hn
          split at h
          · rename_i hu
            cases h
            refine ⟨.inl rfl, fun A ρ H1 w ev s hv hrd hfr => zj (zvw s (by rw [← hx]; exact hv x (by simp [Op.operands, hop])) ((hrd y (by simp)).trans hy) ((hrd g (by simp)).trans hg) hn hop) fun cv w' q => ?_⟩
            rcases q with ⟨_, q⟩ | ⟨i, e, hi, hs, q⟩
            · exact q
            · have := zgx (seen := seen) (n := n) (i := i) |>.2 ⟨by have := (List.getElem?_eq_some_iff.1 hi).1; omega, hs⟩
              rw [hu] at this; cases this
          · rename_i i hu
            split at h
            · rename_i u hu2
              cases h
              have hiu := zgx (seen := seen) (n := n) (i := i) |>.1 (by rw [hu]; simp)
              refine ⟨.inl rfl, fun A ρ H1 w ev s hv hrd hfr => zj (zvw s (by rw [← hx]; exact hv x (by simp [Op.operands, hop])) ((hrd y (by simp)).trans hy) ((hrd g (by simp)).trans hg) hn hop) fun cv w' q => ?_⟩
              rcases q with ⟨hall, q⟩ | ⟨j, e, hj, hs, q⟩
              · exact absurd (hall i hiu.1) hiu.2
              · have := zgx (seen := seen) (n := n) (i := j) |>.2 ⟨by have := (List.getElem?_eq_some_iff.1 hj).1; omega, hs⟩
                rw [hu, List.mem_singleton] at this
                subst this
                rw [hu2] at hj
                cases hj
                exact q
            · cases h
          · cases h
        · cases h
      · cases h
    · cases h
  · rename_i x hop
    split at h
    · rename_i y hx
      split at h
      · rename_i g n seen hy
        split at h
        · rename_i es hg
          rw [zme] at h
          obtain ⟨hn, h⟩ := h
          rw [Nat.beq_eq] at hn
          split at h
          · rename_i i hl
            split at h
            · rename_i u hu
              cases h
              exact ⟨.inl rfl, zzg hx hy hg hn hl hu hop⟩
            · cases h
          · cases h
        · cases h
      · cases h
    · cases h
  · obtain ⟨v', rd', fr', D', h1, h2, h3⟩ := zzv hT hE (zaea T eqs _ _ _ _ h (fun v' rd' fr' D' => v' = v ∧ rd' = rd ∧ fr' = fr ∧ D' = D) ⟨rfl, rfl, rfl, rfl⟩)
    obtain ⟨rfl, rfl, rfl, rfl⟩ := h3
    exact ⟨h1, h2⟩
def zhi (P : Program) (call : XCl) : Prop := ∀ f args H nx v H' nx', call f args H nx = some (v, H', nx') → ∀ cargs : Array Value, Does P H nx v H' nx' (fun K ρ A => LRel K ρ A args cargs.toList) fun w => (callFunc f cargs).run P w
theorem zahp {o : Oper} {e : Operand → AV} {f : Nat} {args : List AV} (h : xcal o e = some (f, args)) (ev : Operand → Value) {K : zh} {ρ : Nat → Loc} {A : Nat → Prop} (hx : ∀ x ∈ o.op.operands.toList, VRel K ρ A (e x) (ev x)) :
    ∃ cargs : Array Value, LRel K ρ A args cargs.toList ∧ ∀ w, (execOp ev o).run P w = (callFunc f cargs).run P w := by
  unfold xcal at h
  split at h
  · rename_i c hop
    split at h
    · rename_i y hc
      split at h
      · rename_i fid cap hf
        cases h
        have hfv := hx y (by simp [hop, Op.operands, Call.operands, hc])
        rw [hf] at hfv
        generalize hcv : ev y = cv at hfv
        cases hfv with
        | clo _ _ cs hl hR =>
          refine ⟨c.args.map ev ++ cs, ?_, fun w => ?_⟩
          · rw [Array.toList_append]
            exact LRel.append (LRel.ops fun x hx' => hx x (by simp only [hop, Op.operands, Call.operands, hc]; simp; exact .inr (by simpa using hx'))) ⟨by simpa using hl, fun j v u hv hu => hR j v u hv (by simpa using hu)⟩
          · simp only [execOp, hop, resolve, hc, hcv, Deferred.ofValue, Sem.run_bind, Sem.run_pure, Result.andThen_ok, invoke, Array.empty_append]
      · cases h
    · cases h
  · cases h
theorem Does.call {call : XCl} (hcall : zhi P call) {o : Oper} {e : Operand → AV} {f : Nat} {args : List AV} (h : xcal o e = some (f, args)) {H : HB} {nx : Nat} {v : AV} {H' : HB} {nx' : Nat} (hc : call f args H nx = some (v, H', nx')) (ev : Operand → Value) :
    Does P H nx v H' nx' (fun K ρ A => ∀ x ∈ o.op.operands.toList, VRel K ρ A (e x) (ev x)) fun w => (execOp ev o).run P w := by
  have d := hcall f args H nx v H' nx' hc
  refine ⟨(d #[]).le, (d #[]).dom, fun A ρ Hm w hB s hx hag hfree => ?_⟩
  obtain ⟨cargs, h1, h2⟩ := zahp (P := P) h ev hx
  simp only [h2]
  exact (d cargs).run A ρ Hm w hB s h1 hag hfree
include hT hE in
theorem zakb {β : Type} {call : XCl} (hcall : zhi P call) {o : Oper} {E : EB} {H : HB} {nx : Nat} {c : AV → HB → Nat → Option β} {r : β} (h : zuk T eqs call o E H nx c = some r) :
    ∃ v H' nx', c v H' nx' = some r ∧ ∀ ev, Does P H nx v H' nx' (fun K ρ A => ∀ x ∈ o.op.operands.toList, VRel K ρ A ((toE E).ev x) (ev x)) fun w => (execOp ev o).run P w := by
  unfold zuk at h
  split at h
  · split at h
    · rename_i f args hx
      split at h
      · rename_i v H' nx' hc
        exact ⟨v, H', nx', h, fun ev => Does.call hcall hx hc ev⟩
      · cases h
    · cases h
  · split at h
    · rename_i v rd fr D hx
      split at h
      · rename_i hck
        rw [zxg, zuo, zaag] at h
        obtain ⟨h1, h2⟩ := zaox hT hE hx
        exact ⟨v, _, _, h, fun ev => Does.eff (fun A ρ H w ev _ s hx hr hf => h2 A ρ H w ev s hx hr hf) (zaip h1) hck ev⟩
      · cases h
    · cases h
end
end Go.Proofs.YtpbnaaoilgohkaaGreatDoor
