/- Heights: what the document's function makes of a code. Programs: what the program's function says is wrong with them. Programs: what the document's function says is wrong with them. Frames: what the program's function says is wrong with one. Agents: what the program's function says is wrong with one. What a call is handed, and what names it, is read by value from then on. Rows of one's own, by value from now on: cell by cell. The agent of bytes: its end. Cells numbered as they are come to: the document's closures. Cells numbered as they are come to: the document's function, its first part. Cells numbered as they are come to: the document's function, its loops. Cells numbered as they are come to: the document's function, all of it. Cells numbered as they are come to: the document's answer. The document's machine: Pack. A program, and an agent, are the same as themselves. Agents: what the document's function says is wrong with one. -/
import Derived.Test.YtpbnaaoilgohkaaGreatDoorG12
import Derived.Test.YtpbnaaoilgohkaaGreatDoorG11
import Derived.Test.YtpbnaaoilgohkaaGreatDoorG9
import Derived.Test.YtpbnaaoilgohkaaGreatDoorG10
import Derived.Test.YtpbnaaoilgohkaaGreatDoorG6
set_option linter.unusedSimpArgs false
set_option linter.unusedVariables false
set_option maxRecDepth 8000
namespace Go.Proofs.YtpbnaaoilgohkaaGreatDoor
open Go Go.RowKit
theorem app1 {g len s : Nat} {x : Int} {H : Heap} {kk : AV → Heap → Nat → Prop} {A : List Int} (hg : H g = some (.row 1 (zi A))) (hl : A.length = len) (hgs : g ≠ s) (hb : len ≤ 4194304)
    (hk : ∀ H', H' (s + 1) = some (.row 1 (zi (A ++ [x]))) → (∀ y, y ≠ g → y ≠ s → y ≠ s + 1 → H' y = H y) → kk (.slc (s + 1) 0 (len + 1)) H' (s + 1 + 1)) :
    APP 1 8 (.slc g 0 len) (.slc s 0 1) (H.put s (some (.row 1 [.int .i64 x]))) (s + 1) kk := by
  simp [hgs, hg]
  refine ⟨by omega, by omega, hk _ ?_ ?_⟩
  · simp [hl, zi]
    rw [List.take_of_length_le (by simp; omega)]
  · intro y h1 h2 h3
    simp [h1, h2, h3]
theorem app2 {ga gb la s : Nat} {x y : Int} {H : Heap} {kk : AV → AV → Heap → Nat → Prop} {A B : List Int} (hga : H ga = some (.row 1 (zi A))) (hgb : H gb = some (.row 1 (zi B))) (hA : A.length = la) (hB : B.length = la) (hab : ga ≠ gb) (ha : ga < s) (hb : gb < s) (hl : la ≤ 4194304)
    (hk : ∀ H', H' (s + 1) = some (.row 1 (zi (A ++ [x]))) → H' (s + 3) = some (.row 1 (zi (B ++ [y]))) → (∀ z, z ≠ ga → z ≠ gb → z < s → H' z = H z) → kk (.slc (s + 1) 0 (la + 1)) (.slc (s + 3) 0 (la + 1)) H' (s + 4)) :
    APP 1 8 (.slc ga 0 la) (.slc s 0 1) (H.put s (some (.row 1 [.int .i64 x]))) (s + 1) fun v H' n => APP 1 8 (.slc gb 0 la) (.slc n 0 1) (H'.put n (some (.row 1 [.int .i64 y]))) (n + 1) fun w H'' n' => kk v w H'' n' := by
  refine app1 hga hA (by omega) hl fun H1 h1 h2 => ?_
  refine app1 (A := B) (by rw [h2 gb (by omega) (by omega) (by omega)]; exact hgb) hB (by omega) hl fun H3 h3 h4 => ?_
  refine hk H3 ?_ h3 fun z p q r => ?_
  · rw [h4 _ (by omega) (by omega) (by omega)]; exact h1
  · rw [h4 _ (by omega) (by omega) (by omega), h2 _ (by omega) (by omega) (by omega)]
def RInv (c : Cod) (H0 : Heap) (n0 : Nat) (f : Nat) (xs : List AV) (H : Heap) (nx : Nat) : Prop := ∃ (q : List (Int × Int)) (out A B : List Int) (ga gb k la : Nat),
  xs = [.ptr n0 0, .slc (n0 + 1) 0 c.ins.length, .slc ga 0 la, .slc gb 0 la, .int .i64 k] ∧ A.length = la ∧ B.length = la ∧ H ga = some (.row 1 (zi A)) ∧ H gb = some (.row 1 (zi B)) ∧ A.drop k = q.map (·.1) ∧ B.drop k = q.map (·.2) ∧ k ≤ la ∧
  n0 + 1 < ga ∧ n0 + 1 < gb ∧ ga ≠ gb ∧ ga < nx ∧ gb < nx ∧ k + f = 2 * c.ins.length + 2 ∧
  H n0 = some (.row 3 c.avs) ∧ H (n0 + 1) = some (.row 1 (zi out)) ∧ out.length = c.ins.length ∧ Keep n0 H H0 ∧
  VM.heightsGo c.ins f q out = VM.heights c.ins ∧ q.length + 2 * ziv out < f ∧ (∀ x ∈ q, 0 ≤ x.2 ∧ x.2 ≤ 16) ∧ (∀ x ∈ out, -1 ≤ x ∧ x ≤ 16)
set_option maxHeartbeats 4000000 in
theorem zvg (c : Cod) (hlen : c.ins.length ≤ 1048576) (hcalm : Calm c.ins) :
    QC Tryz.prog 17 [.agg c.avs] (.tup [.ro ((VM.heights c.ins).1.map fun n => [.int .i64 n]), .int .i64 (VM.heights c.ins).2]) := by
  refine QC.of' fun H nx => zqs _ H nx _ ?_
  simp [zlh, Cod.avs]
  refine ⟨by omega, by omega, ?_⟩
  refine LP.mk (fun m xs H' nx' => ∃ i : Nat, i ≤ c.ins.length ∧ m = c.ins.length - i ∧ xs = [.ptr nx 0, .slc (nx + 1) 0 c.ins.length, .int .i64 c.ins.length, .int .i64 i] ∧ nx' = nx + 2 ∧
    H' = (H.put nx (some (.row 3 c.avs))).put (nx + 1) (some (.row 1 (zi (List.replicate i (-1) ++ List.replicate (c.ins.length - i) 0))))) c.ins.length
    ⟨0, by omega, by omega, by simp, rfl, by simp [zi, Cod.avs]⟩ ?_
  rintro m xs H' nx' ⟨i, hi, rfl, rfl, rfl, rfl⟩
  simp [zli]
  refine ⟨fun h => ?_, fun h => ?_⟩
  · refine ⟨h, by omega, ?_⟩
    rw [i64w (by omega)]
    refine ⟨c.ins.length - (i + 1), by omega, i + 1, by omega, rfl, by simp, ?_⟩
    rw [zze _ _ h]
  obtain rfl : i = c.ins.length := by omega
  refine LP.mk (RInv c H nx) (2 * c.ins.length + 2) ⟨[(0, 0)], List.replicate c.ins.length (-1), [0], [0], nx + 2, nx + 3, 0, 1, by simp, rfl, rfl, by simp [zi], by simp [zi], rfl, rfl, by omega, by omega, by omega, by omega, by omega, by omega, by omega, by simp; omega, by simp, by simp, ?_, rfl, ?_, ?_, ?_⟩ ?_
  · rw [Keep.put (by omega), Keep.put (by omega), Keep.put (by omega), Keep.put (by omega)]; simp
  · unfold ziv; simp [List.countP_replicate]; omega
  · intro x hx; simp at hx; subst hx; simp
  · intro x hx; have := List.eq_of_mem_replicate hx; omega
  rintro f xs H1 n1 ⟨q, out, A, B, ga, gb, k, la, rfl, hAl, hBl, hga, hgb, hA, hB, hk, g1, g2, g3, g4, g5, hkf, hb, ho, hol, hK, hgo, hmeas, hq, hout⟩
  cases f with
  | zero => simp at hmeas
  | succ f =>
  cases q with
  | nil =>
    have hkl : la ≤ k := by have := congrArg List.length hA; simp at this; omega
    have e : VM.heights c.ins = (out, 0) := by rw [← hgo]; rfl
    have : ¬ k < la := by omega
    simp [zat, this, e]
    refine ⟨Frz.row (sz := 1) (cells := zi out) (by omega) ho (by simp [hol]) (by simp) (zvl out) ?_, hK⟩
    intro x hx; simp [zi] at hx; obtain ⟨a, _, rfl⟩ := hx; exact .int _ _
  | cons x q =>
    obtain ⟨at_, h⟩ := x
    have hkl : k < la := by have := congrArg List.length hA; simp at this; omega
    have hA0 : A[k]? = some at_ := by have := congrArg (·[0]?) hA; simpa using this
    have hB0 : B[k]? = some h := by have := congrArg (·[0]?) hB; simpa using this
    have hA1 : A.drop (k + 1) = q.map (·.1) := by have := congrArg (List.drop 1) hA; simpa using this
    have hB1 : B.drop (k + 1) = q.map (·.2) := by have := congrArg (List.drop 1) hB; simpa using this
    have hh := hq (at_, h) (by simp)
    simp only at hh
    have hq' : ∀ x ∈ q, 0 ≤ x.2 ∧ x.2 ≤ 16 := fun x hx => hq x (by simp [hx])
    have hlaq : la = k + 1 + q.length := by have := congrArg List.length hA; simp at this; omega
    simp only [List.length_cons] at hmeas
    simp only [VM.heightsGo] at hgo
    have w0 : IntKind.i64.wrap ((k : Int) + 1) = ((k + 1 : Nat) : Int) := by rw [i64w (by omega)]; simp
    by_cases hr : 0 ≤ at_ ∧ at_ < c.ins.length
    case neg =>
      have e : (if 0 ≤ at_ then c.ins[at_.toNat]? else none) = none := by
        split
        · exact List.getElem?_eq_none (by omega)
        · rfl
      rw [e] at hgo
      simp only at hgo
      rw [← hgo]
      by_cases h0 : at_ < 0
      · simp [zat, hkl, hga, hgb, zdi, hA0, hB0, h0, hK]
      · have : (c.ins.length : Int) ≤ at_ := by omega
        simp [zat, hkl, hga, hgb, zdi, hA0, hB0, h0, this, hK]
    case pos =>
    obtain ⟨hr0, hr1⟩ := hr
    have hlt : at_.toNat < c.ins.length := by omega
    obtain ⟨i, hi⟩ : ∃ i, c.ins[at_.toNat]? = some i := ⟨_, List.getElem?_eq_getElem hlt⟩
    obtain ⟨o, ho'⟩ : ∃ o, out[at_.toNat]? = some o := ⟨_, List.getElem?_eq_getElem (by omega)⟩
    have hod : out.getD at_.toNat 0 = o := by simp [List.getD_eq_getElem?_getD, ho']
    rw [if_pos hr0, hi, hod] at hgo
    simp only at hgo
    by_cases hs : 0 ≤ o
    · rw [if_pos hs] at hgo
      by_cases hne : o = h
      · subst hne
        rw [if_neg (by simp)] at hgo
        simp [zat, hkl, hga, hgb, zdi, hA0, hB0, ho, hr0, hr1, ho', hs, Int.not_lt.2 hr0, Int.not_le.2 hr1, w0, Int.not_lt.2 hs]
        exact ⟨f, by omega, q, out, A, B, ga, gb, k + 1, la, rfl, hAl, hBl, hga, hgb, hA1, hB1, by omega, g1, g2, g3, g4, g5, by omega, hb, ho, hol, hK, hgo, by omega, hq', hout⟩
      · rw [if_pos hne] at hgo
        rw [← hgo]
        simp [zat, hkl, hga, hgb, zdi, hA0, hB0, ho, hr0, hr1, ho', hs, hne, Int.not_lt.2 hr0, Int.not_le.2 hr1, hK]
    rw [if_neg hs] at hgo
    have hbd := zkk i (hcalm i (List.mem_of_getElem? hi))
    have n1' : ga ≠ nx := by omega
    have n2' : ga ≠ nx + 1 := by omega
    have n3' : ga ≠ n1 := by omega
    have n4' : nx ≠ n1 := by omega
    have n5' : nx + 1 ≠ n1 := by omega
    have m2' : gb ≠ nx + 1 := by omega
    have m3' : gb ≠ n1 := by omega
    have hns : o < 0 := by omega
    obtain ⟨_, hi'⟩ := List.getElem?_eq_some_iff.1 hi
    simp [zat, hkl, hga, hgb, zdi, hA0, hB0, ho, hb, hr0, hr1, ho', hs, hns, hi', Cod.avs, Ins.avs, Int.not_lt.2 hr0, Int.not_le.2 hr1]
    refine ⟨by omega, QC.call (zakx i) ?_⟩
    rw [zxk _ _ _ (by omega)]
    have h2a : ((H1.put (nx + 1) (some (.row 1 (zi (out.set at_.toNat h))))).put n1 (some (.row 3 [.int .i64 i.op, .int .i64 i.a, .int .i64 i.b]))) ga = some (.row 1 (zi A)) := by simp [n2', n3', hga]
    have h2c : ((H1.put (nx + 1) (some (.row 1 (zi (out.set at_.toNat h))))).put n1 (some (.row 3 [.int .i64 i.op, .int .i64 i.a, .int .i64 i.b]))) gb = some (.row 1 (zi B)) := by simp [m2', m3', hgb]
    have h2b : ((H1.put (nx + 1) (some (.row 1 (zi (out.set at_.toNat h))))).put n1 (some (.row 3 [.int .i64 i.op, .int .i64 i.a, .int .i64 i.b]))) nx = some (.row 3 c.avs) := by simp [n4', hb]
    have h2o : ((H1.put (nx + 1) (some (.row 1 (zi (out.set at_.toNat h))))).put n1 (some (.row 3 [.int .i64 i.op, .int .i64 i.a, .int .i64 i.b]))) (nx + 1) = some (.row 1 (zi (out.set at_.toNat h))) := by simp [n5']
    have h2n : ((H1.put (nx + 1) (some (.row 1 (zi (out.set at_.toNat h))))).put n1 (some (.row 3 [.int .i64 i.op, .int .i64 i.a, .int .i64 i.b]))) n1 = some (.row 3 [.int .i64 i.op, .int .i64 i.a, .int .i64 i.b]) := by simp
    have h2K : Keep nx ((H1.put (nx + 1) (some (.row 1 (zi (out.set at_.toNat h))))).put n1 (some (.row 3 [.int .i64 i.op, .int .i64 i.a, .int .i64 i.b]))) H := by rw [Keep.put (by omega), Keep.put (by omega)]; exact hK
    generalize ((H1.put (nx + 1) (some (.row 1 (zi (out.set at_.toNat h))))).put n1 (some (.row 3 [.int .i64 i.op, .int .i64 i.a, .int .i64 i.b]))) = H2 at *
    have hu := zoc (out := out) (k := at_.toNat) (h := h) (by omega) (by omega) hh.1
    generalize hE : VM.effect i = E at *
    obtain ⟨nd, gv⟩ := E
    simp only at hbd hgo
    have w1 : IntKind.i64.wrap (h - nd) = h - nd := i64w (by omega)
    have w2 : IntKind.i64.wrap (h - nd + gv) = h - nd + gv := i64w (by omega)
    have w3 : IntKind.i64.wrap (at_ + 1) = at_ + 1 := i64w (by omega)
    by_cases hc1 : h < nd ∨ (i.op = 18 ∧ h ≠ 1)
    · rw [if_pos hc1] at hgo
      rw [← hgo]
      by_cases hc2 : h < nd
      · simp [zab, hc2, h2K]
      · have h18 : i.op = 18 := by omega
        have hnd : nd = 1 := by simp [VM.effect, h18] at hE; omega
        have h1 : 1 < h := by omega
        simp [zab, hc2, h2n, h18, h1, h2K]
    rw [if_neg hc1] at hgo
    have hc2 : ¬ h < nd := by omega
    have hc2' : nd ≤ h := by omega
    by_cases hc3 : 16 < h + gv - nd
    · rw [if_pos hc3] at hgo
      rw [← hgo]
      have hc3' : 16 < h - nd + gv := by omega
      by_cases h18 : i.op = 18
      · have h1 : h = 1 := by omega
        subst h1
        simp [zab, hc2, h2n, h18, w1, w2, hc3', h2K]
      · simp [zab, hc2, h2n, h18, w1, w2, hc3', h2K]
    rw [if_neg hc3] at hgo
    have hc4 : ¬ 16 < h - nd + gv := by omega
    have e4 : h + gv - nd = h - nd + gv := by omega
    rw [e4] at hgo
    have fin : ∀ (l : List (Int × Int)) (ga' gb' : Nat) (H3 : Heap) (n3 : Nat), VM.heightsGo c.ins f (q ++ l) (out.set at_.toNat h) = VM.heights c.ins → l.length ≤ 2 → (∀ x ∈ l, 0 ≤ x.2 ∧ x.2 ≤ 16) →
        H3 ga' = some (.row 1 (zi (A ++ l.map (·.1)))) → H3 gb' = some (.row 1 (zi (B ++ l.map (·.2)))) → nx + 1 < ga' → nx + 1 < gb' → ga' ≠ gb' → ga' < n3 → gb' < n3 →
        H3 nx = H2 nx → H3 (nx + 1) = H2 (nx + 1) → Keep nx H3 H →
        ∃ m, m < f + 1 ∧ RInv c H nx m [.ptr nx 0, .slc (nx + 1) 0 c.ins.length, .slc ga' 0 (la + l.length), .slc gb' 0 (la + l.length), .int .i64 ((k + 1 : Nat) : Int)] H3 n3 := by
      intro l ga' gb' H3 n3 p1 p2 p3 p4 p5 p6 p7 p8 p9 p10 p11 p12 p13
      refine ⟨f, by omega, q ++ l, _, A ++ l.map (·.1), B ++ l.map (·.2), ga', gb', k + 1, la + l.length, rfl, by simp [hAl], by simp [hBl], p4, p5, ?_, ?_, by omega, p6, p7, p8, p9, p10, by omega, p11.trans h2b, p12.trans h2o, by simpa using hol, p13, p1, by simp; omega, fun x hx => ?_, fun x hx => ?_⟩
      · rw [List.drop_append_of_le_length (by omega), hA1]; simp
      · rw [List.drop_append_of_le_length (by omega), hB1]; simp
      · rcases List.mem_append.1 hx with hx | hx
        · exact hq' x hx
        · exact p3 x hx
      · rcases List.mem_or_eq_of_mem_set hx with h9 | h9
        · exact hout x h9
        · omega
    have hlab : la ≤ 4194000 := by omega
    have kp : ∀ H3 : Heap, (∀ z, z ≠ ga → z ≠ gb → z < n1 + 1 → H3 z = H2 z) → Keep nx H3 H := fun H3 h3 g hg => (h3 g (by omega) (by omega) (by omega)).trans (h2K g hg)
    by_cases h15 : i.op = 15
    · simp [zab, hc2, hc2', h2n, h15, w0, w1, w2, w3, hc4, -zie]
      refine app2 h2a h2c hAl hBl g3 (by omega) (by omega) (by omega) fun H3 q1 q2 q3 => ?_
      exact fin [(i.a, h - nd + gv)] _ _ _ _ (by simpa [h15] using hgo) (by simp) (by simp; omega) (by simpa using q1) (by simpa using q2) (by omega) (by omega) (by omega) (by omega) (by omega) (q3 _ (by omega) (by omega) (by omega)) (q3 _ (by omega) (by omega) (by omega)) (kp _ q3)
    by_cases h18 : i.op = 18
    · have h1 : h = 1 := by omega
      subst h1
      simp [zab, hc2, hc2', h2n, h18, w1, w2, w3, w0, hc4, -zie]
      have := fin [] ga gb H2 (n1 + 1) (by simpa [h15, h18] using hgo) (by simp) (by simp) (by simpa using h2a) (by simpa using h2c) (by omega) (by omega) (by omega) (by omega) (by omega) rfl rfl h2K
      exact this
    by_cases h16 : i.op = 16
    · simp [zab, hc2, hc2', h2n, h16, w0, w1, w2, w3, hc4, -zie]
      refine app2 h2a h2c hAl hBl g3 (by omega) (by omega) (by omega) fun H3 q1 q2 q3 => ?_
      have hn3 : H3 n1 = some (.row 3 [.int .i64 16, .int .i64 i.a, .int .i64 i.b]) := by rw [q3 _ (by omega) (by omega) (by omega), h2n, h16]
      simp [hn3, -zie]
      refine app2 q1 q2 (by simp [hAl]) (by simp [hBl]) (by omega) (by omega) (by omega) (by omega) fun H4 r1 r2 r3 => ?_
      have q4 : ∀ z, z ≠ ga → z ≠ gb → z < n1 + 1 → H4 z = H2 z := fun z z1 z2 z3 => (r3 z (by omega) (by omega) (by omega)).trans (q3 z z1 z2 z3)
      exact fin [(at_ + 1, h - nd + gv), (i.a, h - nd + gv)] _ _ _ _ (by simpa [h15, h16, h18] using hgo) (by simp) (by simp; omega) (by simpa using r1) (by simpa using r2) (by omega) (by omega) (by omega) (by omega) (by omega) (q4 _ (by omega) (by omega) (by omega)) (q4 _ (by omega) (by omega) (by omega)) (kp _ q4)
    · simp [zab, hc2, hc2', h2n, h15, h16, h18, w0, w1, w2, w3, hc4, -zie]
      refine app2 h2a h2c hAl hBl g3 (by omega) (by omega) (by omega) fun H3 q1 q2 q3 => ?_
      have hn3 : H3 n1 = some (.row 3 [.int .i64 i.op, .int .i64 i.a, .int .i64 i.b]) := by rw [q3 _ (by omega) (by omega) (by omega), h2n]
      simp [hn3, h15, h16, -zie]
      exact fin [(at_ + 1, h - nd + gv)] _ _ _ _ (by simpa [h15, h16, h18] using hgo) (by simp) (by simp; omega) (by simpa using q1) (by simpa using q2) (by omega) (by omega) (by omega) (by omega) (by omega) (q3 _ (by omega) (by omega) (by omega)) (q3 _ (by omega) (by omega) (by omega)) (kp _ q3)
end Go.Proofs.YtpbnaaoilgohkaaGreatDoor
set_option maxRecDepth 8000
namespace Go.Proofs.YtpbnaaoilgohkaaGreatDoor
open Go Go.RowKit
set_option maxHeartbeats 4000000 in
theorem zagb (p : Prg) (hp : p.ok) : QC Tryz.prog 50 [.agg p.avs] (.int .i64 (VM.program p)) := by
  refine QC.of' fun H nx => zrg _ H nx _ ?_
  simp [zlk, Prg.avs]
  have hb0 : (H.put nx (some (.row 2 [.ro (p.codes.map Cod.avs), .ro (p.words.map fun w => [.str w])]))) nx = some (.row 2 p.avs) := by simp [Prg.avs]
  have hK0 : Keep nx (H.put nx (some (.row 2 [.ro (p.codes.map Cod.avs), .ro (p.words.map fun w => [.str w])]))) H := by simp
  generalize (H.put nx (some (.row 2 [.ro (p.codes.map Cod.avs), .ro (p.words.map fun w => [.str w])]))) = H1 at *
  refine ⟨fun h1 => by unfold VM.program; rw [if_pos (by omega)], fun h1 => ⟨fun h2 => by unfold VM.program; rw [if_pos (by omega)], fun h2 => ⟨fun h3 => by unfold VM.program; rw [if_neg (by omega), if_pos (by omega)], fun h3 => ?_⟩⟩⟩
  have e0 : VM.program p = if p.words.all VM.word = false then 7 else if (p.codes.getD 0 ⟨0, 0, []⟩).params ≠ 0 then 10 else if p.codes.any VM.codeRange then 3 else VM.firstErr (VM.codeErr p) p.codes := by
    unfold VM.program; rw [if_neg (by omega), if_neg (by omega)]
  obtain ⟨c0, hc0⟩ : ∃ c0, p.codes[0]? = some c0 := ⟨p.codes[0]'(by omega), List.getElem?_eq_getElem _⟩
  refine LP.mk (fun m xs H' nx' => ∃ i : Nat, i ≤ p.words.length ∧ m = p.words.length - i ∧ xs = [.ptr nx 0, .ro (p.words.map fun w => [.str w]), .int .i64 p.words.length, .int .i64 i] ∧ H1 = H' ∧ nx + 1 = nx' ∧ p.words.all VM.word = (p.words.drop i).all VM.word) p.words.length
    ⟨0, by omega, by omega, by simp, rfl, rfl, rfl⟩ ?_
  rintro m xs H' nx' ⟨i, hi, rfl, rfl, rfl, rfl, hall⟩
  by_cases hlt : i < p.words.length
  · obtain ⟨w, hw⟩ : ∃ w, p.words[i]? = some w := ⟨_, List.getElem?_eq_getElem hlt⟩
    obtain ⟨_, hw'⟩ := List.getElem?_eq_some_iff.1 hw
    rw [zacp _ _ _ _ hw] at hall
    simp [zgp, hlt, hw']
    refine QC.call (zanz w (hp w (List.mem_of_getElem? hw))) ?_
    simp [zln]
    cases hx : VM.word w
    · rw [hx] at hall
      simp [hK0]
      rw [e0, hall]; rfl
    · rw [hx] at hall
      simp
      rw [i64w (by omega)]
      exact ⟨p.words.length - (i + 1), by omega, i + 1, by omega, rfl, rfl, by simpa using hall⟩
  obtain rfl : i = p.words.length := by omega
  have hall' : p.words.all VM.word = true := by rw [hall]; simp
  rw [hall'] at e0
  simp only [Bool.true_eq_false, if_false] at e0
  obtain ⟨_, hc0'⟩ := List.getElem?_eq_some_iff.1 hc0
  have h01 : 0 < p.codes.length := by omega
  simp [zgp, hb0, Prg.avs, hc0', Cod.avs, h01]
  have hcg : p.codes.getD 0 ⟨0, 0, []⟩ = c0 := by simp [List.getD_eq_getElem?_getD, hc0]
  rw [hcg] at e0
  refine ⟨fun h4 => ⟨by rw [e0, if_pos h4], hK0⟩, fun h4 => ?_⟩
  rw [if_neg (by simpa using h4)] at e0
  refine LP.mk (fun m xs H' nx' => ∃ i : Nat, i ≤ p.codes.length ∧ m = p.codes.length - i ∧ xs = [.ptr nx 0, .int .i64 p.codes.length, .int .i64 i] ∧ H1 = H' ∧ nx + 1 = nx' ∧ p.codes.any VM.codeRange = (p.codes.drop i).any VM.codeRange) p.codes.length
    ⟨0, by omega, by omega, by simp, rfl, rfl, rfl⟩ ?_
  rintro m xs H' nx' ⟨i, hi, rfl, rfl, rfl, rfl, hany⟩
  by_cases hlt : i < p.codes.length
  · obtain ⟨c, hc⟩ : ∃ c, p.codes[i]? = some c := ⟨_, List.getElem?_eq_getElem hlt⟩
    obtain ⟨_, hc'⟩ := List.getElem?_eq_some_iff.1 hc
    rw [zacn _ _ _ _ hc] at hany
    simp [zgq, hb0, Prg.avs, hlt, hc', Cod.avs, hK0]
    have w0 : IntKind.i64.wrap ((i : Int) + 1) = (i : Int) + 1 := i64w (by omega)
    rw [w0]
    cases hx : VM.codeRange c
    · have hx' := hx
      unfold VM.codeRange at hx'
      rw [decide_eq_false_iff_not] at hx'
      rw [hx] at hany
      refine ⟨fun _ => by omega, fun _ => ⟨fun _ => by omega, fun _ => ⟨fun _ => by omega, fun _ => ⟨fun _ => by omega, fun _ => ⟨fun _ => ?_, fun _ => ⟨fun _ => by omega, fun _ => ?_⟩⟩⟩⟩⟩⟩
      · exfalso; omega
      · exact ⟨p.codes.length - (i + 1), by omega, i + 1, by omega, rfl, rfl, by simpa using hany⟩
    · have hx' := hx
      unfold VM.codeRange at hx'
      rw [decide_eq_true_eq] at hx'
      rw [hx, Bool.true_or] at hany
      rw [hany] at e0
      simp only [if_true] at e0
      rw [e0]
      repeat' first | apply And.intro | intro _
      all_goals first | rfl | (exfalso; omega)
  obtain rfl : i = p.codes.length := by omega
  have hany' : p.codes.any VM.codeRange = false := by rw [hany]; simp
  rw [hany'] at e0
  simp only [Bool.false_eq_true, if_false] at e0
  simp [zgq, hb0, Prg.avs]
  have hr : ∀ x ∈ p.codes, VM.codeRange x = false := by simpa using hany'
  clear hany hany' hall hall' hlt hi
  refine LP.mk (fun m xs H' nx' => ∃ i : Nat, i ≤ p.codes.length ∧ m = p.codes.length - i ∧ xs = [.ptr nx 0, .int .i64 p.codes.length, .int .i64 i] ∧ H' nx = some (.row 2 p.avs) ∧ Keep nx H' H ∧ nx < nx' ∧ VM.program p = VM.firstErr (VM.codeErr p) (p.codes.drop i)) p.codes.length
    ⟨0, by omega, by omega, by simp, hb0, hK0, by omega, by simpa using e0⟩ ?_
  rintro m xs H2 n2 ⟨k, hk, rfl, rfl, hb2, hK2, hn2, hfe⟩
  by_cases hlt : k < p.codes.length
  case neg =>
    obtain rfl : k = p.codes.length := by omega
    simp [zgr, hK2]
    rw [hfe]; simp [VM.firstErr]
  obtain ⟨c, hc⟩ : ∃ c, p.codes[k]? = some c := ⟨_, List.getElem?_eq_getElem hlt⟩
  obtain ⟨_, hc'⟩ := List.getElem?_eq_some_iff.1 hc
  have hcr := hr c (List.mem_of_getElem? hc)
  have hlen : c.ins.length ≤ 200 := by
    unfold VM.codeRange at hcr
    rw [decide_eq_false_iff_not] at hcr
    omega
  rw [zay _ _ _ _ hc] at hfe
  simp [zgr, hb2, Prg.avs, hlt, hc', Cod.avs]
  refine LP.mk (fun m xs H' nx' => ∃ j : Nat, j ≤ c.ins.length ∧ m = c.ins.length - j ∧ xs = [.ptr nx 0, .int .i64 k, .int .i64 p.codes.length, .int .i64 k, .ro (c.ins.map Ins.avs), .int .i64 c.ins.length, .int .i64 j] ∧ H' nx = some (.row 2 p.avs) ∧ Keep nx H' H ∧ nx < nx' ∧ VM.firstErr (VM.numbers p c) c.ins = VM.firstErr (VM.numbers p c) (c.ins.drop j)) c.ins.length
    ⟨0, by omega, by omega, by simp, hb2, hK2, hn2, by simp⟩ ?_
  rintro m xs H3 n3 ⟨j, hj, rfl, rfl, hb3, hK3, hn3, hfj⟩
  have hne : nx ≠ n3 := by omega
  by_cases hjl : j < c.ins.length
  · obtain ⟨i, hi⟩ : ∃ i, c.ins[j]? = some i := ⟨_, List.getElem?_eq_getElem hjl⟩
    obtain ⟨_, hi'⟩ := List.getElem?_eq_some_iff.1 hi
    rw [zay _ _ _ _ hi] at hfj
    simp [zgs, hb3, Prg.avs, hlt, hc', Cod.avs, hjl, hi', Ins.avs, hne]
    refine zt.of_qcr [nx] (by simp [hne, hb3]) (r := .int .i64 (VM.numbers p c i)) (fun H' n' hag => ?_) (.int _ _) ?_
    · have := hag nx (by simp)
      exact (zagi p c i H' n' nx (by rw [this.1]; simp [hne, hb3]) this.2).pure
    · simp [zlm]
      have hK4 : Keep nx (H3.put n3 (some (.row 3 [.int .i64 i.op, .int .i64 i.a, .int .i64 i.b]))) H := by rw [Keep.put (by omega)]; exact hK3
      refine ⟨fun hz => ⟨?_, hK4⟩, fun hz => ?_⟩
      · rw [if_pos hz] at hfj
        rw [hfe]
        have : VM.codeErr p c = VM.numbers p c i := by unfold VM.codeErr; rw [hfj, if_pos hz]
        rw [this, if_pos hz]
      · rw [i64w (by omega)]
        rw [if_neg (by simpa using hz)] at hfj
        exact ⟨c.ins.length - (j + 1), by omega, j + 1, by omega, rfl, rfl, by rw [if_neg hne]; exact hb3, hK4, by omega, hfj⟩
  obtain rfl : j = c.ins.length := by omega
  have hz : VM.firstErr (VM.numbers p c) c.ins = 0 := by rw [hfj]; simp [VM.firstErr]
  have hce : VM.codeErr p c = (VM.heights c.ins).2 := by unfold VM.codeErr; rw [if_neg (by simpa using hz)]
  rw [hce] at hfe
  simp [zgs, hb3, Prg.avs, hlt, hc', Cod.avs]
  refine QC.call (zxc c (by omega) (zyd hr (zax hz))) ?_
  simp [zll]
  refine ⟨fun h0 => ⟨?_, hK3⟩, fun h0 => ?_⟩
  · rw [if_pos h0] at hfe; exact hfe
  · rw [if_neg (by simpa using h0)] at hfe
    rw [i64w (by omega)]
    exact ⟨p.codes.length - (k + 1), by omega, k + 1, by omega, rfl, rfl, hb3, hK3, hn3, hfe⟩
end Go.Proofs.YtpbnaaoilgohkaaGreatDoor
set_option maxRecDepth 8000
namespace Go.Proofs.YtpbnaaoilgohkaaGreatDoor
open Go Go.RowKit
def lm (p : Prg) (c : Cod) (i : Ins) : Int × Int :=
  if i.op = 1 then (-1073741824, 1073741824) else if i.op = 2 then (0, p.words.length - 1) else if i.op = 3 then (0, c.vars - 1) else if i.op = 4 then (0, c.vars - 1) else if i.op = 5 then (1, 5)
  else if i.op = 15 then (0, c.ins.length - 1) else if i.op = 16 then (0, c.ins.length - 1) else if i.op = 17 then (0, p.codes.length - 1) else (0, 0)
theorem zagh (p : Prg) (c : Cod) (i : Ins) (h1 : 1 ≤ i.op) (h2 : i.op ≤ 19) : VM.numbers p c i = if i.a < (lm p c i).1 ∨ (lm p c i).2 < i.a ∨ (i.op = 17 ∧ some i.b ≠ (p.codes[i.a.toNat]?).map (·.params)) ∨ (i.op ≠ 17 ∧ i.b ≠ 0) then 3 else 0 := by
  unfold VM.numbers
  rw [if_neg (by omega)]
  have : (VM.numOk p c i = false ∨ (i.op ≠ 17 ∧ i.b ≠ 0)) ↔ (i.a < (lm p c i).1 ∨ (lm p c i).2 < i.a ∨ (i.op = 17 ∧ some i.b ≠ (p.codes[i.a.toNat]?).map (·.params)) ∨ (i.op ≠ 17 ∧ i.b ≠ 0)) := by
    unfold VM.numOk lm VM.isIn
    by_cases h17 : i.op = 17
    · simp [h17]
      by_cases hb : some i.b = (p.codes[i.a.toNat]?).map (·.params)
      · simp [hb]; omega
      · simp [hb]
    · simp only [h17, if_false]
      (repeat' split) <;> simp_all <;> omega
  by_cases hq : VM.numOk p c i = false ∨ (i.op ≠ 17 ∧ i.b ≠ 0)
  · rw [if_pos hq, if_pos (this.1 hq)]
  · rw [if_neg hq, if_neg (fun h => hq (this.2 h))]
set_option maxHeartbeats 4000000 in
theorem zadf (p : Prg) (hp : p.ok) : QC Tryz.prog 16 [.agg p.avs] (.int .i64 (VM.program p)) := by
  refine QC.of' fun H nx => zqr _ H nx _ ?_
  simp [zld, Prg.avs]
  have hb0 : (H.put nx (some (.row 2 [.ro (p.codes.map Cod.avs), .ro (p.words.map fun w => [.str w])]))) nx = some (.row 2 p.avs) := by simp [Prg.avs]
  have hK0 : Keep nx (H.put nx (some (.row 2 [.ro (p.codes.map Cod.avs), .ro (p.words.map fun w => [.str w])]))) H := by simp
  generalize (H.put nx (some (.row 2 [.ro (p.codes.map Cod.avs), .ro (p.words.map fun w => [.str w])]))) = H1 at *
  refine ⟨fun h1 => by unfold VM.program; rw [if_pos (by rw [h1]; simp)], fun h1 => ?_⟩
  have hpos : 0 < p.codes.length := List.length_pos_iff.2 h1
  refine ⟨fun h2 => by unfold VM.program; rw [if_pos (by omega)], fun h2 => ⟨fun h3 => by unfold VM.program; rw [if_neg (by omega), if_pos (by omega)], fun h3 => ?_⟩⟩
  have e0 : VM.program p = if p.words.all VM.word = false then 7 else if (p.codes.getD 0 ⟨0, 0, []⟩).params ≠ 0 then 10 else if p.codes.any VM.codeRange then 3 else VM.firstErr (VM.codeErr p) p.codes := by
    unfold VM.program; rw [if_neg (by omega), if_neg (by omega)]
  obtain ⟨c0, hc0⟩ : ∃ c0, p.codes[0]? = some c0 := ⟨p.codes[0]'(by omega), List.getElem?_eq_getElem _⟩
  refine LP.mk (fun m xs H' nx' => ∃ i : Nat, i ≤ p.words.length ∧ m = p.words.length - i ∧ xs = [.ptr nx 0, .ro (p.words.map fun w => [.str w]), .int .i64 p.words.length, .int .i64 i] ∧ H1 = H' ∧ nx + 1 = nx' ∧ p.words.all VM.word = (p.words.drop i).all VM.word) p.words.length
    ⟨0, by omega, by omega, by simp, rfl, rfl, rfl⟩ ?_
  rintro m xs H' nx' ⟨i, hi, rfl, rfl, rfl, rfl, hall⟩
  by_cases hlt : i < p.words.length
  · obtain ⟨w, hw⟩ : ∃ w, p.words[i]? = some w := ⟨_, List.getElem?_eq_getElem hlt⟩
    obtain ⟨_, hw'⟩ := List.getElem?_eq_some_iff.1 hw
    rw [zacp _ _ _ _ hw] at hall
    simp [zgj, hlt, hw']
    refine QC.call (zakr w (hp w (List.mem_of_getElem? hw))) ?_
    simp [zlf]
    cases hx : VM.word w
    · rw [hx] at hall
      simp [hK0]
      rw [e0, hall]; rfl
    · rw [hx] at hall
      simp
      rw [i64w (by omega)]
      exact ⟨p.words.length - (i + 1), by omega, i + 1, by omega, rfl, rfl, by simpa using hall⟩
  obtain rfl : i = p.words.length := by omega
  have hall' : p.words.all VM.word = true := by rw [hall]; simp
  rw [hall'] at e0
  simp only [Bool.true_eq_false, if_false] at e0
  obtain ⟨_, hc0'⟩ := List.getElem?_eq_some_iff.1 hc0
  have h01 : 0 < p.codes.length := by omega
  simp [zgj, hb0, Prg.avs, hc0', Cod.avs, h01]
  have hcg : p.codes.getD 0 ⟨0, 0, []⟩ = c0 := by simp [List.getD_eq_getElem?_getD, hc0]
  rw [hcg] at e0
  refine ⟨fun h4 => ⟨by rw [e0, if_pos h4], hK0⟩, fun h4 => ?_⟩
  rw [if_neg (by simpa using h4)] at e0
  refine LP.mk (fun m xs H' nx' => ∃ i : Nat, i ≤ p.codes.length ∧ m = p.codes.length - i ∧ xs = [.ptr nx 0, .ro (p.codes.map Cod.avs), .int .i64 p.codes.length, .int .i64 i] ∧ H' nx = some (.row 2 p.avs) ∧ Keep nx H' H ∧ nx < nx' ∧ p.codes.any VM.codeRange = (p.codes.drop i).any VM.codeRange) p.codes.length
    ⟨0, by omega, by omega, by simp, hb0, hK0, by omega, rfl⟩ ?_
  rintro m xs H2 n2 ⟨i, hi, rfl, rfl, hb2, hK2, hn2, hany⟩
  have hne2 : nx ≠ n2 := by omega
  by_cases hlt : i < p.codes.length
  · obtain ⟨c, hc⟩ : ∃ c, p.codes[i]? = some c := ⟨_, List.getElem?_eq_getElem hlt⟩
    obtain ⟨_, hc'⟩ := List.getElem?_eq_some_iff.1 hc
    rw [zacn _ _ _ _ hc] at hany
    have hK3 : Keep nx (H2.put n2 (some (.row 3 [.int .i64 c.params, .int .i64 c.vars, .ro (c.ins.map Ins.avs)]))) H := by rw [Keep.put (by omega)]; exact hK2
    simp [zgk, hlt, hc', Cod.avs, hK3]
    have w0 : IntKind.i64.wrap ((i : Int) + 1) = (i : Int) + 1 := i64w (by omega)
    rw [w0]
    cases hx : VM.codeRange c
    · have hx' := hx
      unfold VM.codeRange at hx'
      rw [decide_eq_false_iff_not] at hx'
      rw [hx] at hany
      refine ⟨fun _ => by omega, fun _ => ⟨fun _ => by omega, fun _ => ⟨fun _ => by omega, fun _ => ⟨fun _ => by omega, fun _ => ⟨fun he => ?_, fun _ => ⟨fun _ => by omega, fun _ => ?_⟩⟩⟩⟩⟩⟩
      · exfalso; rw [he] at hx'; simp at hx'
      · exact ⟨p.codes.length - (i + 1), by omega, i + 1, by omega, rfl, rfl, by rw [if_neg hne2, if_neg hne2]; exact hb2, by omega, by simpa using hany⟩
    · have hx' := hx
      unfold VM.codeRange at hx'
      rw [decide_eq_true_eq] at hx'
      rw [hx, Bool.true_or] at hany
      rw [hany] at e0
      simp only [if_true] at e0
      rw [e0]
      simp only [← List.length_eq_zero_iff]
      repeat' first | apply And.intro | intro _
      all_goals first | rfl | trivial | (exfalso; omega)
  obtain rfl : i = p.codes.length := by omega
  have hany' : p.codes.any VM.codeRange = false := by rw [hany]; simp
  rw [hany'] at e0
  simp only [Bool.false_eq_true, if_false] at e0
  simp [zgk, hb2, Prg.avs]
  have hr : ∀ x ∈ p.codes, VM.codeRange x = false := by simpa using hany'
  clear hany hany' hall hall' hlt hi
  refine LP.mk (fun m xs H' nx' => ∃ i : Nat, i ≤ p.codes.length ∧ m = p.codes.length - i ∧ xs = [.ptr nx 0, .ro (p.codes.map Cod.avs), .int .i64 p.codes.length, .int .i64 i] ∧ H' nx = some (.row 2 p.avs) ∧ Keep nx H' H ∧ nx < nx' ∧ VM.program p = VM.firstErr (VM.codeErr p) (p.codes.drop i)) p.codes.length
    ⟨0, by omega, by omega, by simp, hb2, hK2, by omega, by simpa using e0⟩ ?_
  clear hb2 hK2 hn2 hne2
  clear H2 n2
  rintro m xs H2 n2 ⟨k, hk, rfl, rfl, hb2, hK2, hn2, hfe⟩
  by_cases hlt : k < p.codes.length
  case neg =>
    obtain rfl : k = p.codes.length := by omega
    simp [zgl, hK2]
    rw [hfe]; simp [VM.firstErr]
  obtain ⟨c, hc⟩ : ∃ c, p.codes[k]? = some c := ⟨_, List.getElem?_eq_getElem hlt⟩
  obtain ⟨_, hc'⟩ := List.getElem?_eq_some_iff.1 hc
  have hcr := hr c (List.mem_of_getElem? hc)
  have hlen : c.ins.length ≤ 200 := by
    unfold VM.codeRange at hcr
    rw [decide_eq_false_iff_not] at hcr
    omega
  have hvars : 0 ≤ c.vars ∧ c.vars ≤ 8 := by
    unfold VM.codeRange at hcr
    rw [decide_eq_false_iff_not] at hcr
    omega
  rw [zay _ _ _ _ hc] at hfe
  have hne2 : nx ≠ n2 := by omega
  simp [zgl, hb2, Prg.avs, hlt, hc', Cod.avs]
  refine LP.mk (fun m xs H' nx' => ∃ j : Nat, j ≤ c.ins.length ∧ m = c.ins.length - j ∧ xs = [.ptr nx 0, .ptr n2 0, .ro (p.codes.map Cod.avs), .int .i64 p.codes.length, .int .i64 k, .ro (c.ins.map Ins.avs), .int .i64 c.ins.length, .int .i64 j] ∧ H' nx = some (.row 2 p.avs) ∧ H' n2 = some (.row 3 c.avs) ∧ Keep nx H' H ∧ n2 < nx' ∧ VM.firstErr (VM.numbers p c) c.ins = VM.firstErr (VM.numbers p c) (c.ins.drop j)) c.ins.length
    ⟨0, by omega, by omega, by simp, by rw [Heap.put_ne _ _ hne2]; exact hb2, by rw [Heap.put_at]; rfl, by rw [Keep.put (by omega)]; exact hK2, by omega, by simp⟩ ?_
  rintro m xs H3 n3 ⟨j, hj, rfl, rfl, hb3, hc3, hK3, hn3, hfj⟩
  have hne : nx ≠ n3 := by omega
  have hne' : n2 ≠ n3 := by omega
  by_cases hjl : j < c.ins.length
  · obtain ⟨i, hi⟩ : ∃ i, c.ins[j]? = some i := ⟨_, List.getElem?_eq_getElem hjl⟩
    obtain ⟨_, hi'⟩ := List.getElem?_eq_some_iff.1 hi
    rw [zay _ _ _ _ hi] at hfj
    have hK4 : Keep nx (H3.put n3 (some (.row 3 [.int .i64 i.op, .int .i64 i.a, .int .i64 i.b]))) H := by rw [Keep.put (by omega)]; exact hK3
    have hb4 : (H3.put n3 (some (.row 3 [.int .i64 i.op, .int .i64 i.a, .int .i64 i.b]))) nx = some (.row 2 p.avs) := by rw [Heap.put_ne _ _ hne]; exact hb3
    have hc4 : (H3.put n3 (some (.row 3 [.int .i64 i.op, .int .i64 i.a, .int .i64 i.b]))) n2 = some (.row 3 c.avs) := by rw [Heap.put_ne _ _ hne']; exact hc3
    have hi4 : (H3.put n3 (some (.row 3 [.int .i64 i.op, .int .i64 i.a, .int .i64 i.b]))) n3 = some (.row 3 [.int .i64 i.op, .int .i64 i.a, .int .i64 i.b]) := by rw [Heap.put_at]
    simp [zgm, hjl, hi', Ins.avs]
    generalize (H3.put n3 (some (.row 3 [.int .i64 i.op, .int .i64 i.a, .int .i64 i.b]))) = H4 at *
    have hbad : VM.numbers p c i ≠ 0 → VM.program p = VM.numbers p c i := by
      intro hz
      rw [if_pos hz] at hfj
      have : VM.codeErr p c = VM.numbers p c i := by unfold VM.codeErr; rw [hfj, if_pos hz]
      rw [hfe, this, if_pos hz]
    refine ⟨fun ho => ?_, fun ho1 => ⟨fun ho => ?_, fun ho2 => ?_⟩⟩
    · have e : VM.numbers p c i = 1 := by unfold VM.numbers; rw [if_pos (by omega)]
      exact ⟨by rw [hbad (by omega), e], hK4⟩
    · have e : VM.numbers p c i = 1 := by unfold VM.numbers; rw [if_pos (by omega)]
      exact ⟨by rw [hbad (by omega), e], hK4⟩
    refine JN.cut (fun xs H' nx' => xs = [.ptr nx 0, .ptr n2 0, .ptr n3 0, .int .i64 (lm p c i).1, .int .i64 (lm p c i).2, .ro (p.codes.map Cod.avs), .int .i64 p.codes.length, .int .i64 k, .ro (c.ins.map Ins.avs), .int .i64 c.ins.length, .int .i64 j] ∧ H4 = H' ∧ n3 + 1 = nx') ?_ ?_
    · rintro xs H' nx' ⟨rfl, rfl, rfl⟩
      have hnl := zagh p c i ho1 ho2
      have hgo : VM.numbers p c i = 0 → ∃ m, m < c.ins.length - j ∧ ∃ j', j' ≤ c.ins.length ∧ m = c.ins.length - j' ∧ (j : Int) + 1 = j' ∧ H4 nx = some (.row 2 p.avs) ∧ H4 n2 = some (.row 3 c.avs) ∧ Keep nx H4 H ∧ n2 < n3 + 1 ∧ VM.firstErr (VM.numbers p c) c.ins = VM.firstErr (VM.numbers p c) (List.drop j' c.ins) := by
        intro hz
        rw [if_neg (by simpa using hz)] at hfj
        exact ⟨c.ins.length - (j + 1), by omega, j + 1, by omega, rfl, rfl, hb4, hc4, hK4, by omega, hfj⟩
      have w0 : IntKind.i64.wrap ((j : Int) + 1) = (j : Int) + 1 := i64w (by omega)
      have hbad3 : VM.numbers p c i = 3 → VM.program p = 3 := fun hz => by rw [hbad (by omega), hz]
      by_cases h17 : i.op = 17
      · have hl1 : (lm p c i).1 = 0 := by simp [lm, h17]
        have hl2 : (lm p c i).2 = (p.codes.length : Int) - 1 := by simp [lm, h17]
        simp [zgn, hi4, hb4, Prg.avs, w0, h17]
        rw [hl1, hl2] at hnl ⊢
        refine ⟨fun ha => ⟨hbad3 (by rw [hnl, if_pos (.inl ha)]), hK4⟩, fun ha => ⟨fun hb => ⟨hbad3 (by rw [hnl, if_pos (.inr (.inl hb))]), hK4⟩, fun hb => ⟨ha, by omega, zaeg (by omega) fun x hx => ?_⟩⟩⟩
        simp [Cod.avs]
        refine ⟨fun hp' => ⟨hbad3 (by rw [hnl, if_pos (.inr (.inr (.inl ⟨h17, by rw [hx]; simpa using hp'⟩)))]), hK4⟩, fun hp' => ?_⟩
        have hz : VM.numbers p c i = 0 := by rw [hnl, if_neg (by rw [hx]; simp [hp', h17]; omega)]
        have := hgo hz
        simpa [hb4, Prg.avs, Cod.avs] using this
      · simp [zgn, hi4, hb4, Prg.avs, w0, h17]
        refine ⟨fun ha => ⟨hbad3 (by rw [hnl, if_pos (.inl ha)]), hK4⟩, fun ha => ⟨fun hb => ⟨hbad3 (by rw [hnl, if_pos (.inr (.inl hb))]), hK4⟩, fun hb => ⟨fun hp' => ⟨hbad3 (by rw [hnl, if_pos (.inr (.inr (.inr ⟨h17, hp'⟩)))]), hK4⟩, fun hp' => ?_⟩⟩⟩
        have hz : VM.numbers p c i = 0 := by rw [hnl, if_neg (by simp [hp', h17]; omega)]
        have := hgo hz
        simpa [hb4, Prg.avs] using this
    · have q1 : IntKind.i64.wrap ((p.words.length : Int) - 1) = (p.words.length : Int) - 1 := i64w (by omega)
      have q2 : IntKind.i64.wrap (c.vars - 1) = c.vars - 1 := i64w (by omega)
      have q3 : IntKind.i64.wrap ((c.ins.length : Int) - 1) = (c.ins.length : Int) - 1 := i64w (by omega)
      have q4 : IntKind.i64.wrap ((p.codes.length : Int) - 1) = (p.codes.length : Int) - 1 := i64w (by omega)
      simp [zlg, hb4, hc4, Prg.avs, Cod.avs, q1, q2, q3, q4]
      repeat' first | apply And.intro | intro _
      all_goals simp [lm, *]
  obtain rfl : j = c.ins.length := by omega
  have hz : VM.firstErr (VM.numbers p c) c.ins = 0 := by rw [hfj]; simp [VM.firstErr]
  have hce : VM.codeErr p c = (VM.heights c.ins).2 := by unfold VM.codeErr; rw [if_neg (by simpa using hz)]
  rw [hce] at hfe
  simp [zgm, hb3, hc3, Prg.avs, hlt, hc', Cod.avs]
  refine QC.call (zvg c (by omega) (zyd hr (zax hz))) ?_
  simp [zle]
  refine ⟨fun h0 => ⟨?_, hK3⟩, fun h0 => ?_⟩
  · rw [if_pos h0] at hfe; exact hfe
  · rw [if_neg (by simpa using h0)] at hfe
    rw [i64w (by omega)]
    exact ⟨p.codes.length - (k + 1), by omega, k + 1, by omega, rfl, rfl, hb3, hK3, by omega, hfe⟩
end Go.Proofs.YtpbnaaoilgohkaaGreatDoor
set_option maxRecDepth 8000
namespace Go.Proofs.YtpbnaaoilgohkaaGreatDoor
open Go Go.RowKit
set_option maxHeartbeats 2000000 in
theorem zxe (a : Agt) (f : Frm) (h' : Int) (H H0 : Heap) (nx n0 g : Nat) (hg : H g = some (.row 9 a.avs)) (hgn : g < nx) (hn0 : n0 ≤ nx) (hK : Keep n0 H H0) (hv : f.vars.length ≤ 8) (hb : h' ≤ 16) :
    zcl (fun v H' _ => Frz H' n0 v (.int .i64 (zam a f.vars f.stack h')) ∧ Keep n0 H' H0) [.ptr g 0, .rop f.avs 0, .int .i64 h'] H nx := by
  by_cases h1 : h' < 0 ∨ (f.stack.length : Int) ≠ h'
  · have e : zam a f.vars f.stack h' = 10 := by unfold zam; rw [if_pos h1]
    rw [e]
    by_cases h2 : h' < 0
    · simp [zcl, h2, hK]
    · have h3 : ¬ (f.stack.length : Int) = h' := by omega
      simp [zcl, h2, h3, hK, Frm.avs]
  have e : zam a f.vars f.stack h' = VM.firstErr (fun v => VM.wrong v a.heap.length) (f.vars ++ f.stack) := by unfold zam; rw [if_neg h1]
  rw [e]
  have h2 : ¬ h' < 0 := by omega
  have h3 : (f.stack.length : Int) = h' := by omega
  have hne : g ≠ nx := by omega
  simp [zcl, h2, h3, Frm.avs]
  refine LP.mk (fun m xs H' nx' => ∃ (t : Nat) (l : List Val), t ≤ 2 ∧ m = 2 - t ∧ xs = [.ptr g 0, .slc nx 0 2, .int .i64 2, .int .i64 t] ∧ H' nx = some (.row 1 [.ro (f.vars.map Val.avs), .ro (f.stack.map Val.avs)]) ∧ H' g = some (.row 9 a.avs) ∧ Keep n0 H' H0 ∧ nx < nx' ∧
    l = (if t = 0 then f.vars ++ f.stack else if t = 1 then f.stack else []) ∧ VM.firstErr (fun v => VM.wrong v a.heap.length) (f.vars ++ f.stack) = VM.firstErr (fun v => VM.wrong v a.heap.length) l) 2
    ⟨0, _, by omega, by omega, by simp, by simp, by simp [hne, hg], by rw [Keep.put (by omega)]; exact hK, by omega, rfl, rfl⟩ ?_
  rintro m xs H1 n1 ⟨t, l, ht, rfl, rfl, hb1, hg1, hK1, hn1, hl, hfe⟩
  by_cases ht2 : t = 2
  · subst ht2
    simp at hl
    subst hl
    simp [zip, hK1]
    rw [hfe]; rfl
  have hone : ∃ (cur rest : List Val), (([.ro (f.vars.map Val.avs), .ro (f.stack.map Val.avs)] : List AV)[t]? = some (.ro (cur.map Val.avs))) ∧ l = cur ++ rest ∧ cur.length ≤ 16 ∧ rest = (if t + 1 = 0 then f.vars ++ f.stack else if t + 1 = 1 then f.stack else []) := by
    have : t = 0 ∨ t = 1 := by omega
    rcases this with rfl | rfl
    · exact ⟨f.vars, f.stack, rfl, by simpa using hl, by omega, by simp⟩
    · exact ⟨f.stack, [], rfl, by simpa using hl, by omega, by simp⟩
  obtain ⟨cur, rest, hcur, hlr, hcl, hrest⟩ := hone
  have hlt : t < 2 := by omega
  obtain ⟨_, hcur'⟩ := List.getElem?_eq_some_iff.1 hcur
  have hlt' : (t : Int) < 2 := by omega
  simp [zip, hlt, hlt', Int.not_le.2 hlt', hb1, hcur']
  refine LP.mk (fun m xs H' nx' => ∃ (j : Nat), j ≤ cur.length ∧ m = cur.length - j ∧ xs = [.ptr g 0, .slc nx 0 2, .int .i64 2, .int .i64 t, .ro (cur.map Val.avs), .int .i64 cur.length, .int .i64 j] ∧ H' nx = some (.row 1 [.ro (f.vars.map Val.avs), .ro (f.stack.map Val.avs)]) ∧ H' g = some (.row 9 a.avs) ∧ Keep n0 H' H0 ∧ nx < nx' ∧
    VM.firstErr (fun v => VM.wrong v a.heap.length) (f.vars ++ f.stack) = VM.firstErr (fun v => VM.wrong v a.heap.length) (cur.drop j ++ rest)) cur.length
    ⟨0, by omega, by omega, by simp, hb1, hg1, hK1, hn1, by rw [hfe, hlr]; rfl⟩ ?_
  rintro m xs H2 n2 ⟨j, hj, rfl, rfl, hb2, hg2, hK2, hn2, hfj⟩
  by_cases hjl : j < cur.length
  · obtain ⟨v, hv⟩ : ∃ v, cur[j]? = some v := ⟨_, List.getElem?_eq_getElem hjl⟩
    obtain ⟨_, hv'⟩ := List.getElem?_eq_some_iff.1 hv
    have m1 : g ≠ n2 := by omega
    have m2 : nx ≠ n2 := by omega
    simp [ziq, hjl, hv', Val.avs, hg2, m1, Agt.avs]
    refine zt.of_qc (zvs v _) (.int _ _) ?_
    simp [znw]
    rw [List.drop_eq_getElem_cons hjl, hv', List.cons_append] at hfj
    simp only [VM.firstErr] at hfj
    have hK3 : Keep n0 (H2.put n2 (some (.row 3 [.int .i64 v.kind, .int .i64 v.n, .str v.text]))) H0 := by rw [Keep.put (by omega)]; exact hK2
    refine ⟨fun hz => ⟨?_, hK3⟩, fun hz => ?_⟩
    · rw [if_pos hz] at hfj; exact hfj
    · rw [if_neg (by simpa using hz)] at hfj
      rw [i64w (by omega)]
      exact ⟨cur.length - (j + 1), by omega, j + 1, by omega, rfl, rfl, by rw [if_neg m2]; exact hb2, by rw [if_neg m1]; exact hg2, hK3, by omega, hfj⟩
  obtain rfl : j = cur.length := by omega
  simp [ziq]
  rw [i64w (by omega)]
  exact ⟨2 - (t + 1), by omega, t + 1, by omega, rfl, rfl, hb2, hg2, hK2, by omega, by rw [← hrest]; simpa using hfj⟩
set_option maxHeartbeats 4000000 in
theorem zalx (a : Agt) (k : Nat) (away : Bool) (H : Heap) (nx g : Nat) (hg : H g = some (.row 9 a.avs)) (hgn : g < nx) (hk : k < a.frames.length) (hl : a.frames.length ≤ 12) (hp : VM.program a.prog = 0) :
    za Tryz.prog 51 [.ptr g 0, .int .i64 k, .bool away] H nx fun v H' nx' => Frz H' nx v (.int .i64 (VM.frame a k away)) ∧ Keep nx H' H := by
  refine ztd _ _ _ H nx _ ?_
  obtain ⟨f, hf⟩ : ∃ f, a.frames[k]? = some f := ⟨_, List.getElem?_eq_getElem hk⟩
  obtain ⟨_, hf'⟩ := List.getElem?_eq_some_iff.1 hf
  obtain ⟨fn, at_, vs, st⟩ := f
  by_cases h1 : 0 ≤ fn ∧ fn < a.prog.codes.length
  case neg =>
    have e : VM.frame a k away = 3 := by
      unfold VM.frame
      rw [hf]
      have : (if 0 ≤ fn then a.prog.codes[fn.toNat]? else none) = none := by
        split
        · exact List.getElem?_eq_none (by omega)
        · rfl
      simp only [this]
    rw [e]
    by_cases h0 : fn < 0
    · simp [zbh, hg, Agt.avs, hk, hf', Frm.avs, h0]
    · have : (a.prog.codes.length : Int) ≤ fn := by omega
      simp [zbh, hg, Agt.avs, hk, hf', Frm.avs, h0, this]
  obtain ⟨h10, h11⟩ := h1
  obtain ⟨n, rfl⟩ : ∃ n : Nat, fn = n := ⟨fn.toNat, by omega⟩
  have hnl : n < a.prog.codes.length := by omega
  obtain ⟨c, hc⟩ : ∃ c, a.prog.codes[n]? = some c := ⟨_, List.getElem?_eq_getElem hnl⟩
  obtain ⟨_, hc'⟩ := List.getElem?_eq_some_iff.1 hc
  obtain ⟨hcr, hcalm, hch⟩ := (zbv hp).1 c (List.mem_of_getElem? hc)
  have hcr' : ¬ (c.params < 0 ∨ 4 < c.params ∨ c.vars < c.params ∨ 8 < c.vars ∨ c.ins.length < 1 ∨ 200 < c.ins.length) := by
    unfold VM.codeRange at hcr
    rwa [decide_eq_false_iff_not] at hcr
  by_cases h2 : (0 ≤ at_ ∧ at_ < c.ins.length) ∧ (vs.length : Int) = c.vars
  case neg =>
    have e : VM.frame a k away = 3 := by
      unfold VM.frame
      rw [hf]
      simp only [Int.toNat_natCast]
      rw [if_pos (by omega), hc]
      simp only
      by_cases hat : 0 ≤ at_ ∧ at_ < c.ins.length
      · rw [if_pos hat.1, List.getElem?_eq_getElem (by omega)]
        simp only
        rw [if_pos (by omega)]
      · have : (if 0 ≤ at_ then c.ins[at_.toNat]? else none) = none := by
          split
          · exact List.getElem?_eq_none (by omega)
          · rfl
        simp only [this]
    rw [e]
    by_cases h0 : at_ < 0
    · simp [zbh, hg, Agt.avs, hk, hf', Frm.avs, Int.not_le.2 h11, hnl, hc', h0, Cod.avs]
    · by_cases h3 : (c.ins.length : Int) ≤ at_
      · simp [zbh, hg, Agt.avs, hk, hf', Frm.avs, Int.not_le.2 h11, hnl, hc', h0, h3, Cod.avs]
      · have h4 : ¬ (vs.length : Int) = c.vars := by omega
        simp [zbh, hg, Agt.avs, hk, hf', Frm.avs, Int.not_le.2 h11, hnl, hc', h0, h3, h4, Cod.avs]
  obtain ⟨⟨h20, h21⟩, h22⟩ := h2
  obtain ⟨m, rfl⟩ : ∃ m : Nat, at_ = m := ⟨at_.toNat, by omega⟩
  have hml : m < c.ins.length := by omega
  obtain ⟨hhl, hhb⟩ := zeh hcalm hch
  obtain ⟨h, hh⟩ : ∃ h, (VM.heights c.ins).1[m]? = some h := ⟨_, List.getElem?_eq_getElem (by omega)⟩
  obtain ⟨hm1, hh'⟩ := List.getElem?_eq_some_iff.1 hh
  have hhb' := hhb h (List.mem_of_getElem? hh)
  have hfe := zabs (away := away) hf hc hml h22 rfl hh
  have hnm : ¬ (c.ins.length ≤ m) := by omega
  have hnn : ¬ (a.prog.codes.length ≤ n) := by omega
  simp [zbh, hg, Agt.avs, hk, hf', Frm.avs, hnl, hc', h22, Cod.avs, hml, hnm, hnn]
  refine ⟨fun h => by omega, fun h => by omega, QC.call (zxc c (by omega) hcalm) ?_⟩
  simp [znv, hm1, hh']
  refine JN.same ?_
  have w1 : IntKind.i64.wrap ((a.frames.length : Int) - 1) = (a.frames.length : Int) - 1 := i64w (by omega)
  simp [zny, hg, Agt.avs, w1]
  have key : znx (fun v H' nx' => Frz H' nx v (.int .i64 (VM.frame a k away)) ∧ Keep nx H' H) [.ptr g 0, .int .i64 k, .rop [.int .i64 n, .int .i64 m, .ro (vs.map Val.avs), .ro (st.map Val.avs)] 0,
      .rop [.int .i64 c.params, .int .i64 c.vars, .ro (c.ins.map Ins.avs)] 0, .ro ((VM.heights c.ins).1.map fun n => [.int .i64 n]), .int .i64 h, .bool (!decide (k + 1 = a.frames.length) || away)] H nx := by
    refine JN.same ?_
    have hvl : vs.length ≤ 8 := by omega
    cases hw : (!decide (k + 1 = a.frames.length) || away)
    · rw [hw] at hfe
      simp only [Bool.false_and, Bool.false_eq_true, if_false] at hfe
      rw [hfe]
      simp [zel]
      exact zxe a ⟨n, m, vs, st⟩ h H H nx nx g hg hgn (Nat.le_refl _) (by simp) hvl hhb'.2
    rw [hw] at hfe
    simp only [Bool.true_and, if_true] at hfe
    cases m with
    | zero =>
      simp [zel]
      rw [hfe]; simp
    | succ m =>
    have h00 : ¬ ((m : Int) + 1 = 0) := by omega
    have w2 : IntKind.i64.wrap (h - 1) = h - 1 := i64w (by omega)
    have w3 : IntKind.i64.wrap (m : Int) = m := i64w (by omega)
    have hml' : m < c.ins.length := by omega
    obtain ⟨i, hi⟩ : ∃ i, c.ins[m]? = some i := ⟨_, List.getElem?_eq_getElem hml'⟩
    obtain ⟨_, hi'⟩ := List.getElem?_eq_some_iff.1 hi
    obtain ⟨q, hq⟩ : ∃ q, (VM.heights c.ins).1[m]? = some q := ⟨_, List.getElem?_eq_getElem (by omega)⟩
    obtain ⟨hqm, hq'⟩ := List.getElem?_eq_some_iff.1 hq
    simp [zel, h00, w2]
    refine JN.same ?_
    simp [znz, w3, hml', hi', Ins.avs]
    have hn1 : g ≠ nx := by omega
    have hg2 : (H.put nx (some (.row 3 [.int .i64 i.op, .int .i64 i.a, .int .i64 i.b]))) g = some (.row 9 a.avs) := by rw [Heap.put_ne _ _ hn1]; exact hg
    have hi2 : (H.put nx (some (.row 3 [.int .i64 i.op, .int .i64 i.a, .int .i64 i.b]))) nx = some (.row 3 [.int .i64 i.op, .int .i64 i.a, .int .i64 i.b]) := Heap.put_at _ _ _
    have hK2 : Keep nx (H.put nx (some (.row 3 [.int .i64 i.op, .int .i64 i.a, .int .i64 i.b]))) H := by simp
    generalize (H.put nx (some (.row 3 [.int .i64 i.op, .int .i64 i.a, .int .i64 i.b]))) = H2 at *
    have hfin : zft a k c (VM.heights c.ins).1 (m + 1) = false → zcl (fun v H' nx' => Frz H' nx v (.int .i64 (VM.frame a k away)) ∧ Keep nx H' H) [.ptr g 0, .rop [.int .i64 n, .int .i64 (m + 1), .ro (vs.map Val.avs), .ro (st.map Val.avs)] 0, .int .i64 (h - 1)] H2 (nx + 1) := by
      intro hb
      have : VM.frame a k away = zam a vs st (h - 1) := by rw [hfe, if_neg (by simp [hb]; omega)]
      rw [this]
      exact zxe a ⟨n, m + 1, vs, st⟩ (h - 1) H2 H (nx + 1) nx g hg2 (by omega) (by omega) hK2 hvl (by omega)
    have hbadv : zft a k c (VM.heights c.ins).1 (m + 1) = true → VM.frame a k away = 10 := fun hb => by rw [hfe, if_pos (by simp [hb])]
    have hbp : zft a k c (VM.heights c.ins).1 (m + 1) = ((!decide (k + 1 = a.frames.length) && (decide (i.op ≠ 17) || decide (i.a ≠ ((a.frames[k + 1]?).map (·.fn)).getD 0))) || (decide (k + 1 = a.frames.length) && decide (i.op ≠ 13)) || decide (q < 0)) := by
      unfold zft
      simp only [Nat.add_sub_cancel, List.getD_eq_getElem?_getD, hi, hq, Option.getD_some]
    rw [hbp] at hfin hbadv
    by_cases hlast : k + 1 = a.frames.length
    · have l1 : ¬ ((k : Int) < (a.frames.length : Int) - 1) := by omega
      have l2 : (k : Int) = (a.frames.length : Int) - 1 := by omega
      simp [hlast] at hfin hbadv
      simp [zir, hg2, hi2, Agt.avs, w1, l2, w3, hqm, hq']
      refine ⟨fun h13 => ⟨hbadv (.inl h13), hK2⟩, fun h13 => ⟨fun hq0 => ⟨hbadv (.inr hq0), hK2⟩, fun hq0 => hfin h13 hq0⟩⟩
    · have l1 : (k : Int) < (a.frames.length : Int) - 1 := by omega
      have l2 : ¬ ((k : Int) = (a.frames.length : Int) - 1) := by omega
      have hk2 : k + 1 < a.frames.length := by omega
      obtain ⟨f2, hf2⟩ : ∃ f2, a.frames[k + 1]? = some f2 := ⟨_, List.getElem?_eq_getElem hk2⟩
      obtain ⟨_, hf2'⟩ := List.getElem?_eq_some_iff.1 hf2
      rw [hf2] at hfin hbadv
      simp [hlast] at hfin hbadv
      have w4 : IntKind.i64.wrap ((k : Int) + 1) = (k : Int) + 1 := i64w (by omega)
      have hk2i : (k : Int) + 1 < a.frames.length := by omega
      have hk0 : (0 : Int) ≤ (k : Int) + 1 := by omega
      have htn : ((k : Int) + 1).toNat = k + 1 := by omega
      simp [zir, hg2, hi2, Agt.avs, w1, l1, l2, w3, w4, hqm, hq', hk2i, hk0, htn, hk2, hf2', Frm.avs]
      refine ⟨fun h17 => ⟨hbadv (.inl (.inl h17)), hK2⟩, fun h17 => ⟨fun ha => ⟨hbadv (.inl (.inr ha)), hK2⟩, fun ha => ⟨fun hq0 => ⟨hbadv (.inr hq0), hK2⟩, fun hq0 => hfin h17 ha hq0⟩⟩⟩
  refine ⟨fun hlt => ?_, fun hge => ?_⟩
  · have : (!decide (k + 1 = a.frames.length) || away) = true := by simp; left; omega
    rw [this] at key; exact key
  · have : (!decide (k + 1 = a.frames.length) || away) = away := by simp; intro; omega
    rw [this] at key; exact key
end Go.Proofs.YtpbnaaoilgohkaaGreatDoor
set_option maxRecDepth 8000
namespace Go.Proofs.YtpbnaaoilgohkaaGreatDoor
open Go Go.RowKit
set_option maxHeartbeats 4000000 in
theorem zanh (a : Agt) (away : Bool) (ha : a.prog.ok) : QC Tryz.prog 25 [.agg a.avs, .bool away] (.int .i64 (VM.agent a away)) := by
  refine QC.of' fun H nx => zte _ _ H nx _ ?_
  simp [zoa, Agt.avs]
  refine QC.call (zagb a.prog ha) ?_
  have hg : (H.put nx (some (.row 9 [.int .i64 a.id, .int .i64 a.trip, .ro (a.prog.codes.map Cod.avs), .ro (a.prog.words.map fun w => [.str w]), .ro (a.frames.map Frm.avs), .ro (a.heap.map Cl.avs), .int .i64 a.permit.fuel, .int .i64 a.permit.room, .int .i64 a.permit.hops]))) nx = some (.row 9 a.avs) := Heap.put_at _ _ _
  have hK : Keep nx (H.put nx (some (.row 9 [.int .i64 a.id, .int .i64 a.trip, .ro (a.prog.codes.map Cod.avs), .ro (a.prog.words.map fun w => [.str w]), .ro (a.frames.map Frm.avs), .ro (a.heap.map Cl.avs), .int .i64 a.permit.fuel, .int .i64 a.permit.room, .int .i64 a.permit.hops]))) H := by simp
  generalize (H.put nx (some (.row 9 [.int .i64 a.id, .int .i64 a.trip, .ro (a.prog.codes.map Cod.avs), .ro (a.prog.words.map fun w => [.str w]), .ro (a.frames.map Frm.avs), .ro (a.heap.map Cl.avs), .int .i64 a.permit.fuel, .int .i64 a.permit.room, .int .i64 a.permit.hops]))) = H1 at *
  by_cases hp : VM.program a.prog = 0
  case neg =>
    have e : VM.agent a away = VM.program a.prog := by unfold VM.agent; rw [if_pos hp]
    rw [e]
    simp [zen, hp, hK]
  have hn1 : nx ≠ nx + 1 := by omega
  have hg2 : (H1.put (nx + 1) (some (.row 3 [.int .i64 a.permit.fuel, .int .i64 a.permit.room, .int .i64 a.permit.hops]))) nx = some (.row 9 a.avs) := by rw [Heap.put_ne _ _ hn1]; exact hg
  have hK2 : Keep nx (H1.put (nx + 1) (some (.row 3 [.int .i64 a.permit.fuel, .int .i64 a.permit.room, .int .i64 a.permit.hops]))) H := by rw [Keep.put (by omega)]; exact hK
  have hr2 : (H1.put (nx + 1) (some (.row 3 [.int .i64 a.permit.fuel, .int .i64 a.permit.room, .int .i64 a.permit.hops]))) (nx + 1) = some (.row 3 [.int .i64 a.permit.fuel, .int .i64 a.permit.room, .int .i64 a.permit.hops]) := Heap.put_at _ _ _
  have e3 : (a.id < 0 ∨ 1073741824 < a.id ∨ a.trip < 0 ∨ 1073741824 < a.trip ∨ a.permit.fuel < 0 ∨ 2000 < a.permit.fuel ∨ a.permit.room < 0 ∨ 60 < a.permit.room ∨ a.permit.hops < 0 ∨ 12 < a.permit.hops) → VM.agent a away = 3 := fun h => by
    unfold VM.agent; rw [if_neg (by simpa using hp), if_pos h]
  by_cases hr : (a.id < 0 ∨ 1073741824 < a.id ∨ a.trip < 0 ∨ 1073741824 < a.trip ∨ a.permit.fuel < 0 ∨ 2000 < a.permit.fuel ∨ a.permit.room < 0 ∨ 60 < a.permit.room ∨ a.permit.hops < 0 ∨ 12 < a.permit.hops)
  · have e := e3 hr
    simp [zen, hp, hg, Agt.avs]
    generalize (H1.put (nx + 1) (some (.row 3 [.int .i64 a.permit.fuel, .int .i64 a.permit.room, .int .i64 a.permit.hops]))) = H2 at *
    simp only [e]
    repeat' first | exact hK | exact hK2 | apply And.intro | intro _
    all_goals first | trivial | (exfalso; omega)
  have w1 : IntKind.i64.wrap (60 - a.permit.room) = 60 - a.permit.room := i64w (by omega)
  have e0 : VM.agent a away = if a.frames.length < 1 ∨ 12 < a.frames.length then 5 else if 60 - a.permit.room < a.heap.length then 4 else if VM.framesErr a away ≠ 0 then VM.framesErr a away else VM.firstErr (VM.cellErr a.heap.length) a.heap := by
    unfold VM.agent; rw [if_neg (by simpa using hp), if_neg hr]
  simp [zen, hp, hg, Agt.avs, w1]
  generalize (H1.put (nx + 1) (some (.row 3 [.int .i64 a.permit.fuel, .int .i64 a.permit.room, .int .i64 a.permit.hops]))) = H2 at *
  refine ⟨fun h => by omega, fun _ => ⟨fun h => by omega, fun _ => ⟨fun h => by omega, fun _ => ⟨fun h => by omega, fun _ => ⟨fun h => by omega, fun _ => ⟨fun h => by omega, fun _ => ⟨fun h => by omega, fun _ => ⟨fun h => by omega, fun _ => ⟨fun h => by omega, fun _ => ⟨fun h => by omega, fun _ => ?_⟩⟩⟩⟩⟩⟩⟩⟩⟩⟩
  refine ⟨fun h => ⟨by rw [e0, if_pos (by omega)], hK⟩, fun f1 => ⟨fun h => ⟨by rw [e0, if_pos (by omega)], hK⟩, fun f2 => ⟨fun h => ⟨by rw [e0, if_neg (by omega), if_pos h], hK⟩, fun f3 => ?_⟩⟩⟩
  rw [if_neg (by omega), if_neg (by omega)] at e0
  refine LP.mk (fun m xs H' nx' => ∃ i : Nat, i ≤ a.frames.length ∧ m = a.frames.length - i ∧ xs = [.bool away, .ptr nx 0, .int .i64 a.frames.length, .int .i64 i] ∧ H' nx = some (.row 9 a.avs) ∧ Keep nx H' H ∧ nx < nx' ∧ VM.framesErr a away = VM.firstErr (fun k => VM.frame a k away) ((List.range a.frames.length).drop i)) a.frames.length
    ⟨0, by omega, by omega, by simp, hg2, hK2, by omega, rfl⟩ ?_
  rintro m xs H3 n3 ⟨k, hk, rfl, rfl, hg3, hK3, hn3, hfe⟩
  by_cases hlt : k < a.frames.length
  · have hr : (List.range a.frames.length)[k]? = some k := by simp [hlt]
    rw [zay _ _ _ _ hr] at hfe
    simp [zis, hlt]
    refine za.pure_call (zalx a k away H3 n3 nx hg3 hn3 hlt (by omega) hp) ?_
    simp [zob]
    refine ⟨fun hz => ⟨?_, hK3⟩, fun hz => ?_⟩
    · rw [if_pos hz] at hfe
      rw [e0, hfe, if_pos hz]
    · rw [if_neg (by simpa using hz)] at hfe
      rw [i64w (by omega)]
      exact ⟨a.frames.length - (k + 1), by omega, k + 1, by omega, rfl, rfl, hg3, hK3, hn3, hfe⟩
  obtain rfl : k = a.frames.length := by omega
  have hz : VM.framesErr a away = 0 := by rw [hfe, List.drop_of_length_le (by simp)]; rfl
  rw [if_neg (by simpa using hz)] at e0
  simp [zis, hg3, Agt.avs]
  refine LP.mk (fun m xs H' nx' => ∃ i : Nat, i ≤ a.heap.length ∧ m = a.heap.length - i ∧ xs = [.ptr nx 0, .ro (a.heap.map Cl.avs), .int .i64 a.heap.length, .int .i64 i] ∧ H' nx = some (.row 9 a.avs) ∧ Keep nx H' H ∧ nx < nx' ∧ VM.agent a away = VM.firstErr (VM.cellErr a.heap.length) (a.heap.drop i)) a.heap.length
    ⟨0, by omega, by omega, by simp, hg3, hK3, by omega, e0⟩ ?_
  rintro m xs H4 n4 ⟨k, hk, rfl, rfl, hg4, hK4, hn4, hfe⟩
  by_cases hlt : k < a.heap.length
  case neg =>
    obtain rfl : k = a.heap.length := by omega
    simp [zit, hK4]
    rw [hfe]; simp [VM.firstErr]
  obtain ⟨c, hc⟩ : ∃ c, a.heap[k]? = some c := ⟨_, List.getElem?_eq_getElem hlt⟩
  obtain ⟨_, hc'⟩ := List.getElem?_eq_some_iff.1 hc
  rw [zay _ _ _ _ hc] at hfe
  obtain ⟨l, r⟩ := c
  simp [zit, hlt, hc', Cl.avs, Val.avs]
  have m1 : nx ≠ n4 := by omega
  have m2 : nx ≠ n4 + 1 := by omega
  have hlen : a.heap.length ≤ 60 := by omega
  refine LP.mk (fun m xs H' nx' => ∃ j : Nat, j ≤ 2 ∧ m = 2 - j ∧ xs = [.ptr nx 0, .ro (a.heap.map Cl.avs), .int .i64 a.heap.length, .int .i64 k, .slc (n4 + 1) 0 2, .int .i64 2, .int .i64 j] ∧ H' nx = some (.row 9 a.avs) ∧ Keep nx H' H ∧ n4 + 1 < nx' ∧
    H' (n4 + 1) = some (.row 3 [.int .i64 l.kind, .int .i64 l.n, .str l.text, .int .i64 r.kind, .int .i64 r.n, .str r.text]) ∧ (1 ≤ j → VM.wrong l a.heap.length = 0) ∧ (2 ≤ j → VM.wrong r a.heap.length = 0)) 2
    ⟨0, by omega, by omega, by simp, ?_, ?_, by omega, by simp, by omega, by omega⟩ ?_
  · rw [Heap.put_ne _ _ m2, Heap.put_ne _ _ m1]; exact hg4
  · rw [Keep.put (by omega), Keep.put (by omega)]; exact hK4
  rintro m xs H5 n5 ⟨j, hj, rfl, rfl, hg5, hK5, hn5, hr5, hj1, hj2⟩
  have hce : VM.cellErr a.heap.length ⟨l, r⟩ = if VM.wrong l a.heap.length ≠ 0 then VM.wrong l a.heap.length else VM.wrong r a.heap.length := rfl
  rw [hce] at hfe
  have m3 : nx ≠ n5 := by omega
  have m4 : n4 + 1 ≠ n5 := by omega
  have hj3 : j = 0 ∨ j = 1 ∨ j = 2 := by omega
  rcases hj3 with rfl | rfl | rfl
  · simp [zem, hr5, hg5, m3, m4, Agt.avs]
    refine QC.call (zvs l _) ?_
    simp [ziu]
    have hK6 : Keep nx (H5.put n5 (some (.row 3 [.int .i64 l.kind, .int .i64 l.n, .str l.text]))) H := by rw [Keep.put (by omega)]; exact hK5
    refine ⟨fun hz => ⟨by rw [hfe, if_pos hz, if_pos hz], hK6⟩, fun hz => ?_⟩
    exact ⟨2 - 1, by omega, 1, by omega, rfl, by rw [i64w (by omega)]; rfl, by rw [if_neg m3]; exact hg5, hK6, by omega, by rw [if_neg m4]; exact hr5, fun _ => hz, by omega⟩
  · simp [zem, hr5, hg5, m3, m4, Agt.avs]
    refine QC.call (zvs r _) ?_
    simp [ziu]
    have hK6 : Keep nx (H5.put n5 (some (.row 3 [.int .i64 r.kind, .int .i64 r.n, .str r.text]))) H := by rw [Keep.put (by omega)]; exact hK5
    have hz1 := hj1 (by omega)
    rw [hz1] at hfe
    simp at hfe
    refine ⟨fun hz => ⟨by rw [hfe]; simp [hz], hK6⟩, fun hz => ?_⟩
    exact ⟨2, by omega, by omega, by rw [i64w (by omega)]; rfl, by rw [if_neg m3]; exact hg5, hK6, by omega, by rw [if_neg m4]; exact hr5, fun _ => hz1, fun _ => hz⟩
  · simp [zem]
    rw [i64w (by omega)]
    have hz1 := hj1 (by omega)
    have hz2 := hj2 (by omega)
    rw [hz1, hz2] at hfe
    simp at hfe
    exact ⟨a.heap.length - (k + 1), by omega, k + 1, by omega, rfl, rfl, hg5, hK5, by omega, hfe⟩
end Go.Proofs.YtpbnaaoilgohkaaGreatDoor
set_option maxRecDepth 8000
namespace Go.Proofs.YtpbnaaoilgohkaaGreatDoor
open Go Go.RowKit
def FrzO (H : Heap) (G : Nat → Prop) (g : Nat) (o : AObj) : Prop := H g = some o ∨ ∃ sz cs cs', H g = some (.row sz cs) ∧ o = .row sz cs' ∧ zes H G cs cs'
theorem FrzO.some {H : Heap} {G : Nat → Prop} {g : Nat} {o : AObj} (h : FrzO H G g o) : ∃ o1, H g = some o1 := by
  rcases h with h | ⟨sz, cs, _, h, _⟩
  · exact ⟨_, h⟩
  · exact ⟨_, h⟩
theorem Sim.freeze {A : Nat → Prop} {ρ : Nat → Loc} {H H0 : Heap} {w : World} {G : Nat → Prop} (s : Sim A ρ H w) (h0 : ∀ g o, H0 g = some o → ¬ G g ∧ FrzO H G g o) :
    Sim A ρ H0 w ∧ Fr A ρ H w A ρ H0 w ∧ ∀ (v u : AV) (c : Value), FrzP H G v u → VRel (Kof ρ H w) ρ A v c → VRel (Kof ρ H0 w) ρ A u c := by
  let H1 : Heap := fun g => if (H0 g).isSome then H g else none
  have h1 : ∀ g o, H1 g = some o → ¬ G g ∧ H g = some o := fun g o hg => by
    by_cases h : (H0 g).isSome = true
    · obtain ⟨o', ho'⟩ := Option.isSome_iff_exists.1 h
      simp only [H1, if_pos h] at hg
      exact ⟨(h0 g o' ho').1, hg⟩
    · simp only [H1, if_neg h] at hg; cases hg
  have hdom : ∀ g, (H1 g).isSome = (H0 g).isSome := fun g => by
    by_cases h : (H0 g).isSome = true
    · obtain ⟨o', ho'⟩ := Option.isSome_iff_exists.1 h
      obtain ⟨o1, ho1⟩ := (h0 g o' ho').2.some
      simp only [H1, if_pos h, ho1, ho', Option.isSome_some]
    · simp only [H1, if_neg h]
      cases h2 : H0 g with
      | none => rfl
      | some x => rw [h2] at h; exact absurd rfl h
  have hK : Kof ρ H1 w = Kof ρ H0 w := by
    funext b
    refine Option.ext fun o => ?_
    rw [zo, zo]
    simp only [hdom]
  obtain ⟨s1, f1⟩ := s.drop (H' := H1) fun g o ho => (h1 g o ho).2
  have rel : ∀ (v u : AV) (c : Value), FrzP H G v u → VRel (Kof ρ H w) ρ A v c → VRel (Kof ρ H0 w) ρ A u c := fun v u c hf hc => by
    have := hf.rel s h1 c hc
    rw [hK] at this
    exact this
  have some1 : ∀ g o, H0 g = some o → ∃ o1, H1 g = some o1 := fun g o hg => by
    have := hdom g
    rw [hg] at this
    exact Option.isSome_iff_exists.1 this
  refine ⟨⟨fun g o hg => ?_, fun g o hg => ?_, fun x y hx hy => s1.inj x y (by rw [hdom]; exact hx) (by rw [hdom]; exact hy), by rw [← hK]; exact s1.lay⟩, ?_, rel⟩
  · obtain ⟨o1, ho1⟩ := some1 g o hg
    exact s1.live g o1 ho1
  · rcases (h0 g o hg).2 with h | ⟨sz, cs, cs', h, rfl, hf⟩
    · have : H1 g = some o := by simp only [H1, hg, Option.isSome_some, if_true]; exact h
      have := s1.obj g o this
      rw [hK] at this
      exact this
    · obtain ⟨c, e, lo, hi, q1, q2, q3, q4, q5, q6⟩ := s.obj g _ h
      refine ⟨c, e, lo, hi, q1, q2, q3, q4, by rw [hf.1]; exact q5, fun j v hv => ?_⟩
      have hlt := (List.getElem?_eq_some_iff.1 hv).1
      rw [hf.1] at hlt
      have hx : cs[j]? = some cs[j] := List.getElem?_eq_getElem hlt
      obtain ⟨cv, r1, r2⟩ := q6 j _ hx
      exact ⟨cv, r1, rel _ _ _ (hf.2 j _ v hx hv) r2⟩
  · have e : Fr A ρ H w A ρ H0 w = Fr A ρ H w A ρ H0 w := rfl
    obtain ⟨a1, a2, a3, a4, a5, a6⟩ := f1
    exact ⟨a1, by rw [← hK]; exact a2, a3, a4, a5, a6⟩
theorem za.thawR {P : Program} {f : FuncId} {args args' : List AV} {H H0 : Heap} {nx : Nat} {G : Nat → Prop} {Q : AV → Heap → Nat → Prop} (h : za P f args H0 nx Q) (hf : zes H G args' args) (h0 : ∀ g o, H0 g = some o → ¬ G g ∧ FrzO H G g o) : za P f args' H nx Q := by
  intro ρ w cargs s ha
  obtain ⟨s0, f0, rel⟩ := s.freeze h0
  refine zj (h ρ w cargs s0 ⟨ha.1.trans hf.1.symm, fun j u c hu hc => ?_⟩) fun cv w' ⟨r', H', nx', ρ', q1, q3, q4, q5⟩ => ⟨r', H', nx', ρ', q1, q3, q4, f0.trans q5⟩
  have hj : j < args'.length := by have := (List.getElem?_eq_some_iff.1 hu).1; rw [hf.1] at this; exact this
  have hv : args'[j]? = some args'[j] := List.getElem?_eq_getElem hj
  exact rel _ u c (hf.2 j _ u hv hu) (ha.2 j _ c hv hc)
end Go.Proofs.YtpbnaaoilgohkaaGreatDoor
set_option maxRecDepth 8000
namespace Go.Proofs.YtpbnaaoilgohkaaGreatDoor
open Go Go.RowKit
inductive FL (H : Heap) (nx : Nat) : List AV → List AV → Prop
  | nil : FL H nx [] []
  | cons {u v : AV} {us vs : List AV} : Frz H nx u v → FL H nx us vs → FL H nx (u :: us) (v :: vs)
section
variable {H : Heap} {nx : Nat}
theorem FL.append : ∀ {us vs us' vs' : List AV}, FL H nx us vs → FL H nx us' vs' → FL H nx (us ++ us') (vs ++ vs')
  | _, _, _, _, .nil, k => k
  | _, _, _, _, .cons a b, k => .cons a (b.append k)
theorem FL.same : ∀ {l : List AV}, (∀ c ∈ l, Bel (· < nx) c) → FL H nx l l
  | [], _ => .nil
  | c :: r, h => .cons (.same _ (h c (by simp))) (FL.same fun x hx => h x (by simp [hx]))
theorem FL.get : ∀ {us vs : List AV}, FL H nx us vs → ∀ {j : Nat} {v : AV}, vs[j]? = some v → ∃ u, us[j]? = some u ∧ Frz H nx u v
  | _, _, .nil, j, v, h => by simp at h
  | _, _, .cons a b, 0, v, h => by simp at h; subst h; exact ⟨_, rfl, a⟩
  | _, _, .cons a b, j + 1, v, h => by simpa using b.get (j := j) (by simpa using h)
theorem FL.len : ∀ {us vs : List AV}, FL H nx us vs → us.length = vs.length
  | _, _, .nil => rfl
  | _, _, .cons a b => by simp [b.len]
theorem Frz.rowL {g off len sz : Nat} {cells : List AV} {xs : List (List AV)} (hg : nx ≤ g) (hH : H g = some (.row sz cells)) (hl : xs.length = len) (hs : ∀ x ∈ xs, x.length = sz) (hb : off + len * sz ≤ cells.length) (hc : FL H nx ((cells.drop off).take (len * sz)) xs.flatten) :
    Frz H nx (.slc g off len) (.ro xs) := by
  have key : ∀ (i : Nat) (x : List AV) (j : Nat) (v : AV), xs[i]? = some x → x[j]? = some v → ∃ u, cells[off + i * sz + j]? = some u ∧ Frz H nx u v := fun i x j v hx hv => by
    have e1 := zjx hs hx
    have hj : j < sz := by rw [← hs x (List.mem_of_getElem? hx)]; exact (List.getElem?_eq_some_iff.1 hv).1
    have hv2 : xs.flatten[i * sz + j]? = some v := by
      have e2 := congrArg (·[j]?) e1
      simp only [List.getElem?_take, List.getElem?_drop, hj, if_true] at e2
      rw [e2]; exact hv
    obtain ⟨u, q1, q2⟩ := hc.get hv2
    refine ⟨u, ?_, q2⟩
    rw [List.getElem?_take] at q1
    split at q1
    · rw [List.getElem?_drop] at q1; rw [Nat.add_assoc]; exact q1
    · cases q1
  refine .slc g off _ sz cells _ hg hH hb hl hs (fun i j => (cells[off + i * sz + j]?).getD .junk) (fun i x j v hx hv => ?_) (fun i x j v hx hv => ?_)
  · obtain ⟨u, q1, q2⟩ := key i x j v hx hv; rw [q1]; rfl
  · obtain ⟨u, q1, q2⟩ := key i x j v hx hv; rw [q1]; exact q2
theorem Frz.rowW {g len sz : Nat} {cells : List AV} {xs : List (List AV)} (hg : nx ≤ g) (hH : H g = some (.row sz cells)) (hl : xs.length = len) (hs : ∀ x ∈ xs, x.length = sz) (hc : FL H nx cells xs.flatten) : Frz H nx (.slc g 0 len) (.ro xs) := by
  have e : cells.length = len * sz := by rw [hc.len, zdm hs, hl]
  refine .rowL hg hH hl hs (by omega) ?_
  rw [List.drop_zero, List.take_of_length_le (by omega)]; exact hc
theorem FL.agg {us vs : List AV} (h : FL H nx us vs) : Frz H nx (.agg us) (.agg vs) := by
  refine .agg _ _ h.len.symm fun j v u hv hu => ?_
  obtain ⟨w, q1, q2⟩ := h.get hu
  rw [hv] at q1; cases q1; exact q2
theorem FL.tup {us vs : List AV} (h : FL H nx us vs) : Frz H nx (.tup us) (.tup vs) := by
  refine .tup _ _ h.len.symm fun j v u hv hu => ?_
  obtain ⟨w, q1, q2⟩ := h.get hu
  rw [hv] at q1; cases q1; exact q2
end
end Go.Proofs.YtpbnaaoilgohkaaGreatDoor
set_option maxRecDepth 8000
namespace Go.Proofs.YtpbnaaoilgohkaaGreatDoor
open Go Go.RowKit
theorem VM.rdText_len {most : Int} (h : 0 ≤ most) (st : VM.St) : ((VM.rdText most st).1.length : Int) ≤ most := by
  unfold VM.rdText
  split
  · simpa using h
  · split
    · simpa using h
    · unfold WM.getText
      repeat' split
      all_goals first
        | (simp; omega)
        | (simp only [List.length_take, List.length_drop]; omega)
theorem VM.many_all {α : Type} {m : VM.St → α × VM.St} {p : α → Prop} (h : ∀ st, p (m st).1) : ∀ (n : Nat) (st : VM.St), ∀ x ∈ (VM.rdMany m n st).1, p x
  | 0, _, x, hx => by simp [VM.rdMany] at hx
  | n + 1, st, x, hx => by
    simp only [VM.rdMany, List.mem_append, List.mem_singleton] at hx
    rcases hx with hx | rfl
    · exact VM.many_all h n st x hx
    · exact h _
theorem VM.prg_words (cnt : Int → VM.St → Int × VM.St) (st : VM.St) : ∀ w ∈ (VM.prgOf cnt st).1.words, w.length ≤ 12 := fun w hw => by
  have := VM.many_all (m := VM.rdText 12) (p := fun w => w.length ≤ 12) (fun st => by have := VM.rdText_len (most := 12) (by omega) st; omega) _ _ w hw
  exact this
theorem VM.agt_words (cnt : Int → VM.St → Int × VM.St) (st : VM.St) : (VM.agtOf cnt st).1.prog.ok := fun w hw => by
  have := VM.prg_words cnt _ w hw
  simp only [maxLen]; omega
theorem zanb {A : Nat → Prop} (fs : List Frm) : Bel A (.ro (fs.map Frm.avs)) := .ro _ fun _ x j v hx hv => by
  rw [List.getElem?_map] at hx
  obtain ⟨f, _, rfl⟩ := Option.map_eq_some_iff.1 hx
  match j, hv with
  | 0, hv => cases hv; exact .int _ _
  | 1, hv => cases hv; exact .int _ _
  | 2, hv => cases hv; exact zna (zhu _)
  | 3, hv => cases hv; exact zna (zhu _)
  | j + 4, hv => simp [Frm.avs] at hv
theorem zand {A : Nat → Prop} (a : Agt) : Bel A (.agg a.avs) := .agg _ fun j v hv => by
  match j, hv with
  | 0, hv => cases hv; exact .int _ _
  | 1, hv => cases hv; exact .int _ _
  | 2, hv => cases hv; exact zzs _
  | 3, hv => cases hv; exact zzr _
  | 4, hv => cases hv; exact zanb _
  | 5, hv => cases hv; exact zna (zyt _)
  | 6, hv => cases hv; exact .int _ _
  | 7, hv => cases hv; exact .int _ _
  | 8, hv => cases hv; exact .int _ _
  | j + 9, hv => simp [Agt.avs] at hv
theorem zadp {H : Heap} {G : Nat → Prop} {id trip : Int} {p : Prg} {fs : List Frm} {h : List Cl} {m : Pmt} {fa ha : AV} (h1 : FrzP H G fa (.ro (fs.map Frm.avs))) (h2 : FrzP H G ha (.ro (h.map Cl.avs))) : FrzP H G (.agg (zap id trip p fa ha m)) (.agg (Agt.avs ⟨id, trip, p, fs, h, m⟩)) := by
  refine .agg _ _ rfl fun j v u hv hu => ?_
  match j with
  | 0 => cases hv; cases hu; exact .same _
  | 1 => cases hv; cases hu; exact .same _
  | 2 => cases hv; cases hu; exact .same _
  | 3 => cases hv; cases hu; exact .same _
  | 4 => cases hv; cases hu; exact h1
  | 5 => cases hv; cases hu; exact h2
  | 6 => cases hv; cases hu; exact .same _
  | 7 => cases hv; cases hu; exact .same _
  | 8 => cases hv; cases hu; exact .same _
  | j + 9 => simp [zap] at hv
theorem zajr (a b : Str) : QC Tryz.prog 26 [.ro (bsR a), .ro (bsR b)] (.bool (decide (a = b))) := by
  refine QC.of' fun H nx => zuz _ _ H nx _ ?_
  unfold zqo
  refine zacf (zacf ?_)
  simp
theorem zain {H : Heap} {nx : Nat} (e : Int) : Frz H nx (.tup [.agg zagt, .int .i64 e]) (.tup [.agg VM.agt0.avs, .int .i64 e]) :=
  FL.tup (.cons (FL.agg (.cons (.same _ (.int _ _)) (.cons (.same _ (.int _ _)) (.cons .nils (.cons .nils (.cons .nils (.cons .nils (.cons (.same _ (.int _ _)) (.cons (.same _ (.int _ _)) (.cons (.same _ (.int _ _)) .nil))))))))) ) (.cons (.same _ (.int _ _)) .nil))
section
variable {a0 : AV} {nx n : Nat} {H : Heap} {Q : QT} {s : Str} {e : Int}
theorem zwx (he : e ≠ 0) (h0 : ∃ z, H nx = some (.row 9 z) ∧ z.length = 9) (h1 : H (nx + 1) = some (PRd (s, e))) (hq : ∀ H', (∀ y, y ≠ nx → H' y = H y) → Q (.tup [.agg zagt, .int .i64 e]) H' n) :
    zfm Q [a0, .ptr nx 0, .ptr (nx + 1) 0, .ptr (nx + 2) 0] H n := by
  obtain ⟨z, z1, z2⟩ := h0
  unfold PRd at h1
  simp [zfm, h1, he, z1, z2]
  exact hq _ fun y hy => Heap.put_ne _ _ hy
theorem zww (he : e ≠ 0) (h0 : ∃ z, H nx = some (.row 9 z) ∧ z.length = 9) (h1 : H (nx + 1) = some (PRd (s, e))) (hq : ∀ H', (∀ y, y ≠ nx → H' y = H y) → Q (.tup [.agg zagt, .int .i64 e]) H' n) :
    zfl Q [a0, .ptr nx 0, .ptr (nx + 1) 0, .ptr (nx + 2) 0] H n := by
  unfold zfl
  refine JN.same ?_
  have h1' := h1
  unfold PRd at h1'
  simp [zju, h1', he]
  exact zwx he h0 h1 hq
end
set_option maxRecDepth 20000 in
set_option maxHeartbeats 4000000 in
theorem zaie {b : Str} {nx n : Nat} {H H0 : Heap} {Q : QT} {F C v : AV} {r : Agt × VM.St} (hr : r.1.prog.ok) (hn : nx + 3 ≤ n) (h1 : H (nx + 1) = some (PRd r.2)) (h2 : H (nx + 2) = some (.row 9 (zap r.1.id r.1.trip r.1.prog F C r.1.permit)))
    (sf : Slot H 4 r.1.frames.length (zix r.1.frames) F) (sc : Slot H 6 r.1.heap.length (ziy r.1.heap) C) (of : ∀ y ∈ own F, nx + 3 ≤ y ∧ y < n) (oc : ∀ y ∈ own C, nx + 3 ≤ y ∧ y < n) (h0 : H nx = some (.row 9 zagt)) (kp : Keep nx H H0) (x5 x6 : AV)
    (hq : ∀ v' H' n', Frz H' nx v' (.tup [.agg (VM.answerOf b r).1.avs, .int .i64 (VM.answerOf b r).2]) → Keep nx H' H0 → Q v' H' n') :
    zdg Q [.ro (bsR b), .ptr nx 0, .ptr (nx + 1) 0, .ptr (nx + 2) 0, x5, x6] v H n := by
  have h1' := h1
  unfold PRd at h1'
  have err : ∀ {e : Int}, VM.answerOf b r = (VM.agt0, e) → ∀ H' : Heap, Keep nx H' H0 → Q (.tup [.agg zagt, .int .i64 e]) H' n := fun he H' hk => hq _ _ _ (by rw [he]; exact zain _) hk
  unfold zdg
  refine JN.same ?_
  by_cases he : r.2.2 = 0
  case neg =>
    simp [zfn, h1', he]
    refine zww (s := r.2.1) he ⟨_, h0, rfl⟩ h1 fun H' hk => err (by unfold VM.answerOf; rw [if_pos he]) H' fun y hy => ?_
    rw [hk y (by omega)]; exact kp y hy
  by_cases hl : r.2.1 = []
  case neg =>
    have hpos : 0 < r.2.1.length := List.length_pos_iff.2 hl
    simp [zfn, h1', he, zbb, hpos]
    refine zhq h1 ?_
    simp [zeq]
    have e2 : VM.rdFail 2 r.2 = (r.2.1, 2) := by unfold VM.rdFail; rw [if_pos he]
    rw [e2]
    refine zww (s := r.2.1) (e := 2) (by decide) ⟨_, by rw [Heap.put_ne _ _ (by omega)]; exact h0, rfl⟩ (Heap.put_at _ _ _) fun H' hk => err (by unfold VM.answerOf; rw [if_neg (by simpa using he), if_pos hl]) H' fun y hy => ?_
    rw [hk y (by omega), Heap.put_ne _ _ (by omega)]; exact kp y hy
  simp [zfn, h1', he, hl, bsR]
  unfold zfl
  refine JN.same ?_
  have f1 := sf.one
  have c1 := sc.one
  simp [zju, h1', he, h2, zap]
  let G : Nat → Prop := fun y => nx + 3 ≤ y
  let W : Heap := fun y => if y = nx + 2 then some (.row 9 r.1.avs) else if y < nx + 2 then H y else none
  have frz : FrzP H G (.agg (zap r.1.id r.1.trip r.1.prog F C r.1.permit)) (.agg r.1.avs) := zadp (Slot.frzP (sz := 4) (by simpa [zix] using sf) (fun g hg => (of g hg).1) (fun x hx => by obtain ⟨f, _, rfl⟩ := List.mem_map.1 hx; rfl)) (Slot.frzP (sz := 6) (by simpa [ziy] using sc) (fun g hg => (oc g hg).1) (zhs _))
  have w0 : ∀ g o, W g = some o → ¬ G g ∧ FrzO H G g o := fun g o hg => by
    by_cases hg2 : g = nx + 2
    · subst hg2
      simp only [W, if_true] at hg
      cases hg
      refine ⟨by simp only [G]; omega, .inr ⟨9, _, _, h2, rfl, ?_⟩⟩
      cases frz with
      | same => exact ⟨rfl, fun j v u hv hu => by have hv' : r.1.avs[j]? = some v := hv; rw [hv'] at hu; cases hu; exact .same _⟩
      | agg _ _ q1 q2 => exact ⟨q1, q2⟩
    · by_cases hlt : g < nx + 2
      · simp only [W, if_neg hg2, if_pos hlt] at hg
        exact ⟨by simp only [G]; omega, .inl hg⟩
      · simp only [W, if_neg hg2, if_neg hlt] at hg; cases hg
  have w2 : W (nx + 2) = some (.row 9 r.1.avs) := by simp only [W, if_true]
  have wl : ∀ y, y < nx + 2 → W y = H y := fun y hy => by simp only [W, if_neg (show y ≠ nx + 2 by omega), if_pos hy]
  refine za.thawR (args := [.agg r.1.avs, .bool true]) (H0 := W) (G := G) ?_ (zes.cons frz (zes.cons (.same _) .nil)) w0
  clear_value W G
  refine QC.call (zanh r.1 true hr) ?_
  simp [zoo]
  refine zhq (st := r.2) (by rw [wl _ (by omega)]; exact h1) ?_
  simp [zeq]
  have e3 : VM.rdFail (VM.agent r.1 true) r.2 = (r.2.1, VM.agent r.1 true) := by unfold VM.rdFail; rw [if_pos he]
  rw [e3]
  by_cases ha : VM.agent r.1 true = 0
  case neg =>
    refine zwx (s := r.2.1) (e := VM.agent r.1 true) ha ⟨_, by rw [Heap.put_ne _ _ (by omega), wl _ (by omega)]; exact h0, rfl⟩ (Heap.put_at _ _ _) fun H' hk => err (by unfold VM.answerOf; rw [if_neg (by simpa using he), if_neg (by simpa using hl), if_pos ha]) H' fun y hy => ?_
    rw [hk y (by omega), Heap.put_ne _ _ (by omega), wl y (by omega)]; exact kp y hy
  rw [ha]
  obtain ⟨fs, f, l⟩ := VM.agent_gone ha
  generalize hX : Heap.put W (nx + 1) _ = X
  have x1 : X (nx + 1) = some (.row 2 [.ro (bsR r.2.1), .int .i64 0]) := by rw [← hX, Heap.put_at]; rfl
  have x0 : X nx = some (.row 9 zagt) := by rw [← hX, Heap.put_ne _ _ (by omega), wl _ (by omega)]; exact h0
  have x2 : X (nx + 2) = some (.row 9 r.1.avs) := by rw [← hX, Heap.put_ne _ _ (by omega)]; exact w2
  have xk : Keep nx X H0 := fun y hy => by rw [← hX, Heap.put_ne _ _ (by omega), wl y (by omega)]; exact kp y hy
  clear hX
  have so : ∀ x ∈ r.1.avs, x.one = true := fun x hx => by
    simp [Agt.avs] at hx
    rcases hx with rfl | rfl | rfl | rfl | rfl | rfl | rfl | rfl | rfl <;> rfl
  have ht : r.1.avs.take 9 = r.1.avs ∧ r.1.avs.length = 9 ∧ r.1.avs.drop 9 = [] := ⟨rfl, rfl, rfl⟩
  have hsu : (AV.agg r.1.avs).sure = true := by simp [Agt.avs]
  simp [zfm, x1, x2, ht, hsu]
  refine QC.call (zzb l) ?_
  simp [zpu]
  refine QC.call (zajr _ _) ?_
  by_cases hb : VM.image r.1 = b
  case neg =>
    simp [zjt, hb]
    refine zhq (st := (r.2.1, 0)) x1 ?_
    have e4 : VM.rdFail 2 (r.2.1, 0) = (r.2.1, 2) := rfl
    rw [e4]
    generalize hY : Heap.put X (nx + 1) _ = Y
    have y1 : Y (nx + 1) = some (.row 2 [.ro (bsR r.2.1), .int .i64 2]) := by rw [← hY, Heap.put_at]; rfl
    have y0 : Y nx = some (.row 9 zagt) := by rw [← hY, Heap.put_ne _ _ (by omega)]; exact x0
    have z9 : zagt.length = 9 := rfl
    simp [zpv, y1, y0, z9]
    refine err (by unfold VM.answerOf; rw [if_neg (by simpa using he), if_neg (by simpa using hl), if_neg (by simpa using ha), if_pos hb]) _ fun y hy => ?_
    rw [Heap.put_ne _ _ (by omega), ← hY, Heap.put_ne _ _ (by omega)]; exact xk y hy
  have z9 : zagt.length = 9 := rfl
  have ans : VM.answerOf b r = (r.1, 0) := by unfold VM.answerOf; rw [if_neg (by simpa using he), if_neg (by simpa using hl), if_neg (by simpa using ha), if_neg (by simpa using hb)]
  simp [zjt, hb, x1, x2, x0, z9, ht, hsu]
  refine ⟨so, hq _ _ _ (by rw [ans]; exact FL.tup (.cons (.same _ (zand _)) (.cons (.same _ (.int _ _)) .nil))) fun y hy => ?_⟩
  rw [Heap.put_ne _ _ (by omega)]; exact xk y hy
theorem zyy (b : Str) (hb : b.length ≤ 4611686018427387904) : QC Tryz.prog 8 [.ro (bsR b)] (.tup [.agg (VM.parse b).1.avs, .int .i64 (VM.parse b).2]) := by
  refine QC.of' fun H nx => zux _ H nx _ (zadg hb fun H' n' F C v r hr hn h1 h2 sf sc of oc h0 kp => ?_)
  refine zaie (b := b) (by rw [hr]; exact VM.agt_words _ _) hn h1 h2 sf sc of oc h0 kp _ _ fun v' H2 n2 hf hk => ⟨?_, hk⟩
  rw [hr, VM.answer_parse VM.counts_rd] at hf
  exact hf
end Go.Proofs.YtpbnaaoilgohkaaGreatDoor
set_option maxRecDepth 8000
namespace Go.Proofs.YtpbnaaoilgohkaaGreatDoor
open Go Go.RowKit
def zbi (o : List Nat) (N : Nat) : List AV := (List.range N).map fun n => .int .i64 (if n ∈ o then (o.idxOf n : Int) else -1)
@[simp] theorem zapb (o : List Nat) (N : Nat) : (zbi o N).length = N := by simp [zbi]
theorem zeg {o : List Nat} {N n : Nat} (h : n < N) : (zbi o N)[n]? = some (.int .i64 (if n ∈ o then (o.idxOf n : Int) else -1)) := by simp [zbi, h]
theorem zabi {o : List Nat} {N m : Nat} (hm : m < N) (hn : m ∉ o) : (zbi o N).take m ++ AV.int .i64 o.length :: (zbi o N).drop (m + 1) = zbi (o ++ [m]) N := by
  have e : (zbi o N).take m ++ AV.int .i64 o.length :: (zbi o N).drop (m + 1) = (zbi o N).set m (.int .i64 o.length) := by
    rw [List.set_eq_take_append_cons_drop, if_pos (by simpa using hm)]
  rw [e]
  apply List.ext_getElem?
  intro n
  by_cases hN : n < N
  · rw [zeg hN]
    by_cases hnm : n = m
    · subst hnm
      rw [List.getElem?_set_self (by simpa using hm)]
      simp [hn, List.idxOf_append]
    · rw [List.getElem?_set_ne (fun h => hnm h.symm), zeg hN]
      by_cases ho : n ∈ o
      · simp [ho, List.idxOf_append]
      · simp [ho, hnm]
  · rw [List.getElem?_eq_none (by simp; omega), List.getElem?_eq_none (by simp; omega)]
structure zaak (H : Heap) (gp go gpl gr N : Nat) (o : List Nat) : Prop where
  p : H gp = some (.row 1 [.slc gpl 0 N])
  pl : H gpl = some (.row 1 (zbi o N))
  oo : H go = some (.row 1 [if o = [] then .nils else .slc gr 0 o.length])
  rr : o ≠ [] → H gr = some (.row 1 (zaq o))
  d1 : gp ≠ go
  d2 : gp ≠ gpl
  d3 : go ≠ gpl
  d4 : o ≠ [] → gr ≠ gp ∧ gr ≠ go ∧ gr ≠ gpl
theorem zaid (v : Val) (o : List Nat) (N : Nat) (hv : VM.WrongOk v N) (hin : VM.In o v) {H : Heap} {nx gp gpl : Nat} (h1 : H gp = some (.row 1 [.slc gpl 0 N])) (h2 : H gpl = some (.row 1 (zbi o N))) (l1 : gp < nx) (l2 : gpl < nx) :
    za Tryz.prog 59 [.agg v.avs, .ptr gp 0] H nx fun r H' _ => r = .agg (VM.put o v).avs ∧ Keep nx H' H := by
  refine zqt _ _ H nx _ ?_
  have n0 : gp ≠ nx ∧ gpl ≠ nx ∧ nx ≠ nx + 1 ∧ gp ≠ nx + 1 ∧ gpl ≠ nx + 1 := by omega
  by_cases hk : v.kind = 2
  · obtain ⟨c1, c2⟩ := hv.cell hk
    have hm := hin hk
    have hlt : v.n.toNat < N := by omega
    have e1 : (VM.put o v).kind = 2 := by unfold VM.put; rw [if_pos hk]; exact hk
    have e2 : (VM.put o v).n = (o.idxOf v.n.toNat : Nat) := by unfold VM.put; rw [if_pos hk]
    have e3 : (VM.put o v).text = v.text := by unfold VM.put; rw [if_pos hk]
    simp [zgo, Val.avs, hk, n0, h1, h2, e1, e2, e3, zeg hlt, hm]
    omega
  · have e : VM.put o v = v := by unfold VM.put; rw [if_neg hk]
    simp [zgo, Val.avs, hk, n0, e]
theorem zaom (v : Val) (o : List Nat) (N : Nat) (hv : VM.WrongOk v N) (ho : (o.length + 1) * 8 ≤ 140737488355328) {H : Heap} {nx gp go gpl gr : Nat} (st : zaak H gp go gpl gr N o) (l1 : gp < nx) (l2 : go < nx) (l3 : gpl < nx) (lr : o ≠ [] → gr < nx) :
    za Tryz.prog 58 [.agg v.avs, .ptr gp 0, .ptr go 0] H nx fun r H' nx' => r = .tup [] ∧ nx ≤ nx' ∧ ∃ gr', zaak H' gp go gpl gr' N (VM.meet o v) ∧ (VM.meet o v ≠ [] → gr' < nx' ∧ ((o ≠ [] ∧ gr' = gr) ∨ nx ≤ gr')) ∧
      ∀ g, g < nx → g ≠ gpl → g ≠ go → (o ≠ [] → g ≠ gr) → H' g = H g := by
  refine zqu _ _ _ H nx _ ?_
  obtain ⟨s1, s2, s3, s4, d1, d2, d3, d4⟩ := st
  have n0 : gp ≠ nx ∧ gpl ≠ nx ∧ go ≠ nx ∧ gp ≠ nx + 1 ∧ gpl ≠ nx + 1 ∧ go ≠ nx + 1 ∧ nx ≠ nx + 1 := by omega
  have same : VM.meet o v = o → ∃ gr', zaak (H.put nx (some (.row 3 v.avs))) gp go gpl gr' N (VM.meet o v) ∧ (VM.meet o v ≠ [] → gr' < nx + 1 ∧ ((o ≠ [] ∧ gr' = gr) ∨ nx ≤ gr')) ∧ ∀ g, g < nx → g ≠ gpl → g ≠ go → (o ≠ [] → g ≠ gr) → (H.put nx (some (.row 3 v.avs))) g = H g := by
    intro e
    rw [e]
    refine ⟨gr, ⟨by rw [Heap.put_ne _ _ (by omega)]; exact s1, by rw [Heap.put_ne _ _ (by omega)]; exact s2, by rw [Heap.put_ne _ _ (by omega)]; exact s3, fun h => by rw [Heap.put_ne _ _ (by have := lr h; omega)]; exact s4 h, d1, d2, d3, d4⟩, fun h => ⟨by have := lr h; omega, .inl ⟨h, rfl⟩⟩, fun g hg _ _ _ => Heap.put_ne _ _ (by omega)⟩
  by_cases hk : v.kind = 2
  · obtain ⟨c1, c2⟩ := hv.cell hk
    obtain ⟨k, n, s⟩ := v
    simp only at hk c1 c2
    subst hk
    obtain ⟨m, rfl⟩ : ∃ m : Nat, n = m := ⟨n.toNat, by omega⟩
    have hlt : m < N := by omega
    by_cases hm : m ∈ o
    · have e : VM.meet o ⟨2, m, s⟩ = o := zmr (by simp [hm])
      have nn : ¬ ((o.idxOf m : Nat) : Int) < 0 := by omega
      simp [zco, Val.avs, n0, s1, s2, zeg hlt, hm, nn]
      have := same e
      simp [Val.avs] at this
      exact ⟨hlt, this⟩
    · have e : VM.meet o ⟨2, m, s⟩ = o ++ [m] := zjo (by simp [hm])
      have ps := zabi hlt hm
      rw [e]
      by_cases h0 : o = []
      · subst h0
        simp at s3
        have ne_0 : gp ≠ go ∧ go ≠ gp ∧ gp ≠ gpl ∧ gpl ≠ gp ∧ gp ≠ nx ∧ nx ≠ gp ∧ go ≠ gpl ∧ gpl ≠ go ∧ go ≠ nx ∧ nx ≠ go ∧ gpl ≠ nx ∧ nx ≠ gpl ∧ gp ≠ nx + 1 ∧ nx + 1 ≠ gp ∧ gp ≠ nx + 2 ∧ nx + 2 ≠ gp ∧ gp ≠ nx + 3 ∧ nx + 3 ≠ gp ∧ go ≠ nx + 1 ∧ nx + 1 ≠ go ∧ go ≠ nx + 2 ∧ nx + 2 ≠ go ∧ go ≠ nx + 3 ∧ nx + 3 ≠ go ∧ gpl ≠ nx + 1 ∧ nx + 1 ≠ gpl ∧ gpl ≠ nx + 2 ∧ nx + 2 ≠ gpl ∧ gpl ≠ nx + 3 ∧ nx + 3 ≠ gpl ∧ nx ≠ nx + 1 ∧ nx + 1 ≠ nx ∧ nx ≠ nx + 2 ∧ nx + 2 ≠ nx ∧ nx ≠ nx + 3 ∧ nx + 3 ≠ nx := ⟨by omega, by omega, by omega, by omega, by omega, by omega, by omega, by omega, by omega, by omega, by omega, by omega, by omega, by omega, by omega, by omega, by omega, by omega, by omega, by omega, by omega, by omega, by omega, by omega, by omega, by omega, by omega, by omega, by omega, by omega, by omega, by omega, by omega, by omega, by omega, by omega⟩
        simp [zco, Val.avs, n0, s1, s2, s3, zeg hlt, hm, ne_0]
        refine ⟨hlt, by omega, by omega, nx + 2, ⟨?_, ?_, ?_, fun _ => ?_, d1, d2, d3, fun _ => by omega⟩, by omega, fun g hg a b => ?_⟩
        · simp [ne_0, s1]
        · simp [ne_0]; simpa using ps
        · simp [ne_0]
        · simp [ne_0, zaq]
        · repeat rw [if_neg (by omega)]
      · have r4 := d4 h0
        have lr' := lr h0
        rw [if_neg h0] at s3
        have s4' := s4 h0
        have ne_1 : gr ≠ gp ∧ gp ≠ gr ∧ gr ≠ go ∧ go ≠ gr ∧ gr ≠ gpl ∧ gpl ≠ gr ∧ gr ≠ nx ∧ nx ≠ gr ∧ gp ≠ go ∧ go ≠ gp ∧ gp ≠ gpl ∧ gpl ≠ gp ∧ gp ≠ nx ∧ nx ≠ gp ∧ go ≠ gpl ∧ gpl ≠ go ∧ go ≠ nx ∧ nx ≠ go ∧ gpl ≠ nx ∧ nx ≠ gpl ∧ gr ≠ nx + 1 ∧ nx + 1 ≠ gr ∧ gr ≠ nx + 2 ∧ nx + 2 ≠ gr ∧ gr ≠ nx + 3 ∧ nx + 3 ≠ gr ∧ gp ≠ nx + 1 ∧ nx + 1 ≠ gp ∧ gp ≠ nx + 2 ∧ nx + 2 ≠ gp ∧ gp ≠ nx + 3 ∧ nx + 3 ≠ gp ∧ go ≠ nx + 1 ∧ nx + 1 ≠ go ∧ go ≠ nx + 2 ∧ nx + 2 ≠ go ∧ go ≠ nx + 3 ∧ nx + 3 ≠ go ∧ gpl ≠ nx + 1 ∧ nx + 1 ≠ gpl ∧ gpl ≠ nx + 2 ∧ nx + 2 ≠ gpl ∧ gpl ≠ nx + 3 ∧ nx + 3 ≠ gpl ∧ nx ≠ nx + 1 ∧ nx + 1 ≠ nx ∧ nx ≠ nx + 2 ∧ nx + 2 ≠ nx ∧ nx ≠ nx + 3 ∧ nx + 3 ≠ nx := ⟨by omega, by omega, by omega, by omega, by omega, by omega, by omega, by omega, by omega, by omega, by omega, by omega, by omega, by omega, by omega, by omega, by omega, by omega, by omega, by omega, by omega, by omega, by omega, by omega, by omega, by omega, by omega, by omega, by omega, by omega, by omega, by omega, by omega, by omega, by omega, by omega, by omega, by omega, by omega, by omega, by omega, by omega, by omega, by omega, by omega, by omega, by omega, by omega, by omega, by omega⟩
        simp [zco, Val.avs, n0, s1, s2, s3, s4', zeg hlt, hm, ne_1]
        have htk : List.take o.length (zaq o) = zaq o := List.take_of_length_le (by simp)
        simp only [htk]
        refine ⟨hlt, by omega, ho, by omega, nx + 2, ⟨?_, ?_, ?_, fun _ => ?_, d1, d2, d3, fun _ => by omega⟩, by omega, fun g hg a b c => ?_⟩
        · simp [ne_1, s1]
        · simp [ne_1]; simpa using ps
        · simp [ne_1]
        · simp [ne_1, zaq]
        · have := c h0
          repeat rw [if_neg (by omega)]
  · have e : VM.meet o v = o := zmr (by simp [hk])
    simp [zco, Val.avs, hk, n0]
    have := same e
    simp [Val.avs] at this
    exact this
end Go.Proofs.YtpbnaaoilgohkaaGreatDoor
set_option maxRecDepth 8000
namespace Go.Proofs.YtpbnaaoilgohkaaGreatDoor
open Go Go.RowKit
structure RCan (h : List Cl) (H0 : Heap) (nx : Nat) (o : List Nat) (H : Heap) (n gr : Nat) : Prop where
  st : zaak H (nx + 1) (nx + 2) nx gr h.length o
  lr : o ≠ [] → nx + 3 ≤ gr ∧ gr < n
  keep : Keep nx H H0
  good : VM.Good h.length o
  le : nx + 3 ≤ n
theorem RCan.more {h : List Cl} {H0 H H' : Heap} {nx n n' gr : Nat} {o : List Nat} (c : RCan h H0 nx o H n gr) (hn : n ≤ n') (hk : ∀ g, g < n → H' g = H g) : RCan h H0 nx o H' n' gr := by
  have l := c.le
  refine ⟨⟨by rw [hk _ (by omega)]; exact c.st.p, by rw [hk _ (by omega)]; exact c.st.pl, by rw [hk _ (by omega)]; exact c.st.oo, fun ho => by rw [hk _ (c.lr ho).2]; exact c.st.rr ho, c.st.d1, c.st.d2, c.st.d3, c.st.d4⟩, fun ho => by have := c.lr ho; omega, fun g hg => by rw [hk _ (by omega)]; exact c.keep g hg, c.good, by omega⟩
theorem RCan.meet {h : List Cl} {H0 H : Heap} {nx n gr : Nat} {o : List Nat} (c : RCan h H0 nx o H n gr) (hs : h.length * 64 ≤ 140737488355328) {v : Val} (hv : VM.WrongOk v h.length) {Q : AV → Heap → Nat → Prop} (hq : ∀ H' n' gr', n ≤ n' → RCan h H0 nx (VM.meet o v) H' n' gr' → Q (.tup []) H' n') :
    za Tryz.prog 58 [.agg v.avs, .ptr (nx + 1) 0, .ptr (nx + 2) 0] H n Q := by
  have l := c.le
  have g := c.good.len
  refine (zaom v o h.length hv (by omega) c.st (by omega) (by omega) (by omega) (fun ho => (c.lr ho).2)).mono ?_
  rintro r H' n' ⟨rfl, hn, gr', st, q1, q2⟩
  refine hq H' n' gr' hn ⟨st, fun ho => ?_, fun x hx => ?_, c.good.meet hv.okV, by omega⟩
  · obtain ⟨a, b⟩ := q1 ho
    rcases b with ⟨b1, rfl⟩ | b
    · have := c.lr b1; omega
    · omega
  · rw [q2 x (by omega) (by omega) (by omega) (fun ho => by have := c.lr ho; omega)]; exact c.keep x hx
end Go.Proofs.YtpbnaaoilgohkaaGreatDoor
set_option maxRecDepth 8000
namespace Go.Proofs.YtpbnaaoilgohkaaGreatDoor
open Go Go.RowKit
end Go.Proofs.YtpbnaaoilgohkaaGreatDoor
set_option maxRecDepth 8000
namespace Go.Proofs.YtpbnaaoilgohkaaGreatDoor
open Go Go.RowKit
theorem zadd (v : Val) (o : List Nat) (N : Nat) (hv : VM.WrongOk v N) (hin : VM.In o v) {H : Heap} {nx gp gpl : Nat} (h1 : H gp = some (.row 1 [.slc gpl 0 N])) (h2 : H gpl = some (.row 1 (zbi o N))) (l1 : gp < nx) (l2 : gpl < nx) :
    za Tryz.prog 59 [.agg v.avs, .ptr gp 0] H nx fun r H' _ => Frz H' nx r (.agg (VM.put o v).avs) ∧ Keep nx H' H :=
  (zaid v o N hv hin h1 h2 l1 l2).mono fun r H' _ hh => ⟨by rw [hh.1]; exact .same _ (ztm _), hh.2⟩
theorem zt.put {v : Val} {o : List Nat} {N : Nat} (hv : VM.WrongOk v N) (hin : VM.In o v) {H : Heap} {gp gpl n : Nat} (h1 : H gp = some (.row 1 [.slc gpl 0 N])) (h2 : H gpl = some (.row 1 (zbi o N))) {k : Kt} (hk : k (.agg (VM.put o v).avs) [gp, gpl] [] []) :
    zt Tryz.prog (.clo 59 [.ptr gp 0]) [.agg v.avs] H n k := by
  refine zt.of_qcr [gp, gpl] (by simp [h1, h2]) (fun H' n' ha => ?_) (ztm _) hk
  obtain ⟨a1, a2⟩ := ha gp (by simp)
  obtain ⟨a3, a4⟩ := ha gpl (by simp)
  exact za.pure (zadd v o N hv hin (by rw [a1]; exact h1) (by rw [a3]; exact h2) a2 a4)
end Go.Proofs.YtpbnaaoilgohkaaGreatDoor
set_option maxRecDepth 8000
namespace Go.Proofs.YtpbnaaoilgohkaaGreatDoor
open Go Go.RowKit
end Go.Proofs.YtpbnaaoilgohkaaGreatDoor
set_option maxRecDepth 8000
namespace Go.Proofs.YtpbnaaoilgohkaaGreatDoor
open Go Go.RowKit
section
variable {ki kj : IntKind}
end
end Go.Proofs.YtpbnaaoilgohkaaGreatDoor
set_option maxRecDepth 8000
namespace Go.Proofs.YtpbnaaoilgohkaaGreatDoor
open Go Go.RowKit
end Go.Proofs.YtpbnaaoilgohkaaGreatDoor
set_option maxRecDepth 8000
namespace Go.Proofs.YtpbnaaoilgohkaaGreatDoor
open Go Go.RowKit
def fl (l : List Val) : List AV := (l.map Val.avs).flatten
theorem zaem (v : Val) (l : List Val) : fl (v :: l) = v.avs ++ fl l := rfl
theorem zais (l m : List Val) : fl (l ++ m) = fl l ++ fl m := by simp [fl]
theorem zabu (l : List Val) : (fl l).length = l.length * 3 := by
  induction l with
  | nil => rfl
  | cons v r ih => rw [zaem, List.length_append, ih, zaeu, List.length_cons]; omega
theorem zair (l : List Val) : ∀ x ∈ fl l, x.one = true := by
  intro x hx
  simp [fl] at hx
  obtain ⟨_, ⟨v, _, rfl⟩, h⟩ := hx
  unfold Val.avs at h
  simp at h
  rcases h with rfl | rfl | rfl <;> rfl
theorem zaqs (l : List Val) (j : Nat) (v : Val) (h : l[j]? = some v) : ((fl l).drop (j * 3)).take 3 = v.avs := by
  induction l generalizing j with
  | nil => simp at h
  | cons w r ih =>
    cases j with
    | zero => simp at h; subst h; rfl
    | succ j =>
      rw [zaem, List.drop_append, List.drop_of_length_le (by simp; omega), zaeu, show (j + 1) * 3 - 3 = j * 3 by omega, List.nil_append]
      exact ih j (by simpa using h)
set_option maxHeartbeats 4000000 in
theorem zvh (a : Agt) (k : Nat) (f : Frm) (hv : Int) (away : Bool) (r1 r2 : AV) (H H0 : Heap) (nx n0 g b0 : Nat) (K : J3) (R : Int) (hg : H g = some (.row 9 a.avs)) (hgn : g < nx) (hb : H b0 = some (.row 4 f.avs)) (hbn : b0 < nx) (hn0 : n0 ≤ nx) (hK : Keep n0 H H0) (hvl : f.vars.length ≤ 8) (hb16 : hv ≤ 16) (hk12 : k ≤ 12)
    (hbad : zam a f.vars f.stack hv ≠ 0 → R = zam a f.vars f.stack hv)
    (hgo : zam a f.vars f.stack hv = 0 → ∀ H' nx', H' g = some (.row 9 a.avs) → Keep n0 H' H0 → nx ≤ nx' → K [.bool away, .ptr g 0, r1, r2, .int .i64 (k + 1)] H' nx') :
    zbg (fun v H' _ => Frz H' n0 v (.int .i64 R) ∧ Keep n0 H' H0) K [.bool away, .ptr g 0, .ptr b0 0, .int .i64 hv, r1, r2, .int .i64 k] H nx := by
  by_cases h1 : hv < 0 ∨ (f.stack.length : Int) ≠ hv
  · have e : zam a f.vars f.stack hv = 10 := by unfold zam; rw [if_pos h1]
    have hR := hbad (by omega)
    rw [hR, e]
    by_cases h2 : hv < 0
    · simp [zbg, h2, hK]
    · have h3 : ¬ hv = (f.stack.length : Int) := by omega
      simp [zbg, h2, h3, hK, hb, Frm.avs]
  have e : zam a f.vars f.stack hv = VM.firstErr (fun v => VM.wrong v a.heap.length) (f.vars ++ f.stack) := by unfold zam; rw [if_neg h1]
  rw [e] at hbad hgo
  have h2 : ¬ hv < 0 := by omega
  have h3 : hv = (f.stack.length : Int) := by omega
  have n1' : b0 ≠ nx := by omega
  have n2' : b0 ≠ nx + 1 := by omega
  have hs1 : ∀ H : Heap, ze 3 H (.ro (f.vars.map Val.avs)) = some (f.vars.length, fl f.vars, []) := fun H => by rw [ztj (by simp)]; simp [fl]
  have hs2 : ∀ H : Heap, ze 3 H (.ro (f.stack.map Val.avs)) = some (f.stack.length, fl f.stack, []) := fun H => by rw [ztj (by simp)]; simp [fl]
  simp [zbg, h2, h3, hb, Frm.avs, n1', n2', -ztj, hs1, hs2]
  have htk : List.take (f.vars.length * 3) (fl f.vars) = fl f.vars := List.take_of_length_le (by rw [zabu]; omega)
  rw [htk, ← zais]
  refine ⟨fun h => by omega, zair _, by omega, zair _, by rw [zabu]; omega, by omega, by omega, by omega, ?_⟩
  have hll : (f.vars ++ f.stack).length = f.vars.length + f.stack.length := by simp
  generalize f.vars ++ f.stack = l at *
  refine LP.mk (fun m xs H' nx' => ∃ (j : Nat), j ≤ l.length ∧ m = l.length - j ∧ xs = [.bool away, .ptr g 0, r1, r2, .int .i64 k, .slc (nx + 1 + 1) 0 l.length, .int .i64 l.length, .int .i64 j] ∧ H' (nx + 1 + 1) = some (.row 3 (fl l)) ∧ H' g = some (.row 9 a.avs) ∧ Keep n0 H' H0 ∧ nx + 2 < nx' ∧
    VM.firstErr (fun v => VM.wrong v a.heap.length) l = VM.firstErr (fun v => VM.wrong v a.heap.length) (l.drop j)) l.length
    ⟨0, by omega, by omega, by simp [hll], by simp, ?_, ?_, by omega, rfl⟩ ?_
  · rw [Heap.put_ne _ _ (by omega), Heap.put_ne _ _ (by omega), Heap.put_ne _ _ (by omega)]; exact hg
  · rw [Keep.put (by omega), Keep.put (by omega), Keep.put (by omega)]; exact hK
  rintro m xs H2 n2 ⟨j, hj, rfl, rfl, hb2, hg2, hK2, hn2, hfj⟩
  by_cases hjl : j < l.length
  · obtain ⟨v, hv'⟩ : ∃ v, l[j]? = some v := ⟨_, List.getElem?_eq_getElem hjl⟩
    have m1 : g ≠ n2 := by omega
    have m2 : nx + 1 + 1 ≠ n2 := by omega
    have hfa := zaqs l j v hv'
    have hlen3 : j * 3 + 3 ≤ (fl l).length := by rw [zabu]; omega
    simp only [Val.avs] at hfa
    simp [zij, hjl, hb2, hfa, hg2, m1, Agt.avs, hlen3]
    refine QC.call (zsy v _) ?_
    simp [znn]
    rw [zay _ _ _ _ hv'] at hfj
    have hK3 : Keep n0 (H2.put n2 (some (.row 3 [.int .i64 v.kind, .int .i64 v.n, .str v.text]))) H0 := by rw [Keep.put (by omega)]; exact hK2
    refine ⟨fun hz => ⟨?_, hK3⟩, fun hz => ?_⟩
    · rw [if_pos hz] at hfj
      rw [hbad (by rw [hfj]; exact hz), hfj]
    · rw [if_neg (by simpa using hz)] at hfj
      rw [i64w (by omega)]
      exact ⟨l.length - (j + 1), by omega, j + 1, by omega, rfl, rfl, by rw [if_neg m2]; exact hb2, by rw [if_neg m1]; exact hg2, hK3, by omega, hfj⟩
  obtain rfl : j = l.length := by omega
  have hz : VM.firstErr (fun v => VM.wrong v a.heap.length) l = 0 := by rw [hfj]; simp [VM.firstErr]
  simp [zij]
  rw [i64w (by omega)]
  exact hgo hz _ _ hg2 hK2 (by omega)
end Go.Proofs.YtpbnaaoilgohkaaGreatDoor
