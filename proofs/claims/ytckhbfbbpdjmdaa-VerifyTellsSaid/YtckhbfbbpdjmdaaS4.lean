/- Heights: what the document's function makes of a code. -/
import Derived.Test.YtckhbfbbpdjmdaaS3
namespace Go.Proofs.Ytckhbfbbpdjmdaa
open Go Go.RowKit

theorem app1 {g len s : Nat} {x : Int} {H : Heap} {kk : AV → Heap → Nat → Prop} {A : List Int} (hg : H g = some (.row 1 (avInts A))) (hl : A.length = len) (hgs : g ≠ s) (hb : len ≤ 4194304)
    (hk : ∀ H', H' (s + 1) = some (.row 1 (avInts (A ++ [x]))) → (∀ y, y ≠ g → y ≠ s → y ≠ s + 1 → H' y = H y) → kk (.slc (s + 1) 0 (len + 1)) H' (s + 1 + 1)) :
    APP 1 8 (.slc g 0 len) (.slc s 0 1) (H.put s (some (.row 1 [.int .i64 x]))) (s + 1) kk := by
  simp [hgs, hg]
  refine ⟨by omega, by omega, hk _ ?_ ?_⟩
  · simp [hl, avInts]
    rw [List.take_of_length_le (by simp; omega)]
  · intro y h1 h2 h3
    simp [h1, h2, h3]

theorem app2 {ga gb la s : Nat} {x y : Int} {H : Heap} {kk : AV → AV → Heap → Nat → Prop} {A B : List Int} (hga : H ga = some (.row 1 (avInts A))) (hgb : H gb = some (.row 1 (avInts B))) (hA : A.length = la) (hB : B.length = la) (hab : ga ≠ gb) (ha : ga < s) (hb : gb < s) (hl : la ≤ 4194304)
    (hk : ∀ H', H' (s + 1) = some (.row 1 (avInts (A ++ [x]))) → H' (s + 3) = some (.row 1 (avInts (B ++ [y]))) → (∀ z, z ≠ ga → z ≠ gb → z < s → H' z = H z) → kk (.slc (s + 1) 0 (la + 1)) (.slc (s + 3) 0 (la + 1)) H' (s + 4)) :
    APP 1 8 (.slc ga 0 la) (.slc s 0 1) (H.put s (some (.row 1 [.int .i64 x]))) (s + 1) fun v H' n => APP 1 8 (.slc gb 0 la) (.slc n 0 1) (H'.put n (some (.row 1 [.int .i64 y]))) (n + 1) fun w H'' n' => kk v w H'' n' := by
  refine app1 hga hA (by omega) hl fun H1 h1 h2 => ?_
  refine app1 (A := B) (by rw [h2 gb (by omega) (by omega) (by omega)]; exact hgb) hB (by omega) hl fun H3 h3 h4 => ?_
  refine hk H3 ?_ h3 fun z p q r => ?_
  · rw [h4 _ (by omega) (by omega) (by omega)]; exact h1
  · rw [h4 _ (by omega) (by omega) (by omega), h2 _ (by omega) (by omega) (by omega)]

def RInv (c : Cod) (H0 : Heap) (n0 : Nat) (f : Nat) (xs : List AV) (H : Heap) (nx : Nat) : Prop := ∃ (q : List (Int × Int)) (out A B : List Int) (ga gb k la : Nat),
  xs = [.ptr n0 0, .slc (n0 + 1) 0 c.ins.length, .slc ga 0 la, .slc gb 0 la, .int .i64 k] ∧ A.length = la ∧ B.length = la ∧ H ga = some (.row 1 (avInts A)) ∧ H gb = some (.row 1 (avInts B)) ∧ A.drop k = q.map (·.1) ∧ B.drop k = q.map (·.2) ∧ k ≤ la ∧
  n0 + 1 < ga ∧ n0 + 1 < gb ∧ ga ≠ gb ∧ ga < nx ∧ gb < nx ∧ k + f = 2 * c.ins.length + 2 ∧
  H n0 = some (.row 3 c.avs) ∧ H (n0 + 1) = some (.row 1 (avInts out)) ∧ out.length = c.ins.length ∧ Keep n0 H H0 ∧
  VM.heightsGo c.ins f q out = VM.heights c.ins ∧ q.length + 2 * unset out < f ∧ (∀ x ∈ q, 0 ≤ x.2 ∧ x.2 ≤ 16) ∧ (∀ x ∈ out, -1 ≤ x ∧ x ≤ 16)

set_option maxHeartbeats 4000000 in
theorem heights1_qc (c : Cod) (hlen : c.ins.length ≤ 1048576) (hcalm : Calm c.ins) :
    QC Try.prog 15 [.agg c.avs] (.tup [.ro ((VM.heights c.ins).1.map fun n => [.int .i64 n]), .int .i64 (VM.heights c.ins).2]) := by
  refine QC.of' fun H nx => zwref6_Heights_calls _ H nx _ ?_
  simp [zwref6_Heights_vc, Cod.avs]
  refine ⟨by omega, by omega, ?_⟩
  refine LP.mk (fun m xs H' nx' => ∃ i : Nat, i ≤ c.ins.length ∧ m = c.ins.length - i ∧ xs = [.ptr nx 0, .slc (nx + 1) 0 c.ins.length, .int .i64 c.ins.length, .int .i64 i] ∧ nx' = nx + 2 ∧
    H' = (H.put nx (some (.row 3 c.avs))).put (nx + 1) (some (.row 1 (avInts (List.replicate i (-1) ++ List.replicate (c.ins.length - i) 0))))) c.ins.length
    ⟨0, by omega, by omega, by simp, rfl, by simp [avInts, Cod.avs]⟩ ?_
  rintro m xs H' nx' ⟨i, hi, rfl, rfl, rfl, rfl⟩
  simp [zwref6_Heights_l2]
  refine ⟨fun h => ?_, fun h => ?_⟩
  · refine ⟨h, by omega, ?_⟩
    rw [i64w (by omega)]
    refine ⟨c.ins.length - (i + 1), by omega, i + 1, by omega, rfl, by simp, ?_⟩
    rw [fill_step _ _ h]
  obtain rfl : i = c.ins.length := by omega
  refine LP.mk (RInv c H nx) (2 * c.ins.length + 2) ⟨[(0, 0)], List.replicate c.ins.length (-1), [0], [0], nx + 2, nx + 3, 0, 1, by simp, rfl, rfl, by simp [avInts], by simp [avInts], rfl, rfl, by omega, by omega, by omega, by omega, by omega, by omega, by omega, by simp; omega, by simp, by simp, ?_, rfl, ?_, ?_, ?_⟩ ?_
  · rw [Keep.put (by omega), Keep.put (by omega), Keep.put (by omega), Keep.put (by omega)]; simp
  · unfold unset; simp [List.countP_replicate]; omega
  · intro x hx; simp at hx; subst hx; simp
  · intro x hx; have := List.eq_of_mem_replicate hx; omega
  rintro f xs H1 n1 ⟨q, out, A, B, ga, gb, k, la, rfl, hAl, hBl, hga, hgb, hA, hB, hk, g1, g2, g3, g4, g5, hkf, hb, ho, hol, hK, hgo, hmeas, hq, hout⟩
  cases f with
  | zero => simp at hmeas
  | succ f =>
  cases q with
  | nil =>
    have hkl : la ≤ k := by have := congrArg List.length hA; simp at this; omega
    have e : VM.heights c.ins = (out, 0) := by rw [← hgo]; rfl
    have : ¬ k < la := by omega
    simp [zwref6_Heights_l1, this, e]
    refine ⟨Frz.row (sz := 1) (cells := avInts out) (by omega) ho (by simp [hol]) (by simp) (avInts_flat out) ?_, hK⟩
    intro x hx; simp [avInts] at hx; obtain ⟨a, _, rfl⟩ := hx; exact .int _ _
  | cons x q =>
    obtain ⟨at_, h⟩ := x
    have hkl : k < la := by have := congrArg List.length hA; simp at this; omega
    have hA0 : A[k]? = some at_ := by have := congrArg (·[0]?) hA; simpa using this
    have hB0 : B[k]? = some h := by have := congrArg (·[0]?) hB; simpa using this
    have hA1 : A.drop (k + 1) = q.map (·.1) := by have := congrArg (List.drop 1) hA; simpa using this
    have hB1 : B.drop (k + 1) = q.map (·.2) := by have := congrArg (List.drop 1) hB; simpa using this
    have hh := hq (at_, h) (by simp)
    simp only at hh
    have hq' : ∀ x ∈ q, 0 ≤ x.2 ∧ x.2 ≤ 16 := fun x hx => hq x (by simp [hx])
    have hlaq : la = k + 1 + q.length := by have := congrArg List.length hA; simp at this; omega
    simp only [List.length_cons] at hmeas
    simp only [VM.heightsGo] at hgo
    have w0 : IntKind.i64.wrap ((k : Int) + 1) = ((k + 1 : Nat) : Int) := by rw [i64w (by omega)]; simp
    by_cases hr : 0 ≤ at_ ∧ at_ < c.ins.length
    case neg =>
      have e : (if 0 ≤ at_ then c.ins[at_.toNat]? else none) = none := by
        split
        · exact List.getElem?_eq_none (by omega)
        · rfl
      rw [e] at hgo
      simp only at hgo
      rw [← hgo]
      by_cases h0 : at_ < 0
      · simp [zwref6_Heights_l1, hkl, hga, hgb, avInts_get, hA0, hB0, h0, hK]
      · have : (c.ins.length : Int) ≤ at_ := by omega
        simp [zwref6_Heights_l1, hkl, hga, hgb, avInts_get, hA0, hB0, h0, this, hK]
    case pos =>
    obtain ⟨hr0, hr1⟩ := hr
    have hlt : at_.toNat < c.ins.length := by omega
    obtain ⟨i, hi⟩ : ∃ i, c.ins[at_.toNat]? = some i := ⟨_, List.getElem?_eq_getElem hlt⟩
    obtain ⟨o, ho'⟩ : ∃ o, out[at_.toNat]? = some o := ⟨_, List.getElem?_eq_getElem (by omega)⟩
    have hod : out.getD at_.toNat 0 = o := by simp [List.getD_eq_getElem?_getD, ho']
    rw [if_pos hr0, hi, hod] at hgo
    simp only at hgo
    by_cases hs : 0 ≤ o
    · rw [if_pos hs] at hgo
      by_cases hne : o = h
      · subst hne
        rw [if_neg (by simp)] at hgo
        simp [zwref6_Heights_l1, hkl, hga, hgb, avInts_get, hA0, hB0, ho, hr0, hr1, ho', hs, Int.not_lt.2 hr0, Int.not_le.2 hr1, w0, Int.not_lt.2 hs]
        exact ⟨f, by omega, q, out, A, B, ga, gb, k + 1, la, rfl, hAl, hBl, hga, hgb, hA1, hB1, by omega, g1, g2, g3, g4, g5, by omega, hb, ho, hol, hK, hgo, by omega, hq', hout⟩
      · rw [if_pos hne] at hgo
        rw [← hgo]
        simp [zwref6_Heights_l1, hkl, hga, hgb, avInts_get, hA0, hB0, ho, hr0, hr1, ho', hs, hne, Int.not_lt.2 hr0, Int.not_le.2 hr1, hK]
    rw [if_neg hs] at hgo
    have hbd := effect_bd i (hcalm i (List.mem_of_getElem? hi))
    have n1' : ga ≠ nx := by omega
    have n2' : ga ≠ nx + 1 := by omega
    have n3' : ga ≠ n1 := by omega
    have n4' : nx ≠ n1 := by omega
    have n5' : nx + 1 ≠ n1 := by omega
    have m2' : gb ≠ nx + 1 := by omega
    have m3' : gb ≠ n1 := by omega
    have hns : o < 0 := by omega
    obtain ⟨_, hi'⟩ := List.getElem?_eq_some_iff.1 hi
    simp [zwref6_Heights_l1, hkl, hga, hgb, avInts_get, hA0, hB0, ho, hb, hr0, hr1, ho', hs, hns, hi', Cod.avs, Ins.avs, Int.not_lt.2 hr0, Int.not_le.2 hr1]
    refine ⟨by omega, QC.call (shape_qc i) ?_⟩
    rw [avInts_set _ _ _ (by omega)]
    have h2a : ((H1.put (nx + 1) (some (.row 1 (avInts (out.set at_.toNat h))))).put n1 (some (.row 3 [.int .i64 i.op, .int .i64 i.a, .int .i64 i.b]))) ga = some (.row 1 (avInts A)) := by simp [n2', n3', hga]
    have h2c : ((H1.put (nx + 1) (some (.row 1 (avInts (out.set at_.toNat h))))).put n1 (some (.row 3 [.int .i64 i.op, .int .i64 i.a, .int .i64 i.b]))) gb = some (.row 1 (avInts B)) := by simp [m2', m3', hgb]
    have h2b : ((H1.put (nx + 1) (some (.row 1 (avInts (out.set at_.toNat h))))).put n1 (some (.row 3 [.int .i64 i.op, .int .i64 i.a, .int .i64 i.b]))) nx = some (.row 3 c.avs) := by simp [n4', hb]
    have h2o : ((H1.put (nx + 1) (some (.row 1 (avInts (out.set at_.toNat h))))).put n1 (some (.row 3 [.int .i64 i.op, .int .i64 i.a, .int .i64 i.b]))) (nx + 1) = some (.row 1 (avInts (out.set at_.toNat h))) := by simp [n5']
    have h2n : ((H1.put (nx + 1) (some (.row 1 (avInts (out.set at_.toNat h))))).put n1 (some (.row 3 [.int .i64 i.op, .int .i64 i.a, .int .i64 i.b]))) n1 = some (.row 3 [.int .i64 i.op, .int .i64 i.a, .int .i64 i.b]) := by simp
    have h2K : Keep nx ((H1.put (nx + 1) (some (.row 1 (avInts (out.set at_.toNat h))))).put n1 (some (.row 3 [.int .i64 i.op, .int .i64 i.a, .int .i64 i.b]))) H := by rw [Keep.put (by omega), Keep.put (by omega)]; exact hK
    generalize ((H1.put (nx + 1) (some (.row 1 (avInts (out.set at_.toNat h))))).put n1 (some (.row 3 [.int .i64 i.op, .int .i64 i.a, .int .i64 i.b]))) = H2 at *
    have hu := unset_set (out := out) (k := at_.toNat) (h := h) (by omega) (by omega) hh.1
    generalize hE : VM.effect i = E at *
    obtain ⟨nd, gv⟩ := E
    simp only at hbd hgo
    have w1 : IntKind.i64.wrap (h - nd) = h - nd := i64w (by omega)
    have w2 : IntKind.i64.wrap (h - nd + gv) = h - nd + gv := i64w (by omega)
    have w3 : IntKind.i64.wrap (at_ + 1) = at_ + 1 := i64w (by omega)
    by_cases hc1 : h < nd ∨ (i.op = 18 ∧ h ≠ 1)
    · rw [if_pos hc1] at hgo
      rw [← hgo]
      by_cases hc2 : h < nd
      · simp [zwref6_Heights_k2, hc2, h2K]
      · have h18 : i.op = 18 := by omega
        have hnd : nd = 1 := by simp [VM.effect, h18] at hE; omega
        have h1 : 1 < h := by omega
        simp [zwref6_Heights_k2, hc2, h2n, h18, h1, h2K]
    rw [if_neg hc1] at hgo
    have hc2 : ¬ h < nd := by omega
    have hc2' : nd ≤ h := by omega
    by_cases hc3 : 16 < h + gv - nd
    · rw [if_pos hc3] at hgo
      rw [← hgo]
      have hc3' : 16 < h - nd + gv := by omega
      by_cases h18 : i.op = 18
      · have h1 : h = 1 := by omega
        subst h1
        simp [zwref6_Heights_k2, hc2, h2n, h18, w1, w2, hc3', h2K]
      · simp [zwref6_Heights_k2, hc2, h2n, h18, w1, w2, hc3', h2K]
    rw [if_neg hc3] at hgo
    have hc4 : ¬ 16 < h - nd + gv := by omega
    have e4 : h + gv - nd = h - nd + gv := by omega
    rw [e4] at hgo
    have fin : ∀ (l : List (Int × Int)) (ga' gb' : Nat) (H3 : Heap) (n3 : Nat), VM.heightsGo c.ins f (q ++ l) (out.set at_.toNat h) = VM.heights c.ins → l.length ≤ 2 → (∀ x ∈ l, 0 ≤ x.2 ∧ x.2 ≤ 16) →
        H3 ga' = some (.row 1 (avInts (A ++ l.map (·.1)))) → H3 gb' = some (.row 1 (avInts (B ++ l.map (·.2)))) → nx + 1 < ga' → nx + 1 < gb' → ga' ≠ gb' → ga' < n3 → gb' < n3 →
        H3 nx = H2 nx → H3 (nx + 1) = H2 (nx + 1) → Keep nx H3 H →
        ∃ m, m < f + 1 ∧ RInv c H nx m [.ptr nx 0, .slc (nx + 1) 0 c.ins.length, .slc ga' 0 (la + l.length), .slc gb' 0 (la + l.length), .int .i64 ((k + 1 : Nat) : Int)] H3 n3 := by
      intro l ga' gb' H3 n3 p1 p2 p3 p4 p5 p6 p7 p8 p9 p10 p11 p12 p13
      refine ⟨f, by omega, q ++ l, _, A ++ l.map (·.1), B ++ l.map (·.2), ga', gb', k + 1, la + l.length, rfl, by simp [hAl], by simp [hBl], p4, p5, ?_, ?_, by omega, p6, p7, p8, p9, p10, by omega, p11.trans h2b, p12.trans h2o, by simpa using hol, p13, p1, by simp; omega, fun x hx => ?_, fun x hx => ?_⟩
      · rw [List.drop_append_of_le_length (by omega), hA1]; simp
      · rw [List.drop_append_of_le_length (by omega), hB1]; simp
      · rcases List.mem_append.1 hx with hx | hx
        · exact hq' x hx
        · exact p3 x hx
      · rcases List.mem_or_eq_of_mem_set hx with h9 | h9
        · exact hout x h9
        · omega
    have hlab : la ≤ 4194000 := by omega
    have kp : ∀ H3 : Heap, (∀ z, z ≠ ga → z ≠ gb → z < n1 + 1 → H3 z = H2 z) → Keep nx H3 H := fun H3 h3 g hg => (h3 g (by omega) (by omega) (by omega)).trans (h2K g hg)
    by_cases h15 : i.op = 15
    · simp [zwref6_Heights_k2, hc2, hc2', h2n, h15, w0, w1, w2, w3, hc4, -app_slc]
      refine app2 h2a h2c hAl hBl g3 (by omega) (by omega) (by omega) fun H3 q1 q2 q3 => ?_
      exact fin [(i.a, h - nd + gv)] _ _ _ _ (by simpa [h15] using hgo) (by simp) (by simp; omega) (by simpa using q1) (by simpa using q2) (by omega) (by omega) (by omega) (by omega) (by omega) (q3 _ (by omega) (by omega) (by omega)) (q3 _ (by omega) (by omega) (by omega)) (kp _ q3)
    by_cases h18 : i.op = 18
    · have h1 : h = 1 := by omega
      subst h1
      simp [zwref6_Heights_k2, hc2, hc2', h2n, h18, w1, w2, w3, w0, hc4, -app_slc]
      have := fin [] ga gb H2 (n1 + 1) (by simpa [h15, h18] using hgo) (by simp) (by simp) (by simpa using h2a) (by simpa using h2c) (by omega) (by omega) (by omega) (by omega) (by omega) rfl rfl h2K
      exact this
    by_cases h16 : i.op = 16
    · simp [zwref6_Heights_k2, hc2, hc2', h2n, h16, w0, w1, w2, w3, hc4, -app_slc]
      refine app2 h2a h2c hAl hBl g3 (by omega) (by omega) (by omega) fun H3 q1 q2 q3 => ?_
      have hn3 : H3 n1 = some (.row 3 [.int .i64 16, .int .i64 i.a, .int .i64 i.b]) := by rw [q3 _ (by omega) (by omega) (by omega), h2n, h16]
      simp [hn3, -app_slc]
      refine app2 q1 q2 (by simp [hAl]) (by simp [hBl]) (by omega) (by omega) (by omega) (by omega) fun H4 r1 r2 r3 => ?_
      have q4 : ∀ z, z ≠ ga → z ≠ gb → z < n1 + 1 → H4 z = H2 z := fun z z1 z2 z3 => (r3 z (by omega) (by omega) (by omega)).trans (q3 z z1 z2 z3)
      exact fin [(at_ + 1, h - nd + gv), (i.a, h - nd + gv)] _ _ _ _ (by simpa [h15, h16, h18] using hgo) (by simp) (by simp; omega) (by simpa using r1) (by simpa using r2) (by omega) (by omega) (by omega) (by omega) (by omega) (q4 _ (by omega) (by omega) (by omega)) (q4 _ (by omega) (by omega) (by omega)) (kp _ q4)
    · simp [zwref6_Heights_k2, hc2, hc2', h2n, h15, h16, h18, w0, w1, w2, w3, hc4, -app_slc]
      refine app2 h2a h2c hAl hBl g3 (by omega) (by omega) (by omega) fun H3 q1 q2 q3 => ?_
      have hn3 : H3 n1 = some (.row 3 [.int .i64 i.op, .int .i64 i.a, .int .i64 i.b]) := by rw [q3 _ (by omega) (by omega) (by omega), h2n]
      simp [hn3, h15, h16, -app_slc]
      exact fin [(at_ + 1, h - nd + gv)] _ _ _ _ (by simpa [h15, h16, h18] using hgo) (by simp) (by simp; omega) (by simpa using q1) (by simpa using q2) (by omega) (by omega) (by omega) (by omega) (by omega) (q3 _ (by omega) (by omega) (by omega)) (q3 _ (by omega) (by omega) (by omega)) (kp _ q3)
end Go.Proofs.Ytckhbfbbpdjmdaa
