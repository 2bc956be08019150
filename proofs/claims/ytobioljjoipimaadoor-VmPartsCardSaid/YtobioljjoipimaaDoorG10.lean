/- What is made of two values: the program's function, and the document's. The machine's functions: setting out, asking, operations. The machine's functions: cells made, and changed; operations. The machine's functions: operations, and cells made. The machine's functions: calls. The machine's functions: coming back; and how it ends. The machine's small functions: push, where the order is drawn. -/
import Derived.Test.YtobioljjoipimaaDoorG6
import Derived.Test.YtobioljjoipimaaDoorG9
set_option linter.unusedSimpArgs false
set_option linter.unusedVariables false
set_option maxRecDepth 8000
namespace Go.Proofs.YtobioljjoipimaaDoor
open Go Go.RowKit
set_option maxHeartbeats 4000000 in
theorem zait (op : Int) (a b : Val) (N M : Int) (ha : VM.wrong a N = 0) (hb : VM.wrong b M = 0) : QC Tryd.prog 105 [.int .i64 op, .agg a.avs, .agg b.avs] (.tup [.agg (VM.two op a b).1.avs, .int .i64 (VM.two op a b).2]) := by
  have wa := VM.wrong_ok ha
  have wb := VM.wrong_ok hb
  obtain ⟨ka, na, sa⟩ := a
  obtain ⟨kb, nb, sb⟩ := b
  obtain ⟨a1, a2, a3, _, _, a6⟩ := wa
  obtain ⟨b1, b2, b3, _, _, b6⟩ := wb
  simp only at a1 a2 a3 a6 b1 b2 b3 b6
  refine QC.of' fun H nx => zui _ _ _ H nx _ ?_
  by_cases h0 : op < 1 ∨ 5 < op
  · have e : VM.two op ⟨ka, na, sa⟩ ⟨kb, nb, sb⟩ = (VM.vzero, 1) := if_pos h0
    rw [e]
    by_cases h1 : op < 1
    · simp [zgo, Val.avs]
      refine JN.same ?_
      simp [zgr, h1, zgp, VM.vzero]
    · have h2 : 5 < op := by omega
      simp [zgo, Val.avs]
      refine JN.same ?_
      simp [zgr, h1, h2, zgp, VM.vzero]
  have h1 : ¬ op < 1 := by omega
  have h2 : ¬ 5 < op := by omega
  simp [zgo, Val.avs]
  refine JN.same ?_
  simp [zgr, h1, h2, zgp]
  refine ⟨fun h5 => ?_, fun h5 => ?_⟩
  · refine QC.call (zwk _) ?_
    have e : VM.two op ⟨ka, na, sa⟩ ⟨kb, nb, sb⟩ = (VM.bit (decide (ka = kb ∧ na = nb ∧ sa = sb)), 0) := by
      unfold VM.two; rw [if_neg h0, if_pos h5]; simp
    rw [e]
    have e2 : (decide (ka = kb ∧ na = nb ∧ sa = sb)) = (ka == kb && (na == nb && sa == sb)) := by rw [Bool.eq_iff_iff]; simp
    rw [e2]
    simp [zrn, Val.avs]
  refine JN.same ?_
  by_cases hk : ka = 1 ∧ kb = 1
  · obtain ⟨rfl, rfl⟩ := hk
    simp [zgs, zgq]
    refine ⟨fun h => ?_, fun h => ?_⟩
    · subst h
      refine ⟨by omega, ?_⟩
      refine QC.call (zua _ (by simp only [maxLen, List.length_append]; omega)) ?_
      have e : VM.two 1 ⟨1, na, sa⟩ ⟨1, nb, sb⟩ = (VM.cText (sa ++ sb), 0) := rfl
      rw [e]
      simp [zrm, Val.avs]
    · refine JN.same ?_
      simp [zgt, zcx, CALL]
      refine ⟨fun h4 => ?_, fun h4 => ?_⟩
      · subst h4
        refine QC.call (zwk _) ?_
        have e : VM.two 4 ⟨1, na, sa⟩ ⟨1, nb, sb⟩ = (VM.bit (Op.bytesLess sa sb), 0) := rfl
        rw [e]
        simp [zrl, Val.avs]
      · have e : VM.two op ⟨1, na, sa⟩ ⟨1, nb, sb⟩ = (VM.vzero, 11) := by
          unfold VM.two; rw [if_neg h0, if_neg h5, if_neg (by simp [h]), if_neg (by simp [h4]), if_pos (by simp)]
        rw [e]
        simp [VM.vzero]
  have e1 : VM.two op ⟨ka, na, sa⟩ ⟨kb, nb, sb⟩ = if ka ≠ 0 ∨ kb ≠ 0 then (VM.vzero, 11) else if op = 1 then (VM.cInt (na + nb), 0) else if op = 2 then (VM.cInt (na - nb), 0) else if op = 3 then (VM.cInt (na * nb), 0) else (VM.bit (decide (na < nb)), 0) := by
    unfold VM.two; rw [if_neg h0, if_neg h5, if_neg (fun h => hk h.1), if_neg (fun h => hk h.1)]
  generalize VM.two op ⟨ka, na, sa⟩ ⟨kb, nb, sb⟩ = r at *
  have fin : ∀ H2 : Heap, H2 nx = some (.row 3 [.int .i64 ka, .int .i64 na, .str sa]) → H2 (nx + 1) = some (.row 3 [.int .i64 kb, .int .i64 nb, .str sb]) → H2 (nx + 2) = some (.row 3 [.int .i64 0, .int .i64 0, .str []]) → Keep nx H2 H →
      zcx (fun v H' _ => Frz H' nx v (.tup [.agg r.1.avs, .int .i64 r.2]) ∧ Keep nx H' H)
        [.int .i64 op, .ptr nx 0, .ptr (nx + 1) 0, .ptr (nx + 2) 0, .clo 112 [], .bool false] H2 (nx + 3) := by
    intro H2 g1 g2 g3 hK
    rw [e1]
    by_cases hka : ka = 0
    · by_cases hkb : kb = 0
      · obtain ⟨p1, p2⟩ := a2 hka
        obtain ⟨q1, q2⟩ := b2 hkb
        subst hka hkb
        have hmul : -1152921504606846976 ≤ na * nb ∧ na * nb ≤ 1152921504606846976 := by
          have m1 : na * nb ≤ 1073741824 * 1073741824 := by
            rcases Int.le_total 0 na with h | h <;> rcases Int.le_total 0 nb with h' | h'
            · exact Int.mul_le_mul p2 q2 h' (by omega)
            · have := Int.mul_nonpos_of_nonneg_of_nonpos h h'; omega
            · have := Int.mul_nonpos_of_nonpos_of_nonneg h h'; omega
            · have : (-na) * (-nb) ≤ 1073741824 * 1073741824 := Int.mul_le_mul (by omega) (by omega) (by omega) (by omega)
              rwa [Int.neg_mul_neg] at this
          have m2 : -(na * nb) ≤ 1073741824 * 1073741824 := by
            rcases Int.le_total 0 na with h | h <;> rcases Int.le_total 0 nb with h' | h'
            · have := Int.mul_nonneg h h'; omega
            · have : na * (-nb) ≤ 1073741824 * 1073741824 := Int.mul_le_mul (by omega) (by omega) (by omega) (by omega)
              rwa [Int.mul_neg] at this
            · have : (-na) * nb ≤ 1073741824 * 1073741824 := Int.mul_le_mul (by omega) (by omega) (by omega) (by omega)
              rwa [Int.neg_mul] at this
            · have := Int.mul_nonneg_of_nonpos_of_nonpos h h'; omega
          omega
        have w1 : IntKind.i64.wrap (na + nb) = na + nb := i64w (by omega)
        have w2 : IntKind.i64.wrap (na - nb) = na - nb := i64w (by omega)
        have w3 : IntKind.i64.wrap (na * nb) = na * nb := i64w (by omega)
        simp [zcx, g1, g2, w1, w2, w3, CALL]
        refine ⟨fun h => ?_, fun h => ⟨fun h' => ?_, fun h' => ⟨fun h'' => ?_, fun h'' => ?_⟩⟩⟩
        · refine QC.call (zxh _) ?_
          simp [zrk, g3, Val.avs, h, hK, Keep.put]
        · refine QC.call (zxh _) ?_
          simp [zrj, g3, Val.avs, h, h', hK, Keep.put]
        · refine QC.call (zxh _) ?_
          simp [zri, g3, Val.avs, h, h', h'', hK, Keep.put]
        · refine QC.call (zwk _) ?_
          simp [zrh, g3, Val.avs, h, h', h'', hK, Keep.put]
      · simp [zcx, g1, g2, g3, hka, hkb, VM.vzero, hK, Keep.put, Val.avs]
    · simp [zcx, g1, g2, g3, hka, VM.vzero, hK, Keep.put, Val.avs]
  by_cases hka : ka = 1
  · have hkb : ¬ kb = 1 := fun h => hk ⟨hka, h⟩
    simp [zgs, zgq, hka, hkb]
    refine JN.same ?_
    simp [zgt, hka, hkb]
    exact fin _ (by simp [hka]) (by simp) (by simp) (by simp)
  · simp [zgs, zgq, hka]
    refine JN.same ?_
    simp [zgt, hka]
    exact fin _ (by simp) (by simp) (by simp) (by simp)
end Go.Proofs.YtobioljjoipimaaDoor
set_option maxRecDepth 8000
namespace Go.Proofs.YtobioljjoipimaaDoor
open Go Go.RowKit
section
variable {H0 H : Heap} {lo n gr gs gf : Nat} {id trip : Int} {p : Prg} {s : Spt} {fs : List Frm} {ss : List (AV × AV)} {f : Frm} {va sa : AV} {h : List Cl} {ha : AV} {m : Pmt} {e : Evt}
theorem RL.temp (st : RL H0 H lo n gr gs gf id trip p s fs ss f va sa h ha m e) (o : Option AObj) : RL H0 (H.put n o) lo (n + 1) gr gs gf id trip p s fs ss f va sa h ha m e := st.more (by omega) fun g hg => Heap.put_ne _ _ (by omega)
@[simp] theorem zarv (v : Val) : v.avs[0]? = some (.int .i64 v.kind) := rfl
@[simp] theorem zaru (v : Val) : v.avs[1]? = some (.int .i64 v.n) := rfl
@[simp] theorem zart (v : Val) : v.avs[2]? = some (.str v.text) := rfl
@[simp] theorem zars (v : Val) : v.avs.take 3 = v.avs := rfl
theorem zaa (v : Val) : ∀ x ∈ v.avs, x.one = true := fun x hx => zfc (zcb v x hx)
set_option maxHeartbeats 1000000 in
theorem zaig {st' : List Val} {v : Val} (st : RL H0 H lo n gr gs gf id trip p s fs ss f va sa h ha m e) (hf : fs.length ≤ 4096) (hs : f.stack = st' ++ [v]) (hb : st'.length ≤ 4095) (hm : 0 ≤ m.hops ∧ m.hops ≤ 12) {Q : AV → Heap → Nat → Prop}
    (h1 : v.kind ≠ 1 → ∀ H' n' sa', n ≤ n' → RL H0 H' lo n' gr gs gf id trip p s fs ss { f with stack := st' } va sa' h ha m (VM.dead 11) → Q (.tup []) H' n')
    (h2 : v.kind = 1 → m.hops = 0 → ∀ H' n' sa', n ≤ n' → RL H0 H' lo n' gr gs gf id trip p s fs ss { f with stack := st' ++ [VM.vzero] } va sa' h ha m e → Q (.tup []) H' n')
    (h3 : v.kind = 1 → m.hops ≠ 0 → ∀ H' n' sa', n ≤ n' → RL H0 H' lo n' gr gs gf id trip p s fs ss { f with stack := st' } va sa' h ha { m with hops := m.hops - 1 } ⟨3, v.text, 0⟩ → Q (.tup []) H' n') :
    za Tryd.prog 93 [.ptr gr 0] H n Q := by
  refine zmz _ H n _ ?_
  unfold zil
  refine zkb st hf hs (by omega) fun H1 n1 sa1 hn1 st1 => ?_
  have st2 := st1.temp (some (.row 3 v.avs))
  have ap := st2.apart
  have hr := st2.run
  have lv : v.avs.length = 3 := rfl
  have rn : gr ≠ n1 := by have := st1.apart.r; omega
  rw [Heap.put_ne _ _ rn] at hr
  by_cases hk : v.kind = 1
  · by_cases hh : m.hops = 0
    · simp [zcd, hr, zc, hk, rn, hh]
      refine ⟨zaa v, ?_⟩
      exact zcw VM.vzero st2 hf (by simp only; omega) fun H' n' sa' hn st3 => h2 hk hh H' n' sa' (by omega) st3
    · simp [zcd, hr, zc, hk, rn, hh, rn.symm]
      rw [i64w (by omega)]
      refine ⟨zaa v, ?_⟩
      exact h3 hk hh _ _ _ (by omega) (st2.setrun { m with hops := m.hops - 1 } ⟨3, v.text, 0⟩)
  · simp [zcd, hr, zc, hk, rn]
    refine ⟨zaa v, ?_⟩
    exact zgm st2 11 fun H' st3 => h1 hk H' _ _ (by omega) st3
theorem zahb (x : Fct) (l : List Fct) (k : Str) : VM.ask (x :: l) k = if x.key = k then x.val else VM.ask l k := by
  unfold VM.ask
  by_cases h : x.key = k
  · simp [h]
  · simp [h]
def Fct.avs (x : Fct) : List AV := .str x.key :: x.val.avs
set_option maxHeartbeats 1000000 in
theorem zajm {st' : List Val} {v : Val} (st : RL H0 H lo n gr gs gf id trip p s fs ss f va sa h ha m e) (hf : fs.length ≤ 4096) (hs : f.stack = st' ++ [v]) (hb : st'.length ≤ 4095) (hl : s.facts.length ≤ 4611686018427387903) {Q : AV → Heap → Nat → Prop}
    (h1 : v.kind ≠ 1 → ∀ H' n' sa', n ≤ n' → RL H0 H' lo n' gr gs gf id trip p s fs ss { f with stack := st' } va sa' h ha m (VM.dead 11) → Q (.tup []) H' n')
    (h2 : v.kind = 1 → ∀ H' n' sa', n ≤ n' → RL H0 H' lo n' gr gs gf id trip p s fs ss { f with stack := st' ++ [VM.ask s.facts v.text] } va sa' h ha m e → Q (.tup []) H' n') :
    za Tryd.prog 92 [.ptr gr 0] H n Q := by
  refine zoe _ H n _ ?_
  unfold zju
  refine zkb st hf hs (by omega) fun H1 n1 sa1 hn1 st1 => ?_
  have st2 := st1.temp (some (.row 3 v.avs))
  have ap := st2.apart
  have hr := st2.run
  have hsp := st2.spot
  have rn : gr ≠ n1 := by have := st1.apart.r; omega
  have sn : gs ≠ n1 := by have := st1.apart.s; omega
  rw [Heap.put_ne _ _ rn] at hr
  rw [Heap.put_ne _ _ sn] at hsp
  by_cases hk : v.kind = 1
  case neg =>
    simp [zfb, hr, zc, hk, rn]
    refine ⟨zaa v, ?_⟩
    exact zgm st2 11 fun H' st3 => h1 hk H' _ _ (by omega) st3
  simp [zfb, hr, zc, hk, rn, hsp, sn, Spt.avs]
  refine ⟨zaa v, ?_⟩
  refine LP.mk (fun k xs H' n' => ∃ i : Nat, k = s.facts.length - i ∧ i ≤ s.facts.length ∧ n1 + 1 ≤ n' ∧ xs = [.ptr gr 0, .ptr n1 0, .ro (s.facts.map Fct.avs), .int .i64 s.facts.length, .int .i64 i] ∧ H' n1 = some (.row 3 v.avs) ∧ RL H0 H' lo n' gr gs gf id trip p s fs ss { f with stack := st' } va sa1 h ha m e ∧
    VM.ask (s.facts.drop i) v.text = VM.ask s.facts v.text) s.facts.length ⟨0, by omega, by omega, Nat.le_refl _, by simp; intro a _; rfl, Heap.put_at _ _ _, st2, by simp⟩ ?_
  rintro k xs H' n' ⟨i, rfl, hi, hn', rfl, hv, st3, hask⟩
  by_cases hil : i < s.facts.length
  · have hdrop : s.facts.drop i = s.facts[i] :: s.facts.drop (i + 1) := List.drop_eq_getElem_cons hil
    rw [hdrop, zahb] at hask
    have nn : n1 ≠ n' := by omega
    have st4 := st3.temp (some (.row 4 (AV.str s.facts[i].key :: s.facts[i].val.avs)))
    by_cases hkey : s.facts[i].key = v.text
    · rw [if_pos hkey] at hask
      simp [zcs, hil, Fct.avs, nn, hv]
      have hz : (AV.str s.facts[i].key :: s.facts[i].val.avs)[0]? = some (.str s.facts[i].key) := rfl
      rw [hz]
      simp [hkey]
      rw [hkey] at st4
      refine ⟨zaa _, ?_⟩
      exact zcw s.facts[i].val st4 hf (by simp only; omega) fun H5 n5 sa5 hn5 st5 => h2 hk H5 n5 sa5 (by omega) (by rw [← hask]; exact st5)
    · rw [if_neg hkey] at hask
      have hbb : @BEq.beq _ instBEqOfDecidableEq s.facts[i].key v.text = false := by simp [hkey]
      simp [zcs, hil, Fct.avs, nn, hv]
      have hz : (AV.str s.facts[i].key :: s.facts[i].val.avs)[0]? = some (.str s.facts[i].key) := rfl
      rw [hz]
      simp [hkey]
      rw [i64w (by omega)]
      exact ⟨zaa _, s.facts.length - (i + 1), by omega, i + 1, rfl, by omega, by omega, by simp, st4, hask⟩
  · obtain rfl : i = s.facts.length := by omega
    rw [List.drop_length] at hask
    have hz : VM.ask s.facts v.text = VM.vzero := by rw [← hask]; rfl
    simp [zcs]
    exact zcw VM.vzero st3 hf (by simp only; omega) fun H5 n5 sa5 hn5 st5 => h2 hk H5 n5 sa5 (by omega) (by rw [hz]; exact st5)
set_option maxHeartbeats 1000000 in
theorem zuh {st' : List Val} {v : Val} (st : RL H0 H lo n gr gs gf id trip p s fs ss f va sa h ha m e) (hf : fs.length ≤ 4096) (hs : f.stack = st' ++ [v]) (hb : st'.length ≤ 4095) (hv : VM.WrongOk v h.length) {Q : AV → Heap → Nat → Prop}
    (h1 : v.kind ≠ 2 → ∀ H' n' sa', n ≤ n' → RL H0 H' lo n' gr gs gf id trip p s fs ss { f with stack := st' } va sa' h ha m (VM.dead 11) → Q .nilp H' n')
    (h2 : v.kind = 2 → ∀ H' n' sa' g cs, n ≤ n' → (∀ x, x < n → x ∉ [gr, gf] → H' x = H x) → RL H0 H' lo n' gr gs gf id trip p s fs ss { f with stack := st' } va sa' h ha m e → ha = .slc g 0 h.length → H' g = some (.row 6 cs) → cs.take (h.length * 6) = rowC h → h.length * 6 ≤ cs.length → Q (.ptr g (v.n.toNat * 6)) H' n') :
    za Tryd.prog 90 [.ptr gr 0] H n Q := by
  refine znb _ H n _ ?_
  unfold zin
  obtain ⟨g0, cs0, gcs0, _, hp, hg0, hr0⟩ := st.popAt hf hs (by omega)
  refine zha hp st.apart.r st.apart.f hg0 fun H1 n1 hn1 q1 q2 => ?_
  have st1 := hr0 H1 n1 hn1 q1 q2
  have st2 := st1.temp (some (.row 3 v.avs))
  have hr := st2.run
  have rn : gr ≠ n1 := by have := st1.apart.r; omega
  rw [Heap.put_ne _ _ rn] at hr
  have old : ∀ x, x < n → x ∉ [gr, gf] → (H1.put n1 (some (.row 3 v.avs))) x = H x := fun x hx hm => by
    simp at hm
    rw [Heap.put_ne _ _ (by omega), q2 x hx hm.2]
  by_cases hk : v.kind = 2
  case neg =>
    simp [zeh, hr, zc, hk, rn]
    refine ⟨zaa v, ?_⟩
    exact zgm st2 11 fun H' st3 => h1 hk H' _ _ (by omega) st3
  obtain ⟨c1, c2⟩ := hv.cell hk
  rcases st2.hp with ⟨h0, _⟩ | ⟨g, cs, rfl, g1, g2, g3⟩
  · omega
  have hw : v.n < (h.length : Int) := c2
  simp [zeh, hr, zc, hk, rn]
  exact ⟨zaa v, c1, c2, h2 hk _ _ _ g cs (by omega) old st2 rfl g1 g2 g3⟩
end
end Go.Proofs.YtobioljjoipimaaDoor
set_option maxRecDepth 8000
namespace Go.Proofs.YtobioljjoipimaaDoor
open Go Go.RowKit
section
variable {H0 H : Heap} {lo n gr gs gf : Nat} {id trip : Int} {p : Prg} {s : Spt} {fs : List Frm} {ss : List (AV × AV)} {f : Frm} {va sa : AV} {h : List Cl} {ha : AV} {m : Pmt} {e : Evt}
theorem RL.sethp (st : RL H0 H lo n gr gs gf id trip p s fs ss f va sa h ha m e) {h' : List Cl} {g : Nat} {c : Option AObj} (hg : own ha = [g]) (hs : Slot (H.put g c) 6 h'.length (rowC h') ha) : RL H0 (H.put g c) lo n gr gs gf id trip p s fs ss f va sa h' ha m e := by
  have ap := st.apart
  obtain ⟨a1, a2, a3, a4, a5, a6, a7⟩ := ap.h g (by simp [hg])
  obtain ⟨cs, c1, c2⟩ := st.fr
  have hk : ∀ x, x ≠ g → (H.put g c) x = H x := fun x hx => Heap.put_ne _ _ hx
  exact st.upd (Nat.le_refl _) (by rw [hk _ (Ne.symm a2)]; exact st.run) ⟨cs, by rw [hk _ (Ne.symm a4)]; exact c1, c2⟩ (st.sv.keep fun x hx => hk x fun e => a6 (e ▸ hx)) (st.st.keep fun x hx => hk x fun e => a7 (e ▸ hx)) hs (fun x _ _ _ hx _ _ => hk x fun e => hx (by rw [hg, e]; simp)) (fun g hg => .inl hg) (fun g hg => .inl hg) (fun g hg => .inl hg) st.nd3
theorem zxd (a b : List Cl) : rowC (a ++ b) = rowC a ++ rowC b := by simp [rowC]
theorem zade {cs : List AV} {h : List Cl} {i j : Nat} {v : Val} {c c' : Cl} (h1 : cs.take (h.length * 6) = rowC h) (h2 : h.length * 6 ≤ cs.length) (hi : h[i]? = some c) (hj : (j = 0 ∧ c' = ⟨v, c.right⟩) ∨ (j = 3 ∧ c' = ⟨c.left, v⟩)) :
    (cs.take (i * 6 + j) ++ (v.avs ++ cs.drop (i * 6 + j + 3))).take ((h.set i c').length * 6) = rowC (h.set i c') ∧ (h.set i c').length * 6 ≤ (cs.take (i * 6 + j) ++ (v.avs ++ cs.drop (i * 6 + j + 3))).length := by
  obtain ⟨hlt, hc⟩ := List.getElem?_eq_some_iff.1 hi
  have e1 : h.set i c' = h.take i ++ c' :: h.drop (i + 1) := by rw [List.set_eq_take_append_cons_drop, if_pos hlt]
  have e0 : rowC h = rowC (h.take i) ++ (c.left.avs ++ (c.right.avs ++ rowC (h.drop (i + 1)))) := by
    have : h = h.take i ++ (c :: h.drop (i + 1)) := by rw [← hc, ← List.drop_eq_getElem_cons hlt, List.take_append_drop]
    conv => lhs; rw [this]
    rw [zxd, zvh]
    simp [Cl.avs]
  have ecs : cs = rowC (h.take i) ++ (c.left.avs ++ (c.right.avs ++ (rowC (h.drop (i + 1)) ++ cs.drop (h.length * 6)))) := by
    conv => lhs; rw [← List.take_append_drop (h.length * 6) cs]
    rw [h1, e0]; simp
  have lp : (rowC (h.take i)).length = i * 6 := by simp; omega
  have ls : (rowC (h.drop (i + 1))).length = (h.length - (i + 1)) * 6 := by simp
  have ll : c.left.avs.length = 3 := rfl
  have lr : c.right.avs.length = 3 := rfl
  have lv : v.avs.length = 3 := rfl
  generalize cs.drop (h.length * 6) = T at ecs
  generalize hP : rowC (h.take i) = P at *
  generalize hS : rowC (h.drop (i + 1)) = S at *
  rw [List.length_set, e1, zxd, zvh, hP, hS]
  have fin : ∀ X : List AV, X.length = h.length * 6 → (X ++ T).take (h.length * 6) = X ∧ h.length * 6 ≤ (X ++ T).length := fun X hX => ⟨by rw [← hX, List.take_left], by simp [hX]⟩
  rcases hj with ⟨rfl, rfl⟩ | ⟨rfl, rfl⟩
  · have t1 : cs.take (i * 6 + 0) = P := by rw [ecs, ← lp, Nat.add_zero, List.take_left]
    have t2 : cs.drop (i * 6 + 0 + 3) = c.right.avs ++ (S ++ T) := by
      rw [ecs, ← List.append_assoc]
      have : i * 6 + 0 + 3 = (P ++ c.left.avs).length := by simp [lp, ll]
      rw [this, List.drop_left]
    rw [t1, t2]
    have := fin (P ++ (v.avs ++ (c.right.avs ++ S))) (by simp [lp, ls, lv, lr]; omega)
    simpa [Cl.avs] using this
  · have t1 : cs.take (i * 6 + 3) = P ++ c.left.avs := by
      rw [ecs, ← List.append_assoc]
      have : i * 6 + 3 = (P ++ c.left.avs).length := by simp [lp, ll]
      rw [this, List.take_left]
    have t2 : cs.drop (i * 6 + 3 + 3) = S ++ T := by
      have e : P ++ (c.left.avs ++ (c.right.avs ++ (S ++ T))) = (P ++ (c.left.avs ++ c.right.avs)) ++ (S ++ T) := by simp
      rw [ecs, e]
      have : i * 6 + 3 + 3 = (P ++ (c.left.avs ++ c.right.avs)).length := by simp [lp, ll, lr]
      rw [this, List.drop_left]
    rw [t1, t2]
    have := fin (P ++ (c.left.avs ++ (v.avs ++ S))) (by simp [lp, ls, lv, ll]; omega)
    simpa [Cl.avs] using this
@[simp ↓] theorem zaqx {g o : Nat} {k : AV → Prop} : BP .eql (.ptr g o) .nilp k = k (.bool false) := rfl
set_option maxHeartbeats 1000000 in
theorem zacw {st' : List Val} {x y : Val} (st : RL H0 H lo n gr gs gf id trip p s fs ss f va sa h ha m e) (hf : fs.length ≤ 4096) (hs : f.stack = st' ++ [y, x]) (hb : st'.length ≤ 4094) (hv : VM.WrongOk y h.length) (left : Bool) {Q : AV → Heap → Nat → Prop}
    (h1 : y.kind ≠ 2 → ∀ H' n' sa', n ≤ n' → RL H0 H' lo n' gr gs gf id trip p s fs ss { f with stack := st' } va sa' h ha m (VM.dead 11) → Q (.tup []) H' n')
    (h2 : y.kind = 2 → ∀ H' n' sa', n ≤ n' → RL H0 H' lo n' gr gs gf id trip p s fs ss { f with stack := st' } va sa' (h.set y.n.toNat (bif left then { h.getD y.n.toNat VM.cl0 with left := x } else { h.getD y.n.toNat VM.cl0 with right := x })) ha m e → Q (.tup []) H' n') :
    za Tryd.prog 91 [.ptr gr 0, .bool left] H n Q := by
  refine zoc _ _ H n _ ?_
  unfold zjq
  refine zkb (st' := st' ++ [y]) st hf (by simpa using hs) (by simp; omega) fun H1 n1 sa1 hn1 st1 => ?_
  have st2 := st1.temp (some (.row 3 x.avs))
  have rn : gr < n1 + 1 := st2.apart.r
  have fn : gf < n1 := st1.apart.f
  have rn1 : gr < n1 := st1.apart.r
  simp [zjr]
  refine ⟨zaa x, ?_⟩
  refine zuh (st' := st') st2 hf rfl (by omega) hv (fun hk H' n' sa' hn st3 => ?_) (fun hk H' n' sa' g cs hn old st3 hha g1 g2 g3 => ?_)
  · simp [zcr]
    exact h1 hk H' n' sa' (by omega) st3
  · have hold : H' n1 = some (.row 3 x.avs) := by rw [old n1 (by omega) (by simp; omega), Heap.put_at]
    obtain ⟨c1, c2⟩ := hv.cell hk
    have hlt : y.n.toNat < h.length := by omega
    have hget : h[y.n.toNat]? = some h[y.n.toNat] := List.getElem?_eq_getElem hlt
    have hgd : h.getD y.n.toNat VM.cl0 = h[y.n.toNat] := by rw [List.getD_eq_getElem?_getD, hget]; rfl
    rw [hgd] at h2
    subst hha
    cases left with
    | true =>
      simp [zcr, hold, g1]
      obtain ⟨d1, d2⟩ := zade (j := 0) (v := x) g2 g3 hget (.inl ⟨rfl, rfl⟩)
      exact ⟨by omega, zaa x, h2 hk _ _ sa' (by omega) (st3.sethp (by simp [own]) (.inr ⟨g, _, by simp, Heap.put_at _ _ _, d1, d2⟩))⟩
    | false =>
      simp [zcr, hold, g1]
      obtain ⟨d1, d2⟩ := zade (j := 3) (v := x) g2 g3 hget (.inr ⟨rfl, rfl⟩)
      exact ⟨by omega, zaa x, h2 hk _ _ sa' (by omega) (st3.sethp (by simp [own]) (.inr ⟨g, _, by simp, Heap.put_at _ _ _, d1, d2⟩))⟩
end
end Go.Proofs.YtobioljjoipimaaDoor
set_option maxRecDepth 8000
namespace Go.Proofs.YtobioljjoipimaaDoor
open Go Go.RowKit
section
variable {H0 H : Heap} {lo n gr gs gf : Nat} {id trip : Int} {p : Prg} {s : Spt} {fs : List Frm} {ss : List (AV × AV)} {f : Frm} {va sa : AV} {h : List Cl} {ha : AV} {m : Pmt} {e : Evt}
set_option maxHeartbeats 1000000 in
theorem zaiu {st' : List Val} {x y : Val} (op : Int) (st : RL H0 H lo n gr gs gf id trip p s fs ss f va sa h ha m e) (hf : fs.length ≤ 4096) (hs : f.stack = st' ++ [y, x]) (hb : st'.length ≤ 4094) (hx : VM.WrongOk x h.length) (hy : VM.WrongOk y h.length) {Q : AV → Heap → Nat → Prop}
    (h1 : (VM.two op y x).2 ≠ 0 → ∀ H' n' sa', n ≤ n' → RL H0 H' lo n' gr gs gf id trip p s fs ss { f with stack := st' } va sa' h ha m (VM.dead (VM.two op y x).2) → Q (.tup []) H' n')
    (h2 : (VM.two op y x).2 = 0 → ∀ H' n' sa', n ≤ n' → RL H0 H' lo n' gr gs gf id trip p s fs ss { f with stack := st' ++ [(VM.two op y x).1] } va sa' h ha m e → Q (.tup []) H' n') :
    za Tryd.prog 88 [.ptr gr 0, .int .i64 op] H n Q := by
  refine zob _ _ H n _ ?_
  unfold zjm
  refine zkb (st' := st' ++ [y]) st hf (by simpa using hs) (by simp; omega) fun H1 n1 sa1 hn1 st1 => ?_
  have st2 := st1.temp (some (.row 3 x.avs))
  simp [zjn]
  refine ⟨zaa x, ?_⟩
  obtain ⟨g, cs, gcs, _, hp, hg, hr⟩ := st2.popAt (st' := st') hf rfl (by omega)
  refine zt.pop hp ?_
  have fn1 : gf ≠ n1 := by have := st1.apart.f; omega
  have rn1 : gr ≠ n1 := by have := st1.apart.r; omega
  simp [zjo, fn1, fn1.symm]
  refine zt.of_qc (zait op y x h.length h.length (VM.ok_wrong hy) (VM.ok_wrong hx)) (.tup _ fun j v hv => ?_) ?_
  · match j, hv with
    | 0, hv => cases hv; exact zle _
    | 1, hv => cases hv; exact .int _ _
  simp [zjp, fn1]
  have ap := st1.apart
  have st3 := hr ((H1.put n1 (some (AObj.row 3 x.avs))).put gf (some (AObj.row 4 (zfs cs fs.length g st'.length)))) (n1 + 1) (Nat.le_refl _) (Heap.put_at _ _ _) (fun x _ hx => Heap.put_ne _ _ hx)
  have st4 := st3.temp (some (.row 3 (VM.two op y x).1.avs))
  refine ⟨zaa _, by have := ap.f; omega, ⟨by have := ap.r; omega, by have := ap.f; omega, by omega⟩, fun hne => ?_, fun he => ?_⟩
  · exact zgm st4 _ fun H' st5 => h1 hne H' _ _ (by omega) st5
  · exact zcw _ st4 hf (by simp only; omega) fun H' n' sa' hn st5 => h2 he H' n' sa' (by omega) st5
theorem RL.newhp (st : RL H0 H lo n gr gs gf id trip p s fs ss f va sa h ha m e) {H' : Heap} {n' g : Nat} {h' : List Cl} (hn : n ≤ n') (hg : n ≤ g ∧ g < n') (hr : H' gr = some (.row 13 (zc id trip p (.slc gf 0 (fs.length + 1)) (.slc g 0 h'.length) m gs e))) (h1 : H' g = some (.row 6 (rowC h'))) (hk : ∀ x, x < n → x ≠ gr → x ∉ own ha → H' x = H x) :
    RL H0 H' lo n' gr gs gf id trip p s fs ss f va sa h' (.slc g 0 h'.length) m e := by
  have ap := st.apart
  obtain ⟨cs, c1, c2⟩ := st.fr
  refine st.upd hn hr ⟨cs, by rw [hk _ ap.f ap.rf.symm (fun hx => (ap.h _ hx).2.2.2.1 rfl)]; exact c1, c2⟩ (st.sv.keep fun x hx => hk x (ap.v x hx).1 (ap.v x hx).2.1 (ap.v x hx).2.2.2.2.1) (st.st.keep fun x hx => hk x (ap.t x hx).1 (ap.t x hx).2.1 (ap.t x hx).2.2.2.2.1)
    (.inr ⟨g, rowC h', rfl, h1, List.take_of_length_le (by simp), by simp⟩) (fun x h1 h2 _ h3 _ _ => hk x h1 h2 h3) (fun x hx => ?_) (fun g hg => .inl hg) (fun g hg => .inl hg) ?_
  · simp [own] at hx; subst hx; exact .inr hg
  · have := st.nd3
    simp only [List.nodup_append, List.mem_append] at this ⊢
    obtain ⟨z1, ⟨z2, z3, z4⟩, z5⟩ := this
    refine ⟨zlf _, ⟨z2, z3, z4⟩, ?_⟩
    rintro x hx y (hy | hy) rfl
    · simp [own] at hx; have := (ap.v x hy).1; omega
    · simp [own] at hx; have := (ap.t x hy).1; omega
set_option maxHeartbeats 1000000 in
theorem zaif {st' : List Val} {x y : Val} (st : RL H0 H lo n gr gs gf id trip p s fs ss f va sa h ha m e) (hf : fs.length ≤ 4096) (hs : f.stack = st' ++ [y, x]) (hb : st'.length ≤ 4094) (hr0 : 0 ≤ m.room ∧ m.room ≤ 60) (hh : h.length ≤ 4096) {Q : AV → Heap → Nat → Prop}
    (h1 : m.room = 0 → ∀ H' n' sa', n ≤ n' → RL H0 H' lo n' gr gs gf id trip p s fs ss { f with stack := st' } va sa' h ha m (VM.dead 13) → Q (.tup []) H' n')
    (h2 : m.room ≠ 0 → ∀ H' n' sa' ha', n ≤ n' → RL H0 H' lo n' gr gs gf id trip p s fs ss { f with stack := st' ++ [⟨2, h.length, []⟩] } va sa' (h ++ [⟨y, x⟩]) ha' { m with room := m.room - 1 } e → Q (.tup []) H' n') :
    za Tryd.prog 89 [.ptr gr 0] H n Q := by
  refine zmy _ H n _ ?_
  unfold zij
  refine zkb (st' := st' ++ [y]) st hf (by simpa using hs) (by simp; omega) fun H1 n1 sa1 hn1 st1 => ?_
  have st2 := st1.temp (some (.row 3 x.avs))
  simp [zik]
  refine ⟨zaa x, ?_⟩
  obtain ⟨g, cs, gcs, _, hp, hg, hr⟩ := st2.popAt (st' := st') hf rfl (by omega)
  have ap2 := st2.apart
  refine zha hp ap2.r ap2.f hg fun H3 n3 hn3 q1 q2 => ?_
  have st3 := hr H3 n3 hn3 q1 q2
  have hxx : H3 n1 = some (.row 3 x.avs) := by rw [q2 n1 (by omega) (by have := st1.apart.f; omega), Heap.put_at]
  have st4 := st3.temp (some (.row 3 y.avs))
  have ap3 := st3.apart
  have rn : gr ≠ n3 := by have := ap3.r; omega
  have rn1 : gr ≠ n3 + 1 := by have := ap3.r; omega
  have xn : n1 ≠ n3 := by omega
  have xn1 : n1 ≠ n3 + 1 := by omega
  have xr : n1 ≠ gr := by have := st1.apart.r; omega
  have hrun := st3.run
  by_cases hm : m.room = 0
  · simp [zeg, hrun, zc, rn, hm]
    refine ⟨zaa y, ?_⟩
    exact zgm st4 13 fun H' st5 => h1 hm H' _ _ (by omega) st5
  · have hw : IntKind.i64.wrap (m.room - 1) = m.room - 1 := i64w (by omega)
    have ty : List.take 3 (y.avs ++ [AV.int IntKind.i64 0, AV.int IntKind.i64 0, AV.str []]) = y.avs := rfl
    have ty2 : List.drop 6 (y.avs ++ [AV.int IntKind.i64 0, AV.int IntKind.i64 0, AV.str []]) = [] := rfl
    simp [zeg, hrun, zc, rn, hm, hw, hxx, xn, xr, rn.symm, ty, ty2]
    refine ⟨zaa y, ?_⟩
    have st5 := (st4.setrun { m with room := m.room - 1 } e).temp (some (.row 6 (y.avs ++ x.avs)))
    simp only [zc] at st5
    generalize hX : ((H3.put n3 (some (AObj.row 3 y.avs))).put gr _).put (n3 + 1) (some (AObj.row 6 (y.avs ++ x.avs))) = X at *
    have ap5 := st5.apart
    refine Slot.append (new := y.avs ++ x.avs) st5.hp (by simp) (by rw [← hX, Heap.put_at]) rfl (List.all_eq_true.2 fun z hz => (List.mem_append.1 hz).elim (zaa y z) (zaa x z)) (by omega) fun rd D hD q3 q4 => ?_
    have hgr := (q4 gr (fun hx => (ap5.h _ hx).2.1 rfl) (by have := ap3.r; omega)).trans st5.run
    have hold : ∀ x, x < n3 + 2 → x ∉ own ha → (X.apply D) x = X x := fun x h1 h2 => q4 x h2 (by omega)
    generalize X.apply D = HD at *
    simp [hgr, zc]
    have hw2 : IntKind.i64.wrap (h.length : Int) = h.length := i64w (by omega)
    simp [hw2]
    refine ⟨by have := ap3.r; omega, znq (by simp) ?_⟩
    have hc : rowC h ++ (y.avs ++ x.avs) = rowC (h ++ [⟨y, x⟩]) := by rw [zacu]; rfl
    have st6 := st5.newhp (h' := h ++ [⟨y, x⟩]) (g := n3 + 2) (n' := n3 + 2 + 1) (H' := HD.put gr (some (AObj.row 13 (zc id trip p (AV.slc gf 0 (fs.length + 1)) (.slc (n3 + 2) 0 (h.length + 1)) { m with room := m.room - 1 } gs e)))) (by omega) (by omega) (by rw [Heap.put_at]; simp) (by rw [Heap.put_ne _ _ (by have := ap3.r; omega), q3, hc]) fun x h1 h2 h3 => by
      rw [Heap.put_ne _ _ h2]; exact hold x h1 h3
    exact zcw ⟨2, h.length, []⟩ st6 hf (by simp only; omega) fun H' n' sa' hn st7 => h2 hm H' n' sa' _ (by omega) st7
end
end Go.Proofs.YtobioljjoipimaaDoor
set_option maxRecDepth 8000
namespace Go.Proofs.YtobioljjoipimaaDoor
open Go Go.RowKit
section
variable {ki : IntKind}
theorem zuf {e g off len mm : Nat} {x : AV} {H : Heap} {cells news : List AV} {rd : List Nat} {kh : AV → Heap → Prop} (hs : zf e H x = some (mm, news, rd)) (hg : H g = some (.row e cells)) (hle : off + len * e ≤ cells.length) (hone : news.all AV.one = true)
    (hk : kh (.int .i64 (min mm len : Nat)) (H.put g (some (.row e (zak cells off (news.take (min mm len * e))))))) : CP e (.slc g off len) x H kh := by
  unfold CP COPY
  rw [hs]
  simp only [hg]
  exact ⟨trivial, hle, hone, hk⟩
@[simp ↓] theorem zasb {s g off len : Nat} {a : Int} {H : Heap} {k : AV → Prop} : SL s (.slc g off len) (some (.int ki a)) none H k = ROWK (H g) fun sz _ => sz = s ∧ 0 ≤ a ∧ a ≤ len ∧ k (.slc g (off + a.toNat * s) ((len : Int) - a).toNat) := by
  unfold SL
  rw [zaat]; rfl
@[simp ↓] theorem zasc {s g off len : Nat} {a : Int} {H : Heap} {k : AV → Prop} : SL s (.slc g off len) none (some (.int ki a)) H k = ROWK (H g) fun sz _ => sz = s ∧ 0 ≤ a ∧ a ≤ len ∧ k (.slc g off a.toNat) := by
  unfold SL
  rw [zafh]; rfl
@[simp ↓] theorem zapa {s : Nat} {a : Int} {H : Heap} {k : AV → Prop} : SL s .nils (some (.int ki a)) none H k = (a = 0 ∧ k .nils) := by
  simp [SL, zbi, lohi, PURE, qk]
@[simp ↓] theorem zaoy {s : Nat} {a : Int} {H : Heap} {k : AV → Prop} : SL s .zs (some (.int ki a)) none H k = (a = 0 ∧ k .zs) := by
  simp [SL, zbi, lohi, PURE, qk]
@[simp ↓] theorem zaoz {s : Nat} {a : Int} {H : Heap} {k : AV → Prop} : SL s .zs none (some (.int ki a)) H k = (a = 0 ∧ k .zs) := by
  simp [SL, zbi, lohi, PURE, qk]
@[simp ↓] theorem zapb {s : Nat} {a : Int} {H : Heap} {k : AV → Prop} : SL s .nils none (some (.int ki a)) H k = (a = 0 ∧ k .nils) := by
  simp [SL, zbi, lohi, PURE, qk]
end
section
variable {H0 H : Heap} {lo n gr gs gf : Nat} {id trip : Int} {p : Prg} {s : Spt} {fs : List Frm} {ss : List (AV × AV)} {f : Frm} {va sa : AV} {h : List Cl} {ha : AV} {m : Pmt} {e : Evt}
theorem zbv (ss : List (AV × AV)) (t : AV × AV) : owns (ss ++ [t]) = owns ss ++ (own t.1 ++ own t.2) := by simp [owns]
theorem RL.call (st : RL H0 H lo n gr gs gf id trip p s fs ss f va sa h ha m e) {H' : Heap} {n' gv gf' N : Nat} {f2 f3 : Frm} {sa2 : AV} (hn : n ≤ n') (hv : n ≤ gv ∧ gv < n') (hg : n ≤ gf' ∧ gf' < n') (hne : gv ≠ gf')
    (run' : H' gr = some (.row 13 (zc id trip p (.slc gf' 0 (fs.length + 1 + 1)) ha m gs e))) (fr' : ∃ cs, H' gf' = some (.row 4 cs) ∧ cs.take ((fs.length + 1 + 1) * 4) = frow (fs ++ [f2]) (ss ++ [(va, sa2)]) ++ [.int .i64 f3.fn, .int .i64 f3.at_, .slc gv 0 N, .nils] ∧ (fs.length + 1 + 1) * 4 ≤ cs.length)
    (hvars : f2.vars = f.vars) (sa2' : Slot H' 3 f2.stack.length (rowV f2.stack) sa2) (own2 : own sa2 = own sa) (sv' : Slot H' 3 f3.vars.length (rowV f3.vars) (.slc gv 0 N)) (st3 : f3.stack = [])
    (hk : ∀ x, x < n → x ≠ gr → x ≠ gf → H' x = H x) : RL H0 H' lo n' gr gs gf' id trip p s (fs ++ [f2]) (ss ++ [(va, sa2)]) f3 (.slc gv 0 N) .nils h ha m e := by
  have ap := st.apart
  have b := st.bd
  simp only [List.mem_cons, List.mem_append] at b
  have hl := st.le
  refine ⟨by rw [run']; simp, by simpa using fr', ?_, sv', .inl ⟨by rw [st3]; rfl, .inl rfl⟩, st.hp.keep fun x hx => hk x (ap.h x hx).1 (ap.h x hx).2.1 (ap.h x hx).2.2.2.1, by rw [hk gs ap.s ap.rs.symm ap.sf]; exact st.spot, ?_, by have := st.gsn; omega, ?_, ?_, by omega⟩
  · refine (st.frs.keep fun x hx => hk x (ap.w x hx).1 (ap.w x hx).2.1 (ap.w x hx).2.2.2.1).snoc ?_ sa2'
    rw [hvars]
    exact st.sv.keep fun x hx => hk x (ap.v x hx).1 (ap.v x hx).2.1 (ap.v x hx).2.2.2.1
  · have nd := st.nd
    simp only [List.nodup_cons, List.nodup_append, List.mem_cons, List.mem_append, not_or] at nd
    obtain ⟨⟨a1, a2, a3, a4, a5, a6⟩, ⟨b1, b2, b3, b4, b5⟩, ⟨c1, c2, c3, c4⟩, n1, ⟨n2, ⟨n3, n4, n5⟩, n6⟩, n7⟩ := nd
    have r := ap.r
    have s' := ap.s
    have fh : ∀ x, (x ∈ own ha ∨ x ∈ owns ss ∨ x ∈ own va ∨ x ∈ own sa) → x < n := fun x hx => by
      rcases hx with h | h | h | h
      · exact (ap.h x h).1
      · exact (ap.w x h).1
      · exact (ap.v x h).1
      · exact (ap.t x h).1
    rw [zbv]
    have ow1 : own (.slc gv 0 N) = [gv] := rfl
    have ow2 : own .nils = [] := rfl
    simp only [own2, ow1, ow2, List.append_nil, List.nodup_cons, List.nodup_append, List.mem_cons, List.mem_append, not_or, List.not_mem_nil, or_false, not_false_eq_true, List.nodup_nil, and_true]
    refine ⟨⟨a1, by omega, a3, ⟨a4, a5, a6⟩, by omega⟩, ⟨by omega, b2, ⟨b3, b4, b5⟩, by omega⟩, ⟨fun h => by have := fh _ (.inl h); omega, ⟨fun h => by have := fh _ (.inr (.inl h)); omega, fun h => by have := fh _ (.inr (.inr (.inl h))); omega, fun h => by have := fh _ (.inr (.inr (.inr h))); omega⟩, fun h => hne h.symm⟩, n1, ⟨⟨n2, ⟨n3, n4, n5⟩, n6⟩, ?_⟩, ?_⟩
    · refine ⟨trivial, ?_⟩
      rintro x hx y rfl rfl
      have := fh x (.inr hx); omega
    · rintro x hx y (hy | rfl) rfl
      · exact n7 x hx x hy rfl
      · have := fh x (.inl hx); omega
  · intro g hg'
    rw [zbv] at hg'
    have ow1 : own (.slc gv 0 N) = [gv] := rfl
    have ow2 : own .nils = [] := rfl
    simp only [own2, ow1, ow2, List.append_nil, List.mem_cons, List.mem_append, List.not_mem_nil, or_false] at hg'
    have old : (lo ≤ g ∧ g < n) → lo ≤ g ∧ g < n' := fun h => by omega
    rcases hg' with h | h | h | (h | h | h) | h
    · exact old (b g (.inl h))
    · omega
    · exact old (b g (.inr (.inr (.inl h))))
    · exact old (b g (.inr (.inr (.inr (.inl h)))))
    · exact old (b g (.inr (.inr (.inr (.inr (.inl h))))))
    · exact old (b g (.inr (.inr (.inr (.inr (.inr h))))))
    · omega
  · intro g hg'
    have l1 := (b gr (.inl rfl)).1
    have l2 := (b gf (.inr (.inl rfl))).1
    rw [hk g (by omega) (by omega) (by omega)]
    exact st.keep g hg'
theorem zug {p : Prg} {k : Int} (h : k.toNat < p.codes.length) : p.codes[k.toNat]? = some (VM.codeAt p k) := by
  unfold VM.codeAt
  rw [List.getElem?_eq_getElem h, List.getD_eq_getElem?_getD, List.getElem?_eq_getElem h]; rfl
theorem zvg (l : List Val) (k : Nat) : (rowV l).take (k * 3) = rowV (l.take k) := by
  induction l generalizing k with
  | nil => simp [rowV]
  | cons v l ih =>
    cases k with
    | zero => simp [rowV]
    | succ k =>
      have : v.avs.length = 3 := rfl
      rw [zph, List.take_succ_cons, zph, ← ih, Nat.succ_mul, List.take_append, List.take_of_length_le (by omega), show k * 3 + 3 - v.avs.length = k * 3 by omega]
theorem zpg (l : List Val) (k : Nat) : (rowV l).drop (k * 3) = rowV (l.drop k) := by
  induction l generalizing k with
  | nil => simp [rowV]
  | cons v l ih =>
    cases k with
    | zero => simp
    | succ k =>
      have : v.avs.length = 3 := rfl
      rw [zph, List.drop_succ_cons, ← ih, Nat.succ_mul, List.drop_append, List.drop_of_length_le (by omega), List.nil_append, show k * 3 + 3 - v.avs.length = k * 3 by omega]
theorem zsc (a b : List Val) : rowV (a ++ b) = rowV a ++ rowV b := by simp [rowV]
set_option maxHeartbeats 2000000 in
theorem zain (i : Ins) (st : RL H0 H lo n gr gs gf id trip p s fs ss f va sa h ha m e) (hf : fs.length ≤ 12) (hb : 0 ≤ i.b ∧ i.b ≤ f.stack.length) (hs : f.stack.length ≤ 4096) (ha0 : 0 ≤ i.a ∧ i.a.toNat < p.codes.length) (hv : i.b ≤ (VM.codeAt p i.a).vars ∧ (VM.codeAt p i.a).vars ≤ 8) {Q : AV → Heap → Nat → Prop}
    (h1 : 12 ≤ fs.length + 1 → ∀ H' n', n ≤ n' → RL H0 H' lo n' gr gs gf id trip p s fs ss f va sa h ha m (VM.dead 9) → Q (.tup []) H' n')
    (h2 : ¬ 12 ≤ fs.length + 1 → ∀ H' n' gf' sa2 va' sa', n ≤ n' → RL H0 H' lo n' gr gs gf' id trip p s (fs ++ [{ f with stack := VM.low i.b.toNat f.stack }]) (ss ++ [(va, sa2)]) ⟨i.a, 0, f.stack.drop (f.stack.length - i.b.toNat) ++ List.replicate ((VM.codeAt p i.a).vars - i.b).toNat VM.vzero, []⟩ va' sa' h ha m e → Q (.tup []) H' n') :
    za Tryd.prog 95 [.ptr gr 0, .agg i.avs] H n Q := by
  refine znc _ _ H n _ ?_
  obtain ⟨iop, ia, ib⟩ := i
  simp only at hb ha0 hv h2
  obtain ⟨N, hN⟩ : ∃ N : Nat, (VM.codeAt p ia).vars = N := ⟨(VM.codeAt p ia).vars.toNat, by omega⟩
  obtain ⟨b, rfl⟩ : ∃ b : Nat, ib = b := ⟨ib.toNat, by omega⟩
  have hr := st.run
  have ap := st.apart
  have rn : gr ≠ n := by have := ap.r; omega
  have st1 := st.temp (some (.row 3 [AV.int .i64 iop, .int .i64 ia, .int .i64 b]))
  by_cases h12 : 12 ≤ fs.length + 1
  · have hd : (12 : Int) ≤ fs.length + 1 := by omega
    simp [zei, hr, zc, rn, hd, Ins.avs]
    exact zgm st1 9 fun H' st2 => h1 h12 H' _ (by omega) st2
  have hd : ¬ (12 : Int) ≤ fs.length + 1 := by omega
  simp [zei, hr, zc, rn, hd, Ins.avs]
  refine zwx st1 (by omega) ?_
  obtain ⟨cs, c1, c2, c3, c4, c5, c6, c7⟩ := st.last
  have fn0 : gf ≠ n := by have := ap.f; omega
  have fn1 : gf ≠ n + 1 := by have := ap.f; omega
  have fn2 : gf ≠ n + 2 := by have := ap.f; omega
  have rn1 : gr ≠ n + 1 := by have := ap.r; omega
  have rn2 : gr ≠ n + 2 := by have := ap.r; omega
  have rf := ap.rf
  have hcode := zug ha0.2
  have hca : (VM.codeAt p ia).avs = [.int .i64 (VM.codeAt p ia).params, .int .i64 N, .ro ((VM.codeAt p ia).ins.map Ins.avs)] := by rw [← hN]; rfl
  have hN8 : N ≤ 8 := by omega
  have hw : IntKind.i64.wrap ((f.stack.length : Int) - b) = (f.stack.length - b : Nat) := by rw [i64w (by omega)]; omega
  have nn : n ≠ n + 1 := by omega
  have zer : ∀ N, (List.replicate N [AV.int IntKind.i64 0, AV.int IntKind.i64 0, AV.str []]).flatten = rowV (List.replicate N VM.vzero) := fun N => by simp [rowV, List.map_replicate, Val.avs, VM.vzero]
  rcases st.st with ⟨h0, rfl | rfl⟩ | ⟨g, gcs, rfl, g1, g2, g3⟩
  · have hb0 : b = 0 := by omega
    subst hb0
    have hst : f.stack = [] := List.eq_nil_of_length_eq_zero h0
    have hw0 : IntKind.i64.wrap 0 = 0 := i64w (by omega)
    simp [zce, c1, c7, fn0, fn1, hr, zc, rn, rn1, hcode, hca, zer, nn, hw0]
    refine ⟨ha0.1, by omega, by omega, by omega, ?_⟩
    refine zuf (news := []) (rd := []) (mm := 0) rfl (Heap.put_at _ _ _) (by simp) rfl ?_
    simp [c1, c7, fn0, fn1, fn0.symm, fn1.symm, rn, rn1, nn]
    refine ⟨by omega, ?_⟩
    generalize hX : Heap.put (Heap.put (Heap.put (Heap.put H n _) (n + 1) _) gf _) (n + 1 + 1) _ = X at *
    have xgf : X gf = some (.row 4 (cs.take (fs.length * 4 + 3) ++ AV.nils :: cs.drop (fs.length * 4 + 3 + 1))) := by rw [← hX, Heap.put_ne _ _ (by omega), Heap.put_at]
    have xold : ∀ x, x < n → x ≠ gf → X x = H x := fun x hx hxf => by rw [← hX, Heap.put_ne _ _ (by omega), Heap.put_ne _ _ hxf, Heap.put_ne _ _ (by omega), Heap.put_ne _ _ (by omega)]
    have xgr : X gr = some (.row 13 (zc id trip p (.slc gf 0 (fs.length + 1)) ha m gs e)) := by rw [xold gr ap.r rf]; exact hr
    have xv : X (n + 1) = some (.row 3 (rowV (List.replicate N VM.vzero))) := by rw [← hX, Heap.put_ne _ _ (by omega), Heap.put_ne _ _ fn1.symm, Heap.put_at]
    have xt : X (n + 1 + 1) = some (.row 4 [AV.int .i64 ia, AV.int .i64 0, AV.slc (n + 1) 0 N, AV.nils]) := by rw [← hX, Heap.put_at]
    obtain ⟨d1, d2⟩ := zke (u := .nils) c2 (zap st.frs.1) c3 (j := 3) (by omega)
    have fsn : frow fs ss ++ [AV.int .i64 f.fn, .int .i64 f.at_, va, .nils] = frow (fs ++ [{ f with stack := VM.low 0 f.stack }]) (ss ++ [(va, .nils)]) := by rw [zby st.frs.1]
    have d1' : (cs.take (fs.length * 4 + 3) ++ AV.nils :: cs.drop (fs.length * 4 + 3 + 1)).take ((fs.length + 1) * 4) = frow (fs ++ [{ f with stack := VM.low 0 f.stack }]) (ss ++ [(va, .nils)]) := by rw [← fsn]; simpa using d1
    have fl : (frow (fs ++ [{ f with stack := VM.low 0 f.stack }]) (ss ++ [(va, .nils)])).length = (fs.length + 1) * 4 := by rw [zap (by simp [st.frs.1])]; simp
    rw [if_neg rf, hr, rowk]
    have rn3 : gr ≠ n + 1 + 2 := by have := ap.r; omega
    have dd : (cs.take (fs.length * 4 + 3) ++ AV.nils :: cs.drop (fs.length * 4 + 3 + 1)).take ((fs.length + 1) * 4) = frow (fs ++ [{ f with stack := VM.low 0 f.stack }]) (ss ++ [(va, .nils)]) := d1'
    simp [zc, xt, xgf, xgr, rn3, rf]
    rw [dd]
    refine ⟨by simpa using d2, by omega, by omega, h2 h12 _ _ (n + 1 + 2) .nils (.slc (n + 1) 0 N) .nils (by omega) (st.call (n' := n + 1 + 2 + 1) (gv := n + 1) (by omega) (by omega) (by omega) (by omega) (by rw [Heap.put_at]; simp [zc]) ⟨_, by rw [Heap.put_ne _ _ (by omega), Heap.put_at]; rfl, List.take_of_length_le (by simp [fl]; omega), by simp [fl]; omega⟩ rfl ?_ rfl ?_ rfl fun x h1 h2 h3 => by rw [Heap.put_ne _ _ h2, Heap.put_ne _ _ (by omega), Heap.put_ne _ _ h3]; exact xold x h1 h3)⟩
    · exact .inl ⟨by simp [VM.low, hst], by simp⟩
    · refine .inr ⟨n + 1, _, by simp [hst, hN], by rw [Heap.put_ne _ _ (by omega), Heap.put_ne _ _ (by omega), Heap.put_ne _ _ (by omega)]; exact xv, ?_, ?_⟩
      · simp [hst, hN]
        exact List.take_of_length_le (by simp)
      · simp [hst, hN]
  · have hb0 : b = 0 := by omega
    subst hb0
    have hst : f.stack = [] := List.eq_nil_of_length_eq_zero h0
    have hw0 : IntKind.i64.wrap 0 = 0 := i64w (by omega)
    simp [zce, c1, c7, fn0, fn1, hr, zc, rn, rn1, hcode, hca, zer, nn, hw0]
    refine ⟨ha0.1, by omega, by omega, by omega, ?_⟩
    refine zuf (news := []) (rd := []) (mm := 0) rfl (Heap.put_at _ _ _) (by simp) rfl ?_
    simp [c1, c7, fn0, fn1, fn0.symm, fn1.symm, rn, rn1, nn]
    refine ⟨by omega, ?_⟩
    generalize hX : Heap.put (Heap.put (Heap.put (Heap.put H n _) (n + 1) _) gf _) (n + 1 + 1) _ = X at *
    have xgf : X gf = some (.row 4 (cs.take (fs.length * 4 + 3) ++ AV.zs :: cs.drop (fs.length * 4 + 3 + 1))) := by rw [← hX, Heap.put_ne _ _ (by omega), Heap.put_at]
    have xold : ∀ x, x < n → x ≠ gf → X x = H x := fun x hx hxf => by rw [← hX, Heap.put_ne _ _ (by omega), Heap.put_ne _ _ hxf, Heap.put_ne _ _ (by omega), Heap.put_ne _ _ (by omega)]
    have xgr : X gr = some (.row 13 (zc id trip p (.slc gf 0 (fs.length + 1)) ha m gs e)) := by rw [xold gr ap.r rf]; exact hr
    have xv : X (n + 1) = some (.row 3 (rowV (List.replicate N VM.vzero))) := by rw [← hX, Heap.put_ne _ _ (by omega), Heap.put_ne _ _ fn1.symm, Heap.put_at]
    have xt : X (n + 1 + 1) = some (.row 4 [AV.int .i64 ia, AV.int .i64 0, AV.slc (n + 1) 0 N, AV.nils]) := by rw [← hX, Heap.put_at]
    obtain ⟨d1, d2⟩ := zke (u := .zs) c2 (zap st.frs.1) c3 (j := 3) (by omega)
    have fsn : frow fs ss ++ [AV.int .i64 f.fn, .int .i64 f.at_, va, .zs] = frow (fs ++ [{ f with stack := VM.low 0 f.stack }]) (ss ++ [(va, .zs)]) := by rw [zby st.frs.1]
    have d1' : (cs.take (fs.length * 4 + 3) ++ AV.zs :: cs.drop (fs.length * 4 + 3 + 1)).take ((fs.length + 1) * 4) = frow (fs ++ [{ f with stack := VM.low 0 f.stack }]) (ss ++ [(va, .zs)]) := by rw [← fsn]; simpa using d1
    have fl : (frow (fs ++ [{ f with stack := VM.low 0 f.stack }]) (ss ++ [(va, .zs)])).length = (fs.length + 1) * 4 := by rw [zap (by simp [st.frs.1])]; simp
    rw [if_neg rf, hr, rowk]
    have rn3 : gr ≠ n + 1 + 2 := by have := ap.r; omega
    have dd : (cs.take (fs.length * 4 + 3) ++ AV.zs :: cs.drop (fs.length * 4 + 3 + 1)).take ((fs.length + 1) * 4) = frow (fs ++ [{ f with stack := VM.low 0 f.stack }]) (ss ++ [(va, .zs)]) := d1'
    simp [zc, xt, xgf, xgr, rn3, rf]
    rw [dd]
    refine ⟨by simpa using d2, by omega, by omega, h2 h12 _ _ (n + 1 + 2) .zs (.slc (n + 1) 0 N) .nils (by omega) (st.call (n' := n + 1 + 2 + 1) (gv := n + 1) (by omega) (by omega) (by omega) (by omega) (by rw [Heap.put_at]; simp [zc]) ⟨_, by rw [Heap.put_ne _ _ (by omega), Heap.put_at]; rfl, List.take_of_length_le (by simp [fl]; omega), by simp [fl]; omega⟩ rfl ?_ rfl ?_ rfl fun x h1 h2 h3 => by rw [Heap.put_ne _ _ h2, Heap.put_ne _ _ (by omega), Heap.put_ne _ _ h3]; exact xold x h1 h3)⟩
    · exact .inl ⟨by simp [VM.low, hst], by simp⟩
    · refine .inr ⟨n + 1, _, by simp [hst, hN], by rw [Heap.put_ne _ _ (by omega), Heap.put_ne _ _ (by omega), Heap.put_ne _ _ (by omega)]; exact xv, ?_, ?_⟩
      · simp [hst, hN]
        exact List.take_of_length_le (by simp)
      · simp [hst, hN]
  · have hg := ap.t g (by simp [own])
    have gn1 : g ≠ n + 1 := by omega
    have gn0 : g ≠ n := by omega
    have hgf : g ≠ gf := hg.2.2.2.1
    simp [zce, c1, c7, fn0, fn1, hr, zc, rn, rn1, hcode, hca, zer, nn, hw, g1, gn1, gn0]
    refine ⟨ha0.1, by omega, by omega, by omega, ?_⟩
    have hlen : f.stack.length - (f.stack.length - b) = b := by omega
    rw [hlen]
    have hnews : ((gcs.drop ((f.stack.length - b) * 3)).take (b * 3)) = rowV (f.stack.drop (f.stack.length - b)) := by
      rw [← zpg, ← g2, List.drop_take]
      congr 1
      omega
    refine zuf (news := rowV (f.stack.drop (f.stack.length - b))) (rd := [g]) (mm := b) ?_ (Heap.put_at _ _ _) (by simp) (zxe _) ?_
    · simp only [zf]
      rw [Heap.put_ne _ _ gn1, Heap.put_ne _ _ gn0, g1]
      simp only
      rw [if_pos (by omega), hnews]
    have hmin : min b N = b := by omega
    have htk : (rowV (f.stack.drop (f.stack.length - b))).take (b * 3) = rowV (f.stack.drop (f.stack.length - b)) := List.take_of_length_le (by simp; omega)
    have hsp : zak (rowV (List.replicate N VM.vzero)) 0 (rowV (f.stack.drop (f.stack.length - b))) = rowV (f.stack.drop (f.stack.length - b) ++ List.replicate (N - b) VM.vzero) := by
      have e : (rowV (f.stack.drop (f.stack.length - b))).length = b * 3 := by simp; omega
      rw [zacp, List.take_zero, List.nil_append, e, Nat.zero_add, zpg, zsc]
      simp
    rw [hmin, htk, hsp]
    have hkk : (f.stack.length - b : Nat) ≤ f.stack.length := by omega
    simp [c1, c7, fn0, fn1, fn0.symm, fn1.symm, rn, rn1, nn, g1, gn1, gn0]
    refine ⟨by omega, ?_⟩
    generalize hX : Heap.put (Heap.put (Heap.put (Heap.put H n _) (n + 1) _) gf _) (n + 1 + 1) _ = X at *
    have xgf : X gf = some (.row 4 (cs.take (fs.length * 4 + 3) ++ AV.slc g 0 (f.stack.length - b) :: cs.drop (fs.length * 4 + 3 + 1))) := by rw [← hX, Heap.put_ne _ _ (by omega), Heap.put_at]
    have xold : ∀ x, x < n → x ≠ gf → X x = H x := fun x hx hxf => by rw [← hX, Heap.put_ne _ _ (by omega), Heap.put_ne _ _ hxf, Heap.put_ne _ _ (by omega), Heap.put_ne _ _ (by omega)]
    have xgr : X gr = some (.row 13 (zc id trip p (.slc gf 0 (fs.length + 1)) ha m gs e)) := by rw [xold gr ap.r rf]; exact hr
    have xv : X (n + 1) = some (.row 3 (rowV (f.stack.drop (f.stack.length - b) ++ List.replicate (N - b) VM.vzero))) := by rw [← hX, Heap.put_ne _ _ (by omega), Heap.put_ne _ _ fn1.symm, Heap.put_at]
    have xt : X (n + 1 + 1) = some (.row 4 [AV.int .i64 ia, AV.int .i64 0, AV.slc (n + 1) 0 N, AV.nils]) := by rw [← hX, Heap.put_at]
    obtain ⟨d1, d2⟩ := zke (u := .slc g 0 (f.stack.length - b)) c2 (zap st.frs.1) c3 (j := 3) (by omega)
    have fsn : frow fs ss ++ [AV.int .i64 f.fn, .int .i64 f.at_, va, .slc g 0 (f.stack.length - b)] = frow (fs ++ [{ f with stack := VM.low b f.stack }]) (ss ++ [(va, .slc g 0 (f.stack.length - b))]) := by rw [zby st.frs.1]
    have d1' : (cs.take (fs.length * 4 + 3) ++ AV.slc g 0 (f.stack.length - b) :: cs.drop (fs.length * 4 + 3 + 1)).take ((fs.length + 1) * 4) = frow (fs ++ [{ f with stack := VM.low b f.stack }]) (ss ++ [(va, .slc g 0 (f.stack.length - b))]) := by rw [← fsn]; simpa using d1
    have fl : (frow (fs ++ [{ f with stack := VM.low b f.stack }]) (ss ++ [(va, .slc g 0 (f.stack.length - b))])).length = (fs.length + 1) * 4 := by rw [zap (by simp [st.frs.1])]; simp
    rw [if_neg rf, hr, rowk]
    have rn3 : gr ≠ n + 1 + 2 := by have := ap.r; omega
    have dd : (cs.take (fs.length * 4 + 3) ++ AV.slc g 0 (f.stack.length - b) :: cs.drop (fs.length * 4 + 3 + 1)).take ((fs.length + 1) * 4) = frow (fs ++ [{ f with stack := VM.low b f.stack }]) (ss ++ [(va, (.slc g 0 (f.stack.length - b)))]) := d1'
    simp [zc, xt, xgf, xgr, rn3, rf]
    rw [dd]
    refine ⟨by simpa using d2, by omega, by omega, h2 h12 _ _ (n + 1 + 2) (.slc g 0 (f.stack.length - b)) (.slc (n + 1) 0 N) .nils (by omega) (st.call (n' := n + 1 + 2 + 1) (gv := n + 1) (by omega) (by omega) (by omega) (by omega) (by rw [Heap.put_at]; simp [zc]) ⟨_, by rw [Heap.put_ne _ _ (by omega), Heap.put_at]; rfl, List.take_of_length_le (by simp [fl]; omega), by simp [fl]; omega⟩ rfl ?_ rfl ?_ rfl fun x h1 h2 h3 => by rw [Heap.put_ne _ _ h2, Heap.put_ne _ _ (by omega), Heap.put_ne _ _ h3]; exact xold x h1 h3)⟩
    · refine .inr ⟨g, gcs, by simp [VM.low], by rw [Heap.put_ne _ _ hg.2.1, Heap.put_ne _ _ (by omega), Heap.put_ne _ _ hgf, xold g hg.1 hgf]; exact g1, ?_, ?_⟩
      · have := congrArg (List.take ((f.stack.length - b) * 3)) g2
        rw [List.take_take, Nat.min_eq_left (by omega), zvg] at this
        simpa [VM.low] using this
      · simp [VM.low]; omega
    · have hl2 : (f.stack.drop (f.stack.length - b) ++ List.replicate (N - b) VM.vzero).length = N := by simp; omega
      have hNb : ((N : Int) - b).toNat = N - b := by omega
      refine .inr ⟨n + 1, _, by simp [hN, hNb]; omega, by rw [Heap.put_ne _ _ (by omega), Heap.put_ne _ _ (by omega), Heap.put_ne _ _ (by omega)]; exact xv, ?_, ?_⟩
      · simp only [hN, hNb, Int.toNat_natCast]
        rw [List.take_of_length_le (by simp)]
      · simp [hN, hNb]
end
end Go.Proofs.YtobioljjoipimaaDoor
set_option maxRecDepth 8000
namespace Go.Proofs.YtobioljjoipimaaDoor
open Go Go.RowKit
def Fin (H0 H : Heap) (lo gr : Nat) (id trip : Int) (p : Prg) (frames : List Frm) (h : List Cl) (m : Pmt) (e : Evt) : Prop := ∃ gs gf ss ha cs, H gr = some (.row 13 (zc id trip p (.slc gf 0 frames.length) ha m gs e)) ∧ H gf = some (.row 4 cs) ∧ cs.take (frames.length * 4) = frow frames ss ∧ frames.length * 4 ≤ cs.length ∧
  zai H frames ss ∧ Slot H 6 h.length (rowC h) ha ∧ lo ≤ gf ∧ (∀ g ∈ own ha, lo ≤ g) ∧ (∀ g ∈ owns ss, lo ≤ g) ∧ Keep lo H H0
section
variable {H0 H : Heap} {lo n gr gs gf : Nat} {id trip : Int} {p : Prg} {s : Spt} {fs : List Frm} {ss : List (AV × AV)} {f : Frm} {va sa : AV} {h : List Cl} {ha : AV} {m : Pmt} {e : Evt}
theorem RL.fin (st : RL H0 H lo n gr gs gf id trip p s fs ss f va sa h ha m e) : Fin H0 H lo gr id trip p (fs ++ [f]) h m e := by
  obtain ⟨cs, c1, c2, c3⟩ := st.fr
  have b := st.bd
  simp only [List.mem_cons, List.mem_append] at b
  refine ⟨gs, gf, ss ++ [(va, sa)], ha, cs, by rw [st.run]; simp, c1, by rw [zby st.frs.1]; simpa using c2, by simpa using c3, st.frs.snoc st.sv st.st, st.hp, (b gf (.inr (.inl rfl))).1, fun g hg => (b g (.inr (.inr (.inl hg)))).1, fun g hg => ?_, st.keep⟩
  rw [zbv] at hg
  rcases List.mem_append.1 hg with h | h
  · exact (b g (.inr (.inr (.inr (.inl h))))).1
  · rcases List.mem_append.1 h with h | h
    · exact (b g (.inr (.inr (.inr (.inr (.inl h)))))).1
    · exact (b g (.inr (.inr (.inr (.inr (.inr h)))))).1
theorem RL.back {gs' : List Frm} {g' : Frm} {ts : List (AV × AV)} {t : AV × AV} (st : RL H0 H lo n gr gs gf id trip p s (gs' ++ [g']) (ts ++ [t]) f va sa h ha m e) : RL H0 (H.put gr (some (.row 13 (zc id trip p (.slc gf 0 (gs'.length + 1)) ha m gs e)))) lo n gr gs gf id trip p s gs' ts g' t.1 t.2 h ha m e := by
  have ap := st.apart
  have b := st.bd
  obtain ⟨cs, c1, c2, c3⟩ := st.fr
  have hk : ∀ x, x ≠ gr → (H.put gr (some (.row 13 (zc id trip p (.slc gf 0 (gs'.length + 1)) ha m gs e)))) x = H x := fun x hx => Heap.put_ne _ _ hx
  obtain ⟨f1, f2, f3⟩ := st.frs.last
  have ow : ∀ x ∈ owns ts ++ (own t.1 ++ own t.2), x ∈ owns (ts ++ [t]) := fun x hx => by rw [zbv]; exact hx
  have wr : ∀ x ∈ owns ts ++ (own t.1 ++ own t.2), x ≠ gr := fun x hx => (ap.w x (ow x hx)).2.1
  refine ⟨Heap.put_at _ _ _, ⟨cs, by rw [hk _ ap.rf.symm]; exact c1, ?_, by simp at c3; omega⟩, f1.keep fun x hx => hk x (wr x (List.mem_append_left _ hx)), f2.keep fun x hx => hk x (wr x (List.mem_append_right _ (List.mem_append_left _ hx))), f3.keep fun x hx => hk x (wr x (List.mem_append_right _ (List.mem_append_right _ hx))),
    st.hp.keep fun x hx => hk x (ap.h x hx).2.1, by rw [hk _ ap.rs.symm]; exact st.spot, ?_, st.gsn, ?_, ?_, st.le⟩
  · have hl := zap st.frs.1
    have e1 := congrArg (List.take ((gs'.length + 1) * 4)) c2
    rw [List.take_take, Nat.min_eq_left (by simp; omega)] at e1
    rw [e1, List.take_append_of_le_length (by rw [hl]; simp), List.take_of_length_le (by rw [hl]; simp), zby f1.1]
  · have nd := st.nd
    rw [zbv] at nd
    refine List.Sublist.nodup ?_ nd
    refine .cons_cons _ (.cons_cons _ (.cons_cons _ (List.Sublist.append (List.Sublist.refl _) ?_)))
    exact List.sublist_append_left _ _
  · intro g hg
    refine b g ?_
    simp only [List.mem_cons, List.mem_append] at hg ⊢
    rcases hg with h | h | h | h | h | h
    · exact .inl h
    · exact .inr (.inl h)
    · exact .inr (.inr (.inl h))
    · exact .inr (.inr (.inr (.inl (ow _ (by simp [h])))))
    · exact .inr (.inr (.inr (.inl (ow _ (by simp [h])))))
    · exact .inr (.inr (.inr (.inl (ow _ (by simp [h])))))
  · intro g hg
    have l1 := (b gr (by simp)).1
    rw [hk g (by omega)]
    exact st.keep g hg
theorem Slot.frzC {a : AV} {h : List Cl} (hs : Slot H 6 h.length (rowC h) a) : Frz H 0 a (.ro (h.map Cl.avs)) := by
  rcases hs with ⟨h0, rfl | rfl⟩ | ⟨g, cs, rfl, h1, h2, h3⟩
  · rw [List.eq_nil_of_length_eq_zero h0]; exact .nils
  · rw [List.eq_nil_of_length_eq_zero h0]; exact .zs
  · refine .slc g 0 _ 6 cs _ (Nat.zero_le _) h1 (by omega) (by simp) (zct h) (fun i j => (cs[i * 6 + j]?).getD .junk) (fun i x j v hx hv => ?_) (fun i x j v hx hv => ?_)
    all_goals
      have hj : j < 6 := by
        have := (List.getElem?_eq_some_iff.1 hv).1
        rw [zct h x (List.mem_of_getElem? hx)] at this; exact this
      have hi : i < h.length := by have := (List.getElem?_eq_some_iff.1 hx).1; simpa using this
      have e : cs[i * 6 + j]? = some v := by
        have e1 := zgk (zct h) hx
        have e2 : (rowC h)[i * 6 + j]? = some v := by
          have := congrArg (·[j]?) e1
          simp only [List.getElem?_take, List.getElem?_drop, hj, if_true] at this
          unfold rowC; rw [this]; exact hv
        rw [← h2, List.getElem?_take, if_pos (by omega)] at e2
        exact e2
    · rw [Nat.zero_add, e]; rfl
    · rw [e]
      exact .same _ (zdi (zgz h x (List.mem_of_getElem? hx) v (List.mem_of_getElem? hv)))
theorem zt.show {a : AV} {h : List Cl} {v : Val} (hs : Slot H 6 h.length (rowC h) a) (hc : zmj h) (hv : VM.WrongOk v h.length) {nx : Nat} {k : Kt} (hk : k (.str (VM.vshow h 4 v)) (own a) [] []) : zt Tryd.prog (.clo 94 []) [a, .agg v.avs, .int .i64 4] H nx k := by
  refine zt.of_qcr (own a) (fun g hg => ?_) (fun H' n' hh => QC.reads (zub hc 4 v 4 hv rfl (by omega) (by omega)) (by simp) (.cons (Slot.frzC (hs.keep fun g hg => (hh g hg).1)) (.cons (.same _ (zle v)) (.cons (.same _ (.int _ _)) .nil)))) (.str _) hk
  rcases hs with ⟨_, rfl | rfl⟩ | ⟨g', cs, rfl, h1, _⟩
  · simp [own] at hg
  · simp [own] at hg
  · simp [own] at hg; subst hg; rw [h1]; rfl
set_option maxHeartbeats 1000000 in
theorem zaio {st' : List Val} {v : Val} (st : RL H0 H lo n gr gs gf id trip p s fs ss f va sa h ha m e) (hf : fs.length ≤ 4096) (hs : f.stack = st' ++ [v]) (hb : st'.length ≤ 4095) (hc : zmj h) (hv : VM.WrongOk v h.length) (hg4 : ∀ g ∈ fs, g.stack.length ≤ 4095) {Q : AV → Heap → Nat → Prop}
    (h1 : fs = [] → ∀ H' n', n ≤ n' → Fin H0 H' lo gr id trip p [] h m ⟨4, VM.vshow h 4 v, 0⟩ → Q (.tup []) H' n')
    (h2 : ∀ gs' g', fs = gs' ++ [g'] → ∀ H' n' ts va' sa', n ≤ n' → RL H0 H' lo n' gr gs gf id trip p s gs' ts { g' with stack := g'.stack ++ [v] } va' sa' h ha m e → Q (.tup []) H' n') :
    za Tryd.prog 96 [.ptr gr 0] H n Q := by
  refine znd _ H n _ ?_
  unfold zio
  refine zkb st hf hs (by omega) fun H1 n1 sa1 hn1 st1 => ?_
  have st2 := st1.temp (some (.row 3 v.avs))
  have ap := st1.apart
  have hr := st1.run
  have rn : gr ≠ n1 := by have := ap.r; omega
  have fn : gf ≠ n1 := by have := ap.f; omega
  obtain ⟨cs, c1, c2, c3⟩ := st1.fr
  have hw : IntKind.i64.wrap (fs.length : Int) = fs.length := i64w (by omega)
  have rf := ap.rf
  rcases List.eq_nil_or_concat fs with rfl | ⟨gs', g', rfl⟩
  · have hw0 : IntKind.i64.wrap 0 = 0 := i64w (by omega)
    simp [zej, hr, zc, rn, rn.symm, c1, fn, hw0]
    refine ⟨zaa v, ?_⟩
    have hkk : ∀ (o : Option AObj) (x : Nat), x ≠ gr → ((H1.put n1 (some (.row 3 v.avs))).put gr o) x = (H1.put n1 (some (.row 3 v.avs))) x := fun o x hx => Heap.put_ne _ _ hx
    refine zt.show (st2.hp.keep fun g hg => hkk _ g (ap.h g hg).2.1) hc hv ?_
    simp [zip, rn, rn.symm]
    have b := st1.bd
    simp only [List.mem_cons, List.mem_append] at b
    refine h1 rfl _ _ (by omega) ⟨gs, gf, [], ha, cs, by rw [Heap.put_at]; rfl, by rw [hkk _ _ rf.symm, Heap.put_ne _ _ fn]; exact c1, by simp [frow], by simp, ⟨rfl, fun k f s hf => by simp at hf⟩, st2.hp.keep fun g hg => hkk _ g (ap.h g hg).2.1, (b gf (.inr (.inl rfl))).1, fun g hg => (b g (.inr (.inr (.inl hg)))).1, by simp [owns], fun g hg => ?_⟩
    have l1 := (b gr (.inl rfl)).1
    have l2 := st1.le
    rw [hkk _ _ (by omega), Heap.put_ne _ _ (by omega)]
    exact st1.keep g hg
  · rw [List.concat_eq_append] at *
    have hne : ¬ ((gs'.length : Int) + 1 = 0) := by omega
    simp at hw
    simp [zej, hr, zc, rn, rn.symm, c1, fn, hw, hne]
    obtain ⟨ts, t, rfl⟩ : ∃ ts t, ss = ts ++ [t] := by
      have := st.frs.1
      rcases List.eq_nil_or_concat ss with rfl | ⟨ts, t, h⟩
      · simp at this
      · exact ⟨ts, t, by rw [h, List.concat_eq_append]⟩
    refine ⟨zaa v, by omega, by omega, ?_⟩
    have st3 := st2.back
    exact zcw v st3 (by simp at hf; omega) (Nat.le_succ_of_le (hg4 g' (by simp))) fun H' n' sa' hn st4 => h2 gs' g' rfl H' n' ts t.1 sa' (by omega) st4
end
end Go.Proofs.YtobioljjoipimaaDoor
set_option maxRecDepth 8000
namespace Go.Proofs.YtobioljjoipimaaDoor
open Go Go.RowKit
section
variable {H0 H : Heap} {lo n gr gs gf : Nat} {id trip : Int} {p : Prg} {s : Spt} {fs : List Frm} {ss : List (AV × AV)} {f : Frm} {va sa : AV} {h : List Cl} {ha : AV} {m : Pmt} {e : Evt}
structure ztn (H : Heap) (gr gf k j : Nat) (cs cells : List AV) (sa : AV) : Prop where
  run : ∃ rc, H gr = some (.row 13 rc) ∧ rc[4]? = some (.slc gf 0 (k + 1))
  fr : H gf = some (.row 4 cs)
  frl : (k + 1) * 4 ≤ cs.length
  cell : cs[k * 4 + 3]? = some sa
  st : Slot H 3 j cells sa
  len : cells.length = j * 3
  kb : k ≤ 4096
  jb : j ≤ 4096
  of : gf ∉ own sa
def zcj (cs : List AV) (k g j : Nat) : List AV := cs.take (k * 4 + 3) ++ AV.slc g 0 (j + 1) :: cs.drop (k * 4 + 3 + 1)
set_option maxHeartbeats 1000000 in
theorem zaay {k j : Nat} {cs cells : List AV} (v : Val) (st : ztn H gr gf k j cs cells sa) (l1 : gr < n) (l2 : gf < n) (l3 : ∀ g ∈ own sa, g < n) {Q : AV → Heap → Nat → Prop}
    (hq : ∀ H' n' g', n ≤ g' → g' < n' → H' gf = some (.row 4 (zcj cs k g' j)) → H' g' = some (.row 3 (cells ++ v.avs)) → (∀ x, x < n → x ≠ gf → x ∉ own sa → H' x = H x) → Q (.tup []) H' n') : za Tryd.prog 85 [.ptr gr 0, .agg v.avs] H n Q := by
  refine zfp _ _ H n _ ?_
  simp [zee]
  obtain ⟨rc, h1, h2⟩ := st.run
  have c1 := st.fr
  have c3 := st.frl
  have c7 := st.cell
  have rn0 : gr ≠ n := by omega
  have fn0 : gf ≠ n := by omega
  refine zuz (rc := rc) (cs := cs) (k := k) (by rw [Heap.put_ne _ _ rn0]; exact h1) h2 (by rw [Heap.put_ne _ _ fn0]; exact c1) st.kb ?_
  have tv : v.avs.take 3 = v.avs := rfl
  have lv : v.avs.length = 3 := rfl
  have fnn : gf ≠ n + 1 := by omega
  have gn1 : n ≠ n + 1 := by omega
  have hlen := st.len
  have hjb := st.jb
  simp [zef, c1, c7, tv, lv, fn0, gn1]
  have sa1 : Slot ((H.put n (some (AObj.row 3 v.avs))).put (n + 1) (some (AObj.row 3 v.avs))) 3 j cells sa := st.st.keep fun g hg => by
    have := l3 g hg
    rw [Heap.put_ne _ _ (by omega), Heap.put_ne _ _ (by omega)]
  refine Slot.append (new := v.avs) sa1 st.len (Heap.put_at _ _ _) rfl (List.all_eq_true.2 (zaa v)) (by omega) fun rd D hD q1 q2 => ?_
  have hgf : (((H.put n (some (AObj.row 3 v.avs))).put (n + 1) (some (AObj.row 3 v.avs))).apply D) gf = some (.row 4 cs) := by
    rw [q2 gf st.of (by omega), Heap.put_ne _ _ fnn, Heap.put_ne _ _ fn0]; exact c1
  have hold : ∀ g, g < n → g ∉ own sa → (((H.put n (some (AObj.row 3 v.avs))).put (n + 1) (some (AObj.row 3 v.avs))).apply D) g = H g := fun g hg hs => by
    rw [q2 g hs (by omega), Heap.put_ne _ _ (by omega), Heap.put_ne _ _ (by omega)]
  generalize ((H.put n (some (AObj.row 3 v.avs))).put (n + 1) (some (AObj.row 3 v.avs))).apply D = HD at *
  simp [hgf]
  refine ⟨by omega, by omega, znq (by simp) (hq _ _ (n + 1 + 1) (by omega) (by omega) (by rw [Heap.put_at]; rfl) (by rw [Heap.put_ne _ _ (by omega)]; exact q1) fun x h1 h2 h3 => by rw [Heap.put_ne _ _ h2]; exact hold x h1 h3)⟩
theorem RL.pushAt (st : RL H0 H lo n gr gs gf id trip p s fs ss f va sa h ha m e) (hf : fs.length ≤ 4096) (hb : f.stack.length ≤ 4096) (v : Val) : ∃ cs, ztn H gr gf fs.length f.stack.length cs (rowV f.stack) sa ∧ (∀ g ∈ own sa, g < n) ∧
    ∀ H' n' g', n ≤ g' → g' < n' → H' gf = some (.row 4 (zcj cs fs.length g' f.stack.length)) → H' g' = some (.row 3 (rowV f.stack ++ v.avs)) → (∀ x, x < n → x ≠ gf → x ∉ own sa → H' x = H x) → RL H0 H' lo n' gr gs gf id trip p s fs ss { f with stack := f.stack ++ [v] } va (.slc g' 0 (f.stack.length + 1)) h ha m e := by
  obtain ⟨cs, c1, c2, c3, c4, c5, c6, c7⟩ := st.last
  have ap := st.apart
  have lv : v.avs.length = 3 := rfl
  refine ⟨cs, ⟨⟨_, st.run, rfl⟩, c1, c3, c7, st.st, by simp, hf, hb, fun h => (ap.t _ h).2.2.2.1 rfl⟩, fun g hg => (ap.t g hg).1, fun H' n' g' h1 h2 q1 q2 old => ?_⟩
  obtain ⟨d1, d2⟩ := zke (u := AV.slc g' 0 (f.stack.length + 1)) c2 (zap st.frs.1) c3 (j := 3) (by omega)
  refine st.upd (by omega) ?_ ⟨_, q1, by simpa [zcj] using d1, d2⟩ ?_ ?_ ?_ ?_ (fun g hg => .inl hg) (fun g hg => .inl hg) ?_ ?_
  · rw [old gr ap.r ap.rf (fun h => (ap.t _ h).2.1 rfl)]; exact st.run
  · exact st.sv.keep fun g hg => old g (ap.v g hg).1 (ap.v g hg).2.2.2.1 (ap.v g hg).2.2.2.2.2.2
  · refine .inr ⟨g', rowV f.stack ++ v.avs, by simp, q2, ?_, ?_⟩
    · rw [zpf, List.take_of_length_le (by simp [lv]; omega)]
    · simp [lv]; omega
  · exact st.hp.keep fun g hg => old g (ap.h g hg).1 (ap.h g hg).2.2.2.1 (ap.h g hg).2.2.2.2.2.2
  · exact fun g hg _ h2 _ _ h3 => old g hg h2 h3
  · intro g hg; simp [own] at hg; subst hg; exact .inr ⟨by omega, by omega⟩
  · have := st.nd3
    simp only [List.nodup_append, List.mem_append] at this ⊢
    obtain ⟨z1, ⟨z2, _, _⟩, z4⟩ := this
    refine ⟨z1, ⟨z2, zlf _, ?_⟩, ?_⟩
    · rintro x hx y hy rfl
      simp [own] at hy
      have := (ap.v x hx).1; omega
    · rintro x hx y (hy | hy) rfl
      · exact z4 x hx x (.inl hy) rfl
      · simp [own] at hy
        have := (ap.h x hx).1; omega
def gone (sa : AV) : zj := (own sa).map fun g => (g, none)
theorem znk {g' : Nat} {o1 o2 : Option AObj} (hne : ∀ g, g ∈ own sa → g ≠ g' ∧ g ≠ gf) (hfn : gf ≠ g') (Hx : Heap) : (Hx.apply (gone sa ++ [(gf, o1), (g', o2)])) gf = o1 ∧ (Hx.apply (gone sa ++ [(gf, o1), (g', o2)])) g' = o2 ∧
    ∀ x, x ∉ own sa → x ≠ gf → x ≠ g' → (Hx.apply (gone sa ++ [(gf, o1), (g', o2)])) x = Hx x := by
  have e : ∀ (D1 D2 : zj) (Hy : Heap), Hy.apply (D1 ++ D2) = (Hy.apply D1).apply D2 := fun D1 D2 Hy => by
    induction D1 generalizing Hy with
    | nil => rfl
    | cons d D1 ih => obtain ⟨g, o⟩ := d; exact ih (Hy.put g o)
  rw [e]
  simp only [zbj, zbs]
  refine ⟨by rw [Heap.put_ne _ _ hfn, Heap.put_at], by rw [Heap.put_at], fun x hx h1 h2 => ?_⟩
  rw [Heap.put_ne _ _ h2, Heap.put_ne _ _ h1]
  cases sa
  case slc g o l => simp [own] at hx; simp [gone, own, hx]
  all_goals rfl
theorem zt.push {k j : Nat} {cs cells : List AV} {v : Val} (st : ztn H gr gf k j cs cells sa) (hc : ∀ c ∈ cells, scal c = true) {kt : Kt} (hne : ∀ g, g ∈ own sa → g ≠ n ∧ g ≠ gf) (hfn : gf ≠ n) (hk : kt (.tup []) (gr :: gf :: own sa) [n] (gone sa ++ [(gf, some (.row 4 (zcj cs k n j))), (n, some (.row 3 (cells ++ v.avs)))])) :
    zt Tryd.prog (.clo 85 []) [.ptr gr 0, .agg v.avs] H n kt := by
  obtain ⟨rc, h1, h2⟩ := st.run
  have c1 := st.fr
  have dg : ∀ x, x ∈ domD (gone sa) ↔ x ∈ own sa := fun x => by simp [gone, domD]
  have dD : ∀ x, x ∈ domD (gone sa ++ [(gf, some (.row 4 (zcj cs k n j))), (n, some (.row 3 (cells ++ v.avs)))]) ↔ x ∈ own sa ∨ x = gf ∨ x = n := fun x => by simp [domD, gone]
  have app : ∀ Hx : Heap, (Hx.apply (gone sa ++ [(gf, some (.row 4 (zcj cs k n j))), (n, some (.row 3 (cells ++ v.avs)))])) gf = some (.row 4 (zcj cs k n j)) ∧ (Hx.apply (gone sa ++ [(gf, some (.row 4 (zcj cs k n j))), (n, some (.row 3 (cells ++ v.avs)))])) n = some (.row 3 (cells ++ v.avs)) ∧
      ∀ x ∈ own sa, (Hx.apply (gone sa ++ [(gf, some (.row 4 (zcj cs k n j))), (n, some (.row 3 (cells ++ v.avs)))])) x = none := fun Hx => by
    have e : ∀ (D1 D2 : zj) (Hy : Heap), Hy.apply (D1 ++ D2) = (Hy.apply D1).apply D2 := fun D1 D2 Hy => by
      induction D1 generalizing Hy with
      | nil => rfl
      | cons d D1 ih => obtain ⟨g, o⟩ := d; exact ih (Hy.put g o)
    rw [e]
    simp only [zbj, zbs]
    refine ⟨by rw [Heap.put_ne _ _ hfn, Heap.put_at], by rw [Heap.put_at], fun x hx => ?_⟩
    obtain ⟨a, b⟩ := hne x hx
    rw [Heap.put_ne _ _ a, Heap.put_ne _ _ b]
    cases sa <;> simp [own] at hx
    subst hx
    simp [gone, own]
  refine ⟨_, gr :: gf :: own sa, [n], _, .inr (.inl rfl), LC.of_callsN (fun x hx => ?_) (fun x hx => ?_) (fun A hA hB H' n' hag => ?_), hk⟩
  · simp at hx
    rcases hx with rfl | rfl | hx
    · rw [h1]; rfl
    · rw [c1]; rfl
    · rcases st.st with ⟨_, rfl | rfl⟩ | ⟨g, gcs, rfl, g1, _⟩
      · simp [own] at hx
      · simp [own] at hx
      · simp [own] at hx; subst hx; rw [g1]; rfl
  · rcases (dD x).1 hx with h | h | h
    · exact .inl (by simp [h])
    · exact .inl (by simp [h])
    · exact .inr h
  · obtain ⟨a1, a2⟩ := hag gr (by simp)
    obtain ⟨a3, a4⟩ := hag gf (by simp)
    have st' : ztn H' gr gf k j cs cells sa := ⟨⟨rc, by rw [a1]; exact h1, h2⟩, by rw [a3]; exact c1, st.frl, st.cell, st.st.keep fun g hg => (hag g (by simp [hg])).1, st.len, st.kb, st.jb, st.of⟩
    refine zaay v st' a2 a4 (fun g hg => (hag g (by simp [hg])).2) fun H'' n'' g' hg1 hg2 q1 q2 old => ?_
    obtain ⟨p1, p2, p3⟩ := app H'
    have hb := hB gf (by simp) _ c1
    refine ⟨g', hg1, hg2, .same _ (.tup _ fun j v hv => by simp at hv), fun x hx hd => ?_, fun x o hx hxn ho => ?_, ⟨_, _, p2, q2, rfl, rfl, fun j x u hx hu => ?_⟩⟩
    · have := (not_congr (dD x)).1 hd
      simp only [not_or] at this
      exact old x hx this.2.1 this.1
    · rcases (dD x).1 hx with h | h | h
      · rw [p3 x h] at ho; cases ho
      · subst h
        rw [p1] at ho
        cases ho
        refine ⟨_, q1, rfl, by simp [zcj], fun j x u hx hu => ?_⟩
        unfold zcj at hx hu
        have hl : (cs.take (k * 4 + 3)).length = k * 4 + 3 := by have := st.frl; simp; omega
        by_cases hj : j < k * 4 + 3
        · rw [List.getElem?_append_left (by omega)] at hx hu
          rw [hx] at hu; cases hu
          rw [List.getElem?_take, if_pos hj] at hx
          exact .same _ (hb j x hx)
        · rw [List.getElem?_append_right (by omega)] at hx hu
          rw [hl] at hx hu
          cases hjj : j - (k * 4 + 3) with
          | zero =>
            rw [hjj] at hx hu
            simp at hx hu; subst hx; subst hu
            exact .slc _ _
          | succ i =>
            rw [hjj] at hx hu
            simp only [List.getElem?_cons_succ] at hx hu
            rw [hx] at hu; cases hu
            rw [List.getElem?_drop] at hx
            exact .same _ (hb _ x hx)
      · exact absurd h hxn
    · rw [hx] at hu; cases hu
      have hm := List.mem_of_getElem? hx
      refine .same _ (zdi ?_)
      rcases List.mem_append.1 hm with h | h
      · exact hc x h
      · exact zcb v x h
theorem RL.pushD (v : Val) (st : RL H0 H lo n gr gs gf id trip p s fs ss f va sa h ha m e) (hf : fs.length ≤ 4096) (hb : f.stack.length ≤ 4096) {kt : Kt}
    (hk : ∀ (H' : Heap) sa' rd D, H' = H.apply D → RL H0 H' lo (n + 1) gr gs gf id trip p s fs ss { f with stack := f.stack ++ [v] } va sa' h ha m e → kt (.tup []) rd [n] D) : zt Tryd.prog (.clo 85 []) [.ptr gr 0, .agg v.avs] H n kt := by
  obtain ⟨cs, hp, hlt, hr⟩ := st.pushAt hf hb v
  have ap := st.apart
  have hne : ∀ g, g ∈ own sa → g ≠ n ∧ g ≠ gf := fun g hg => ⟨by have := hlt g hg; omega, (ap.t g hg).2.2.2.1⟩
  have hfn : gf ≠ n := by have := ap.f; omega
  refine zt.push hp (fun c hc => zpc _ c hc) hne hfn (hk _ _ _ _ rfl (hr _ (n + 1) n (Nat.le_refl _) (by omega) ?_ ?_ fun x hx h1 h2 => ?_))
  · exact (znk hne hfn H).1
  · exact (znk hne hfn H).2.1
  · exact (znk hne hfn H).2.2 x h2 h1 (by omega)
end
end Go.Proofs.YtobioljjoipimaaDoor
