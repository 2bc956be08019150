/- What is made of two values: the program's function, and the document's. The machine's functions: setting out, asking, operations. The machine's functions: cells made, and changed; operations. The machine's functions: operations, and cells made. The machine's functions: calls. The machine's functions: coming back; and how it ends. The machine's small functions: push, where the order is drawn. The machine's step: one instruction. A copy of an agent: the program's part. A copy of an agent: the frames' part. A copy of an agent. -/
import Derived.Test.YtejohcohkgcmhaaDoorG5
import Derived.Test.YtejohcohkgcmhaaDoorG7
namespace Go.Proofs.YtejohcohkgcmhaaDoor
open Go Go.RowKit
set_option maxHeartbeats 4000000 in
theorem zaqo (op : Int) (a b : Val) (N M : Int) (ha : VM.wrong a N = 0) (hb : VM.wrong b M = 0) : QC Tryd.prog 13 [.int .i64 op, .agg a.avs, .agg b.avs] (.tup [.agg (VM.two op a b).1.avs, .int .i64 (VM.two op a b).2]) := by
  have wa := VM.wrong_ok ha
  have wb := VM.wrong_ok hb
  obtain ⟨ka, na, sa⟩ := a
  obtain ⟨kb, nb, sb⟩ := b
  obtain ⟨a1, a2, a3, _, _, a6⟩ := wa
  obtain ⟨b1, b2, b3, _, _, b6⟩ := wb
  simp only at a1 a2 a3 a6 b1 b2 b3 b6
  refine QC.of' fun H nx => zacu _ _ _ H nx _ ?_
  by_cases h0 : op < 1 ∨ 5 < op
  · have e : VM.two op ⟨ka, na, sa⟩ ⟨kb, nb, sb⟩ = (VM.vzero, 1) := if_pos h0
    rw [e]
    by_cases h1 : op < 1
    · simp [zgk, Val.avs]
      refine JN.same ?_
      simp [zjs, h1, zjq, VM.vzero]
    · have h2 : 5 < op := by omega
      simp [zgk, Val.avs]
      refine JN.same ?_
      simp [zjs, h1, h2, zjq, VM.vzero]
  have h1 : ¬ op < 1 := by omega
  have h2 : ¬ 5 < op := by omega
  simp [zgk, Val.avs]
  refine JN.same ?_
  simp [zjs, h1, h2, zjq]
  refine ⟨fun h5 => ?_, fun h5 => ?_⟩
  · refine QC.call (zaez _) ?_
    have e : VM.two op ⟨ka, na, sa⟩ ⟨kb, nb, sb⟩ = (VM.bit (decide (ka = kb ∧ na = nb ∧ sa = sb)), 0) := by
      unfold VM.two; rw [if_neg h0, if_pos h5]; simp
    rw [e]
    have e2 : (decide (ka = kb ∧ na = nb ∧ sa = sb)) = (ka == kb && (na == nb && sa == sb)) := by rw [Bool.eq_iff_iff]; simp
    rw [e2]
    simp [zyl, Val.avs]
  refine JN.same ?_
  by_cases hk : ka = 1 ∧ kb = 1
  · obtain ⟨rfl, rfl⟩ := hk
    simp [zjt, zjr]
    refine ⟨fun h => ?_, fun h => ?_⟩
    · subst h
      refine ⟨by omega, ?_⟩
      refine QC.call (zacf _ (by simp only [maxLen, List.length_append]; omega)) ?_
      have e : VM.two 1 ⟨1, na, sa⟩ ⟨1, nb, sb⟩ = (VM.cText (sa ++ sb), 0) := rfl
      rw [e]
      simp [zyk, Val.avs]
    · refine JN.same ?_
      simp [zju, zeq, CALL]
      refine ⟨fun h4 => ?_, fun h4 => ?_⟩
      · subst h4
        refine QC.call (zaez _) ?_
        have e : VM.two 4 ⟨1, na, sa⟩ ⟨1, nb, sb⟩ = (VM.bit (Op.bytesLess sa sb), 0) := rfl
        rw [e]
        simp [zyj, Val.avs]
      · have e : VM.two op ⟨1, na, sa⟩ ⟨1, nb, sb⟩ = (VM.vzero, 11) := by
          unfold VM.two; rw [if_neg h0, if_neg h5, if_neg (by simp [h]), if_neg (by simp [h4]), if_pos (by simp)]
        rw [e]
        simp [VM.vzero]
  have e1 : VM.two op ⟨ka, na, sa⟩ ⟨kb, nb, sb⟩ = if ka ≠ 0 ∨ kb ≠ 0 then (VM.vzero, 11) else if op = 1 then (VM.cInt (na + nb), 0) else if op = 2 then (VM.cInt (na - nb), 0) else if op = 3 then (VM.cInt (na * nb), 0) else (VM.bit (decide (na < nb)), 0) := by
    unfold VM.two; rw [if_neg h0, if_neg h5, if_neg (fun h => hk h.1), if_neg (fun h => hk h.1)]
  generalize VM.two op ⟨ka, na, sa⟩ ⟨kb, nb, sb⟩ = r at *
  have fin : ∀ H2 : Heap, H2 nx = some (.row 3 [.int .i64 ka, .int .i64 na, .str sa]) → H2 (nx + 1) = some (.row 3 [.int .i64 kb, .int .i64 nb, .str sb]) → H2 (nx + 2) = some (.row 3 [.int .i64 0, .int .i64 0, .str []]) → Keep nx H2 H →
      zeq (fun v H' _ => Frz H' nx v (.tup [.agg r.1.avs, .int .i64 r.2]) ∧ Keep nx H' H)
        [.int .i64 op, .ptr nx 0, .ptr (nx + 1) 0, .ptr (nx + 2) 0, .clo 36 [], .bool false] H2 (nx + 3) := by
    intro H2 g1 g2 g3 hK
    rw [e1]
    by_cases hka : ka = 0
    · by_cases hkb : kb = 0
      · obtain ⟨p1, p2⟩ := a2 hka
        obtain ⟨q1, q2⟩ := b2 hkb
        subst hka hkb
        have hmul : -1152921504606846976 ≤ na * nb ∧ na * nb ≤ 1152921504606846976 := by
          have m1 : na * nb ≤ 1073741824 * 1073741824 := by
            rcases Int.le_total 0 na with h | h <;> rcases Int.le_total 0 nb with h' | h'
            · exact Int.mul_le_mul p2 q2 h' (by omega)
            · have := Int.mul_nonpos_of_nonneg_of_nonpos h h'; omega
            · have := Int.mul_nonpos_of_nonpos_of_nonneg h h'; omega
            · have : (-na) * (-nb) ≤ 1073741824 * 1073741824 := Int.mul_le_mul (by omega) (by omega) (by omega) (by omega)
              rwa [Int.neg_mul_neg] at this
          have m2 : -(na * nb) ≤ 1073741824 * 1073741824 := by
            rcases Int.le_total 0 na with h | h <;> rcases Int.le_total 0 nb with h' | h'
            · have := Int.mul_nonneg h h'; omega
            · have : na * (-nb) ≤ 1073741824 * 1073741824 := Int.mul_le_mul (by omega) (by omega) (by omega) (by omega)
              rwa [Int.mul_neg] at this
            · have : (-na) * nb ≤ 1073741824 * 1073741824 := Int.mul_le_mul (by omega) (by omega) (by omega) (by omega)
              rwa [Int.neg_mul] at this
            · have := Int.mul_nonneg_of_nonpos_of_nonpos h h'; omega
          omega
        have w1 : IntKind.i64.wrap (na + nb) = na + nb := i64w (by omega)
        have w2 : IntKind.i64.wrap (na - nb) = na - nb := i64w (by omega)
        have w3 : IntKind.i64.wrap (na * nb) = na * nb := i64w (by omega)
        simp [zeq, g1, g2, w1, w2, w3, CALL]
        refine ⟨fun h => ?_, fun h => ⟨fun h' => ?_, fun h' => ⟨fun h'' => ?_, fun h'' => ?_⟩⟩⟩
        · refine QC.call (zagc _) ?_
          simp [zyi, g3, Val.avs, h, hK, Keep.put]
        · refine QC.call (zagc _) ?_
          simp [zyh, g3, Val.avs, h, h', hK, Keep.put]
        · refine QC.call (zagc _) ?_
          simp [zyg, g3, Val.avs, h, h', h'', hK, Keep.put]
        · refine QC.call (zaez _) ?_
          simp [zyf, g3, Val.avs, h, h', h'', hK, Keep.put]
      · simp [zeq, g1, g2, g3, hka, hkb, VM.vzero, hK, Keep.put, Val.avs]
    · simp [zeq, g1, g2, g3, hka, VM.vzero, hK, Keep.put, Val.avs]
  by_cases hka : ka = 1
  · have hkb : ¬ kb = 1 := fun h => hk ⟨hka, h⟩
    simp [zjt, zjr, hka, hkb]
    refine JN.same ?_
    simp [zju, hka, hkb]
    exact fin _ (by simp [hka]) (by simp) (by simp) (by simp)
  · simp [zjt, zjr, hka]
    refine JN.same ?_
    simp [zju, hka]
    exact fin _ (by simp) (by simp) (by simp) (by simp)
end Go.Proofs.YtejohcohkgcmhaaDoor
namespace Go.Proofs.YtejohcohkgcmhaaDoor
open Go Go.RowKit
section
variable {H0 H : Heap} {lo n gr gs gf : Nat} {id trip : Int} {p : Prg} {s : Spt} {fs : List Frm} {ss : List (AV × AV)} {f : Frm} {va sa : AV} {h : List Cl} {ha : AV} {m : Pmt} {e : Evt}
theorem RL.temp (st : RL H0 H lo n gr gs gf id trip p s fs ss f va sa h ha m e) (o : Option AObj) : RL H0 (H.put n o) lo (n + 1) gr gs gf id trip p s fs ss f va sa h ha m e := st.more (by omega) fun g hg => Heap.put_ne _ _ (by omega)
@[simp] theorem zazp (v : Val) : v.avs[0]? = some (.int .i64 v.kind) := rfl
@[simp] theorem zazo (v : Val) : v.avs[1]? = some (.int .i64 v.n) := rfl
@[simp] theorem zazn (v : Val) : v.avs[2]? = some (.str v.text) := rfl
@[simp] theorem zazm (v : Val) : v.avs.take 3 = v.avs := rfl
theorem zae (v : Val) : ∀ x ∈ v.avs, x.one = true := fun x hx => zaa (zan v x hx)
set_option maxHeartbeats 1000000 in
theorem zaqc {st' : List Val} {v : Val} (st : RL H0 H lo n gr gs gf id trip p s fs ss f va sa h ha m e) (hf : fs.length ≤ 4096) (hs : f.stack = st' ++ [v]) (hb : st'.length ≤ 4095) (hm : 0 ≤ m.hops ∧ m.hops ≤ 12) {Q : AV → Heap → Nat → Prop}
    (h1 : v.kind ≠ 1 → ∀ H' n' sa', n ≤ n' → RL H0 H' lo n' gr gs gf id trip p s fs ss { f with stack := st' } va sa' h ha m (VM.dead 11) → Q (.tup []) H' n')
    (h2 : v.kind = 1 → m.hops = 0 → ∀ H' n' sa', n ≤ n' → RL H0 H' lo n' gr gs gf id trip p s fs ss { f with stack := st' ++ [VM.vzero] } va sa' h ha m e → Q (.tup []) H' n')
    (h3 : v.kind = 1 → m.hops ≠ 0 → ∀ H' n' sa', n ≤ n' → RL H0 H' lo n' gr gs gf id trip p s fs ss { f with stack := st' } va sa' h ha { m with hops := m.hops - 1 } ⟨3, v.text, 0⟩ → Q (.tup []) H' n') :
    za Tryd.prog 63 [.ptr gr 0] H n Q := by
  refine zrm _ H n _ ?_
  unfold zga
  refine znp st hf hs (by omega) fun H1 n1 sa1 hn1 st1 => ?_
  have st2 := st1.temp (some (.row 3 v.avs))
  have ap := st2.apart
  have hr := st2.run
  have lv : v.avs.length = 3 := rfl
  have rn : gr ≠ n1 := by have := st1.apart.r; omega
  rw [Heap.put_ne _ _ rn] at hr
  by_cases hk : v.kind = 1
  · by_cases hh : m.hops = 0
    · simp [zdi, hr, zg, hk, rn, hh]
      refine ⟨zae v, ?_⟩
      exact zeo VM.vzero st2 hf (by simp only; omega) fun H' n' sa' hn st3 => h2 hk hh H' n' sa' (by omega) st3
    · simp [zdi, hr, zg, hk, rn, hh, rn.symm]
      rw [i64w (by omega)]
      refine ⟨zae v, ?_⟩
      exact h3 hk hh _ _ _ (by omega) (st2.setrun { m with hops := m.hops - 1 } ⟨3, v.text, 0⟩)
  · simp [zdi, hr, zg, hk, rn]
    refine ⟨zae v, ?_⟩
    exact zjk st2 11 fun H' st3 => h1 hk H' _ _ (by omega) st3
theorem zaom (x : Fct) (l : List Fct) (k : Str) : VM.ask (x :: l) k = if x.key = k then x.val else VM.ask l k := by
  unfold VM.ask
  by_cases h : x.key = k
  · simp [h]
  · simp [h]
def Fct.avs (x : Fct) : List AV := .str x.key :: x.val.avs
set_option maxHeartbeats 1000000 in
theorem zart {st' : List Val} {v : Val} (st : RL H0 H lo n gr gs gf id trip p s fs ss f va sa h ha m e) (hf : fs.length ≤ 4096) (hs : f.stack = st' ++ [v]) (hb : st'.length ≤ 4095) (hl : s.facts.length ≤ 4611686018427387903) {Q : AV → Heap → Nat → Prop}
    (h1 : v.kind ≠ 1 → ∀ H' n' sa', n ≤ n' → RL H0 H' lo n' gr gs gf id trip p s fs ss { f with stack := st' } va sa' h ha m (VM.dead 11) → Q (.tup []) H' n')
    (h2 : v.kind = 1 → ∀ H' n' sa', n ≤ n' → RL H0 H' lo n' gr gs gf id trip p s fs ss { f with stack := st' ++ [VM.ask s.facts v.text] } va sa' h ha m e → Q (.tup []) H' n') :
    za Tryd.prog 62 [.ptr gr 0] H n Q := by
  refine ztt _ H n _ ?_
  unfold zhg
  refine znp st hf hs (by omega) fun H1 n1 sa1 hn1 st1 => ?_
  have st2 := st1.temp (some (.row 3 v.avs))
  have ap := st2.apart
  have hr := st2.run
  have hsp := st2.spot
  have rn : gr ≠ n1 := by have := st1.apart.r; omega
  have sn : gs ≠ n1 := by have := st1.apart.s; omega
  rw [Heap.put_ne _ _ rn] at hr
  rw [Heap.put_ne _ _ sn] at hsp
  by_cases hk : v.kind = 1
  case neg =>
    simp [zhh, hr, zg, hk, rn]
    refine ⟨zae v, ?_⟩
    exact zjk st2 11 fun H' st3 => h1 hk H' _ _ (by omega) st3
  simp [zhh, hr, zg, hk, rn, hsp, sn, Spt.avs]
  refine ⟨zae v, ?_⟩
  refine LP.mk (fun k xs H' n' => ∃ i : Nat, k = s.facts.length - i ∧ i ≤ s.facts.length ∧ n1 + 1 ≤ n' ∧ xs = [.ptr gr 0, .ptr n1 0, .ro (s.facts.map Fct.avs), .int .i64 s.facts.length, .int .i64 i] ∧ H' n1 = some (.row 3 v.avs) ∧ RL H0 H' lo n' gr gs gf id trip p s fs ss { f with stack := st' } va sa1 h ha m e ∧
    VM.ask (s.facts.drop i) v.text = VM.ask s.facts v.text) s.facts.length ⟨0, by omega, by omega, Nat.le_refl _, by simp; intro a _; rfl, Heap.put_at _ _ _, st2, by simp⟩ ?_
  rintro k xs H' n' ⟨i, rfl, hi, hn', rfl, hv, st3, hask⟩
  by_cases hil : i < s.facts.length
  · have hdrop : s.facts.drop i = s.facts[i] :: s.facts.drop (i + 1) := List.drop_eq_getElem_cons hil
    rw [hdrop, zaom] at hask
    have nn : n1 ≠ n' := by omega
    have st4 := st3.temp (some (.row 4 (AV.str s.facts[i].key :: s.facts[i].val.avs)))
    by_cases hkey : s.facts[i].key = v.text
    · rw [if_pos hkey] at hask
      simp [zeh, hil, Fct.avs, nn, hv]
      have hz : (AV.str s.facts[i].key :: s.facts[i].val.avs)[0]? = some (.str s.facts[i].key) := rfl
      rw [hz]
      simp [hkey]
      rw [hkey] at st4
      refine ⟨zae _, ?_⟩
      exact zeo s.facts[i].val st4 hf (by simp only; omega) fun H5 n5 sa5 hn5 st5 => h2 hk H5 n5 sa5 (by omega) (by rw [← hask]; exact st5)
    · rw [if_neg hkey] at hask
      have hbb : @BEq.beq _ instBEqOfDecidableEq s.facts[i].key v.text = false := by simp [hkey]
      simp [zeh, hil, Fct.avs, nn, hv]
      have hz : (AV.str s.facts[i].key :: s.facts[i].val.avs)[0]? = some (.str s.facts[i].key) := rfl
      rw [hz]
      simp [hkey]
      rw [i64w (by omega)]
      exact ⟨zae _, s.facts.length - (i + 1), by omega, i + 1, rfl, by omega, by omega, by simp, st4, hask⟩
  · obtain rfl : i = s.facts.length := by omega
    rw [List.drop_length] at hask
    have hz : VM.ask s.facts v.text = VM.vzero := by rw [← hask]; rfl
    simp [zeh]
    exact zeo VM.vzero st3 hf (by simp only; omega) fun H5 n5 sa5 hn5 st5 => h2 hk H5 n5 sa5 (by omega) (by rw [hz]; exact st5)
set_option maxHeartbeats 1000000 in
theorem zact {st' : List Val} {v : Val} (st : RL H0 H lo n gr gs gf id trip p s fs ss f va sa h ha m e) (hf : fs.length ≤ 4096) (hs : f.stack = st' ++ [v]) (hb : st'.length ≤ 4095) (hv : VM.WrongOk v h.length) {Q : AV → Heap → Nat → Prop}
    (h1 : v.kind ≠ 2 → ∀ H' n' sa', n ≤ n' → RL H0 H' lo n' gr gs gf id trip p s fs ss { f with stack := st' } va sa' h ha m (VM.dead 11) → Q .nilp H' n')
    (h2 : v.kind = 2 → ∀ H' n' sa' g cs, n ≤ n' → (∀ x, x < n → x ∉ [gr, gf] → H' x = H x) → RL H0 H' lo n' gr gs gf id trip p s fs ss { f with stack := st' } va sa' h ha m e → ha = .slc g 0 h.length → H' g = some (.row 6 cs) → cs.take (h.length * 6) = rowC h → h.length * 6 ≤ cs.length → Q (.ptr g (v.n.toNat * 6)) H' n') :
    za Tryd.prog 60 [.ptr gr 0] H n Q := by
  refine zro _ H n _ ?_
  unfold zgc
  obtain ⟨g0, cs0, gcs0, _, hp, hg0, hr0⟩ := st.popAt hf hs (by omega)
  refine zkh hp st.apart.r st.apart.f hg0 fun H1 n1 hn1 q1 q2 => ?_
  have st1 := hr0 H1 n1 hn1 q1 q2
  have st2 := st1.temp (some (.row 3 v.avs))
  have hr := st2.run
  have rn : gr ≠ n1 := by have := st1.apart.r; omega
  rw [Heap.put_ne _ _ rn] at hr
  have old : ∀ x, x < n → x ∉ [gr, gf] → (H1.put n1 (some (.row 3 v.avs))) x = H x := fun x hx hm => by
    simp at hm
    rw [Heap.put_ne _ _ (by omega), q2 x hx hm.2]
  by_cases hk : v.kind = 2
  case neg =>
    simp [zgd, hr, zg, hk, rn]
    refine ⟨zae v, ?_⟩
    exact zjk st2 11 fun H' st3 => h1 hk H' _ _ (by omega) st3
  obtain ⟨c1, c2⟩ := hv.cell hk
  rcases st2.hp with ⟨h0, _⟩ | ⟨g, cs, rfl, g1, g2, g3⟩
  · omega
  have hw : v.n < (h.length : Int) := c2
  simp [zgd, hr, zg, hk, rn]
  exact ⟨zae v, c1, c2, h2 hk _ _ _ g cs (by omega) old st2 rfl g1 g2 g3⟩
end
end Go.Proofs.YtejohcohkgcmhaaDoor
namespace Go.Proofs.YtejohcohkgcmhaaDoor
open Go Go.RowKit
section
variable {H0 H : Heap} {lo n gr gs gf : Nat} {id trip : Int} {p : Prg} {s : Spt} {fs : List Frm} {ss : List (AV × AV)} {f : Frm} {va sa : AV} {h : List Cl} {ha : AV} {m : Pmt} {e : Evt}
theorem RL.sethp (st : RL H0 H lo n gr gs gf id trip p s fs ss f va sa h ha m e) {h' : List Cl} {g : Nat} {c : Option AObj} (hg : own ha = [g]) (hs : Slot (H.put g c) 6 h'.length (rowC h') ha) : RL H0 (H.put g c) lo n gr gs gf id trip p s fs ss f va sa h' ha m e := by
  have ap := st.apart
  obtain ⟨a1, a2, a3, a4, a5, a6, a7⟩ := ap.h g (by simp [hg])
  obtain ⟨cs, c1, c2⟩ := st.fr
  have hk : ∀ x, x ≠ g → (H.put g c) x = H x := fun x hx => Heap.put_ne _ _ hx
  exact st.upd (Nat.le_refl _) (by rw [hk _ (Ne.symm a2)]; exact st.run) ⟨cs, by rw [hk _ (Ne.symm a4)]; exact c1, c2⟩ (st.sv.keep fun x hx => hk x fun e => a6 (e ▸ hx)) (st.st.keep fun x hx => hk x fun e => a7 (e ▸ hx)) hs (fun x _ _ _ hx _ _ => hk x fun e => hx (by rw [hg, e]; simp)) (fun g hg => .inl hg) (fun g hg => .inl hg) (fun g hg => .inl hg) st.nd3
theorem zafp (a b : List Cl) : rowC (a ++ b) = rowC a ++ rowC b := by simp [rowC]
theorem zakx {cs : List AV} {h : List Cl} {i j : Nat} {v : Val} {c c' : Cl} (h1 : cs.take (h.length * 6) = rowC h) (h2 : h.length * 6 ≤ cs.length) (hi : h[i]? = some c) (hj : (j = 0 ∧ c' = ⟨v, c.right⟩) ∨ (j = 3 ∧ c' = ⟨c.left, v⟩)) :
    (cs.take (i * 6 + j) ++ (v.avs ++ cs.drop (i * 6 + j + 3))).take ((h.set i c').length * 6) = rowC (h.set i c') ∧ (h.set i c').length * 6 ≤ (cs.take (i * 6 + j) ++ (v.avs ++ cs.drop (i * 6 + j + 3))).length := by
  obtain ⟨hlt, hc⟩ := List.getElem?_eq_some_iff.1 hi
  have e1 : h.set i c' = h.take i ++ c' :: h.drop (i + 1) := by rw [List.set_eq_take_append_cons_drop, if_pos hlt]
  have e0 : rowC h = rowC (h.take i) ++ (c.left.avs ++ (c.right.avs ++ rowC (h.drop (i + 1)))) := by
    have : h = h.take i ++ (c :: h.drop (i + 1)) := by rw [← hc, ← List.drop_eq_getElem_cons hlt, List.take_append_drop]
    conv => lhs; rw [this]
    rw [zafp, zadt]
    simp [Cl.avs]
  have ecs : cs = rowC (h.take i) ++ (c.left.avs ++ (c.right.avs ++ (rowC (h.drop (i + 1)) ++ cs.drop (h.length * 6)))) := by
    conv => lhs; rw [← List.take_append_drop (h.length * 6) cs]
    rw [h1, e0]; simp
  have lp : (rowC (h.take i)).length = i * 6 := by simp; omega
  have ls : (rowC (h.drop (i + 1))).length = (h.length - (i + 1)) * 6 := by simp
  have ll : c.left.avs.length = 3 := rfl
  have lr : c.right.avs.length = 3 := rfl
  have lv : v.avs.length = 3 := rfl
  generalize cs.drop (h.length * 6) = T at ecs
  generalize hP : rowC (h.take i) = P at *
  generalize hS : rowC (h.drop (i + 1)) = S at *
  rw [List.length_set, e1, zafp, zadt, hP, hS]
  have fin : ∀ X : List AV, X.length = h.length * 6 → (X ++ T).take (h.length * 6) = X ∧ h.length * 6 ≤ (X ++ T).length := fun X hX => ⟨by rw [← hX, List.take_left], by simp [hX]⟩
  rcases hj with ⟨rfl, rfl⟩ | ⟨rfl, rfl⟩
  · have t1 : cs.take (i * 6 + 0) = P := by rw [ecs, ← lp, Nat.add_zero, List.take_left]
    have t2 : cs.drop (i * 6 + 0 + 3) = c.right.avs ++ (S ++ T) := by
      rw [ecs, ← List.append_assoc]
      have : i * 6 + 0 + 3 = (P ++ c.left.avs).length := by simp [lp, ll]
      rw [this, List.drop_left]
    rw [t1, t2]
    have := fin (P ++ (v.avs ++ (c.right.avs ++ S))) (by simp [lp, ls, lv, lr]; omega)
    simpa [Cl.avs] using this
  · have t1 : cs.take (i * 6 + 3) = P ++ c.left.avs := by
      rw [ecs, ← List.append_assoc]
      have : i * 6 + 3 = (P ++ c.left.avs).length := by simp [lp, ll]
      rw [this, List.take_left]
    have t2 : cs.drop (i * 6 + 3 + 3) = S ++ T := by
      have e : P ++ (c.left.avs ++ (c.right.avs ++ (S ++ T))) = (P ++ (c.left.avs ++ c.right.avs)) ++ (S ++ T) := by simp
      rw [ecs, e]
      have : i * 6 + 3 + 3 = (P ++ (c.left.avs ++ c.right.avs)).length := by simp [lp, ll, lr]
      rw [this, List.drop_left]
    rw [t1, t2]
    have := fin (P ++ (c.left.avs ++ (v.avs ++ S))) (by simp [lp, ls, lv, ll]; omega)
    simpa [Cl.avs] using this
@[simp ↓] theorem zayt {g o : Nat} {k : AV → Prop} : BP .eql (.ptr g o) .nilp k = k (.bool false) := rfl
set_option maxHeartbeats 1000000 in
theorem zakp {st' : List Val} {x y : Val} (st : RL H0 H lo n gr gs gf id trip p s fs ss f va sa h ha m e) (hf : fs.length ≤ 4096) (hs : f.stack = st' ++ [y, x]) (hb : st'.length ≤ 4094) (hv : VM.WrongOk y h.length) (left : Bool) {Q : AV → Heap → Nat → Prop}
    (h1 : y.kind ≠ 2 → ∀ H' n' sa', n ≤ n' → RL H0 H' lo n' gr gs gf id trip p s fs ss { f with stack := st' } va sa' h ha m (VM.dead 11) → Q (.tup []) H' n')
    (h2 : y.kind = 2 → ∀ H' n' sa', n ≤ n' → RL H0 H' lo n' gr gs gf id trip p s fs ss { f with stack := st' } va sa' (h.set y.n.toNat (bif left then { h.getD y.n.toNat VM.cl0 with left := x } else { h.getD y.n.toNat VM.cl0 with right := x })) ha m e → Q (.tup []) H' n') :
    za Tryd.prog 61 [.ptr gr 0, .bool left] H n Q := by
  refine ztr _ _ H n _ ?_
  unfold zhe
  refine znp (st' := st' ++ [y]) st hf (by simpa using hs) (by simp; omega) fun H1 n1 sa1 hn1 st1 => ?_
  have st2 := st1.temp (some (.row 3 x.avs))
  have rn : gr < n1 + 1 := st2.apart.r
  have fn : gf < n1 := st1.apart.f
  have rn1 : gr < n1 := st1.apart.r
  simp [znf]
  refine ⟨zae x, ?_⟩
  refine zact (st' := st') st2 hf rfl (by omega) hv (fun hk H' n' sa' hn st3 => ?_) (fun hk H' n' sa' g cs hn old st3 hha g1 g2 g3 => ?_)
  · simp [zeg]
    exact h1 hk H' n' sa' (by omega) st3
  · have hold : H' n1 = some (.row 3 x.avs) := by rw [old n1 (by omega) (by simp; omega), Heap.put_at]
    obtain ⟨c1, c2⟩ := hv.cell hk
    have hlt : y.n.toNat < h.length := by omega
    have hget : h[y.n.toNat]? = some h[y.n.toNat] := List.getElem?_eq_getElem hlt
    have hgd : h.getD y.n.toNat VM.cl0 = h[y.n.toNat] := by rw [List.getD_eq_getElem?_getD, hget]; rfl
    rw [hgd] at h2
    subst hha
    cases left with
    | true =>
      simp [zeg, hold, g1]
      obtain ⟨d1, d2⟩ := zakx (j := 0) (v := x) g2 g3 hget (.inl ⟨rfl, rfl⟩)
      exact ⟨by omega, zae x, h2 hk _ _ sa' (by omega) (st3.sethp (by simp [own]) (.inr ⟨g, _, by simp, Heap.put_at _ _ _, d1, d2⟩))⟩
    | false =>
      simp [zeg, hold, g1]
      obtain ⟨d1, d2⟩ := zakx (j := 3) (v := x) g2 g3 hget (.inr ⟨rfl, rfl⟩)
      exact ⟨by omega, zae x, h2 hk _ _ sa' (by omega) (st3.sethp (by simp [own]) (.inr ⟨g, _, by simp, Heap.put_at _ _ _, d1, d2⟩))⟩
end
end Go.Proofs.YtejohcohkgcmhaaDoor
namespace Go.Proofs.YtejohcohkgcmhaaDoor
open Go Go.RowKit
section
variable {H0 H : Heap} {lo n gr gs gf : Nat} {id trip : Int} {p : Prg} {s : Spt} {fs : List Frm} {ss : List (AV × AV)} {f : Frm} {va sa : AV} {h : List Cl} {ha : AV} {m : Pmt} {e : Evt}
set_option maxHeartbeats 1000000 in
theorem zaqq {st' : List Val} {x y : Val} (op : Int) (st : RL H0 H lo n gr gs gf id trip p s fs ss f va sa h ha m e) (hf : fs.length ≤ 4096) (hs : f.stack = st' ++ [y, x]) (hb : st'.length ≤ 4094) (hx : VM.WrongOk x h.length) (hy : VM.WrongOk y h.length) {Q : AV → Heap → Nat → Prop}
    (h1 : (VM.two op y x).2 ≠ 0 → ∀ H' n' sa', n ≤ n' → RL H0 H' lo n' gr gs gf id trip p s fs ss { f with stack := st' } va sa' h ha m (VM.dead (VM.two op y x).2) → Q (.tup []) H' n')
    (h2 : (VM.two op y x).2 = 0 → ∀ H' n' sa', n ≤ n' → RL H0 H' lo n' gr gs gf id trip p s fs ss { f with stack := st' ++ [(VM.two op y x).1] } va sa' h ha m e → Q (.tup []) H' n') :
    za Tryd.prog 58 [.ptr gr 0, .int .i64 op] H n Q := by
  refine ztq _ _ H n _ ?_
  unfold zhd
  refine znp (st' := st' ++ [y]) st hf (by simpa using hs) (by simp; omega) fun H1 n1 sa1 hn1 st1 => ?_
  have st2 := st1.temp (some (.row 3 x.avs))
  simp [zna]
  refine ⟨zae x, ?_⟩
  obtain ⟨g, cs, gcs, _, hp, hg, hr⟩ := st2.popAt (st' := st') hf rfl (by omega)
  refine zn.pop hp ?_
  have fn1 : gf ≠ n1 := by have := st1.apart.f; omega
  have rn1 : gr ≠ n1 := by have := st1.apart.r; omega
  simp [znb, fn1, fn1.symm]
  refine zn.of_qc (zaqo op y x h.length h.length (VM.ok_wrong hy) (VM.ok_wrong hx)) (.tup _ fun j v hv => ?_) ?_
  · match j, hv with
    | 0, hv => cases hv; exact zfd _
    | 1, hv => cases hv; exact .int _ _
  simp [znc, fn1]
  have ap := st1.apart
  have st3 := hr ((H1.put n1 (some (AObj.row 3 x.avs))).put gf (some (AObj.row 4 (zik cs fs.length g st'.length)))) (n1 + 1) (Nat.le_refl _) (Heap.put_at _ _ _) (fun x _ hx => Heap.put_ne _ _ hx)
  have st4 := st3.temp (some (.row 3 (VM.two op y x).1.avs))
  refine ⟨zae _, by have := ap.f; omega, ⟨by have := ap.r; omega, by have := ap.f; omega, by omega⟩, fun hne => ?_, fun he => ?_⟩
  · exact zjk st4 _ fun H' st5 => h1 hne H' _ _ (by omega) st5
  · exact zeo _ st4 hf (by simp only; omega) fun H' n' sa' hn st5 => h2 he H' n' sa' (by omega) st5
theorem RL.newhp (st : RL H0 H lo n gr gs gf id trip p s fs ss f va sa h ha m e) {H' : Heap} {n' g : Nat} {h' : List Cl} (hn : n ≤ n') (hg : n ≤ g ∧ g < n') (hr : H' gr = some (.row 13 (zg id trip p (.slc gf 0 (fs.length + 1)) (.slc g 0 h'.length) m gs e))) (h1 : H' g = some (.row 6 (rowC h'))) (hk : ∀ x, x < n → x ≠ gr → x ∉ own ha → H' x = H x) :
    RL H0 H' lo n' gr gs gf id trip p s fs ss f va sa h' (.slc g 0 h'.length) m e := by
  have ap := st.apart
  obtain ⟨cs, c1, c2⟩ := st.fr
  refine st.upd hn hr ⟨cs, by rw [hk _ ap.f ap.rf.symm (fun hx => (ap.h _ hx).2.2.2.1 rfl)]; exact c1, c2⟩ (st.sv.keep fun x hx => hk x (ap.v x hx).1 (ap.v x hx).2.1 (ap.v x hx).2.2.2.2.1) (st.st.keep fun x hx => hk x (ap.t x hx).1 (ap.t x hx).2.1 (ap.t x hx).2.2.2.2.1)
    (.inr ⟨g, rowC h', rfl, h1, List.take_of_length_le (by simp), by simp⟩) (fun x h1 h2 _ h3 _ _ => hk x h1 h2 h3) (fun x hx => ?_) (fun g hg => .inl hg) (fun g hg => .inl hg) ?_
  · simp [own] at hx; subst hx; exact .inr hg
  · have := st.nd3
    simp only [List.nodup_append, List.mem_append] at this ⊢
    obtain ⟨z1, ⟨z2, z3, z4⟩, z5⟩ := this
    refine ⟨zpi _, ⟨z2, z3, z4⟩, ?_⟩
    rintro x hx y (hy | hy) rfl
    · simp [own] at hx; have := (ap.v x hy).1; omega
    · simp [own] at hx; have := (ap.t x hy).1; omega
set_option maxHeartbeats 1000000 in
theorem zapz {st' : List Val} {x y : Val} (st : RL H0 H lo n gr gs gf id trip p s fs ss f va sa h ha m e) (hf : fs.length ≤ 4096) (hs : f.stack = st' ++ [y, x]) (hb : st'.length ≤ 4094) (hr0 : 0 ≤ m.room ∧ m.room ≤ 60) (hh : h.length ≤ 4096) {Q : AV → Heap → Nat → Prop}
    (h1 : m.room = 0 → ∀ H' n' sa', n ≤ n' → RL H0 H' lo n' gr gs gf id trip p s fs ss { f with stack := st' } va sa' h ha m (VM.dead 13) → Q (.tup []) H' n')
    (h2 : m.room ≠ 0 → ∀ H' n' sa' ha', n ≤ n' → RL H0 H' lo n' gr gs gf id trip p s fs ss { f with stack := st' ++ [⟨2, h.length, []⟩] } va sa' (h ++ [⟨y, x⟩]) ha' { m with room := m.room - 1 } e → Q (.tup []) H' n') :
    za Tryd.prog 59 [.ptr gr 0] H n Q := by
  refine zrl _ H n _ ?_
  unfold zfy
  refine znp (st' := st' ++ [y]) st hf (by simpa using hs) (by simp; omega) fun H1 n1 sa1 hn1 st1 => ?_
  have st2 := st1.temp (some (.row 3 x.avs))
  simp [zmb]
  refine ⟨zae x, ?_⟩
  obtain ⟨g, cs, gcs, _, hp, hg, hr⟩ := st2.popAt (st' := st') hf rfl (by omega)
  have ap2 := st2.apart
  refine zkh hp ap2.r ap2.f hg fun H3 n3 hn3 q1 q2 => ?_
  have st3 := hr H3 n3 hn3 q1 q2
  have hxx : H3 n1 = some (.row 3 x.avs) := by rw [q2 n1 (by omega) (by have := st1.apart.f; omega), Heap.put_at]
  have st4 := st3.temp (some (.row 3 y.avs))
  have ap3 := st3.apart
  have rn : gr ≠ n3 := by have := ap3.r; omega
  have rn1 : gr ≠ n3 + 1 := by have := ap3.r; omega
  have xn : n1 ≠ n3 := by omega
  have xn1 : n1 ≠ n3 + 1 := by omega
  have xr : n1 ≠ gr := by have := st1.apart.r; omega
  have hrun := st3.run
  by_cases hm : m.room = 0
  · simp [zfz, hrun, zg, rn, hm]
    refine ⟨zae y, ?_⟩
    exact zjk st4 13 fun H' st5 => h1 hm H' _ _ (by omega) st5
  · have hw : IntKind.i64.wrap (m.room - 1) = m.room - 1 := i64w (by omega)
    have ty : List.take 3 (y.avs ++ [AV.int IntKind.i64 0, AV.int IntKind.i64 0, AV.str []]) = y.avs := rfl
    have ty2 : List.drop 6 (y.avs ++ [AV.int IntKind.i64 0, AV.int IntKind.i64 0, AV.str []]) = [] := rfl
    simp [zfz, hrun, zg, rn, hm, hw, hxx, xn, xr, rn.symm, ty, ty2]
    refine ⟨zae y, ?_⟩
    have st5 := (st4.setrun { m with room := m.room - 1 } e).temp (some (.row 6 (y.avs ++ x.avs)))
    simp only [zg] at st5
    generalize hX : ((H3.put n3 (some (AObj.row 3 y.avs))).put gr _).put (n3 + 1) (some (AObj.row 6 (y.avs ++ x.avs))) = X at *
    have ap5 := st5.apart
    refine Slot.append (new := y.avs ++ x.avs) st5.hp (by simp) (by rw [← hX, Heap.put_at]) rfl (List.all_eq_true.2 fun z hz => (List.mem_append.1 hz).elim (zae y z) (zae x z)) (by omega) fun rd D hD q3 q4 => ?_
    have hgr := (q4 gr (fun hx => (ap5.h _ hx).2.1 rfl) (by have := ap3.r; omega)).trans st5.run
    have hold : ∀ x, x < n3 + 2 → x ∉ own ha → (X.apply D) x = X x := fun x h1 h2 => q4 x h2 (by omega)
    generalize X.apply D = HD at *
    simp [hgr, zg]
    have hw2 : IntKind.i64.wrap (h.length : Int) = h.length := i64w (by omega)
    simp [hw2]
    refine ⟨by have := ap3.r; omega, zbd (by simp) ?_⟩
    have hc : rowC h ++ (y.avs ++ x.avs) = rowC (h ++ [⟨y, x⟩]) := by rw [zux]; rfl
    have st6 := st5.newhp (h' := h ++ [⟨y, x⟩]) (g := n3 + 2) (n' := n3 + 2 + 1) (H' := HD.put gr (some (AObj.row 13 (zg id trip p (AV.slc gf 0 (fs.length + 1)) (.slc (n3 + 2) 0 (h.length + 1)) { m with room := m.room - 1 } gs e)))) (by omega) (by omega) (by rw [Heap.put_at]; simp) (by rw [Heap.put_ne _ _ (by have := ap3.r; omega), q3, hc]) fun x h1 h2 h3 => by
      rw [Heap.put_ne _ _ h2]; exact hold x h1 h3
    exact zeo ⟨2, h.length, []⟩ st6 hf (by simp only; omega) fun H' n' sa' hn st7 => h2 hm H' n' sa' _ (by omega) st7
end
end Go.Proofs.YtejohcohkgcmhaaDoor
namespace Go.Proofs.YtejohcohkgcmhaaDoor
open Go Go.RowKit
section
variable {ki : IntKind}
theorem zwh {e g off len mm : Nat} {x : AV} {H : Heap} {cells news : List AV} {rd : List Nat} {kh : AV → Heap → Prop} (hs : zm e H x = some (mm, news, rd)) (hg : H g = some (.row e cells)) (hle : off + len * e ≤ cells.length) (hone : news.all AV.one = true)
    (hk : kh (.int .i64 (min mm len : Nat)) (H.put g (some (.row e (zav cells off (news.take (min mm len * e))))))) : CP e (.slc g off len) x H kh := by
  unfold CP COPY
  rw [hs]
  simp only [hg]
  exact ⟨trivial, hle, hone, hk⟩
@[simp ↓] theorem zazv {s g off len : Nat} {a : Int} {H : Heap} {k : AV → Prop} : SL s (.slc g off len) (some (.int ki a)) none H k = ROWK (H g) fun sz _ => sz = s ∧ 0 ≤ a ∧ a ≤ len ∧ k (.slc g (off + a.toNat * s) ((len : Int) - a).toNat) := by
  unfold SL
  rw [zaiw]; rfl
@[simp ↓] theorem zazw {s g off len : Nat} {a : Int} {H : Heap} {k : AV → Prop} : SL s (.slc g off len) none (some (.int ki a)) H k = ROWK (H g) fun sz _ => sz = s ∧ 0 ≤ a ∧ a ≤ len ∧ k (.slc g off a.toNat) := by
  unfold SL
  rw [zamr]; rfl
@[simp ↓] theorem zawx {s : Nat} {a : Int} {H : Heap} {k : AV → Prop} : SL s .nils (some (.int ki a)) none H k = (a = 0 ∧ k .nils) := by
  simp [SL, zay, lohi, PURE, qk]
@[simp ↓] theorem zawv {s : Nat} {a : Int} {H : Heap} {k : AV → Prop} : SL s .zs (some (.int ki a)) none H k = (a = 0 ∧ k .zs) := by
  simp [SL, zay, lohi, PURE, qk]
@[simp ↓] theorem zaww {s : Nat} {a : Int} {H : Heap} {k : AV → Prop} : SL s .zs none (some (.int ki a)) H k = (a = 0 ∧ k .zs) := by
  simp [SL, zay, lohi, PURE, qk]
@[simp ↓] theorem zawy {s : Nat} {a : Int} {H : Heap} {k : AV → Prop} : SL s .nils none (some (.int ki a)) H k = (a = 0 ∧ k .nils) := by
  simp [SL, zay, lohi, PURE, qk]
end
section
variable {H0 H : Heap} {lo n gr gs gf : Nat} {id trip : Int} {p : Prg} {s : Spt} {fs : List Frm} {ss : List (AV × AV)} {f : Frm} {va sa : AV} {h : List Cl} {ha : AV} {m : Pmt} {e : Evt}
theorem zck (ss : List (AV × AV)) (t : AV × AV) : owns (ss ++ [t]) = owns ss ++ (own t.1 ++ own t.2) := by simp [owns]
theorem RL.call (st : RL H0 H lo n gr gs gf id trip p s fs ss f va sa h ha m e) {H' : Heap} {n' gv gf' N : Nat} {f2 f3 : Frm} {sa2 : AV} (hn : n ≤ n') (hv : n ≤ gv ∧ gv < n') (hg : n ≤ gf' ∧ gf' < n') (hne : gv ≠ gf')
    (run' : H' gr = some (.row 13 (zg id trip p (.slc gf' 0 (fs.length + 1 + 1)) ha m gs e))) (fr' : ∃ cs, H' gf' = some (.row 4 cs) ∧ cs.take ((fs.length + 1 + 1) * 4) = frow (fs ++ [f2]) (ss ++ [(va, sa2)]) ++ [.int .i64 f3.fn, .int .i64 f3.at_, .slc gv 0 N, .nils] ∧ (fs.length + 1 + 1) * 4 ≤ cs.length)
    (hvars : f2.vars = f.vars) (sa2' : Slot H' 3 f2.stack.length (rowV f2.stack) sa2) (own2 : own sa2 = own sa) (sv' : Slot H' 3 f3.vars.length (rowV f3.vars) (.slc gv 0 N)) (st3 : f3.stack = [])
    (hk : ∀ x, x < n → x ≠ gr → x ≠ gf → H' x = H x) : RL H0 H' lo n' gr gs gf' id trip p s (fs ++ [f2]) (ss ++ [(va, sa2)]) f3 (.slc gv 0 N) .nils h ha m e := by
  have ap := st.apart
  have b := st.bd
  simp only [List.mem_cons, List.mem_append] at b
  have hl := st.le
  refine ⟨by rw [run']; simp, by simpa using fr', ?_, sv', .inl ⟨by rw [st3]; rfl, .inl rfl⟩, st.hp.keep fun x hx => hk x (ap.h x hx).1 (ap.h x hx).2.1 (ap.h x hx).2.2.2.1, by rw [hk gs ap.s ap.rs.symm ap.sf]; exact st.spot, ?_, by have := st.gsn; omega, ?_, ?_, by omega⟩
  · refine (st.frs.keep fun x hx => hk x (ap.w x hx).1 (ap.w x hx).2.1 (ap.w x hx).2.2.2.1).snoc ?_ sa2'
    rw [hvars]
    exact st.sv.keep fun x hx => hk x (ap.v x hx).1 (ap.v x hx).2.1 (ap.v x hx).2.2.2.1
  · have nd := st.nd
    simp only [List.nodup_cons, List.nodup_append, List.mem_cons, List.mem_append, not_or] at nd
    obtain ⟨⟨a1, a2, a3, a4, a5, a6⟩, ⟨b1, b2, b3, b4, b5⟩, ⟨c1, c2, c3, c4⟩, n1, ⟨n2, ⟨n3, n4, n5⟩, n6⟩, n7⟩ := nd
    have r := ap.r
    have s' := ap.s
    have fh : ∀ x, (x ∈ own ha ∨ x ∈ owns ss ∨ x ∈ own va ∨ x ∈ own sa) → x < n := fun x hx => by
      rcases hx with h | h | h | h
      · exact (ap.h x h).1
      · exact (ap.w x h).1
      · exact (ap.v x h).1
      · exact (ap.t x h).1
    rw [zck]
    have ow1 : own (.slc gv 0 N) = [gv] := rfl
    have ow2 : own .nils = [] := rfl
    simp only [own2, ow1, ow2, List.append_nil, List.nodup_cons, List.nodup_append, List.mem_cons, List.mem_append, not_or, List.not_mem_nil, or_false, not_false_eq_true, List.nodup_nil, and_true]
    refine ⟨⟨a1, by omega, a3, ⟨a4, a5, a6⟩, by omega⟩, ⟨by omega, b2, ⟨b3, b4, b5⟩, by omega⟩, ⟨fun h => by have := fh _ (.inl h); omega, ⟨fun h => by have := fh _ (.inr (.inl h)); omega, fun h => by have := fh _ (.inr (.inr (.inl h))); omega, fun h => by have := fh _ (.inr (.inr (.inr h))); omega⟩, fun h => hne h.symm⟩, n1, ⟨⟨n2, ⟨n3, n4, n5⟩, n6⟩, ?_⟩, ?_⟩
    · refine ⟨trivial, ?_⟩
      rintro x hx y rfl rfl
      have := fh x (.inr hx); omega
    · rintro x hx y (hy | rfl) rfl
      · exact n7 x hx x hy rfl
      · have := fh x (.inl hx); omega
  · intro g hg'
    rw [zck] at hg'
    have ow1 : own (.slc gv 0 N) = [gv] := rfl
    have ow2 : own .nils = [] := rfl
    simp only [own2, ow1, ow2, List.append_nil, List.mem_cons, List.mem_append, List.not_mem_nil, or_false] at hg'
    have old : (lo ≤ g ∧ g < n) → lo ≤ g ∧ g < n' := fun h => by omega
    rcases hg' with h | h | h | (h | h | h) | h
    · exact old (b g (.inl h))
    · omega
    · exact old (b g (.inr (.inr (.inl h))))
    · exact old (b g (.inr (.inr (.inr (.inl h)))))
    · exact old (b g (.inr (.inr (.inr (.inr (.inl h))))))
    · exact old (b g (.inr (.inr (.inr (.inr (.inr h))))))
    · omega
  · intro g hg'
    have l1 := (b gr (.inl rfl)).1
    have l2 := (b gf (.inr (.inl rfl))).1
    rw [hk g (by omega) (by omega) (by omega)]
    exact st.keep g hg'
theorem zms {p : Prg} {k : Int} (h : k.toNat < p.codes.length) : p.codes[k.toNat]? = some (VM.codeAt p k) := by
  unfold VM.codeAt
  rw [List.getElem?_eq_getElem h, List.getD_eq_getElem?_getD, List.getElem?_eq_getElem h]; rfl
theorem zads (l : List Val) (k : Nat) : (rowV l).take (k * 3) = rowV (l.take k) := by
  induction l generalizing k with
  | nil => simp [rowV]
  | cons v l ih =>
    cases k with
    | zero => simp [rowV]
    | succ k =>
      have : v.avs.length = 3 := rfl
      rw [zhn, List.take_succ_cons, zhn, ← ih, Nat.succ_mul, List.take_append, List.take_of_length_le (by omega), show k * 3 + 3 - v.avs.length = k * 3 by omega]
theorem zuw (l : List Val) (k : Nat) : (rowV l).drop (k * 3) = rowV (l.drop k) := by
  induction l generalizing k with
  | nil => simp [rowV]
  | cons v l ih =>
    cases k with
    | zero => simp
    | succ k =>
      have : v.avs.length = 3 := rfl
      rw [zhn, List.drop_succ_cons, ← ih, Nat.succ_mul, List.drop_append, List.drop_of_length_le (by omega), List.nil_append, show k * 3 + 3 - v.avs.length = k * 3 by omega]
theorem zhi (a b : List Val) : rowV (a ++ b) = rowV a ++ rowV b := by simp [rowV]
set_option maxHeartbeats 2000000 in
theorem zaqk (i : Ins) (st : RL H0 H lo n gr gs gf id trip p s fs ss f va sa h ha m e) (hf : fs.length ≤ 12) (hb : 0 ≤ i.b ∧ i.b ≤ f.stack.length) (hs : f.stack.length ≤ 4096) (ha0 : 0 ≤ i.a ∧ i.a.toNat < p.codes.length) (hv : i.b ≤ (VM.codeAt p i.a).vars ∧ (VM.codeAt p i.a).vars ≤ 8) {Q : AV → Heap → Nat → Prop}
    (h1 : 12 ≤ fs.length + 1 → ∀ H' n', n ≤ n' → RL H0 H' lo n' gr gs gf id trip p s fs ss f va sa h ha m (VM.dead 9) → Q (.tup []) H' n')
    (h2 : ¬ 12 ≤ fs.length + 1 → ∀ H' n' gf' sa2 va' sa', n ≤ n' → RL H0 H' lo n' gr gs gf' id trip p s (fs ++ [{ f with stack := VM.low i.b.toNat f.stack }]) (ss ++ [(va, sa2)]) ⟨i.a, 0, f.stack.drop (f.stack.length - i.b.toNat) ++ List.replicate ((VM.codeAt p i.a).vars - i.b).toNat VM.vzero, []⟩ va' sa' h ha m e → Q (.tup []) H' n') :
    za Tryd.prog 64 [.ptr gr 0, .agg i.avs] H n Q := by
  refine zrp _ _ H n _ ?_
  obtain ⟨iop, ia, ib⟩ := i
  simp only at hb ha0 hv h2
  obtain ⟨N, hN⟩ : ∃ N : Nat, (VM.codeAt p ia).vars = N := ⟨(VM.codeAt p ia).vars.toNat, by omega⟩
  obtain ⟨b, rfl⟩ : ∃ b : Nat, ib = b := ⟨ib.toNat, by omega⟩
  have hr := st.run
  have ap := st.apart
  have rn : gr ≠ n := by have := ap.r; omega
  have st1 := st.temp (some (.row 3 [AV.int .i64 iop, .int .i64 ia, .int .i64 b]))
  by_cases h12 : 12 ≤ fs.length + 1
  · have hd : (12 : Int) ≤ fs.length + 1 := by omega
    simp [zdj, hr, zg, rn, hd, Ins.avs]
    exact zjk st1 9 fun H' st2 => h1 h12 H' _ (by omega) st2
  have hd : ¬ (12 : Int) ≤ fs.length + 1 := by omega
  simp [zdj, hr, zg, rn, hd, Ins.avs]
  refine zaff st1 (by omega) ?_
  obtain ⟨cs, c1, c2, c3, c4, c5, c6, c7⟩ := st.last
  have fn0 : gf ≠ n := by have := ap.f; omega
  have fn1 : gf ≠ n + 1 := by have := ap.f; omega
  have fn2 : gf ≠ n + 2 := by have := ap.f; omega
  have rn1 : gr ≠ n + 1 := by have := ap.r; omega
  have rn2 : gr ≠ n + 2 := by have := ap.r; omega
  have rf := ap.rf
  have hcode := zms ha0.2
  have hca : (VM.codeAt p ia).avs = [.int .i64 (VM.codeAt p ia).params, .int .i64 N, .ro ((VM.codeAt p ia).ins.map Ins.avs)] := by rw [← hN]; rfl
  have hN8 : N ≤ 8 := by omega
  have hw : IntKind.i64.wrap ((f.stack.length : Int) - b) = (f.stack.length - b : Nat) := by rw [i64w (by omega)]; omega
  have nn : n ≠ n + 1 := by omega
  have zer : ∀ N, (List.replicate N [AV.int IntKind.i64 0, AV.int IntKind.i64 0, AV.str []]).flatten = rowV (List.replicate N VM.vzero) := fun N => by simp [rowV, List.map_replicate, Val.avs, VM.vzero]
  rcases st.st with ⟨h0, rfl | rfl⟩ | ⟨g, gcs, rfl, g1, g2, g3⟩
  · have hb0 : b = 0 := by omega
    subst hb0
    have hst : f.stack = [] := List.eq_nil_of_length_eq_zero h0
    have hw0 : IntKind.i64.wrap 0 = 0 := i64w (by omega)
    simp [zdk, c1, c7, fn0, fn1, hr, zg, rn, rn1, hcode, hca, zer, nn, hw0]
    refine ⟨ha0.1, by omega, by omega, by omega, ?_⟩
    refine zwh (news := []) (rd := []) (mm := 0) rfl (Heap.put_at _ _ _) (by simp) rfl ?_
    simp [c1, c7, fn0, fn1, fn0.symm, fn1.symm, rn, rn1, nn]
    refine ⟨by omega, ?_⟩
    generalize hX : Heap.put (Heap.put (Heap.put (Heap.put H n _) (n + 1) _) gf _) (n + 1 + 1) _ = X at *
    have xgf : X gf = some (.row 4 (cs.take (fs.length * 4 + 3) ++ AV.nils :: cs.drop (fs.length * 4 + 3 + 1))) := by rw [← hX, Heap.put_ne _ _ (by omega), Heap.put_at]
    have xold : ∀ x, x < n → x ≠ gf → X x = H x := fun x hx hxf => by rw [← hX, Heap.put_ne _ _ (by omega), Heap.put_ne _ _ hxf, Heap.put_ne _ _ (by omega), Heap.put_ne _ _ (by omega)]
    have xgr : X gr = some (.row 13 (zg id trip p (.slc gf 0 (fs.length + 1)) ha m gs e)) := by rw [xold gr ap.r rf]; exact hr
    have xv : X (n + 1) = some (.row 3 (rowV (List.replicate N VM.vzero))) := by rw [← hX, Heap.put_ne _ _ (by omega), Heap.put_ne _ _ fn1.symm, Heap.put_at]
    have xt : X (n + 1 + 1) = some (.row 4 [AV.int .i64 ia, AV.int .i64 0, AV.slc (n + 1) 0 N, AV.nils]) := by rw [← hX, Heap.put_at]
    obtain ⟨d1, d2⟩ := zkk (u := .nils) c2 (zap st.frs.1) c3 (j := 3) (by omega)
    have fsn : frow fs ss ++ [AV.int .i64 f.fn, .int .i64 f.at_, va, .nils] = frow (fs ++ [{ f with stack := VM.low 0 f.stack }]) (ss ++ [(va, .nils)]) := by rw [zcl st.frs.1]
    have d1' : (cs.take (fs.length * 4 + 3) ++ AV.nils :: cs.drop (fs.length * 4 + 3 + 1)).take ((fs.length + 1) * 4) = frow (fs ++ [{ f with stack := VM.low 0 f.stack }]) (ss ++ [(va, .nils)]) := by rw [← fsn]; simpa using d1
    have fl : (frow (fs ++ [{ f with stack := VM.low 0 f.stack }]) (ss ++ [(va, .nils)])).length = (fs.length + 1) * 4 := by rw [zap (by simp [st.frs.1])]; simp
    rw [if_neg rf, hr, rowk]
    have rn3 : gr ≠ n + 1 + 2 := by have := ap.r; omega
    have dd : (cs.take (fs.length * 4 + 3) ++ AV.nils :: cs.drop (fs.length * 4 + 3 + 1)).take ((fs.length + 1) * 4) = frow (fs ++ [{ f with stack := VM.low 0 f.stack }]) (ss ++ [(va, .nils)]) := d1'
    simp [zg, xt, xgf, xgr, rn3, rf]
    rw [dd]
    refine ⟨by simpa using d2, by omega, by omega, h2 h12 _ _ (n + 1 + 2) .nils (.slc (n + 1) 0 N) .nils (by omega) (st.call (n' := n + 1 + 2 + 1) (gv := n + 1) (by omega) (by omega) (by omega) (by omega) (by rw [Heap.put_at]; simp [zg]) ⟨_, by rw [Heap.put_ne _ _ (by omega), Heap.put_at]; rfl, List.take_of_length_le (by simp [fl]; omega), by simp [fl]; omega⟩ rfl ?_ rfl ?_ rfl fun x h1 h2 h3 => by rw [Heap.put_ne _ _ h2, Heap.put_ne _ _ (by omega), Heap.put_ne _ _ h3]; exact xold x h1 h3)⟩
    · exact .inl ⟨by simp [VM.low, hst], by simp⟩
    · refine .inr ⟨n + 1, _, by simp [hst, hN], by rw [Heap.put_ne _ _ (by omega), Heap.put_ne _ _ (by omega), Heap.put_ne _ _ (by omega)]; exact xv, ?_, ?_⟩
      · simp [hst, hN]
        exact List.take_of_length_le (by simp)
      · simp [hst, hN]
  · have hb0 : b = 0 := by omega
    subst hb0
    have hst : f.stack = [] := List.eq_nil_of_length_eq_zero h0
    have hw0 : IntKind.i64.wrap 0 = 0 := i64w (by omega)
    simp [zdk, c1, c7, fn0, fn1, hr, zg, rn, rn1, hcode, hca, zer, nn, hw0]
    refine ⟨ha0.1, by omega, by omega, by omega, ?_⟩
    refine zwh (news := []) (rd := []) (mm := 0) rfl (Heap.put_at _ _ _) (by simp) rfl ?_
    simp [c1, c7, fn0, fn1, fn0.symm, fn1.symm, rn, rn1, nn]
    refine ⟨by omega, ?_⟩
    generalize hX : Heap.put (Heap.put (Heap.put (Heap.put H n _) (n + 1) _) gf _) (n + 1 + 1) _ = X at *
    have xgf : X gf = some (.row 4 (cs.take (fs.length * 4 + 3) ++ AV.zs :: cs.drop (fs.length * 4 + 3 + 1))) := by rw [← hX, Heap.put_ne _ _ (by omega), Heap.put_at]
    have xold : ∀ x, x < n → x ≠ gf → X x = H x := fun x hx hxf => by rw [← hX, Heap.put_ne _ _ (by omega), Heap.put_ne _ _ hxf, Heap.put_ne _ _ (by omega), Heap.put_ne _ _ (by omega)]
    have xgr : X gr = some (.row 13 (zg id trip p (.slc gf 0 (fs.length + 1)) ha m gs e)) := by rw [xold gr ap.r rf]; exact hr
    have xv : X (n + 1) = some (.row 3 (rowV (List.replicate N VM.vzero))) := by rw [← hX, Heap.put_ne _ _ (by omega), Heap.put_ne _ _ fn1.symm, Heap.put_at]
    have xt : X (n + 1 + 1) = some (.row 4 [AV.int .i64 ia, AV.int .i64 0, AV.slc (n + 1) 0 N, AV.nils]) := by rw [← hX, Heap.put_at]
    obtain ⟨d1, d2⟩ := zkk (u := .zs) c2 (zap st.frs.1) c3 (j := 3) (by omega)
    have fsn : frow fs ss ++ [AV.int .i64 f.fn, .int .i64 f.at_, va, .zs] = frow (fs ++ [{ f with stack := VM.low 0 f.stack }]) (ss ++ [(va, .zs)]) := by rw [zcl st.frs.1]
    have d1' : (cs.take (fs.length * 4 + 3) ++ AV.zs :: cs.drop (fs.length * 4 + 3 + 1)).take ((fs.length + 1) * 4) = frow (fs ++ [{ f with stack := VM.low 0 f.stack }]) (ss ++ [(va, .zs)]) := by rw [← fsn]; simpa using d1
    have fl : (frow (fs ++ [{ f with stack := VM.low 0 f.stack }]) (ss ++ [(va, .zs)])).length = (fs.length + 1) * 4 := by rw [zap (by simp [st.frs.1])]; simp
    rw [if_neg rf, hr, rowk]
    have rn3 : gr ≠ n + 1 + 2 := by have := ap.r; omega
    have dd : (cs.take (fs.length * 4 + 3) ++ AV.zs :: cs.drop (fs.length * 4 + 3 + 1)).take ((fs.length + 1) * 4) = frow (fs ++ [{ f with stack := VM.low 0 f.stack }]) (ss ++ [(va, .zs)]) := d1'
    simp [zg, xt, xgf, xgr, rn3, rf]
    rw [dd]
    refine ⟨by simpa using d2, by omega, by omega, h2 h12 _ _ (n + 1 + 2) .zs (.slc (n + 1) 0 N) .nils (by omega) (st.call (n' := n + 1 + 2 + 1) (gv := n + 1) (by omega) (by omega) (by omega) (by omega) (by rw [Heap.put_at]; simp [zg]) ⟨_, by rw [Heap.put_ne _ _ (by omega), Heap.put_at]; rfl, List.take_of_length_le (by simp [fl]; omega), by simp [fl]; omega⟩ rfl ?_ rfl ?_ rfl fun x h1 h2 h3 => by rw [Heap.put_ne _ _ h2, Heap.put_ne _ _ (by omega), Heap.put_ne _ _ h3]; exact xold x h1 h3)⟩
    · exact .inl ⟨by simp [VM.low, hst], by simp⟩
    · refine .inr ⟨n + 1, _, by simp [hst, hN], by rw [Heap.put_ne _ _ (by omega), Heap.put_ne _ _ (by omega), Heap.put_ne _ _ (by omega)]; exact xv, ?_, ?_⟩
      · simp [hst, hN]
        exact List.take_of_length_le (by simp)
      · simp [hst, hN]
  · have hg := ap.t g (by simp [own])
    have gn1 : g ≠ n + 1 := by omega
    have gn0 : g ≠ n := by omega
    have hgf : g ≠ gf := hg.2.2.2.1
    simp [zdk, c1, c7, fn0, fn1, hr, zg, rn, rn1, hcode, hca, zer, nn, hw, g1, gn1, gn0]
    refine ⟨ha0.1, by omega, by omega, by omega, ?_⟩
    have hlen : f.stack.length - (f.stack.length - b) = b := by omega
    rw [hlen]
    have hnews : ((gcs.drop ((f.stack.length - b) * 3)).take (b * 3)) = rowV (f.stack.drop (f.stack.length - b)) := by
      rw [← zuw, ← g2, List.drop_take]
      congr 1
      omega
    refine zwh (news := rowV (f.stack.drop (f.stack.length - b))) (rd := [g]) (mm := b) ?_ (Heap.put_at _ _ _) (by simp) (zafw _) ?_
    · simp only [zm]
      rw [Heap.put_ne _ _ gn1, Heap.put_ne _ _ gn0, g1]
      simp only
      rw [if_pos (by omega), hnews]
    have hmin : min b N = b := by omega
    have htk : (rowV (f.stack.drop (f.stack.length - b))).take (b * 3) = rowV (f.stack.drop (f.stack.length - b)) := List.take_of_length_le (by simp; omega)
    have hsp : zav (rowV (List.replicate N VM.vzero)) 0 (rowV (f.stack.drop (f.stack.length - b))) = rowV (f.stack.drop (f.stack.length - b) ++ List.replicate (N - b) VM.vzero) := by
      have e : (rowV (f.stack.drop (f.stack.length - b))).length = b * 3 := by simp; omega
      rw [zakh, List.take_zero, List.nil_append, e, Nat.zero_add, zuw, zhi]
      simp
    rw [hmin, htk, hsp]
    have hkk : (f.stack.length - b : Nat) ≤ f.stack.length := by omega
    simp [c1, c7, fn0, fn1, fn0.symm, fn1.symm, rn, rn1, nn, g1, gn1, gn0]
    refine ⟨by omega, ?_⟩
    generalize hX : Heap.put (Heap.put (Heap.put (Heap.put H n _) (n + 1) _) gf _) (n + 1 + 1) _ = X at *
    have xgf : X gf = some (.row 4 (cs.take (fs.length * 4 + 3) ++ AV.slc g 0 (f.stack.length - b) :: cs.drop (fs.length * 4 + 3 + 1))) := by rw [← hX, Heap.put_ne _ _ (by omega), Heap.put_at]
    have xold : ∀ x, x < n → x ≠ gf → X x = H x := fun x hx hxf => by rw [← hX, Heap.put_ne _ _ (by omega), Heap.put_ne _ _ hxf, Heap.put_ne _ _ (by omega), Heap.put_ne _ _ (by omega)]
    have xgr : X gr = some (.row 13 (zg id trip p (.slc gf 0 (fs.length + 1)) ha m gs e)) := by rw [xold gr ap.r rf]; exact hr
    have xv : X (n + 1) = some (.row 3 (rowV (f.stack.drop (f.stack.length - b) ++ List.replicate (N - b) VM.vzero))) := by rw [← hX, Heap.put_ne _ _ (by omega), Heap.put_ne _ _ fn1.symm, Heap.put_at]
    have xt : X (n + 1 + 1) = some (.row 4 [AV.int .i64 ia, AV.int .i64 0, AV.slc (n + 1) 0 N, AV.nils]) := by rw [← hX, Heap.put_at]
    obtain ⟨d1, d2⟩ := zkk (u := .slc g 0 (f.stack.length - b)) c2 (zap st.frs.1) c3 (j := 3) (by omega)
    have fsn : frow fs ss ++ [AV.int .i64 f.fn, .int .i64 f.at_, va, .slc g 0 (f.stack.length - b)] = frow (fs ++ [{ f with stack := VM.low b f.stack }]) (ss ++ [(va, .slc g 0 (f.stack.length - b))]) := by rw [zcl st.frs.1]
    have d1' : (cs.take (fs.length * 4 + 3) ++ AV.slc g 0 (f.stack.length - b) :: cs.drop (fs.length * 4 + 3 + 1)).take ((fs.length + 1) * 4) = frow (fs ++ [{ f with stack := VM.low b f.stack }]) (ss ++ [(va, .slc g 0 (f.stack.length - b))]) := by rw [← fsn]; simpa using d1
    have fl : (frow (fs ++ [{ f with stack := VM.low b f.stack }]) (ss ++ [(va, .slc g 0 (f.stack.length - b))])).length = (fs.length + 1) * 4 := by rw [zap (by simp [st.frs.1])]; simp
    rw [if_neg rf, hr, rowk]
    have rn3 : gr ≠ n + 1 + 2 := by have := ap.r; omega
    have dd : (cs.take (fs.length * 4 + 3) ++ AV.slc g 0 (f.stack.length - b) :: cs.drop (fs.length * 4 + 3 + 1)).take ((fs.length + 1) * 4) = frow (fs ++ [{ f with stack := VM.low b f.stack }]) (ss ++ [(va, (.slc g 0 (f.stack.length - b)))]) := d1'
    simp [zg, xt, xgf, xgr, rn3, rf]
    rw [dd]
    refine ⟨by simpa using d2, by omega, by omega, h2 h12 _ _ (n + 1 + 2) (.slc g 0 (f.stack.length - b)) (.slc (n + 1) 0 N) .nils (by omega) (st.call (n' := n + 1 + 2 + 1) (gv := n + 1) (by omega) (by omega) (by omega) (by omega) (by rw [Heap.put_at]; simp [zg]) ⟨_, by rw [Heap.put_ne _ _ (by omega), Heap.put_at]; rfl, List.take_of_length_le (by simp [fl]; omega), by simp [fl]; omega⟩ rfl ?_ rfl ?_ rfl fun x h1 h2 h3 => by rw [Heap.put_ne _ _ h2, Heap.put_ne _ _ (by omega), Heap.put_ne _ _ h3]; exact xold x h1 h3)⟩
    · refine .inr ⟨g, gcs, by simp [VM.low], by rw [Heap.put_ne _ _ hg.2.1, Heap.put_ne _ _ (by omega), Heap.put_ne _ _ hgf, xold g hg.1 hgf]; exact g1, ?_, ?_⟩
      · have := congrArg (List.take ((f.stack.length - b) * 3)) g2
        rw [List.take_take, Nat.min_eq_left (by omega), zads] at this
        simpa [VM.low] using this
      · simp [VM.low]; omega
    · have hl2 : (f.stack.drop (f.stack.length - b) ++ List.replicate (N - b) VM.vzero).length = N := by simp; omega
      have hNb : ((N : Int) - b).toNat = N - b := by omega
      refine .inr ⟨n + 1, _, by simp [hN, hNb]; omega, by rw [Heap.put_ne _ _ (by omega), Heap.put_ne _ _ (by omega), Heap.put_ne _ _ (by omega)]; exact xv, ?_, ?_⟩
      · simp only [hN, hNb, Int.toNat_natCast]
        rw [List.take_of_length_le (by simp)]
      · simp [hN, hNb]
end
end Go.Proofs.YtejohcohkgcmhaaDoor
namespace Go.Proofs.YtejohcohkgcmhaaDoor
open Go Go.RowKit
def Fin (H0 H : Heap) (lo gr : Nat) (id trip : Int) (p : Prg) (frames : List Frm) (h : List Cl) (m : Pmt) (e : Evt) : Prop := ∃ gs gf ss ha cs, H gr = some (.row 13 (zg id trip p (.slc gf 0 frames.length) ha m gs e)) ∧ H gf = some (.row 4 cs) ∧ cs.take (frames.length * 4) = frow frames ss ∧ frames.length * 4 ≤ cs.length ∧
  zak H frames ss ∧ Slot H 6 h.length (rowC h) ha ∧ lo ≤ gf ∧ (∀ g ∈ own ha, lo ≤ g) ∧ (∀ g ∈ owns ss, lo ≤ g) ∧ Keep lo H H0
section
variable {H0 H : Heap} {lo n gr gs gf : Nat} {id trip : Int} {p : Prg} {s : Spt} {fs : List Frm} {ss : List (AV × AV)} {f : Frm} {va sa : AV} {h : List Cl} {ha : AV} {m : Pmt} {e : Evt}
theorem RL.fin (st : RL H0 H lo n gr gs gf id trip p s fs ss f va sa h ha m e) : Fin H0 H lo gr id trip p (fs ++ [f]) h m e := by
  obtain ⟨cs, c1, c2, c3⟩ := st.fr
  have b := st.bd
  simp only [List.mem_cons, List.mem_append] at b
  refine ⟨gs, gf, ss ++ [(va, sa)], ha, cs, by rw [st.run]; simp, c1, by rw [zcl st.frs.1]; simpa using c2, by simpa using c3, st.frs.snoc st.sv st.st, st.hp, (b gf (.inr (.inl rfl))).1, fun g hg => (b g (.inr (.inr (.inl hg)))).1, fun g hg => ?_, st.keep⟩
  rw [zck] at hg
  rcases List.mem_append.1 hg with h | h
  · exact (b g (.inr (.inr (.inr (.inl h))))).1
  · rcases List.mem_append.1 h with h | h
    · exact (b g (.inr (.inr (.inr (.inr (.inl h)))))).1
    · exact (b g (.inr (.inr (.inr (.inr (.inr h)))))).1
theorem RL.back {gs' : List Frm} {g' : Frm} {ts : List (AV × AV)} {t : AV × AV} (st : RL H0 H lo n gr gs gf id trip p s (gs' ++ [g']) (ts ++ [t]) f va sa h ha m e) : RL H0 (H.put gr (some (.row 13 (zg id trip p (.slc gf 0 (gs'.length + 1)) ha m gs e)))) lo n gr gs gf id trip p s gs' ts g' t.1 t.2 h ha m e := by
  have ap := st.apart
  have b := st.bd
  obtain ⟨cs, c1, c2, c3⟩ := st.fr
  have hk : ∀ x, x ≠ gr → (H.put gr (some (.row 13 (zg id trip p (.slc gf 0 (gs'.length + 1)) ha m gs e)))) x = H x := fun x hx => Heap.put_ne _ _ hx
  obtain ⟨f1, f2, f3⟩ := st.frs.last
  have ow : ∀ x ∈ owns ts ++ (own t.1 ++ own t.2), x ∈ owns (ts ++ [t]) := fun x hx => by rw [zck]; exact hx
  have wr : ∀ x ∈ owns ts ++ (own t.1 ++ own t.2), x ≠ gr := fun x hx => (ap.w x (ow x hx)).2.1
  refine ⟨Heap.put_at _ _ _, ⟨cs, by rw [hk _ ap.rf.symm]; exact c1, ?_, by simp at c3; omega⟩, f1.keep fun x hx => hk x (wr x (List.mem_append_left _ hx)), f2.keep fun x hx => hk x (wr x (List.mem_append_right _ (List.mem_append_left _ hx))), f3.keep fun x hx => hk x (wr x (List.mem_append_right _ (List.mem_append_right _ hx))),
    st.hp.keep fun x hx => hk x (ap.h x hx).2.1, by rw [hk _ ap.rs.symm]; exact st.spot, ?_, st.gsn, ?_, ?_, st.le⟩
  · have hl := zap st.frs.1
    have e1 := congrArg (List.take ((gs'.length + 1) * 4)) c2
    rw [List.take_take, Nat.min_eq_left (by simp; omega)] at e1
    rw [e1, List.take_append_of_le_length (by rw [hl]; simp), List.take_of_length_le (by rw [hl]; simp), zcl f1.1]
  · have nd := st.nd
    rw [zck] at nd
    refine List.Sublist.nodup ?_ nd
    refine .cons_cons _ (.cons_cons _ (.cons_cons _ (List.Sublist.append (List.Sublist.refl _) ?_)))
    exact List.sublist_append_left _ _
  · intro g hg
    refine b g ?_
    simp only [List.mem_cons, List.mem_append] at hg ⊢
    rcases hg with h | h | h | h | h | h
    · exact .inl h
    · exact .inr (.inl h)
    · exact .inr (.inr (.inl h))
    · exact .inr (.inr (.inr (.inl (ow _ (by simp [h])))))
    · exact .inr (.inr (.inr (.inl (ow _ (by simp [h])))))
    · exact .inr (.inr (.inr (.inl (ow _ (by simp [h])))))
  · intro g hg
    have l1 := (b gr (by simp)).1
    rw [hk g (by omega)]
    exact st.keep g hg
theorem Slot.frzC {a : AV} {h : List Cl} (hs : Slot H 6 h.length (rowC h) a) : Frz H 0 a (.ro (h.map Cl.avs)) := by
  rcases hs with ⟨h0, rfl | rfl⟩ | ⟨g, cs, rfl, h1, h2, h3⟩
  · rw [List.eq_nil_of_length_eq_zero h0]; exact .nils
  · rw [List.eq_nil_of_length_eq_zero h0]; exact .zs
  · refine .slc g 0 _ 6 cs _ (Nat.zero_le _) h1 (by omega) (by simp) (zbe h) (fun i j => (cs[i * 6 + j]?).getD .junk) (fun i x j v hx hv => ?_) (fun i x j v hx hv => ?_)
    all_goals
      have hj : j < 6 := by
        have := (List.getElem?_eq_some_iff.1 hv).1
        rw [zbe h x (List.mem_of_getElem? hx)] at this; exact this
      have hi : i < h.length := by have := (List.getElem?_eq_some_iff.1 hx).1; simpa using this
      have e : cs[i * 6 + j]? = some v := by
        have e1 := zfm (zbe h) hx
        have e2 : (rowC h)[i * 6 + j]? = some v := by
          have := congrArg (·[j]?) e1
          simp only [List.getElem?_take, List.getElem?_drop, hj, if_true] at this
          unfold rowC; rw [this]; exact hv
        rw [← h2, List.getElem?_take, if_pos (by omega)] at e2
        exact e2
    · rw [Nat.zero_add, e]; rfl
    · rw [e]
      exact .same _ (zbi (zag h x (List.mem_of_getElem? hx) v (List.mem_of_getElem? hv)))
theorem zn.show {a : AV} {h : List Cl} {v : Val} (hs : Slot H 6 h.length (rowC h) a) (hc : zcr h) (hv : VM.WrongOk v h.length) {nx : Nat} {k : Kt} (hk : k (.str (VM.vshow h 4 v)) (own a) [] []) : zn Tryd.prog (.clo 18 []) [a, .agg v.avs, .int .i64 4] H nx k := by
  refine zn.of_qcr (own a) (fun g hg => ?_) (fun H' n' hh => QC.reads (zaci hc 4 v 4 hv rfl (by omega) (by omega)) (by simp) (.cons (Slot.frzC (hs.keep fun g hg => (hh g hg).1)) (.cons (.same _ (zfd v)) (.cons (.same _ (.int _ _)) .nil)))) (.str _) hk
  rcases hs with ⟨_, rfl | rfl⟩ | ⟨g', cs, rfl, h1, _⟩
  · simp [own] at hg
  · simp [own] at hg
  · simp [own] at hg; subst hg; rw [h1]; rfl
set_option maxHeartbeats 1000000 in
theorem zaqm {st' : List Val} {v : Val} (st : RL H0 H lo n gr gs gf id trip p s fs ss f va sa h ha m e) (hf : fs.length ≤ 4096) (hs : f.stack = st' ++ [v]) (hb : st'.length ≤ 4095) (hc : zcr h) (hv : VM.WrongOk v h.length) (hg4 : ∀ g ∈ fs, g.stack.length ≤ 4095) {Q : AV → Heap → Nat → Prop}
    (h1 : fs = [] → ∀ H' n', n ≤ n' → Fin H0 H' lo gr id trip p [] h m ⟨4, VM.vshow h 4 v, 0⟩ → Q (.tup []) H' n')
    (h2 : ∀ gs' g', fs = gs' ++ [g'] → ∀ H' n' ts va' sa', n ≤ n' → RL H0 H' lo n' gr gs gf id trip p s gs' ts { g' with stack := g'.stack ++ [v] } va' sa' h ha m e → Q (.tup []) H' n') :
    za Tryd.prog 65 [.ptr gr 0] H n Q := by
  refine zrq _ H n _ ?_
  unfold zge
  refine znp st hf hs (by omega) fun H1 n1 sa1 hn1 st1 => ?_
  have st2 := st1.temp (some (.row 3 v.avs))
  have ap := st1.apart
  have hr := st1.run
  have rn : gr ≠ n1 := by have := ap.r; omega
  have fn : gf ≠ n1 := by have := ap.f; omega
  obtain ⟨cs, c1, c2, c3⟩ := st1.fr
  have hw : IntKind.i64.wrap (fs.length : Int) = fs.length := i64w (by omega)
  have rf := ap.rf
  rcases List.eq_nil_or_concat fs with rfl | ⟨gs', g', rfl⟩
  · have hw0 : IntKind.i64.wrap 0 = 0 := i64w (by omega)
    simp [zgf, hr, zg, rn, rn.symm, c1, fn, hw0]
    refine ⟨zae v, ?_⟩
    have hkk : ∀ (o : Option AObj) (x : Nat), x ≠ gr → ((H1.put n1 (some (.row 3 v.avs))).put gr o) x = (H1.put n1 (some (.row 3 v.avs))) x := fun o x hx => Heap.put_ne _ _ hx
    refine zn.show (st2.hp.keep fun g hg => hkk _ g (ap.h g hg).2.1) hc hv ?_
    simp [zmh, rn, rn.symm]
    have b := st1.bd
    simp only [List.mem_cons, List.mem_append] at b
    refine h1 rfl _ _ (by omega) ⟨gs, gf, [], ha, cs, by rw [Heap.put_at]; rfl, by rw [hkk _ _ rf.symm, Heap.put_ne _ _ fn]; exact c1, by simp [frow], by simp, ⟨rfl, fun k f s hf => by simp at hf⟩, st2.hp.keep fun g hg => hkk _ g (ap.h g hg).2.1, (b gf (.inr (.inl rfl))).1, fun g hg => (b g (.inr (.inr (.inl hg)))).1, by simp [owns], fun g hg => ?_⟩
    have l1 := (b gr (.inl rfl)).1
    have l2 := st1.le
    rw [hkk _ _ (by omega), Heap.put_ne _ _ (by omega)]
    exact st1.keep g hg
  · rw [List.concat_eq_append] at *
    have hne : ¬ ((gs'.length : Int) + 1 = 0) := by omega
    simp at hw
    simp [zgf, hr, zg, rn, rn.symm, c1, fn, hw, hne]
    obtain ⟨ts, t, rfl⟩ : ∃ ts t, ss = ts ++ [t] := by
      have := st.frs.1
      rcases List.eq_nil_or_concat ss with rfl | ⟨ts, t, h⟩
      · simp at this
      · exact ⟨ts, t, by rw [h, List.concat_eq_append]⟩
    refine ⟨zae v, by omega, by omega, ?_⟩
    have st3 := st2.back
    exact zeo v st3 (by simp at hf; omega) (Nat.le_succ_of_le (hg4 g' (by simp))) fun H' n' sa' hn st4 => h2 gs' g' rfl H' n' ts t.1 sa' (by omega) st4
end
end Go.Proofs.YtejohcohkgcmhaaDoor
namespace Go.Proofs.YtejohcohkgcmhaaDoor
open Go Go.RowKit
section
variable {H0 H : Heap} {lo n gr gs gf : Nat} {id trip : Int} {p : Prg} {s : Spt} {fs : List Frm} {ss : List (AV × AV)} {f : Frm} {va sa : AV} {h : List Cl} {ha : AV} {m : Pmt} {e : Evt}
structure zabq (H : Heap) (gr gf k j : Nat) (cs cells : List AV) (sa : AV) : Prop where
  run : ∃ rc, H gr = some (.row 13 rc) ∧ rc[4]? = some (.slc gf 0 (k + 1))
  fr : H gf = some (.row 4 cs)
  frl : (k + 1) * 4 ≤ cs.length
  cell : cs[k * 4 + 3]? = some sa
  st : Slot H 3 j cells sa
  len : cells.length = j * 3
  kb : k ≤ 4096
  jb : j ≤ 4096
  of : gf ∉ own sa
def zdt (cs : List AV) (k g j : Nat) : List AV := cs.take (k * 4 + 3) ++ AV.slc g 0 (j + 1) :: cs.drop (k * 4 + 3 + 1)
set_option maxHeartbeats 1000000 in
theorem zajb {k j : Nat} {cs cells : List AV} (v : Val) (st : zabq H gr gf k j cs cells sa) (l1 : gr < n) (l2 : gf < n) (l3 : ∀ g ∈ own sa, g < n) {Q : AV → Heap → Nat → Prop}
    (hq : ∀ H' n' g', n ≤ g' → g' < n' → H' gf = some (.row 4 (zdt cs k g' j)) → H' g' = some (.row 3 (cells ++ v.avs)) → (∀ x, x < n → x ≠ gf → x ∉ own sa → H' x = H x) → Q (.tup []) H' n') : za Tryd.prog 56 [.ptr gr 0, .agg v.avs] H n Q := by
  refine zig _ _ H n _ ?_
  simp [zdh]
  obtain ⟨rc, h1, h2⟩ := st.run
  have c1 := st.fr
  have c3 := st.frl
  have c7 := st.cell
  have rn0 : gr ≠ n := by omega
  have fn0 : gf ≠ n := by omega
  refine zadm (rc := rc) (cs := cs) (k := k) (by rw [Heap.put_ne _ _ rn0]; exact h1) h2 (by rw [Heap.put_ne _ _ fn0]; exact c1) st.kb ?_
  have tv : v.avs.take 3 = v.avs := rfl
  have lv : v.avs.length = 3 := rfl
  have fnn : gf ≠ n + 1 := by omega
  have gn1 : n ≠ n + 1 := by omega
  have hlen := st.len
  have hjb := st.jb
  simp [zfx, c1, c7, tv, lv, fn0, gn1]
  have sa1 : Slot ((H.put n (some (AObj.row 3 v.avs))).put (n + 1) (some (AObj.row 3 v.avs))) 3 j cells sa := st.st.keep fun g hg => by
    have := l3 g hg
    rw [Heap.put_ne _ _ (by omega), Heap.put_ne _ _ (by omega)]
  refine Slot.append (new := v.avs) sa1 st.len (Heap.put_at _ _ _) rfl (List.all_eq_true.2 (zae v)) (by omega) fun rd D hD q1 q2 => ?_
  have hgf : (((H.put n (some (AObj.row 3 v.avs))).put (n + 1) (some (AObj.row 3 v.avs))).apply D) gf = some (.row 4 cs) := by
    rw [q2 gf st.of (by omega), Heap.put_ne _ _ fnn, Heap.put_ne _ _ fn0]; exact c1
  have hold : ∀ g, g < n → g ∉ own sa → (((H.put n (some (AObj.row 3 v.avs))).put (n + 1) (some (AObj.row 3 v.avs))).apply D) g = H g := fun g hg hs => by
    rw [q2 g hs (by omega), Heap.put_ne _ _ (by omega), Heap.put_ne _ _ (by omega)]
  generalize ((H.put n (some (AObj.row 3 v.avs))).put (n + 1) (some (AObj.row 3 v.avs))).apply D = HD at *
  simp [hgf]
  refine ⟨by omega, by omega, zbd (by simp) (hq _ _ (n + 1 + 1) (by omega) (by omega) (by rw [Heap.put_at]; rfl) (by rw [Heap.put_ne _ _ (by omega)]; exact q1) fun x h1 h2 h3 => by rw [Heap.put_ne _ _ h2]; exact hold x h1 h3)⟩
theorem RL.pushAt (st : RL H0 H lo n gr gs gf id trip p s fs ss f va sa h ha m e) (hf : fs.length ≤ 4096) (hb : f.stack.length ≤ 4096) (v : Val) : ∃ cs, zabq H gr gf fs.length f.stack.length cs (rowV f.stack) sa ∧ (∀ g ∈ own sa, g < n) ∧
    ∀ H' n' g', n ≤ g' → g' < n' → H' gf = some (.row 4 (zdt cs fs.length g' f.stack.length)) → H' g' = some (.row 3 (rowV f.stack ++ v.avs)) → (∀ x, x < n → x ≠ gf → x ∉ own sa → H' x = H x) → RL H0 H' lo n' gr gs gf id trip p s fs ss { f with stack := f.stack ++ [v] } va (.slc g' 0 (f.stack.length + 1)) h ha m e := by
  obtain ⟨cs, c1, c2, c3, c4, c5, c6, c7⟩ := st.last
  have ap := st.apart
  have lv : v.avs.length = 3 := rfl
  refine ⟨cs, ⟨⟨_, st.run, rfl⟩, c1, c3, c7, st.st, by simp, hf, hb, fun h => (ap.t _ h).2.2.2.1 rfl⟩, fun g hg => (ap.t g hg).1, fun H' n' g' h1 h2 q1 q2 old => ?_⟩
  obtain ⟨d1, d2⟩ := zkk (u := AV.slc g' 0 (f.stack.length + 1)) c2 (zap st.frs.1) c3 (j := 3) (by omega)
  refine st.upd (by omega) ?_ ⟨_, q1, by simpa [zdt] using d1, d2⟩ ?_ ?_ ?_ ?_ (fun g hg => .inl hg) (fun g hg => .inl hg) ?_ ?_
  · rw [old gr ap.r ap.rf (fun h => (ap.t _ h).2.1 rfl)]; exact st.run
  · exact st.sv.keep fun g hg => old g (ap.v g hg).1 (ap.v g hg).2.2.2.1 (ap.v g hg).2.2.2.2.2.2
  · refine .inr ⟨g', rowV f.stack ++ v.avs, by simp, q2, ?_, ?_⟩
    · rw [zeb, List.take_of_length_le (by simp [lv]; omega)]
    · simp [lv]; omega
  · exact st.hp.keep fun g hg => old g (ap.h g hg).1 (ap.h g hg).2.2.2.1 (ap.h g hg).2.2.2.2.2.2
  · exact fun g hg _ h2 _ _ h3 => old g hg h2 h3
  · intro g hg; simp [own] at hg; subst hg; exact .inr ⟨by omega, by omega⟩
  · have := st.nd3
    simp only [List.nodup_append, List.mem_append] at this ⊢
    obtain ⟨z1, ⟨z2, _, _⟩, z4⟩ := this
    refine ⟨z1, ⟨z2, zpi _, ?_⟩, ?_⟩
    · rintro x hx y hy rfl
      simp [own] at hy
      have := (ap.v x hx).1; omega
    · rintro x hx y (hy | hy) rfl
      · exact z4 x hx x (.inl hy) rfl
      · simp [own] at hy
        have := (ap.h x hx).1; omega
def gone (sa : AV) : ze := (own sa).map fun g => (g, none)
theorem zsb {g' : Nat} {o1 o2 : Option AObj} (hne : ∀ g, g ∈ own sa → g ≠ g' ∧ g ≠ gf) (hfn : gf ≠ g') (Hx : Heap) : (Hx.apply (gone sa ++ [(gf, o1), (g', o2)])) gf = o1 ∧ (Hx.apply (gone sa ++ [(gf, o1), (g', o2)])) g' = o2 ∧
    ∀ x, x ∉ own sa → x ≠ gf → x ≠ g' → (Hx.apply (gone sa ++ [(gf, o1), (g', o2)])) x = Hx x := by
  have e : ∀ (D1 D2 : ze) (Hy : Heap), Hy.apply (D1 ++ D2) = (Hy.apply D1).apply D2 := fun D1 D2 Hy => by
    induction D1 generalizing Hy with
    | nil => rfl
    | cons d D1 ih => obtain ⟨g, o⟩ := d; exact ih (Hy.put g o)
  rw [e]
  simp only [zar, zbb]
  refine ⟨by rw [Heap.put_ne _ _ hfn, Heap.put_at], by rw [Heap.put_at], fun x hx h1 h2 => ?_⟩
  rw [Heap.put_ne _ _ h2, Heap.put_ne _ _ h1]
  cases sa
  case slc g o l => simp [own] at hx; simp [gone, own, hx]
  all_goals rfl
theorem zn.push {k j : Nat} {cs cells : List AV} {v : Val} (st : zabq H gr gf k j cs cells sa) (hc : ∀ c ∈ cells, scal c = true) {kt : Kt} (hne : ∀ g, g ∈ own sa → g ≠ n ∧ g ≠ gf) (hfn : gf ≠ n) (hk : kt (.tup []) (gr :: gf :: own sa) [n] (gone sa ++ [(gf, some (.row 4 (zdt cs k n j))), (n, some (.row 3 (cells ++ v.avs)))])) :
    zn Tryd.prog (.clo 56 []) [.ptr gr 0, .agg v.avs] H n kt := by
  obtain ⟨rc, h1, h2⟩ := st.run
  have c1 := st.fr
  have dg : ∀ x, x ∈ domD (gone sa) ↔ x ∈ own sa := fun x => by simp [gone, domD]
  have dD : ∀ x, x ∈ domD (gone sa ++ [(gf, some (.row 4 (zdt cs k n j))), (n, some (.row 3 (cells ++ v.avs)))]) ↔ x ∈ own sa ∨ x = gf ∨ x = n := fun x => by simp [domD, gone]
  have app : ∀ Hx : Heap, (Hx.apply (gone sa ++ [(gf, some (.row 4 (zdt cs k n j))), (n, some (.row 3 (cells ++ v.avs)))])) gf = some (.row 4 (zdt cs k n j)) ∧ (Hx.apply (gone sa ++ [(gf, some (.row 4 (zdt cs k n j))), (n, some (.row 3 (cells ++ v.avs)))])) n = some (.row 3 (cells ++ v.avs)) ∧
      ∀ x ∈ own sa, (Hx.apply (gone sa ++ [(gf, some (.row 4 (zdt cs k n j))), (n, some (.row 3 (cells ++ v.avs)))])) x = none := fun Hx => by
    have e : ∀ (D1 D2 : ze) (Hy : Heap), Hy.apply (D1 ++ D2) = (Hy.apply D1).apply D2 := fun D1 D2 Hy => by
      induction D1 generalizing Hy with
      | nil => rfl
      | cons d D1 ih => obtain ⟨g, o⟩ := d; exact ih (Hy.put g o)
    rw [e]
    simp only [zar, zbb]
    refine ⟨by rw [Heap.put_ne _ _ hfn, Heap.put_at], by rw [Heap.put_at], fun x hx => ?_⟩
    obtain ⟨a, b⟩ := hne x hx
    rw [Heap.put_ne _ _ a, Heap.put_ne _ _ b]
    cases sa <;> simp [own] at hx
    subst hx
    simp [gone, own]
  refine ⟨_, gr :: gf :: own sa, [n], _, .inr rfl, LC.of_callsN (fun x hx => ?_) (fun x hx => ?_) (fun A hA hB H' n' hag => ?_), hk⟩
  · simp at hx
    rcases hx with rfl | rfl | hx
    · rw [h1]; rfl
    · rw [c1]; rfl
    · rcases st.st with ⟨_, rfl | rfl⟩ | ⟨g, gcs, rfl, g1, _⟩
      · simp [own] at hx
      · simp [own] at hx
      · simp [own] at hx; subst hx; rw [g1]; rfl
  · rcases (dD x).1 hx with h | h | h
    · exact .inl (by simp [h])
    · exact .inl (by simp [h])
    · exact .inr h
  · obtain ⟨a1, a2⟩ := hag gr (by simp)
    obtain ⟨a3, a4⟩ := hag gf (by simp)
    have st' : zabq H' gr gf k j cs cells sa := ⟨⟨rc, by rw [a1]; exact h1, h2⟩, by rw [a3]; exact c1, st.frl, st.cell, st.st.keep fun g hg => (hag g (by simp [hg])).1, st.len, st.kb, st.jb, st.of⟩
    refine zajb v st' a2 a4 (fun g hg => (hag g (by simp [hg])).2) fun H'' n'' g' hg1 hg2 q1 q2 old => ?_
    obtain ⟨p1, p2, p3⟩ := app H'
    have hb := hB gf (by simp) _ c1
    refine ⟨g', hg1, hg2, .same _ (.tup _ fun j v hv => by simp at hv), fun x hx hd => ?_, fun x o hx hxn ho => ?_, ⟨_, _, p2, q2, rfl, rfl, fun j x u hx hu => ?_⟩⟩
    · have := (not_congr (dD x)).1 hd
      simp only [not_or] at this
      exact old x hx this.2.1 this.1
    · rcases (dD x).1 hx with h | h | h
      · rw [p3 x h] at ho; cases ho
      · subst h
        rw [p1] at ho
        cases ho
        refine ⟨_, q1, rfl, by simp [zdt], fun j x u hx hu => ?_⟩
        unfold zdt at hx hu
        have hl : (cs.take (k * 4 + 3)).length = k * 4 + 3 := by have := st.frl; simp; omega
        by_cases hj : j < k * 4 + 3
        · rw [List.getElem?_append_left (by omega)] at hx hu
          rw [hx] at hu; cases hu
          rw [List.getElem?_take, if_pos hj] at hx
          exact .same _ (hb j x hx)
        · rw [List.getElem?_append_right (by omega)] at hx hu
          rw [hl] at hx hu
          cases hjj : j - (k * 4 + 3) with
          | zero =>
            rw [hjj] at hx hu
            simp at hx hu; subst hx; subst hu
            exact .slc _ _
          | succ i =>
            rw [hjj] at hx hu
            simp only [List.getElem?_cons_succ] at hx hu
            rw [hx] at hu; cases hu
            rw [List.getElem?_drop] at hx
            exact .same _ (hb _ x hx)
      · exact absurd h hxn
    · rw [hx] at hu; cases hu
      have hm := List.mem_of_getElem? hx
      refine .same _ (zbi ?_)
      rcases List.mem_append.1 hm with h | h
      · exact hc x h
      · exact zan v x h
theorem RL.pushD (v : Val) (st : RL H0 H lo n gr gs gf id trip p s fs ss f va sa h ha m e) (hf : fs.length ≤ 4096) (hb : f.stack.length ≤ 4096) {kt : Kt}
    (hk : ∀ (H' : Heap) sa' rd D, H' = H.apply D → RL H0 H' lo (n + 1) gr gs gf id trip p s fs ss { f with stack := f.stack ++ [v] } va sa' h ha m e → kt (.tup []) rd [n] D) : zn Tryd.prog (.clo 56 []) [.ptr gr 0, .agg v.avs] H n kt := by
  obtain ⟨cs, hp, hlt, hr⟩ := st.pushAt hf hb v
  have ap := st.apart
  have hne : ∀ g, g ∈ own sa → g ≠ n ∧ g ≠ gf := fun g hg => ⟨by have := hlt g hg; omega, (ap.t g hg).2.2.2.1⟩
  have hfn : gf ≠ n := by have := ap.f; omega
  refine zn.push hp (fun c hc => zbk _ c hc) hne hfn (hk _ _ _ _ rfl (hr _ (n + 1) n (Nat.le_refl _) (by omega) ?_ ?_ fun x hx h1 h2 => ?_))
  · exact (zsb hne hfn H).1
  · exact (zsb hne hfn H).2.1
  · exact (zsb hne hfn H).2.2 x h2 h1 (by omega)
end
end Go.Proofs.YtejohcohkgcmhaaDoor
namespace Go.Proofs.YtejohcohkgcmhaaDoor
open Go Go.RowKit
def zais (H0 H : Heap) (lo n gr gs : Nat) (s : Spt) (r : Agt × Evt) : Prop := (r.2 = VM.ev0 ∧ ∃ gf fs ss f va sa ha, r.1.frames = fs ++ [f] ∧ RL H0 H lo n gr gs gf r.1.id r.1.trip r.1.prog s fs ss f va sa r.1.heap ha r.1.permit VM.ev0) ∨
  (r.2.kind ≠ 0 ∧ Fin H0 H lo gr r.1.id r.1.trip r.1.prog r.1.frames r.1.heap r.1.permit r.2)
theorem zfc {st : List Val} (h : 1 ≤ st.length) : st = VM.low 1 st ++ [VM.top1 st] := by
  unfold VM.low VM.top1
  have : st[st.length - 1]? = some st[st.length - 1] := List.getElem?_eq_getElem (by omega)
  rw [List.getD_eq_getElem?_getD, this]
  have e := zcy this
  rw [show st.length - 1 + 1 = st.length by omega, List.take_length] at e
  exact e
theorem zut {st : List Val} (h : 2 ≤ st.length) : st = VM.low 2 st ++ [VM.top2 st, VM.top1 st] := by
  have h1 := zfc (st := st) (by omega)
  have : st[st.length - 2]? = some st[st.length - 2] := List.getElem?_eq_getElem (by omega)
  have e := zcy this
  rw [show st.length - 2 + 1 = st.length - 1 by omega] at e
  have e2 : VM.low 1 st = VM.low 2 st ++ [VM.top2 st] := by
    unfold VM.low VM.top2
    rw [List.getD_eq_getElem?_getD, this]; exact e
  rw [e2] at h1
  simpa using h1
theorem zalu {p : Prg} {fs : List Frm} {fn : Int} (h : VM.WChain p fs fn) : ∀ g ∈ fs, ∃ k, VM.Waits p g k := by
  induction h with
  | nil => intro g hg; simp at hg
  | snoc gs g0 fn _ w ih =>
    intro g hg
    rcases List.mem_append.1 hg with h | h
    · exact ih g h
    · simp at h; subst h; exact ⟨_, w⟩
theorem zub {a : Agt} {fs : List Frm} {f : Frm} (l : VM.Live a fs f) : ∀ g ∈ fs, g.stack.length ≤ 15 := by
  intro g hg
  obtain ⟨k, w⟩ := zalu l.chain g hg
  have ok := l.ok g (by simp [hg])
  have pr := (zz l.prog).1 _ (VM.code_mem ok.code)
  have hm := (zde pr.2.1 pr.2.2).2 _ (List.mem_of_getElem? w.hei)
  omega
theorem ztg {p : Prg} (h : VM.program p = 0) : ∀ w ∈ p.words, w.length ≤ 12 := by
  unfold VM.program at h
  split at h
  · omega
  split at h
  · omega
  split at h
  · omega
  rename_i hw
  have hw' : p.words.all VM.word = true := by simpa using hw
  intro w hm
  have := List.all_eq_true.1 hw' w hm
  unfold VM.word at this
  simp at this
  exact this.1
theorem zaqn {cs : List AV} {vs : List Val} {i : Nat} {v : Val} (h1 : cs.take (vs.length * 3) = rowV vs) (h2 : vs.length * 3 ≤ cs.length) (hi : i < vs.length) :
    (cs.take (i * 3) ++ (v.avs ++ cs.drop (i * 3 + 3))).take ((vs.set i v).length * 3) = rowV (vs.set i v) ∧ (vs.set i v).length * 3 ≤ (cs.take (i * 3) ++ (v.avs ++ cs.drop (i * 3 + 3))).length := by
  have e1 : vs.set i v = vs.take i ++ ([v] ++ vs.drop (i + 1)) := by rw [List.set_eq_take_append_cons_drop, if_pos hi]; rfl
  have ecs : cs = rowV vs ++ cs.drop (vs.length * 3) := by rw [← h1, List.take_append_drop]
  have one : rowV [v] = v.avs := by simp [rowV]
  have lv : v.avs.length = 3 := rfl
  generalize cs.drop (vs.length * 3) = T at ecs
  have t1 : cs.take (i * 3) = rowV (vs.take i) := by rw [ecs, List.take_append_of_le_length (by simp; omega), zads]
  have t2 : cs.drop (i * 3 + 3) = rowV (vs.drop (i + 1)) ++ T := by
    rw [ecs, List.drop_append_of_le_length (by simp; omega), show i * 3 + 3 = (i + 1) * 3 by omega, zuw]
  rw [t1, t2, List.length_set, e1, zhi, zhi, one]
  have hl : (rowV (vs.take i) ++ (v.avs ++ rowV (vs.drop (i + 1)))).length = vs.length * 3 := by simp [lv]; omega
  have e : rowV (vs.take i) ++ (v.avs ++ (rowV (vs.drop (i + 1)) ++ T)) = (rowV (vs.take i) ++ (v.avs ++ rowV (vs.drop (i + 1)))) ++ T := by simp
  rw [e]
  exact ⟨by rw [← hl, List.take_left], by rw [List.length_append, hl]; omega⟩
section
variable {H0 H : Heap} {lo n gr gs gf : Nat} {id trip : Int} {p : Prg} {s : Spt} {fs : List Frm} {ss : List (AV × AV)} {f : Frm} {va sa : AV} {h : List Cl} {ha : AV} {m : Pmt} {e : Evt}
theorem RL.setva (st : RL H0 H lo n gr gs gf id trip p s fs ss f va sa h ha m e) {vs : List Val} {g : Nat} {c : Option AObj} (hg : own va = [g]) (hs : Slot (H.put g c) 3 vs.length (rowV vs) va) : RL H0 (H.put g c) lo n gr gs gf id trip p s fs ss { f with vars := vs } va sa h ha m e := by
  have ap := st.apart
  obtain ⟨a1, a2, a3, a4, a5, a6, a7⟩ := ap.v g (by simp [hg])
  obtain ⟨cs, c1, c2⟩ := st.fr
  have hk : ∀ x, x ≠ g → (H.put g c) x = H x := fun x hx => Heap.put_ne _ _ hx
  exact st.upd (Nat.le_refl _) (by rw [hk _ (Ne.symm a2)]; exact st.run) ⟨cs, by rw [hk _ (Ne.symm a4)]; exact c1, c2⟩ hs (st.st.keep fun x hx => hk x fun e => a7 (e ▸ hx)) (st.hp.keep fun x hx => hk x fun e => a5 (e ▸ hx)) (fun x _ _ _ _ hx _ => hk x fun e => hx (by rw [hg, e]; simp)) (fun g hg => .inl hg) (fun g hg => .inl hg) (fun g hg => .inl hg) st.nd3
theorem RL.setat (st : RL H0 H lo n gr gs gf id trip p s fs ss f va sa h ha m e) {cs : List AV} (k : Int) (c1 : H gf = some (.row 4 cs)) (c2 : cs.take ((fs.length + 1) * 4) = frow fs ss ++ [.int .i64 f.fn, .int .i64 f.at_, va, sa]) (c3 : (fs.length + 1) * 4 ≤ cs.length) :
    RL H0 (H.put gf (some (.row 4 (cs.take (fs.length * 4 + 1) ++ AV.int .i64 k :: cs.drop (fs.length * 4 + 1 + 1))))) lo n gr gs gf id trip p s fs ss { f with at_ := k } va sa h ha m e := by
  obtain ⟨d1, d2⟩ := zkk (u := AV.int .i64 k) c2 (zap st.frs.1) c3 (j := 1) (by omega)
  exact st.setfr (f' := { f with at_ := k }) ⟨_, rfl, by simpa using d1, d2⟩ st.sv st.st rfl rfl
end
section
variable {H0 H : Heap} {lo n gr gs gf : Nat} {a : Agt} {s : Spt} {fs : List Frm} {ss : List (AV × AV)} {f : Frm} {va sa : AV} {ha : AV}
set_option maxHeartbeats 16000000 in
set_option maxRecDepth 20000 in
theorem zapo (l : VM.Live a fs f) (hfu : a.permit.fuel ≠ 0) (st : RL H0 H lo n gr gs gf a.id a.trip a.prog s fs ss f va sa a.heap ha a.permit VM.ev0) (hname : s.name.length ≤ maxLen) (hfacts : s.facts.length ≤ 4611686018427387903) {Q : AV → Heap → Nat → Prop}
    (hq : ∀ H' n', n ≤ n' → zais H0 H' lo n' gr gs s (VM.opDo { a with permit := { a.permit with fuel := a.permit.fuel - 1 } } s fs { f with at_ := f.at_ + 1 } (VM.insAt a.prog f)) → Q (.tup []) H' n') :
    za Tryd.prog 45 [.ptr gr 0] H n Q := by
  refine zrk _ H n _ ?_
  unfold zfv
  have flen := l.flen
  refine zaff st (by omega) ?_
  have ok := l.ok f (by simp)
  have nw := l.now
  generalize VM.insAt a.prog f = i at *
  obtain ⟨iop, ia, ib⟩ := i
  have hins := nw.at_
  obtain ⟨o1, o2, o3, o4⟩ := VM.numbers_ok nw.num
  have pops := nw.pops
  have most := nw.most
  obtain ⟨cs, c1, c2, c3, c4, c5, c6, c7⟩ := st.last
  have ap := st.apart
  have hr := st.run
  have hcode := zms ok.code
  have fn0 : gf ≠ n := by have := ap.f; omega
  have rn0 : gr ≠ n := by have := ap.r; omega
  have rf := ap.rf
  have hca : (VM.codeAt a.prog f.fn).avs = [.int .i64 (VM.codeAt a.prog f.fn).params, .int .i64 (VM.codeAt a.prog f.fn).vars, .ro ((VM.codeAt a.prog f.fn).ins.map Ins.avs)] := rfl
  have hfn1 : f.fn < (a.prog.codes.length : Int) := by have := ok.code; have := ok.fn0; omega
  have hat1 : f.at_ < ((VM.codeAt a.prog f.fn).ins.length : Int) := by have := ok.ins; have := ok.at0; omega
  obtain ⟨crange, _, _⟩ := (zz l.prog).1 _ (VM.code_mem ok.code)
  unfold VM.codeRange at crange
  rw [decide_eq_false_iff_not] at crange
  have hb := l.fuel
  have hat0 := ok.at0
  have hfn0 := ok.fn0
  have hw1 : IntKind.i64.wrap (f.at_ + 1) = f.at_ + 1 := i64w (by omega)
  have hw2 : IntKind.i64.wrap (a.permit.fuel - 1) = a.permit.fuel - 1 := i64w (by omega)
  have b2 := l.room
  have b3 := l.hops
  have b4 := l.hlen
  have oc : zcr a.heap := l.cells
  have slen : f.stack.length ≤ 17 := by
    have e := most
    unfold VM.after at e
    have e2 := zho ⟨iop, ia, ib⟩ (fun h17 => by
      have := (zz l.prog).1 _ (VM.code_mem ok.code)
      exact this.2.1 _ (List.mem_of_getElem? hins) h17)
    have := nw.next
    have hst := l.still
    unfold VM.Still VM.hts at hst
    have hm := (zde ((zz l.prog).1 _ (VM.code_mem ok.code)).2.1 ((zz l.prog).1 _ (VM.code_mem ok.code)).2.2).2 _ (List.mem_of_getElem? hst)
    omega
  have m1 : 1 ≤ f.stack.length → VM.WrongOk (VM.top1 f.stack) a.heap.length := fun h => ok.sv _ (VM.top1_mem h)
  have m2 : 2 ≤ f.stack.length → VM.WrongOk (VM.top2 f.stack) a.heap.length := fun h => ok.sv _ (VM.top2_mem h)
  have ll : ∀ k, (VM.low k f.stack).length = f.stack.length - k := fun k => VM.low_len k f.stack
  simp only at o1 o2 o3 o4 pops
  have st0 := ((st.temp (some (.row 3 [AV.int .i64 iop, .int .i64 ia, .int .i64 ib]))).setat (f.at_ + 1) (by rw [Heap.put_ne _ _ fn0]; exact c1) c2 c3).setrun { a.permit with fuel := a.permit.fuel - 1 } VM.ev0
  simp only [zg] at st0
  have hop : iop = 1 ∨ iop = 2 ∨ iop = 3 ∨ iop = 4 ∨ iop = 5 ∨ iop = 6 ∨ iop = 7 ∨ iop = 8 ∨ iop = 9 ∨ iop = 10 ∨ iop = 11 ∨ iop = 12 ∨ iop = 13 ∨ iop = 14 ∨ iop = 15 ∨ iop = 16 ∨ iop = 17 ∨ iop = 18 ∨ iop = 19 := by omega
  have go : ∀ {H' : Heap} {n' : Nat} {r : Agt × Evt}, r = VM.opDo { a with permit := { a.permit with fuel := a.permit.fuel - 1 } } s fs { f with at_ := f.at_ + 1 } ⟨iop, ia, ib⟩ → n ≤ n' → zais H0 H' lo n' gr gs s r → Q (.tup []) H' n' := fun e hn h => hq _ _ hn (e ▸ h)
  clear hq
  rcases hop with rfl | rfl | rfl | rfl | rfl | rfl | rfl | rfl | rfl | rfl | rfl | rfl | rfl | rfl | rfl | rfl | rfl | rfl | rfl
  · -- 1
    simp [zp, hr, zg, c1, c4, c5, hcode, hca, hins, Ins.avs, fn0, rn0, rf, fn0.symm, rn0.symm, rf.symm, hw1, hw2]
    refine ⟨hfn0, hfn1, hat0, hat1, by omega, ?_⟩
    generalize hX : Heap.put (Heap.put (Heap.put H n _) gf _) gr _ = X at *
    have xn : X n = some (.row 3 [AV.int .i64 1, .int .i64 ia, .int .i64 ib]) := by rw [← hX, Heap.put_ne _ _ rn0.symm, Heap.put_ne _ _ fn0.symm, Heap.put_at]
    exact zeo ⟨0, ia, []⟩ st0 (by omega) (by simp only; omega) fun H' n' sa' hn st5 => go rfl (by omega) (.inl ⟨rfl, gf, fs, ss, _, va, sa', ha, rfl, st5⟩)
  · -- 2
    simp [zp, hr, zg, c1, c4, c5, hcode, hca, hins, Ins.avs, fn0, rn0, rf, fn0.symm, rn0.symm, rf.symm, hw1, hw2]
    refine ⟨hfn0, hfn1, hat0, hat1, by omega, ?_⟩
    generalize hX : Heap.put (Heap.put (Heap.put H n _) gf _) gr _ = X at *
    have xn : X n = some (.row 3 [AV.int .i64 2, .int .i64 ia, .int .i64 ib]) := by rw [← hX, Heap.put_ne _ _ rn0.symm, Heap.put_ne _ _ fn0.symm, Heap.put_at]
    have hn : 0 ≤ ia ∧ ia < a.prog.words.length := by unfold VM.numOk VM.isIn at o3; simpa using o3
    have hlt : ia.toNat < a.prog.words.length := by omega
    have hget : a.prog.words[ia.toNat]? = some (a.prog.words.getD ia.toNat []) := by rw [List.getD_eq_getElem?_getD, List.getElem?_eq_getElem hlt]; rfl
    have hwl := ztg l.prog _ (List.mem_of_getElem? hget)
    rw [hget]
    refine ⟨hn.1, hn.2, ?_⟩
    simp
    refine zn.of_qc (zacf (a.prog.words.getD ia.toNat []) (by simp only [maxLen]; omega)) (zfd _) ?_
    simp [zlx]
    refine st0.pushD _ (by omega) (by simp only; omega) fun H' sa' rd D hD st5 => ?_
    simp [zly, ← hD]
    exact go rfl (by omega) (.inl ⟨rfl, gf, fs, ss, _, va, sa', ha, rfl, st5⟩)
  · -- 3
    simp [zp, hr, zg, c1, c4, c5, hcode, hca, hins, Ins.avs, fn0, rn0, rf, fn0.symm, rn0.symm, rf.symm, hw1, hw2]
    refine ⟨hfn0, hfn1, hat0, hat1, by omega, ?_⟩
    generalize hX : Heap.put (Heap.put (Heap.put H n _) gf _) gr _ = X at *
    have xn : X n = some (.row 3 [AV.int .i64 3, .int .i64 ia, .int .i64 ib]) := by rw [← hX, Heap.put_ne _ _ rn0.symm, Heap.put_ne _ _ fn0.symm, Heap.put_at]
    have hn : 0 ≤ ia ∧ ia < (VM.codeAt a.prog f.fn).vars := by unfold VM.numOk VM.isIn at o3; simpa using o3
    have okv := ok.vars
    have hlt : ia.toNat < f.vars.length := by omega
    have hget : f.vars[ia.toNat]? = some (f.vars.getD ia.toNat VM.vzero) := by rw [List.getD_eq_getElem?_getD, List.getElem?_eq_getElem hlt]; rfl
    obtain ⟨cs1, x1, _, _, _, _, x6, _⟩ := st0.last
    have xgf : X gf = some (.row 4 (cs.take (fs.length * 4 + 1) ++ AV.int .i64 (f.at_ + 1) :: cs.drop (fs.length * 4 + 1 + 1))) := by rw [← hX, Heap.put_ne _ _ rf.symm, Heap.put_at]
    rw [xgf] at x1
    cases x1
    rw [x6]
    simp
    rcases st0.sv with ⟨h0, _⟩ | ⟨g, gcs, rfl, g1, g2, g3⟩
    · simp only at h0; omega
    · have hv := zwc hget
      rw [← g2, List.drop_take, List.take_take, Nat.min_eq_left (by simp only; omega)] at hv
      simp [g1, hv]
      simp only at g3
      refine ⟨hn.1, by omega, by omega, ?_⟩
      refine st0.pushD _ (by omega) (by simp only; omega) fun H' sa' rd D hD st5 => ?_
      simp [zlw, ← hD]
      exact go rfl (by omega) (.inl ⟨rfl, gf, fs, ss, _, _, sa', ha, rfl, st5⟩)
  · -- 4
    simp [zp, hr, zg, c1, c4, c5, hcode, hca, hins, Ins.avs, fn0, rn0, rf, fn0.symm, rn0.symm, rf.symm, hw1, hw2]
    refine ⟨hfn0, hfn1, hat0, hat1, by omega, ?_⟩
    generalize hX : Heap.put (Heap.put (Heap.put H n _) gf _) gr _ = X at *
    have xn : X n = some (.row 3 [AV.int .i64 4, .int .i64 ia, .int .i64 ib]) := by rw [← hX, Heap.put_ne _ _ rn0.symm, Heap.put_ne _ _ fn0.symm, Heap.put_at]
    have hp : 1 ≤ f.stack.length := by simp [VM.effect] at pops; omega
    have e1 := zfc hp
    have hn : 0 ≤ ia ∧ ia < (VM.codeAt a.prog f.fn).vars := by unfold VM.numOk VM.isIn at o3; simpa using o3
    have okv := ok.vars
    have hlt : ia.toNat < f.vars.length := by omega
    obtain ⟨cs0, x1, _, _, _, _, x6, _⟩ := st0.last
    have xgf : X gf = some (.row 4 (cs.take (fs.length * 4 + 1) ++ AV.int .i64 (f.at_ + 1) :: cs.drop (fs.length * 4 + 1 + 1))) := by rw [← hX, Heap.put_ne _ _ rf.symm, Heap.put_at]
    rw [xgf] at x1
    cases x1
    rw [x6]
    simp
    obtain ⟨g, cs1, gcs, hsa, hpop, hg, hr5⟩ := st0.popAt (st' := VM.low 1 f.stack) (v := VM.top1 f.stack) (by omega) e1 (by rw [ll]; omega)
    have c1x := hpop.fr
    rw [xgf] at c1x
    cases c1x
    refine zn.pop hpop ?_
    have st5 := hr5 (X.put gf (some (AObj.row 4 (zik (cs.take (fs.length * 4 + 1) ++ AV.int .i64 (f.at_ + 1) :: cs.drop (fs.length * 4 + 1 + 1)) fs.length g (VM.low 1 f.stack).length)))) (n + 1) (Nat.le_refl _) (Heap.put_at _ _ _) (fun x _ hx => Heap.put_ne _ _ hx)
    obtain ⟨cs5, y1, _, _, _, _, y6, _⟩ := st5.last
    rw [Heap.put_at] at y1
    cases y1
    rcases st5.sv with ⟨h0, _⟩ | ⟨gv, vcs, rfl, g1, g2, g3⟩
    · simp only at h0; omega
    · simp only at g2 g3
      have vf : gv ≠ gf := fun e => (st5.apart.v gv (by simp [own])).2.2.2.1 e
      rw [Heap.put_ne _ _ vf] at g1
      obtain ⟨d1, d2⟩ := zaqn (v := VM.top1 f.stack) g2 g3 hlt
      simp [zlv, g1, vf, fn0, y6]
      refine ⟨hn.1, by omega, by omega, zae _, ?_⟩
      have st6 := st5.setva (vs := f.vars.set ia.toNat (VM.top1 f.stack)) (g := gv) (c := some (.row 3 (vcs.take (ia.toNat * 3) ++ ((VM.top1 f.stack).avs ++ vcs.drop (ia.toNat * 3 + 3))))) (by simp [own]) (.inr ⟨gv, _, by simp, Heap.put_at _ _ _, d1, d2⟩)
      exact go (by rw [VM.opDo_4]) (by omega) (.inl ⟨rfl, gf, fs, ss, _, _, _, ha, rfl, st6⟩)
  · -- 5
    simp [zp, hr, zg, c1, c4, c5, hcode, hca, hins, Ins.avs, fn0, rn0, rf, fn0.symm, rn0.symm, rf.symm, hw1, hw2]
    refine ⟨hfn0, hfn1, hat0, hat1, by omega, ?_⟩
    generalize hX : Heap.put (Heap.put (Heap.put H n _) gf _) gr _ = X at *
    have xn : X n = some (.row 3 [AV.int .i64 5, .int .i64 ia, .int .i64 ib]) := by rw [← hX, Heap.put_ne _ _ rn0.symm, Heap.put_ne _ _ fn0.symm, Heap.put_at]
    have hp : 2 ≤ f.stack.length := by simp [VM.effect] at pops; omega
    have e2 := zut hp
    refine zaqq ia st0 (by omega) e2 (by rw [ll]; omega) (m1 (by omega)) (m2 hp) (fun hne H' n' sa' hn st5 => ?_) (fun he H' n' sa' hn st5 => ?_)
    · refine go (by rw [VM.opDo_5, if_neg hne]) (by omega) (.inr ⟨by simp [VM.dead], ?_⟩)
      exact st5.fin
    · exact go (by rw [VM.opDo_5, if_pos he]) (by omega) (.inl ⟨rfl, gf, fs, ss, _, va, sa', ha, rfl, st5⟩)
  · -- 6
    simp [zp, hr, zg, c1, c4, c5, hcode, hca, hins, Ins.avs, fn0, rn0, rf, fn0.symm, rn0.symm, rf.symm, hw1, hw2]
    refine ⟨hfn0, hfn1, hat0, hat1, by omega, ?_⟩
    generalize hX : Heap.put (Heap.put (Heap.put H n _) gf _) gr _ = X at *
    have xn : X n = some (.row 3 [AV.int .i64 6, .int .i64 ia, .int .i64 ib]) := by rw [← hX, Heap.put_ne _ _ rn0.symm, Heap.put_ne _ _ fn0.symm, Heap.put_at]
    have hp : 2 ≤ f.stack.length := by simp [VM.effect] at pops; omega
    have e2 := zut hp
    refine zapz st0 (by omega) e2 (by rw [ll]; omega) (by simp only; omega) (by omega) (fun hz H' n' sa' hn st5 => ?_) (fun hz H' n' sa' ha' hn st5 => ?_)
    · refine go (by rw [VM.opDo_6, if_pos (show a.permit.room = 0 from hz)]) (by omega) (.inr ⟨by simp [VM.dead], ?_⟩)
      exact st5.fin
    · exact go (by rw [VM.opDo_6, if_neg (show ¬ a.permit.room = 0 from hz)]) (by omega) (.inl ⟨rfl, gf, fs, ss, _, va, sa', ha', rfl, st5⟩)
  · -- 7
    simp [zp, hr, zg, c1, c4, c5, hcode, hca, hins, Ins.avs, fn0, rn0, rf, fn0.symm, rn0.symm, rf.symm, hw1, hw2]
    refine ⟨hfn0, hfn1, hat0, hat1, by omega, ?_⟩
    generalize hX : Heap.put (Heap.put (Heap.put H n _) gf _) gr _ = X at *
    have xn : X n = some (.row 3 [AV.int .i64 7, .int .i64 ia, .int .i64 ib]) := by rw [← hX, Heap.put_ne _ _ rn0.symm, Heap.put_ne _ _ fn0.symm, Heap.put_at]
    have hp : 1 ≤ f.stack.length := by simp [VM.effect] at pops; omega
    have e1 := zfc hp
    refine zact st0 (by omega) e1 (by rw [ll]; omega) (m1 hp) (fun hk H' n' sa' hn st5 => ?_) (fun hk H' n' sa' g cs' hn _ st5 hha g1 g2 g3 => ?_)
    · simp [zfw]
      refine go (by rw [VM.opDo_7, if_pos hk]) (by omega) (.inr ⟨by simp [VM.dead], ?_⟩)
      exact st5.fin
    · obtain ⟨w1, w2⟩ := (m1 hp).cell hk
      have hlt : (VM.top1 f.stack).n.toNat < a.heap.length := by omega
      have hcl := zaic (List.getElem?_eq_getElem hlt)
      rw [← g2, List.drop_take, List.take_take, Nat.min_eq_left (by omega)] at hcl
      have tl : ∀ c : Cl, c.avs.take 3 = c.left.avs := fun _ => rfl
      have tr : ∀ c : Cl, (c.avs.drop 3).take 3 = c.right.avs := fun _ => rfl
      have hcell : (cs'.drop ((VM.top1 f.stack).n.toNat * 6)).take 3 = (a.heap.getD (VM.top1 f.stack).n.toNat VM.cl0).left.avs := by
        rw [List.getD_eq_getElem?_getD, List.getElem?_eq_getElem hlt]
        have := congrArg (fun l => (l.drop 0).take 3) hcl
        simp only [List.drop_take, List.drop_drop, List.take_take] at this
        simpa [tl, tr] using this
      simp [zfw, g1, hcell]
      refine ⟨by omega, ?_⟩
      exact zeo _ st5 (by omega) (by simp only; rw [ll]; omega) fun H'' n'' sa'' hn' st6 => go (by rw [VM.opDo_7, if_neg (by simpa using hk)]) (by omega) (.inl ⟨rfl, gf, fs, ss, _, va, sa'', ha, rfl, st6⟩)
  · -- 8
    simp [zp, hr, zg, c1, c4, c5, hcode, hca, hins, Ins.avs, fn0, rn0, rf, fn0.symm, rn0.symm, rf.symm, hw1, hw2]
    refine ⟨hfn0, hfn1, hat0, hat1, by omega, ?_⟩
    generalize hX : Heap.put (Heap.put (Heap.put H n _) gf _) gr _ = X at *
    have xn : X n = some (.row 3 [AV.int .i64 8, .int .i64 ia, .int .i64 ib]) := by rw [← hX, Heap.put_ne _ _ rn0.symm, Heap.put_ne _ _ fn0.symm, Heap.put_at]
    have hp : 1 ≤ f.stack.length := by simp [VM.effect] at pops; omega
    have e1 := zfc hp
    refine zact st0 (by omega) e1 (by rw [ll]; omega) (m1 hp) (fun hk H' n' sa' hn st5 => ?_) (fun hk H' n' sa' g cs' hn _ st5 hha g1 g2 g3 => ?_)
    · simp [zfa]
      refine go (by rw [VM.opDo_8, if_pos hk]) (by omega) (.inr ⟨by simp [VM.dead], ?_⟩)
      exact st5.fin
    · obtain ⟨w1, w2⟩ := (m1 hp).cell hk
      have hlt : (VM.top1 f.stack).n.toNat < a.heap.length := by omega
      have hcl := zaic (List.getElem?_eq_getElem hlt)
      rw [← g2, List.drop_take, List.take_take, Nat.min_eq_left (by omega)] at hcl
      have tl : ∀ c : Cl, c.avs.take 3 = c.left.avs := fun _ => rfl
      have tr : ∀ c : Cl, (c.avs.drop 3).take 3 = c.right.avs := fun _ => rfl
      have hcell : (cs'.drop ((VM.top1 f.stack).n.toNat * 6 + 3)).take 3 = (a.heap.getD (VM.top1 f.stack).n.toNat VM.cl0).right.avs := by
        rw [List.getD_eq_getElem?_getD, List.getElem?_eq_getElem hlt]
        have := congrArg (fun l => (l.drop 3).take 3) hcl
        simp only [List.drop_take, List.drop_drop, List.take_take] at this
        simpa [tl, tr] using this
      simp [zfa, g1, hcell]
      refine ⟨by omega, ?_⟩
      exact zeo _ st5 (by omega) (by simp only; rw [ll]; omega) fun H'' n'' sa'' hn' st6 => go (by rw [VM.opDo_8, if_neg (by simpa using hk)]) (by omega) (.inl ⟨rfl, gf, fs, ss, _, va, sa'', ha, rfl, st6⟩)
  · -- 9
    simp [zp, hr, zg, c1, c4, c5, hcode, hca, hins, Ins.avs, fn0, rn0, rf, fn0.symm, rn0.symm, rf.symm, hw1, hw2]
    refine ⟨hfn0, hfn1, hat0, hat1, by omega, ?_⟩
    generalize hX : Heap.put (Heap.put (Heap.put H n _) gf _) gr _ = X at *
    have xn : X n = some (.row 3 [AV.int .i64 9, .int .i64 ia, .int .i64 ib]) := by rw [← hX, Heap.put_ne _ _ rn0.symm, Heap.put_ne _ _ fn0.symm, Heap.put_at]
    have hp : 2 ≤ f.stack.length := by simp [VM.effect] at pops; omega
    have e2 := zut hp
    refine zakp st0 (by omega) e2 (by rw [ll]; omega) (m2 hp) true (fun hk H' n' sa' hn st5 => ?_) (fun hk H' n' sa' hn st5 => ?_)
    · refine go (by rw [VM.opDo_9, if_pos hk]) (by omega) (.inr ⟨by simp [VM.dead], ?_⟩)
      exact st5.fin
    · exact go (by rw [VM.opDo_9, if_neg (by simpa using hk)]) (by omega) (.inl ⟨rfl, gf, fs, ss, _, va, sa', ha, rfl, st5⟩)
  · -- 10
    simp [zp, hr, zg, c1, c4, c5, hcode, hca, hins, Ins.avs, fn0, rn0, rf, fn0.symm, rn0.symm, rf.symm, hw1, hw2]
    refine ⟨hfn0, hfn1, hat0, hat1, by omega, ?_⟩
    generalize hX : Heap.put (Heap.put (Heap.put H n _) gf _) gr _ = X at *
    have xn : X n = some (.row 3 [AV.int .i64 10, .int .i64 ia, .int .i64 ib]) := by rw [← hX, Heap.put_ne _ _ rn0.symm, Heap.put_ne _ _ fn0.symm, Heap.put_at]
    have hp : 2 ≤ f.stack.length := by simp [VM.effect] at pops; omega
    have e2 := zut hp
    refine zakp st0 (by omega) e2 (by rw [ll]; omega) (m2 hp) false (fun hk H' n' sa' hn st5 => ?_) (fun hk H' n' sa' hn st5 => ?_)
    · refine go (by rw [VM.opDo_10, if_pos hk]) (by omega) (.inr ⟨by simp [VM.dead], ?_⟩)
      exact st5.fin
    · exact go (by rw [VM.opDo_10, if_neg (by simpa using hk)]) (by omega) (.inl ⟨rfl, gf, fs, ss, _, va, sa', ha, rfl, st5⟩)
  · -- 11
    simp [zp, hr, zg, c1, c4, c5, hcode, hca, hins, Ins.avs, fn0, rn0, rf, fn0.symm, rn0.symm, rf.symm, hw1, hw2]
    refine ⟨hfn0, hfn1, hat0, hat1, by omega, ?_⟩
    generalize hX : Heap.put (Heap.put (Heap.put H n _) gf _) gr _ = X at *
    have xn : X n = some (.row 3 [AV.int .i64 11, .int .i64 ia, .int .i64 ib]) := by rw [← hX, Heap.put_ne _ _ rn0.symm, Heap.put_ne _ _ fn0.symm, Heap.put_at]
    have hp : 1 ≤ f.stack.length := by simp [VM.effect] at pops; omega
    have e1 := zfc hp
    refine zart st0 (by omega) e1 (by rw [ll]; omega) hfacts (fun hk H' n' sa' hn st5 => ?_) (fun hk H' n' sa' hn st5 => ?_)
    · refine go (by rw [VM.opDo_11, if_pos hk]) (by omega) (.inr ⟨by simp [VM.dead], ?_⟩)
      exact st5.fin
    · exact go (by rw [VM.opDo_11, if_neg (by simpa using hk)]) (by omega) (.inl ⟨rfl, gf, fs, ss, _, va, sa', ha, rfl, st5⟩)
  · -- 12
    simp [zp, hr, zg, c1, c4, c5, hcode, hca, hins, Ins.avs, fn0, rn0, rf, fn0.symm, rn0.symm, rf.symm, hw1, hw2]
    refine ⟨hfn0, hfn1, hat0, hat1, by omega, ?_⟩
    generalize hX : Heap.put (Heap.put (Heap.put H n _) gf _) gr _ = X at *
    have xn : X n = some (.row 3 [AV.int .i64 12, .int .i64 ia, .int .i64 ib]) := by rw [← hX, Heap.put_ne _ _ rn0.symm, Heap.put_ne _ _ fn0.symm, Heap.put_at]
    have sn0 : gs ≠ n := by have := ap.s; omega
    have hsp := st.spot
    rw [if_neg ap.rs.symm, if_neg ap.sf, if_neg sn0, hsp]
    simp [Spt.avs]
    refine QC.call (zacf s.name hname) ?_
    simp [zke]
    exact zeo _ st0 (by omega) (by simp only; omega) fun H' n' sa' hn st5 => go rfl (by omega) (.inl ⟨rfl, gf, fs, ss, _, va, sa', ha, rfl, st5⟩)
  · -- 13
    simp [zp, hr, zg, c1, c4, c5, hcode, hca, hins, Ins.avs, fn0, rn0, rf, fn0.symm, rn0.symm, rf.symm, hw1, hw2]
    refine ⟨hfn0, hfn1, hat0, hat1, by omega, ?_⟩
    generalize hX : Heap.put (Heap.put (Heap.put H n _) gf _) gr _ = X at *
    have xn : X n = some (.row 3 [AV.int .i64 13, .int .i64 ia, .int .i64 ib]) := by rw [← hX, Heap.put_ne _ _ rn0.symm, Heap.put_ne _ _ fn0.symm, Heap.put_at]
    have hp : 1 ≤ f.stack.length := by simp [VM.effect] at pops; omega
    have e1 := zfc hp
    refine zaqc st0 (by omega) e1 (by rw [ll]; omega) b3 (fun hk H' n' sa' hn st5 => ?_) (fun hk hh H' n' sa' hn st5 => ?_) (fun hk hh H' n' sa' hn st5 => ?_)
    · refine go (by rw [VM.opDo_13, if_pos hk]) (by omega) (.inr ⟨by simp [VM.dead], ?_⟩)
      exact st5.fin
    · exact go (by rw [VM.opDo_13, if_neg (by simpa using hk), if_pos (show a.permit.hops = 0 from hh)]) (by omega) (.inl ⟨rfl, gf, fs, ss, _, va, sa', ha, rfl, st5⟩)
    · refine go (by rw [VM.opDo_13, if_neg (by simpa using hk), if_neg (show ¬ a.permit.hops = 0 from hh)]) (by omega) (.inr ⟨by simp, ?_⟩)
      exact st5.fin
  · -- 14
    simp [zp, hr, zg, c1, c4, c5, hcode, hca, hins, Ins.avs, fn0, rn0, rf, fn0.symm, rn0.symm, rf.symm, hw1, hw2]
    refine ⟨hfn0, hfn1, hat0, hat1, by omega, ?_⟩
    generalize hX : Heap.put (Heap.put (Heap.put H n _) gf _) gr _ = X at *
    have xn : X n = some (.row 3 [AV.int .i64 14, .int .i64 ia, .int .i64 ib]) := by rw [← hX, Heap.put_ne _ _ rn0.symm, Heap.put_ne _ _ fn0.symm, Heap.put_at]
    have hp : 1 ≤ f.stack.length := by simp [VM.effect] at pops; omega
    have e1 := zfc hp
    obtain ⟨g, cs1, gcs, hsa, hpop, hg, hr5⟩ := st0.popAt (st' := VM.low 1 f.stack) (v := VM.top1 f.stack) (by omega) e1 (by rw [ll]; omega)
    refine zn.pop hpop ?_
    have st5 := hr5 (X.put gf (some (AObj.row 4 (zik cs1 fs.length g (VM.low 1 f.stack).length)))) (n + 1) (Nat.le_refl _) (Heap.put_at _ _ _) (fun x _ hx => Heap.put_ne _ _ hx)
    have xgr : X gr = some (.row 13 (zg a.id a.trip a.prog (.slc gf 0 (fs.length + 1)) ha { a.permit with fuel := a.permit.fuel - 1 } gs VM.ev0)) := st0.run
    simp [zkc]
    refine zn.show st5.hp oc (m1 hp) ?_
    have ap0 := st0.apart
    simp [zkd, rf, rf.symm, xgr, zg]
    refine go (by rw [VM.opDo_14]) (by omega) (.inr ⟨by simp, ?_⟩)
    exact (st5.setrun { a.permit with fuel := a.permit.fuel - 1 } ⟨2, VM.vshow a.heap 4 (VM.top1 f.stack), 0⟩).fin
  · -- 15
    simp [zp, hr, zg, c1, c4, c5, hcode, hca, hins, Ins.avs, fn0, rn0, rf, fn0.symm, rn0.symm, rf.symm, hw1, hw2]
    refine ⟨hfn0, hfn1, hat0, hat1, by omega, ?_⟩
    generalize hX : Heap.put (Heap.put (Heap.put H n _) gf _) gr _ = X at *
    have xn : X n = some (.row 3 [AV.int .i64 15, .int .i64 ia, .int .i64 ib]) := by rw [← hX, Heap.put_ne _ _ rn0.symm, Heap.put_ne _ _ fn0.symm, Heap.put_at]
    obtain ⟨cs1, x1, x2, x3, _⟩ := st0.last
    have xgf : X gf = some (.row 4 (cs.take (fs.length * 4 + 1) ++ AV.int .i64 (f.at_ + 1) :: cs.drop (fs.length * 4 + 1 + 1))) := by rw [← hX, Heap.put_ne _ _ rf.symm, Heap.put_at]
    rw [xgf] at x1
    cases x1
    have st5 := st0.setat ia xgf x2 x3
    refine ⟨by omega, ?_⟩
    exact go rfl (by omega) (.inl ⟨rfl, gf, fs, ss, _, va, sa, ha, rfl, st5⟩)
  · -- 16
    simp [zp, hr, zg, c1, c4, c5, hcode, hca, hins, Ins.avs, fn0, rn0, rf, fn0.symm, rn0.symm, rf.symm, hw1, hw2]
    refine ⟨hfn0, hfn1, hat0, hat1, by omega, ?_⟩
    generalize hX : Heap.put (Heap.put (Heap.put H n _) gf _) gr _ = X at *
    have xn : X n = some (.row 3 [AV.int .i64 16, .int .i64 ia, .int .i64 ib]) := by rw [← hX, Heap.put_ne _ _ rn0.symm, Heap.put_ne _ _ fn0.symm, Heap.put_at]
    have hp : 1 ≤ f.stack.length := by simp [VM.effect] at pops; omega
    have e1 := zfc hp
    obtain ⟨g, cs1, gcs, hsa, hpop, hg, hr5⟩ := st0.popAt (st' := VM.low 1 f.stack) (v := VM.top1 f.stack) (by omega) e1 (by rw [ll]; omega)
    have ap0 := st0.apart
    refine zkh hpop ap0.r ap0.f hg fun H1 n1 hn1 q1 q2 => ?_
    have st5 := hr5 H1 n1 hn1 q1 q2
    have st6 := st5.temp (some (.row 3 (VM.top1 f.stack).avs))
    have h1n : H1 n = some (.row 3 [AV.int .i64 16, .int .i64 ia, .int .i64 ib]) := by rw [q2 n (by omega) fn0.symm]; exact xn
    have nn1 : n ≠ n1 := by omega
    by_cases hz : (VM.top1 f.stack).kind = 0
    · by_cases hz2 : (VM.top1 f.stack).n = 0
      · obtain ⟨cs2, x1, x2, x3, _⟩ := st6.last
        have fnn : gf ≠ n1 := by have := st5.apart.f; omega
        have st7 := st6.setat ia x1 x2 x3
        rw [Heap.put_ne _ _ fnn] at x1
        simp [zcx, hz, hz2, h1n, nn1, x1, fnn]
        refine ⟨zae _, by omega, ?_⟩
        have e16 : VM.opDo { a with permit := { a.permit with fuel := a.permit.fuel - 1 } } s fs { f with at_ := f.at_ + 1 } ⟨16, ia, ib⟩ = (VM.toF { a with permit := { a.permit with fuel := a.permit.fuel - 1 } } fs { f with at_ := ia, stack := VM.low 1 f.stack }, VM.ev0) := by
          rw [VM.opDo_16]; simp only; rw [if_pos ⟨hz, hz2⟩]
        exact go e16.symm (by omega) (.inl ⟨rfl, gf, fs, ss, _, va, _, ha, rfl, st7⟩)
      · simp [zcx, hz, hz2]
        refine ⟨zae _, ?_⟩
        have e16 : VM.opDo { a with permit := { a.permit with fuel := a.permit.fuel - 1 } } s fs { f with at_ := f.at_ + 1 } ⟨16, ia, ib⟩ = (VM.toF { a with permit := { a.permit with fuel := a.permit.fuel - 1 } } fs { f with at_ := f.at_ + 1, stack := VM.low 1 f.stack }, VM.ev0) := by
          rw [VM.opDo_16]; simp only; rw [if_neg (fun hx => hz2 hx.2)]
        exact go e16.symm (by omega) (.inl ⟨rfl, gf, fs, ss, _, va, _, ha, rfl, st6⟩)
    · simp [zcx, hz]
      refine ⟨zae _, ?_⟩
      have e16 : VM.opDo { a with permit := { a.permit with fuel := a.permit.fuel - 1 } } s fs { f with at_ := f.at_ + 1 } ⟨16, ia, ib⟩ = (VM.toF { a with permit := { a.permit with fuel := a.permit.fuel - 1 } } fs { f with at_ := f.at_ + 1, stack := VM.low 1 f.stack }, VM.ev0) := by
        rw [VM.opDo_16]; simp only; rw [if_neg (fun hx => hz hx.1)]
      exact go e16.symm (by omega) (.inl ⟨rfl, gf, fs, ss, _, va, _, ha, rfl, st6⟩)
  · -- 17
    simp [zp, hr, zg, c1, c4, c5, hcode, hca, hins, Ins.avs, fn0, rn0, rf, fn0.symm, rn0.symm, rf.symm, hw1, hw2]
    refine ⟨hfn0, hfn1, hat0, hat1, by omega, ?_⟩
    generalize hX : Heap.put (Heap.put (Heap.put H n _) gf _) gr _ = X at *
    have xn : X n = some (.row 3 [AV.int .i64 17, .int .i64 ia, .int .i64 ib]) := by rw [← hX, Heap.put_ne _ _ rn0.symm, Heap.put_ne _ _ fn0.symm, Heap.put_at]
    have hn : (0 ≤ ia ∧ ia < a.prog.codes.length) ∧ some ib = (a.prog.codes[ia.toNat]?).map (·.params) := by unfold VM.numOk VM.isIn at o3; simpa using o3
    obtain ⟨⟨n0, n1⟩, n2⟩ := hn
    have hlt : ia.toNat < a.prog.codes.length := by omega
    rw [zms hlt] at n2
    simp at n2
    obtain ⟨cr, _, _⟩ := (zz l.prog).1 _ (VM.code_mem hlt)
    unfold VM.codeRange at cr
    rw [decide_eq_false_iff_not, ← n2] at cr
    simp [VM.effect] at pops
    refine zaqk ⟨17, ia, ib⟩ st0 (by omega) ⟨by simp only; omega, pops⟩ (by simp only; omega) ⟨n0, hlt⟩ ⟨by simp only; omega, by simp only; omega⟩ (fun h12 H' n' hn st5 => ?_) (fun h12 H' n' gf' sa2 va' sa' hn st5 => ?_)
    · refine go (by rw [VM.opDo_17, if_pos h12]) (by omega) (.inr ⟨by simp [VM.dead], ?_⟩)
      exact st5.fin
    · exact go (by rw [VM.opDo_17, if_neg h12]) (by omega) (.inl ⟨rfl, gf', _, _, _, va', sa', ha, rfl, st5⟩)
  · -- 18
    simp [zp, hr, zg, c1, c4, c5, hcode, hca, hins, Ins.avs, fn0, rn0, rf, fn0.symm, rn0.symm, rf.symm, hw1, hw2]
    refine ⟨hfn0, hfn1, hat0, hat1, by omega, ?_⟩
    generalize hX : Heap.put (Heap.put (Heap.put H n _) gf _) gr _ = X at *
    have xn : X n = some (.row 3 [AV.int .i64 18, .int .i64 ia, .int .i64 ib]) := by rw [← hX, Heap.put_ne _ _ rn0.symm, Heap.put_ne _ _ fn0.symm, Heap.put_at]
    have hp : 1 ≤ f.stack.length := by simp [VM.effect] at pops; omega
    have e1 := zfc hp
    refine zaqm st0 (by omega) e1 (by rw [ll]; omega) oc (m1 hp) (fun g hg => ?_) (fun hz H' n' hn hfin => ?_) (fun gs' g' hfs H' n' ts va' sa' hn st5 => ?_)
    · exact Nat.le_trans (zub l g hg) (by omega)
    · subst hz
      exact go (by rw [VM.opDo_18]) (by omega) (.inr ⟨by simp, hfin⟩)
    · subst hfs
      exact go (by rw [VM.opDo_18, List.getLast?_concat]) (by omega) (.inl ⟨rfl, gf, gs', ts, { g' with stack := g'.stack ++ [VM.top1 f.stack] }, va', sa', ha, by simp [VM.push, VM.toF], st5⟩)
  · -- 19
    simp [zp, hr, zg, c1, c4, c5, hcode, hca, hins, Ins.avs, fn0, rn0, rf, fn0.symm, rn0.symm, rf.symm, hw1, hw2]
    refine ⟨hfn0, hfn1, hat0, hat1, by omega, ?_⟩
    generalize hX : Heap.put (Heap.put (Heap.put H n _) gf _) gr _ = X at *
    have xn : X n = some (.row 3 [AV.int .i64 19, .int .i64 ia, .int .i64 ib]) := by rw [← hX, Heap.put_ne _ _ rn0.symm, Heap.put_ne _ _ fn0.symm, Heap.put_at]
    have hp : 1 ≤ f.stack.length := by simp [VM.effect] at pops; omega
    have e1 := zfc hp
    exact znp st0 (by omega) e1 (by rw [ll]; omega) fun H' n' sa' hn st5 => go rfl (by omega) (.inl ⟨rfl, gf, fs, ss, _, va, sa', ha, rfl, st5⟩)
end
end Go.Proofs.YtejohcohkgcmhaaDoor
namespace Go.Proofs.YtejohcohkgcmhaaDoor
open Go Go.RowKit
theorem zabe (l : List Ins) : ∀ x ∈ l.map Ins.avs, x.length = 3 := by intro x hx; obtain ⟨v, _, rfl⟩ := List.mem_map.1 hx; rfl
theorem zaav (l : List Str) : ∀ x ∈ l.map (fun w => [AV.str w]), x.length = 1 := by intro x hx; obtain ⟨v, _, rfl⟩ := List.mem_map.1 hx; rfl
theorem zadp (l : List Ins) : ∀ x ∈ l.map Ins.avs, ∀ c ∈ x, scal c = true := by
  intro x hx c hc
  obtain ⟨v, _, rfl⟩ := List.mem_map.1 hx
  simp [Ins.avs] at hc
  rcases hc with rfl | rfl | rfl <;> rfl
theorem zado (l : List Str) : ∀ x ∈ l.map (fun w => [AV.str w]), ∀ c ∈ x, scal c = true := by
  intro x hx c hc
  obtain ⟨v, _, rfl⟩ := List.mem_map.1 hx
  simp at hc
  subst hc; rfl
theorem zafx {xs : List (List AV)} (h : ∀ x ∈ xs, ∀ c ∈ x, scal c = true) : xs.flatten.all AV.one = true := List.all_eq_true.2 fun c hc => by
  obtain ⟨x, hx, hcx⟩ := List.mem_flatten.1 hc
  exact zaa (h x hx c hcx)
def zcd (H : Heap) (R : Nat → Prop) (sz : Nat) (xs : List (List AV)) (a : AV) : Prop := (xs = [] ∧ a = .nils) ∨ ∃ g, R g ∧ a = .slc g 0 xs.length ∧ H g = some (.row sz xs.flatten)
theorem zcd.more {H H' : Heap} {R R' : Nat → Prop} {sz : Nat} {xs : List (List AV)} {a : AV} (h : zcd H R sz xs a) (hR : ∀ g, R g → R' g ∧ H' g = H g) : zcd H' R' sz xs a := by
  rcases h with h | ⟨g, h1, h3, h4⟩
  · exact .inl h
  · exact .inr ⟨g, (hR g h1).1, h3, by rw [(hR g h1).2]; exact h4⟩
theorem zcd.one {H : Heap} {R : Nat → Prop} {sz : Nat} {xs : List (List AV)} {a : AV} (h : zcd H R sz xs a) : a.cells = [a] ∧ a.one = true ∧ a.sure = true := by
  rcases h with ⟨_, rfl⟩ | ⟨g, _, rfl, _⟩ <;> exact ⟨rfl, rfl, rfl⟩
theorem Slot.one {H : Heap} {sz k : Nat} {cells : List AV} {a : AV} (h : Slot H sz k cells a) : a.cells = [a] ∧ a.one = true ∧ a.sure = true := by
  rcases h with ⟨_, rfl | rfl⟩ | ⟨g, cs, rfl, _⟩ <;> exact ⟨rfl, rfl, rfl⟩
theorem zcd.frz {H : Heap} {R : Nat → Prop} {sz : Nat} {xs : List (List AV)} {a : AV} {G : Nat → Prop} (h : zcd H R sz xs a) (hG : ∀ g, R g → G g) (hs : ∀ x ∈ xs, x.length = sz) : FrzP H G a (.ro xs) := by
  rcases h with ⟨rfl, rfl⟩ | ⟨g, h1, rfl, h4⟩
  · exact .nils
  · refine FrzP.row (hG g h1) h4 rfl hs (fun i x j v hx hv => ?_) (by rw [zba hs]; exact Nat.le_refl _)
    have hj : j < sz := by
      have := (List.getElem?_eq_some_iff.1 hv).1
      rw [hs x (List.mem_of_getElem? hx)] at this; exact this
    have e1 := zfm hs hx
    have := congrArg (·[j]?) e1
    simp only [List.getElem?_take, List.getElem?_drop, hj, if_true] at this
    exact ⟨v, by rw [this]; exact hv, .same v⟩
theorem zcd.slot {H : Heap} {R : Nat → Prop} {sz : Nat} {xs : List (List AV)} {a : AV} (h : zcd H R sz xs a) (hs : ∀ x ∈ xs, x.length = sz) : Slot H sz xs.length xs.flatten a ∧ ∀ g ∈ own a, R g := by
  rcases h with ⟨rfl, rfl⟩ | ⟨g, h1, rfl, h4⟩
  · exact ⟨.inl ⟨rfl, .inl rfl⟩, fun g hg => by simp [own] at hg⟩
  · exact ⟨.inr ⟨g, _, rfl, h4, List.take_of_length_le (by rw [zba hs]; exact Nat.le_refl _), by rw [zba hs]; exact Nat.le_refl _⟩, fun x hx => by simp [own] at hx; subst hx; exact h1⟩
theorem zals {l : List Ins} (hl : l.length * 24 ≤ 140737488355328) {a : AV} {H : Heap} {nx : Nat} (ha : zao H nx 3 (l.map Ins.avs) a) : za Tryd.prog 48 [a] H nx fun v H' nx' => nx ≤ nx' ∧ Keep nx H' H ∧ zcd H' (fun g => nx ≤ g ∧ g < nx') 3 (l.map Ins.avs) v := by
  refine znm _ H nx _ ?_
  unfold zds
  refine zml (Q := fun v H' nx' => nx ≤ nx' ∧ Keep nx H' H ∧ zcd H' (fun g => nx ≤ g ∧ g < nx') 3 (l.map Ins.avs) v) ha (zabe l) (zafx (zadp l)) (by simpa using hl) (fun h => ⟨Nat.le_refl _, by simp, .inl ⟨h, rfl⟩⟩) fun H' h1 h2 => ⟨by omega, h2, .inr ⟨nx + 1, ⟨by omega, by omega⟩, rfl, h1⟩⟩
theorem zalr {l : List Str} (hl : l.length * 16 ≤ 140737488355328) {a : AV} {H : Heap} {nx : Nat} (ha : zao H nx 1 (l.map fun w => [AV.str w]) a) : za Tryd.prog 49 [a] H nx fun v H' nx' => nx ≤ nx' ∧ Keep nx H' H ∧ zcd H' (fun g => nx ≤ g ∧ g < nx') 1 (l.map fun w => [AV.str w]) v := by
  refine zhr _ H nx _ ?_
  unfold zbv
  refine zml (Q := fun v H' nx' => nx ≤ nx' ∧ Keep nx H' H ∧ zcd H' (fun g => nx ≤ g ∧ g < nx') 1 (l.map fun w => [AV.str w]) v) ha (zaav l) (zafx (zado l)) (by simpa using hl) (fun h => ⟨Nat.le_refl _, by simp, .inl ⟨h, rfl⟩⟩) fun H' h1 h2 => ⟨by omega, h2, .inr ⟨nx + 1, ⟨by omega, by omega⟩, rfl, h1⟩⟩
theorem zalt {l : List Cl} (hl : l.length * 64 ≤ 140737488355328) {a : AV} {H : Heap} {nx : Nat} (ha : zao H nx 6 (l.map Cl.avs) a) : za Tryd.prog 50 [a] H nx fun v H' nx' => nx ≤ nx' ∧ Keep nx H' H ∧ zcd H' (fun g => nx ≤ g ∧ g < nx') 6 (l.map Cl.avs) v := by
  refine zoc _ H nx _ ?_
  unfold zei
  refine zml (Q := fun v H' nx' => nx ≤ nx' ∧ Keep nx H' H ∧ zcd H' (fun g => nx ≤ g ∧ g < nx') 6 (l.map Cl.avs) v) ha (zbe l) (zana l) (by simpa using hl) (fun h => ⟨Nat.le_refl _, by simp, .inl ⟨h, rfl⟩⟩) fun H' h1 h2 => ⟨by omega, h2, .inr ⟨nx + 1, ⟨by omega, by omega⟩, rfl, h1⟩⟩
def zes (H : Heap) (R : Nat → Prop) (cs : List Cod) (cells : List AV) : Prop := cells.length = cs.length * 3 ∧ ∀ (k : Nat) (c : Cod), cs[k]? = some c → cells[k * 3]? = some (.int .i64 c.params) ∧ cells[k * 3 + 1]? = some (.int .i64 c.vars) ∧ ∃ a, cells[k * 3 + 2]? = some a ∧ zcd H R 3 (c.ins.map Ins.avs) a
theorem zes.more {H H' : Heap} {R R' : Nat → Prop} {cs : List Cod} {cells : List AV} (h : zes H R cs cells) (hR : ∀ g, R g → R' g ∧ H' g = H g) : zes H' R' cs cells :=
  ⟨h.1, fun k c hc => let ⟨a, b, x, h1, h2⟩ := h.2 k c hc; ⟨a, b, x, h1, h2.more hR⟩⟩
theorem zes.snoc {H : Heap} {R : Nat → Prop} {cs : List Cod} {cells : List AV} {c : Cod} {a : AV} (h : zes H R cs cells) (ha : zcd H R 3 (c.ins.map Ins.avs) a) : zes H R (cs ++ [c]) (cells ++ [.int .i64 c.params, .int .i64 c.vars, a]) := by
  refine ⟨by simp [h.1]; omega, fun k c' hc => ?_⟩
  by_cases hk : k < cs.length
  · rw [List.getElem?_append_left hk] at hc
    obtain ⟨q1, q2, x, q3, q4⟩ := h.2 k c' hc
    have hl := h.1
    refine ⟨by rw [List.getElem?_append_left (by omega)]; exact q1, by rw [List.getElem?_append_left (by omega)]; exact q2, x, by rw [List.getElem?_append_left (by omega)]; exact q3, q4⟩
  · have hk' : k = cs.length := by have := (List.getElem?_eq_some_iff.1 hc).1; simp at this; omega
    subst hk'
    rw [List.getElem?_append_right (Nat.le_refl _)] at hc
    simp at hc
    subst hc
    have hl := h.1
    refine ⟨?_, ?_, a, ?_, ha⟩
    · rw [List.getElem?_append_right (by omega), hl]; simp
    · rw [List.getElem?_append_right (by omega), hl, show cs.length * 3 + 1 - cs.length * 3 = 1 by omega]; rfl
    · rw [List.getElem?_append_right (by omega), hl, show cs.length * 3 + 2 - cs.length * 3 = 2 by omega]; rfl
theorem zes.frz {H : Heap} {R : Nat → Prop} {cs : List Cod} {cells : List AV} {a : AV} {G : Nat → Prop} (h : zes H R cs cells) (hG : ∀ g, R g → G g) (ha : Slot H 3 cs.length cells a) (hA : ∀ g ∈ own a, G g) : FrzP H G a (.ro (cs.map Cod.avs)) := by
  rcases ha with ⟨h0, rfl | rfl⟩ | ⟨g, cs', rfl, h1, h2, h3⟩
  · rw [List.eq_nil_of_length_eq_zero h0]; exact .nils
  · rw [List.eq_nil_of_length_eq_zero h0]; exact .zs
  · refine FrzP.row (hA g (by simp [own])) h1 (by simp) (fun x hx => ?_) (fun i x j v hx hv => ?_) h3
    · obtain ⟨c, _, rfl⟩ := List.mem_map.1 hx; rfl
    · rw [List.getElem?_map] at hx
      obtain ⟨c, hc, rfl⟩ := Option.map_eq_some_iff.1 hx
      obtain ⟨q1, q2, y, q3, q4⟩ := h.2 i c hc
      have hi := (List.getElem?_eq_some_iff.1 hc).1
      have up : ∀ (j : Nat) (u : AV), j < 3 → cells[i * 3 + j]? = some u → cs'[i * 3 + j]? = some u := fun j u hj hu => by
        rw [← h2, List.getElem?_take, if_pos (by omega)] at hu; exact hu
      match j, hv with
      | 0, hv => cases hv; exact ⟨_, up 0 _ (by omega) q1, .same _⟩
      | 1, hv => cases hv; exact ⟨_, up 1 _ (by omega) q2, .same _⟩
      | 2, hv => cases hv; exact ⟨y, up 2 _ (by omega) q3, q4.frz hG (zabe _)⟩
      | j + 3, hv => simp [Cod.avs] at hv
theorem FrzP.keep {H H' : Heap} {G : Nat → Prop} {v u : AV} (h : FrzP H G v u) (hk : ∀ g, G g → H' g = H g) : FrzP H' G v u := by
  induction h with
  | same v => exact .same v
  | nils => exact .nils
  | zs => exact .zs
  | slc g off len sz cells xs hg hH hle hl hsz U hU _ ih => exact .slc g off len sz cells xs hg (by rw [hk g hg]; exact hH) hle hl hsz U hU ih
  | agg xs ys hl _ ih => exact .agg xs ys hl ih
theorem FrzP.wide {H : Heap} {G G' : Nat → Prop} {v u : AV} (h : FrzP H G v u) (hG : ∀ g, G g → G' g) : FrzP H G' v u := by
  induction h with
  | same v => exact .same v
  | nils => exact .nils
  | zs => exact .zs
  | slc g off len sz cells xs hg hH hle hl hsz U hU _ ih => exact .slc g off len sz cells xs (hG g hg) hH hle hl hsz U hU ih
  | agg xs ys hl _ ih => exact .agg xs ys hl ih
theorem za.nil_zs {P : Program} {f : FuncId} {args : List AV} {H : Heap} {nx : Nat} {Q : Heap → Nat → Prop} (h : za P f args H nx fun v H' nx' => (v = .nils ∨ v = .zs) ∧ Q H' nx') : za P f args H nx fun v H' nx' => v = .zs ∧ Q H' nx' := by
  intro ρ w cargs s ha
  refine zal (h ρ w cargs s ha) fun cv w' ⟨v, H', nx', ρ', ⟨hv, hq⟩, q2, q3, q4⟩ => ⟨.zs, H', nx', ρ', ⟨rfl, hq⟩, q2, ?_, q4⟩
  rcases hv with rfl | rfl
  · cases q3; exact .zs _
  · exact q3
theorem zaru {esz bytes nx : Nat} {x : AV} {H : Heap} {kk : AV → Heap → Nat → Prop} : APP esz bytes .zs x H nx kk = OPTK (zm esz H x) fun p => p.2.1.all AV.one = true ∧
    (p.1 = 0 → kk .zs H nx) ∧ (p.1 ≠ 0 → p.1 * bytes ≤ 140737488355328 ∧ kk (.slc nx 0 p.1) (H.put nx (some (.row esz p.2.1))) (nx + 1)) := by
  simp only [APP, zaj, OPTK]
  cases hs : zm esz H x with
  | none => simp
  | some p => obtain ⟨m, news, rd⟩ := p; simp [Heap.apply]
theorem zn.cloneV {l : List Val} (hl : l.length * 32 ≤ 140737488355328) {H : Heap} {nx : Nat} {k : Kt}
    (h0 : l = [] → k .zs [] [] []) (h1 : l ≠ [] → k (.slc nx 0 l.length) [] [nx] [(nx, some (.row 3 (rowV l)))]) : zn Tryd.prog (.clo 39 []) [.ro (l.map Val.avs)] H nx k := by
  by_cases he : l = []
  · subst he
    refine ⟨_, [], [], [], .inl rfl, LC.of_qcr (r := .zs) (by simp) (fun H' n _ => ?_) .zs, h0 rfl⟩
    refine za.tidy fun hlive => ?_
    have h0 : za Tryd.prog 39 [.ro []] H' n fun v H'' nx' => (v = .nils ∨ v = .zs) ∧ Keep n H'' H' := by
      refine zmj _ H' n _ ?_
      simp [zdd, zaru]
    refine (za.gc (R := fun v H'' => v = AV.zs ∧ H'' = H') h0.nil_zs fun v H'' nx' ⟨hv, hk⟩ => ⟨.zs, H', ⟨rfl, rfl⟩, by rw [hv]; exact .same _ .zs, fun g o ho => ⟨hlive g o ho, by rw [hk g (hlive g o ho)]; exact ho, .inl ho⟩⟩).mono fun v H'' nx' ⟨⟨a, b⟩, c⟩ => ⟨a, b, c⟩
  · refine ⟨_, [], [nx], _, .inr rfl, LC.of_callsN (by simp) (by simp) (fun A hA hB H' n' hag => ?_), h1 he⟩
    refine (zaea l hl .ro).mono fun v H'' n'' ⟨q1, q2, q3⟩ => ?_
    rcases q3 with ⟨h, _⟩ | ⟨g, g1, g2, rfl, g3⟩
    · exact absurd h he
    · refine ⟨g, g1, g2, .slc _ _, fun x hx _ => q2 x hx, fun x o hx hxn => ?_, ⟨.row 3 (rowV l), _, by simp only [zar, zbb]; rw [Heap.put_at], g3, rfl, rfl, fun j v u hv hu => ?_⟩⟩
      · exact absurd (by simpa using hx) hxn
      · rw [hv] at hu; cases hu; exact .same _ (zbi (zbk l _ (List.mem_of_getElem? hv)))
end Go.Proofs.YtejohcohkgcmhaaDoor
namespace Go.Proofs.YtejohcohkgcmhaaDoor
open Go Go.RowKit
structure zmn (H : Heap) (lo n : Nat) (fs : List Frm) (ss : List (AV × AV)) (fa : AV) (h : List Cl) (ha : AV) : Prop where
  frs : zak H fs ss
  row : Slot H 4 fs.length (frow fs ss) fa
  hp : Slot H 6 h.length (rowC h) ha
  nd : (own fa ++ (own ha ++ owns ss)).Nodup
  bd : ∀ g ∈ own fa ++ (own ha ++ owns ss), lo ≤ g ∧ g < n
structure zgo (H : Heap) (lo n : Nat) (fs : List Frm) (ss : List (AV × AV)) (fa : AV) : Prop where
  frs : zak H fs ss
  row : Slot H 4 fs.length (frow fs ss) fa
  nd : (own fa ++ owns ss).Nodup
  bd : ∀ g ∈ own fa ++ owns ss, lo ≤ g ∧ g < n
theorem zgo.snoc {H X : Heap} {lo n N m : Nat} {fs : List Frm} {ss : List (AV × AV)} {fa : AV} {f : Frm} {va sa : AV} (h : zgo H lo n fs ss fa) (hn : n ≤ N) (hN : N ≤ m) (hlo : lo ≤ N) (hlen : (fs.length + 1) * 64 ≤ 140737488355328)
    (old : ∀ g, g < n → X g = H g) (hv : Slot X 3 f.vars.length (rowV f.vars) va) (hs : Slot X 3 f.stack.length (rowV f.stack) sa) (nd : (own va ++ own sa).Nodup) (bd : ∀ g ∈ own va ++ own sa, N ≤ g ∧ g < m)
    {t : Nat} (ht : X t = some (.row 4 [.int .i64 f.fn, .int .i64 f.at_, va, sa])) {kk : AV → Heap → Nat → Prop}
    (hk : ∀ H' a', (∀ g, g < lo → H' g = X g) → zgo H' lo (m + 1) (fs ++ [f]) (ss ++ [(va, sa)]) a' → kk a' H' (m + 1)) : APP 4 64 fa (.slc t 0 1) X m kk := by
  have hbf : ∀ g ∈ own fa, lo ≤ g ∧ g < n := fun g hg => h.bd g (List.mem_append_left _ hg)
  have hbs : ∀ g ∈ owns ss, lo ≤ g ∧ g < n := fun g hg => h.bd g (List.mem_append_right _ hg)
  obtain ⟨nd1, nd2, nd3⟩ := List.nodup_append.1 h.nd
  have hx := (h.row.keep (H' := X) fun g hg => old g (hbf g hg).2)
  refine Slot.app (bytes := 64) (nx := m) (new := [.int .i64 f.fn, .int .i64 f.at_, va, sa]) hx (zap h.frs.1) ht rfl (by simp [hv.one, hs.one]) hlen fun H' h1 h2 => ?_
  have keep : ∀ g, g ∈ owns ss → H' g = H g := fun g hg => by
    have := hbs g hg
    rw [h2 g (fun hx => nd3 g hx g hg rfl) (by omega)]; exact old g this.2
  have keep2 : ∀ g, g ∈ own va ++ own sa → H' g = X g := fun g hg => by
    have := bd g hg
    exact h2 g (fun hx => by have := hbf g hx; omega) (by omega)
  refine hk H' _ (fun g hg => h2 g (fun hx => by have := hbf g hx; omega) (by omega)) ⟨(h.frs.keep keep).snoc (hv.keep fun g hg => keep2 g (List.mem_append_left _ hg)) (hs.keep fun g hg => keep2 g (List.mem_append_right _ hg)), ?_, ?_, ?_⟩
  · refine .inr ⟨m, _, by simp, h1, ?_, ?_⟩
    · rw [zcl h.frs.1]; exact List.take_of_length_le (by simp [zap h.frs.1]; omega)
    · simp [zap h.frs.1]; omega
  · rw [zck]
    have e0 : own (AV.slc m 0 (fs.length + 1)) = [m] := rfl
    simp only [List.length_append, List.length_singleton, e0]
    refine List.nodup_append.2 ⟨by simp, List.nodup_append.2 ⟨nd2, nd, fun a ha b hb e => ?_⟩, fun a ha b hb e => ?_⟩
    · have := hbs a ha; have := bd b hb; omega
    · simp at ha; subst ha; subst e
      rcases List.mem_append.1 hb with hb | hb
      · have := hbs _ hb; omega
      · have := bd _ hb; omega
  · intro g hg
    rw [zck] at hg
    have e0 : own (AV.slc m 0 (fs.length + 1)) = [m] := rfl
    rcases List.mem_append.1 hg with hg | hg
    · simp [own] at hg; omega
    · rcases List.mem_append.1 hg with hg | hg
      · have := hbs g hg; omega
      · have := bd g hg; omega
set_option maxHeartbeats 2000000 in
theorem zajd {fs : List Frm} {csv wv : AV} {id trip fuel room hops : Int} {h : List Cl} {H1 : Heap} {p mid : Nat} {Q : AV → Heap → Nat → Prop} (hl : fs.length * 64 ≤ 140737488355328) (hh : h.length * 64 ≤ 140737488355328) (hfl : ∀ f ∈ fs, f.vars.length * 32 ≤ 140737488355328 ∧ f.stack.length * 32 ≤ 140737488355328) (hp : p + 2 ≤ mid)
    (r1 : H1 p = some (.row 9 [.int .i64 id, .int .i64 trip, csv, wv, .ro (fs.map Frm.avs), .ro (h.map Cl.avs), .int .i64 fuel, .int .i64 room, .int .i64 hops])) (r2 : ∃ z, H1 (p + 1) = some (.row 9 z) ∧ z.length = 9)
    (c1 : csv.cells = [csv] ∧ csv.one = true ∧ csv.sure = true) (w1 : wv.cells = [wv] ∧ wv.one = true ∧ wv.sure = true)
    (hq : ∀ H' n' ss fa ha, mid ≤ n' → (∀ g, g < mid → g ≠ p → g ≠ p + 1 → H' g = H1 g) → zmn H' mid n' fs ss fa h ha → Q (.agg [.int .i64 id, .int .i64 trip, csv, wv, fa, ha, .int .i64 fuel, .int .i64 room, .int .i64 hops]) H' n') :
    LP (zph Q) [.ptr p 0, .ptr (p + 1) 0, .nils, .ro (fs.map Frm.avs), .int .i64 fs.length, .int .i64 0] H1 mid := by
  refine LP.mk (fun k xs H' n' => ∃ (i : Nat) (ss : List (AV × AV)) (fa : AV), k = fs.length - i ∧ i ≤ fs.length ∧ mid ≤ n' ∧ xs = [.ptr p 0, .ptr (p + 1) 0, fa, .ro (fs.map Frm.avs), .int .i64 fs.length, .int .i64 i] ∧ (∀ g, g < mid → H' g = H1 g) ∧
    zgo H' mid n' (fs.take i) ss fa) fs.length ⟨0, [], .nils, rfl, by omega, Nat.le_refl _, rfl, fun _ _ => rfl, ⟨⟨rfl, fun k f s hf => by simp at hf⟩, .inl ⟨by simp, .inl rfl⟩, by simp [own, owns], by simp [own, owns]⟩⟩ ?_
  rintro k xs H' n' ⟨i, ss, fa, rfl, hi, hn', rfl, hkeep, st⟩
  have p0 : p ≠ n' := by omega
  have p1 : p + 1 ≠ n' := by omega
  by_cases hil : i < fs.length
  · have hmem : fs[i] ∈ fs := List.getElem_mem hil
    obtain ⟨hv, hs⟩ := hfl _ hmem
    have htk : fs.take (i + 1) = fs.take i ++ [fs[i]] := (List.take_append_getElem hil).symm
    have tl : (fs.take i).length = i := by simp; omega
    have lv : (Frm.avs fs[i]).length = 4 := rfl
    have fin : ∀ {X : Heap} {N : Nat} {va sa : AV} {kk : AV → Heap → Nat → Prop}, n' + 1 ≤ N → (∀ g, g < n' → X g = H' g) → Slot X 3 fs[i].vars.length (rowV fs[i].vars) va → Slot X 3 fs[i].stack.length (rowV fs[i].stack) sa → (own va ++ own sa).Nodup → (∀ g ∈ own va ++ own sa, n' + 1 ≤ g ∧ g < N) →
        (∀ a' H3 m', mid ≤ m' → (∀ g, g < mid → H3 g = H1 g) → zgo H3 mid m' (fs.take (i + 1)) (ss ++ [(va, sa)]) a' → kk a' H3 m') →
        APP 4 64 fa (.slc N 0 1) (X.put N (some (.row 4 [.int .i64 fs[i].fn, .int .i64 fs[i].at_, va, sa]))) (N + 1) kk := by
      intro X N va sa kk hN hold h1 h2 h3 h4 hkk
      refine st.snoc (f := fs[i]) (va := va) (sa := sa) (N := n' + 1) (by omega) (by omega) (by omega) (by rw [tl]; omega) (fun g hg => ?_) (h1.keep fun g hg => ?_) (h2.keep fun g hg => ?_) h3 (fun g hg => by have := h4 g hg; omega) (Heap.put_at _ _ _) fun H3 a' q1 q2 => ?_
      · rw [Heap.put_ne _ _ (by omega)]; exact hold g hg
      · exact Heap.put_ne _ _ (by have := h4 g (List.mem_append_left _ hg); omega)
      · exact Heap.put_ne _ _ (by have := h4 g (List.mem_append_right _ hg); omega)
      · exact hkk _ _ _ (by omega) (fun g hg => by rw [q1 g hg, Heap.put_ne _ _ (by omega), hold g (by omega)]; exact hkeep g hg) (by rw [htk]; exact q2)
    have nn : n' ≠ n' + 1 + 1 := by omega
    have fin2 : ∀ {v64 : AV} {H65 : Heap} {nx66 : Nat} {ss' : List (AV × AV)}, mid ≤ nx66 → (∀ g, g < mid → H65 g = H1 g) → zgo H65 mid nx66 (fs.take (i + 1)) ss' v64 →
        ∃ m, m < fs.length - i ∧ ∃ i_1, m = fs.length - i_1 ∧ i_1 ≤ fs.length ∧ mid ≤ nx66 ∧ ∃ x x_1, (v64 = x_1 ∧ IntKind.i64.wrap ((i : Int) + 1) = (i_1 : Int)) ∧ (∀ (g : Nat), g < mid → H65 g = H1 g) ∧ zgo H65 mid nx66 (List.take i_1 fs) x x_1 :=
      fun h1 h2 h3 => ⟨fs.length - (i + 1), by omega, i + 1, rfl, by omega, h1, _, _, ⟨rfl, i64w (by omega)⟩, h2, h3⟩
    have nil : ∀ {l : List Val} {X : Heap}, l = [] → Slot X 3 l.length (rowV l) .zs := fun h => .inl ⟨by simp [h], .inr rfl⟩
    have row : ∀ {l : List Val} {X : Heap} {g : Nat}, X g = some (.row 3 (rowV l)) → Slot X 3 l.length (rowV l) (.slc g 0 l.length) := fun h => .inr ⟨_, _, rfl, h, List.take_of_length_le (by simp), by simp⟩
    simp [zph, hil, Frm.avs]
    refine zn.cloneV hv (fun ve => ?_) (fun vne => ?_)
    · simp [zun]
      refine zn.cloneV hs (fun se => ?_) (fun sne => ?_)
      · simp [zkf]
        exact fin (by omega) (fun g hg => Heap.put_ne _ _ (by omega)) (nil ve) (nil se) (by simp [own]) (by simp [own]) fun a' H3 m' h1 h2 h3 => fin2 h1 h2 h3
      · simp [zkf]
        exact fin (by omega) (fun g hg => by rw [Heap.put_ne _ _ (by omega), Heap.put_ne _ _ (by omega), Heap.put_ne _ _ (by omega)]) (nil ve) (row (by rw [Heap.put_ne _ _ (by omega), Heap.put_at])) (by simp [own]) (by simp [own]) fun a' H3 m' h1 h2 h3 => fin2 h1 h2 h3
    · simp [zun]
      refine zn.cloneV hs (fun se => ?_) (fun sne => ?_)
      · simp [zkf]
        exact fin (by omega) (fun g hg => by rw [Heap.put_ne _ _ (by omega), Heap.put_ne _ _ (by omega), Heap.put_ne _ _ (by omega)]) (row (by rw [Heap.put_ne _ _ (by omega), Heap.put_at])) (nil se) (by simp [own]) (by simp [own]) fun a' H3 m' h1 h2 h3 => fin2 h1 h2 h3
      · simp [zkf, nn]
        exact fin (by omega) (fun g hg => by rw [Heap.put_ne _ _ (by omega), Heap.put_ne _ _ (by omega), Heap.put_ne _ _ (by omega), Heap.put_ne _ _ (by omega)]) (row (by rw [Heap.put_ne _ _ (by omega), Heap.put_ne _ _ (by omega), Heap.put_at])) (row (by rw [Heap.put_ne _ _ (by omega), Heap.put_at])) (by simp [own]) (by simp [own]) fun a' H3 m' h1 h2 h3 => fin2 h1 h2 h3
  · obtain rfl : i = fs.length := by omega
    obtain ⟨z, r2, z9⟩ := r2
    rw [← hkeep p (by omega)] at r1
    rw [← hkeep (p + 1) (by omega)] at r2
    simp [zph, r1]
    refine (zalt hh .ro).mono fun hv H5 n5 ⟨hn5, k5, hc⟩ => ?_
    have e1 : H5 p = _ := (k5 p (by omega)).trans r1
    have e2 : H5 (p + 1) = _ := (k5 (p + 1) (by omega)).trans r2
    obtain ⟨s1, s2⟩ := hc.slot (zbe h)
    simp [zadi, e1, e2, z9, st.row.one.1, st.row.one.2, hc.one.1, hc.one.2, c1.1, c1.2, w1.1, w1.2]
    rw [List.take_length] at st
    obtain ⟨f1, f2, f3, f4⟩ := st
    have same : ∀ {X : Heap}, (∀ g, g ≠ p → g ≠ p + 1 → X g = H5 g) → ∀ g, mid ≤ g → g < n' → X g = H' g := fun hX g h1 h2 => by rw [hX g (by omega) (by omega)]; exact k5 g h2
    have s1' : Slot H5 6 h.length (rowC h) hv := by simpa [rowC] using s1
    refine hq _ _ ss fa hv (by omega) (fun g h1 h2 h3 => ?_) ⟨f1.keep fun g hg => ?_, f2.keep fun g hg => ?_, s1'.keep fun g hg => ?_, ?_, fun g hg => ?_⟩
    · rw [Heap.put_ne _ _ h3, Heap.put_ne _ _ h2, k5 g (by omega)]; exact hkeep g h1
    · have := f4 g (List.mem_append_right _ hg)
      exact same (fun g h1 h2 => by rw [Heap.put_ne _ _ h2, Heap.put_ne _ _ h1]) g this.1 this.2
    · have := f4 g (List.mem_append_left _ hg)
      exact same (fun g h1 h2 => by rw [Heap.put_ne _ _ h2, Heap.put_ne _ _ h1]) g this.1 this.2
    · have := s2 g hg
      rw [Heap.put_ne _ _ (by omega), Heap.put_ne _ _ (by omega)]
    · obtain ⟨d1, d2, d3⟩ := List.nodup_append.1 f3
      refine List.nodup_append.2 ⟨d1, List.nodup_append.2 ⟨zpi _, d2, fun a ha b hb e => ?_⟩, fun a ha b hb e => ?_⟩
      · have := s2 a ha; have := f4 b (List.mem_append_right _ hb); omega
      · rcases List.mem_append.1 hb with hb | hb
        · have := s2 b hb; have := f4 a (List.mem_append_left _ ha); omega
        · exact d3 a ha b hb e
    · rcases List.mem_append.1 hg with hg | hg
      · have := f4 g (List.mem_append_left _ hg); omega
      · rcases List.mem_append.1 hg with hg | hg
        · have := s2 g hg; omega
        · have := f4 g (List.mem_append_right _ hg); omega
end Go.Proofs.YtejohcohkgcmhaaDoor
namespace Go.Proofs.YtejohcohkgcmhaaDoor
open Go Go.RowKit
set_option maxHeartbeats 2000000 in
theorem zakt {a : Agt} {H1 : Heap} {p : Nat} {Q : AV → Heap → Nat → Prop} (b1 : a.prog.codes.length * 40 ≤ 140737488355328) (b2 : ∀ c ∈ a.prog.codes, c.ins.length * 24 ≤ 140737488355328) (b3 : a.prog.words.length * 16 ≤ 140737488355328)
    (b4 : a.frames.length * 64 ≤ 140737488355328) (b5 : a.heap.length * 64 ≤ 140737488355328) (b6 : ∀ f ∈ a.frames, f.vars.length * 32 ≤ 140737488355328 ∧ f.stack.length * 32 ≤ 140737488355328)
    (r1 : H1 p = some (.row 9 a.avs)) (r2 : ∃ z, H1 (p + 1) = some (.row 9 z) ∧ z.length = 9)
    (hq : ∀ H' n' mid ss fa ha cv wv, p + 2 ≤ mid → mid ≤ n' → (∀ g, g < p → H' g = H1 g) → FrzP H' (fun g => p + 2 ≤ g ∧ g < mid) cv (.ro (a.prog.codes.map Cod.avs)) → FrzP H' (fun g => p + 2 ≤ g ∧ g < mid) wv (.ro (a.prog.words.map fun w => [.str w])) →
      zmn H' mid n' a.frames ss fa a.heap ha → Q (.agg [.int .i64 a.id, .int .i64 a.trip, cv, wv, fa, ha, .int .i64 a.permit.fuel, .int .i64 a.permit.room, .int .i64 a.permit.hops]) H' n') :
    LP (zpg Q) [.ptr p 0, .ptr (p + 1) 0, .nils, .ro (a.prog.codes.map Cod.avs), .int .i64 a.prog.codes.length, .int .i64 0] H1 (p + 2) := by
  refine LP.mk (fun k xs H' n' => ∃ (i : Nat) (cv : AV) (cells : List AV), k = a.prog.codes.length - i ∧ i ≤ a.prog.codes.length ∧ p + 2 ≤ n' ∧ xs = [.ptr p 0, .ptr (p + 1) 0, cv, .ro (a.prog.codes.map Cod.avs), .int .i64 a.prog.codes.length, .int .i64 i] ∧ (∀ g, g < p + 2 → H' g = H1 g) ∧
    zes H' (fun g => p + 2 ≤ g ∧ g < n' ∧ g ∉ own cv) (a.prog.codes.take i) cells ∧ Slot H' 3 i cells cv ∧ ∀ g ∈ own cv, p + 2 ≤ g ∧ g < n') a.prog.codes.length ⟨0, .nils, [], rfl, by omega, Nat.le_refl _, rfl, fun _ _ => rfl, ⟨rfl, fun k c hc => by simp at hc⟩, .inl ⟨rfl, .inl rfl⟩, by simp [own]⟩ ?_
  rintro k xs H' n' ⟨i, cv, cells, rfl, hi, hn', rfl, hkeep, hc, hs, ho⟩
  have p0 : p ≠ n' := by omega
  have p1 : p + 1 ≠ n' := by omega
  by_cases hil : i < a.prog.codes.length
  · have hmem : a.prog.codes[i] ∈ a.prog.codes := List.getElem_mem hil
    have hb := b2 _ hmem
    have htk : a.prog.codes.take (i + 1) = a.prog.codes.take i ++ [a.prog.codes[i]] := (List.take_append_getElem hil).symm
    have tl : (a.prog.codes.take i).length = i := by simp; omega
    simp [zpg, hil, Cod.avs]
    refine (zals hb .ro).mono fun v H5 n5 ⟨hn5, k5, hv⟩ => ?_
    have e1 : H5 n' = _ := (k5 n' (by omega)).trans (Heap.put_at _ _ _)
    have nn : n' ≠ n5 := by omega
    simp [zadj, e1, hv.one.1, hv.one.2]
    refine Slot.app (bytes := 40) (nx := n5 + 1) (new := [.int .i64 a.prog.codes[i].params, .int .i64 a.prog.codes[i].vars, v]) (hs.keep fun g hg => ?_) (by rw [hc.1, tl]) (Heap.put_at _ _ _) rfl (by simp [hv.one.2]) (by omega) fun H3 q1 q2 => ?_
    · have := ho g hg
      rw [Heap.put_ne _ _ (by omega), Heap.put_ne _ _ (by omega), k5 g (by omega), Heap.put_ne _ _ (by omega)]
    · have old : ∀ g, g < n' → g ∉ own cv → H3 g = H' g := fun g h1 h2 => by
        rw [q2 g h2 (by omega), Heap.put_ne _ _ (by omega), Heap.put_ne _ _ (by omega), k5 g (by omega), Heap.put_ne _ _ (by omega)]
      rw [i64w (by omega)]
      refine ⟨a.prog.codes.length - (i + 1), by omega, i + 1, rfl, by omega, by omega, _, ⟨rfl, by simp⟩, fun g hg => ?_, cells ++ [.int .i64 a.prog.codes[i].params, .int .i64 a.prog.codes[i].vars, v], ?_, ?_, ?_⟩
      · rw [old g (by omega) (fun h => by have := ho g h; omega)]; exact hkeep g hg
      · rw [htk]
        refine zes.snoc (hc.more fun g ⟨h1, h2, h3⟩ => ⟨⟨h1, by omega, by simp [own]; omega⟩, old g h2 h3⟩) (hv.more fun g ⟨h1, h2⟩ => ⟨⟨by omega, by omega, by simp [own]; omega⟩, ?_⟩)
        rw [q2 g (fun h => by have := ho g h; omega) (by omega), Heap.put_ne _ _ (by omega), Heap.put_ne _ _ (by omega)]
      · refine .inr ⟨n5 + 1, _, rfl, q1, List.take_of_length_le ?_, ?_⟩
        · simp [hc.1, tl]; omega
        · simp [hc.1, tl]; omega
      · intro g hg
        simp [own] at hg; omega
  · obtain rfl : i = a.prog.codes.length := by omega
    rw [List.take_length] at hc
    obtain ⟨z, r2, z9⟩ := r2
    rw [← hkeep p (by omega)] at r1
    rw [← hkeep (p + 1) (by omega)] at r2
    simp [zpg, r1, Agt.avs]
    refine (zalr b3 .ro).mono fun wv H5 n5 ⟨hn5, k5, hw⟩ => ?_
    have e1 : H5 p = _ := (k5 p (by omega)).trans r1
    have e2 : H5 (p + 1) = _ := (k5 (p + 1) (by omega)).trans r2
    simp [zadh, e1, Agt.avs, hs.one.1, hs.one.2, hw.one.1, hw.one.2]
    have pp : p + 1 ≠ p := by omega
    have fz1 : FrzP H5 (fun g => p + 2 ≤ g ∧ g < n5) cv (.ro (a.prog.codes.map Cod.avs)) := by
      refine (hc.frz (G := fun g => p + 2 ≤ g ∧ g < n') (fun g ⟨h1, h2, _⟩ => ⟨h1, h2⟩) hs ho).keep (fun g ⟨h1, h2⟩ => k5 g h2) |>.wide fun g ⟨h1, h2⟩ => ⟨h1, by omega⟩
    have fz2 : FrzP H5 (fun g => p + 2 ≤ g ∧ g < n5) wv (.ro (a.prog.words.map fun w => [.str w])) := hw.frz (fun g ⟨h1, h2⟩ => ⟨by omega, h2⟩) (zaav _)
    refine zajd b4 b5 b6 (by omega) (Heap.put_at _ _ _) ⟨z, by rw [Heap.put_ne _ _ pp]; exact e2, z9⟩ hs.one hw.one fun H6 n6 ss fa ha hn6 k6 ow => ?_
    have same : ∀ g, p + 2 ≤ g → g < n5 → H6 g = H5 g := fun g h1 h2 => by rw [k6 g h2 (by omega) (by omega), Heap.put_ne _ _ (by omega)]
    refine hq H6 n6 n5 ss fa ha cv wv (by omega) hn6 (fun g hg => ?_) (fz1.keep fun g ⟨h1, h2⟩ => same g h1 h2) (fz2.keep fun g ⟨h1, h2⟩ => same g h1 h2) ow
    rw [k6 g (by omega) (by omega) (by omega), Heap.put_ne _ _ (by omega), k5 g (by omega), hkeep g (by omega)]
structure zsp (a : Agt) : Prop where
  b1 : a.prog.codes.length * 40 ≤ 140737488355328
  b2 : ∀ c ∈ a.prog.codes, c.ins.length * 24 ≤ 140737488355328
  b3 : a.prog.words.length * 16 ≤ 140737488355328
  b4 : a.frames.length * 64 ≤ 140737488355328
  b5 : a.heap.length * 64 ≤ 140737488355328
  b6 : ∀ f ∈ a.frames, f.vars.length * 32 ≤ 140737488355328 ∧ f.stack.length * 32 ≤ 140737488355328
def zc (id trip : Int) (p : Prg) (fa ha : AV) (m : Pmt) : List AV := [.int .i64 id, .int .i64 trip, .ro (p.codes.map Cod.avs), .ro (p.words.map fun w => [.str w]), fa, ha, .int .i64 m.fuel, .int .i64 m.room, .int .i64 m.hops]
theorem zvb {a : Agt} (sz : zsp a) {H : Heap} {n : Nat} {Q : AV → Heap → Nat → Prop}
    (hq : ∀ H' n' ss fa ha, n ≤ n' → Keep n H' H → zmn H' n n' a.frames ss fa a.heap ha → Q (.agg (zc a.id a.trip a.prog fa ha a.permit)) H' n') : za Tryd.prog 28 [.agg a.avs] H n Q := by
  have raw : za Tryd.prog 28 [.agg a.avs] H n fun v H' n' => ∃ mid ss fa ha cv wv, v = .agg [.int .i64 a.id, .int .i64 a.trip, cv, wv, fa, ha, .int .i64 a.permit.fuel, .int .i64 a.permit.room, .int .i64 a.permit.hops] ∧ n + 2 ≤ mid ∧ mid ≤ n' ∧ Keep n H' H ∧
      FrzP H' (fun g => n + 2 ≤ g ∧ g < mid) cv (.ro (a.prog.codes.map Cod.avs)) ∧ FrzP H' (fun g => n + 2 ≤ g ∧ g < mid) wv (.ro (a.prog.words.map fun w => [.str w])) ∧ zmn H' mid n' a.frames ss fa a.heap ha := by
    refine zafc _ H n _ ?_
    have av : (AV.agg a.avs).cells = a.avs := by simp
    have al : a.avs.length = 9 := rfl
    have nn : n ≠ n + 1 := by omega
    have h2 : a.avs[2]? = some (.ro (a.prog.codes.map Cod.avs)) := rfl
    have hsu : (AV.agg a.avs).sure = true := by simp [Agt.avs]
    unfold zum
    rw [av, al]
    refine ⟨hsu, ?_⟩
    simp [nn, h2]
    refine zakt sz.b1 sz.b2 sz.b3 sz.b4 sz.b5 sz.b6 (by rw [Heap.put_ne _ _ nn, Heap.put_at]) ⟨_, Heap.put_at _ _ _, rfl⟩ fun H' n' mid ss fa ha cv wv q1 q2 q3 q4 q5 q6 => ?_
    exact ⟨mid, ss, fa, ha, cv, wv, rfl, q1, q2, fun g hg => by rw [q3 g hg, Heap.put_ne _ _ (by omega), Heap.put_ne _ _ (by omega)], q4, q5, q6⟩
  refine za.tidy fun hlive => raw.freeze fun v H' n' ⟨mid, ss, fa, ha, cv, wv, hv, q1, q2, q3, q4, q5, q6⟩ => ?_
  subst hv
  let H2 : Heap := fun g => if n ≤ g ∧ g < mid then none else H' g
  have h2 : ∀ g, ¬ (n ≤ g ∧ g < mid) → H2 g = H' g := fun g hg => if_neg hg
  refine ⟨_, H2, fun g => n ≤ g ∧ g < mid, hq H2 n' ss fa ha (by omega) (fun g hg => by rw [h2 g (by omega)]; exact q3 g hg) ⟨q6.frs.keep fun g hg => h2 g ?_, q6.row.keep fun g hg => h2 g ?_, q6.hp.keep fun g hg => h2 g ?_, q6.nd, fun g hg => ?_⟩, ?_, fun g o hg => ?_⟩
  · have := q6.bd g (by simp [hg]); omega
  · have := q6.bd g (by simp [hg]); omega
  · have := q6.bd g (by simp [hg]); omega
  · have := q6.bd g hg; omega
  · refine .agg _ _ rfl fun j v u hv hu => ?_
    match j with
    | 0 => cases hv; cases hu; exact .same _
    | 1 => cases hv; cases hu; exact .same _
    | 2 => cases hv; cases hu; exact q4.wide fun g ⟨h1, h2⟩ => ⟨by omega, h2⟩
    | 3 => cases hv; cases hu; exact q5.wide fun g ⟨h1, h2⟩ => ⟨by omega, h2⟩
    | 4 => cases hv; cases hu; exact .same _
    | 5 => cases hv; cases hu; exact .same _
    | 6 => cases hv; cases hu; exact .same _
    | 7 => cases hv; cases hu; exact .same _
    | 8 => cases hv; cases hu; exact .same _
    | j + 9 => simp at hv
  · by_cases h : n ≤ g ∧ g < mid
    · simp only [H2, if_pos h] at hg; cases hg
    · exact ⟨h, by rw [h2 g h] at hg; exact hg⟩
end Go.Proofs.YtejohcohkgcmhaaDoor
