/- Cells numbered as they are come to: the program's function. Cells numbered as they are come to: the program's function, all of it. Values that name no memory; cells that may be. Rows that are built by appending. What a call has made is read by value from now on, in part. The machine in memory: who owns what. The machine in memory: what changes, and what stays. A call that changes what it is handed by address, where the order is drawn: what it leaves names no more than what was there named. Cutting and copying rows. Agents as bytes, and back: the plain functions. Numbers and texts as bytes, behind an owned row. A copy of an agent: the program's part. The writer: numbers, values, programs. -/
import Derived.Test.YtpbnaaoilgohkaaGreatDoorG8
import Derived.Test.YtpbnaaoilgohkaaGreatDoorG6
import Derived.Test.YtpbnaaoilgohkaaGreatDoorG7
set_option linter.unusedSimpArgs false
set_option linter.unusedVariables false
set_option maxRecDepth 8000
namespace Go.Proofs.YtpbnaaoilgohkaaGreatDoor
open Go Go.RowKit
set_option maxRecDepth 20000 in
theorem zwy {h : List Cl} {l : List Val} {F : List Nat} {H0 : Heap} {nx i j d : Nat} {o : List Nat} {a0 a2 a3 a4 a5 : AV} {H37 : Heap} {nx36 gr go gv c0 : Nat} {rd fr : List Nat} {D : zl} (S4 : zbk h l F H0 nx j d o a2 (H37.apply D) (nx36 + 1 + fr.length) gr go gv) (hs : h.length * 64 ≤ 140737488355328)
    (hd : o[d]? = some c0) {p q : Val} (hcell : (⟨p, q⟩ : Cl) = zay F h c0) (hdis : nx36 ∉ domD D) {K18 : J3} (hK18 : ∀ a2 H n gr go, zbk h l F H0 nx j (d + 1) o a2 H n gr go gv → K18 [a0, .ptr (nx + 2) 0, a2, a3, a4, a5, .int .i64 i] H n) :
    zfm (.agg p.avs) [a0, .ptr (nx + 2) 0, a2, a3, a4, a5, .int .i64 i] nx36 H37 [nx36] K18 (.agg q.avs) rd fr D := by
  have hlt := (List.getElem?_eq_some_iff.1 hd).1
  have hol := S4.good.len
  have hrow : (o.take (d + 1)).map (zay F h) = (o.take d).map (zay F h) ++ [⟨p, q⟩] := by rw [znx _ hd, hcell]
  have S5 := S4.out
  rcases S5 with ⟨e0, e2⟩ | ⟨h0, e2, h1, h2, h3, h4⟩
  · subst e2
    simp [zfm, Val.avs]
    subst e0
    refine zax (by simp) (zax (by rintro g hg; simp; rintro rfl; exact hdis hg) (hK18 _ _ _ _ _ (S4.outs hlt (gn := nx36 + 1 + fr.length + 1) (by omega) (by omega) ?_ fun g hg _ => ?_)))
    · rw [Heap.put_at, hrow]
      simp [rowC, Cl.avs, Val.avs]
    · rw [Heap.put_ne _ _ (by omega), Heap.put_ne _ _ (by omega)]
  · subst e2
    simp [zfm, Val.avs, h1]
    rw [if_neg (by omega)]
    simp
    rw [List.take_of_length_le (by simp; omega)]
    refine ⟨by rw [Nat.min_eq_left (by omega)]; exact Nat.le_refl _, by omega, zax (by simp) (zax (by rintro g hg; simp; rintro rfl; exact hdis hg) (hK18 _ _ _ _ _ (S4.outs hlt (gn := nx36 + 1 + fr.length + 1) (by omega) (by omega) ?_ fun g hg hg2 => ?_)))⟩
    · rw [Heap.put_at, hrow]
      simp [rowC, Cl.avs, Val.avs]
    · rw [Heap.put_ne _ _ (by omega), Heap.put_ne _ _ (hg2 h0), Heap.put_ne _ _ (by omega)]
set_option maxHeartbeats 2000000 in
set_option maxRecDepth 20000 in
theorem zyh (h : List Cl) (l : List Val) (hr : VM.right h l = true) (hs : h.length * 64 ≤ 140737488355328) {a0 : AV} {H0 : Heap} {nx i : Nat} (hi : i < l.length) (hl : l.length * 32 ≤ 140737488355328) (ha0 : zaa H0 nx 6 (h.map Cl.avs) a0) (K6 : J3) (gv : Nat)
    (hK : ∀ a2 H n gr go o, zbk h l (VM.order h l) H0 nx (i + 1) o.length o a2 H n gr go gv → VM.orderGo h (l.drop (i + 1)) o = VM.order h l →
      K6 [a0, .ptr (nx + 2) 0, a2, .clo 83 [.ptr (nx + 1) 0, .ptr (nx + 2) 0], .slc gv 0 l.length, .int .i64 l.length, .int .i64 (i + 1 : Nat)] H n)
    (a2 : AV) (H : Heap) (n gr go : Nat) (o : List Nat) (d : Nat) (st : zbk h l (VM.order h l) H0 nx (i + 1) d o a2 H n gr go gv) (hF : VM.orderGo h (l.drop (i + 1)) (VM.drain h (h.length - d) o d) = VM.order h l) :
    LP (zdj K6) [a0, .ptr (nx + 2) 0, a2, .clo 83 [.ptr (nx + 1) 0, .ptr (nx + 2) 0], .slc gv 0 l.length, .int .i64 l.length, .int .i64 i] H n := by
  refine LP.mk (fun m xs H n => ∃ d a2 gr go o, m = h.length - d ∧ xs = [a0, .ptr (nx + 2) 0, a2, .clo 83 [.ptr (nx + 1) 0, .ptr (nx + 2) 0], .slc gv 0 l.length, .int .i64 l.length, .int .i64 i] ∧ zbk h l (VM.order h l) H0 nx (i + 1) d o a2 H n gr go gv ∧
    VM.orderGo h (l.drop (i + 1)) (VM.drain h (h.length - d) o d) = VM.order h l) (h.length - d) ⟨d, a2, gr, go, o, rfl, rfl, st, hF⟩ ?_
  clear st hF
  rintro m xs H n ⟨d, a2, gr, go, o, rfl, rfl, st, hF⟩
  have hlenA : ∀ k : AV → Prop, LNL a2 k = k (.int .i64 d) := by
    intro k
    rcases st.out with ⟨rfl, rfl⟩ | ⟨_, rfl, _⟩ <;> simp
  have hOrd : (AV.int .i64 (o.length : Nat) : AV) = .int .i64 o.length := rfl
  by_cases hd : d < o.length
  case neg =>
    obtain rfl : d = o.length := by have := st.dle; omega
    simp [zdj, hlenA, st.num.m2, zpz]
    rw [i64w (by omega)]
    rw [VM.drain_end (Nat.le_refl _)] at hF
    exact hK a2 H n gr go o st hF
  obtain ⟨c0, hc0⟩ : ∃ n0, o[d]? = some n0 := ⟨_, List.getElem?_eq_getElem hd⟩
  have hc0l : c0 < h.length := st.good.lt c0 (List.mem_of_getElem? hc0)
  obtain ⟨c, hc⟩ : ∃ c, h[c0]? = some c := ⟨_, List.getElem?_eq_getElem hc0l⟩
  have ho : o ≠ [] := by intro e; subst e; simp at hd
  have hok := VM.okH (VM.right_okC hr) c0 c hc
  obtain ⟨r1, r2, r3⟩ := st.lr ho
  have hol := st.good.len
  have m2 := st.num.m2
  rw [if_neg ho] at m2
  have hrow : (zag o)[d]? = some (.int .i64 c0) := zkv hc0
  obtain ⟨hdr, hrow'⟩ := List.getElem?_eq_some_iff.1 hrow
  suffices key : ∀ K18 : J3, (∀ a2 H n gr go o, zbk h l (VM.order h l) H0 nx (i + 1) (d + 1) o a2 H n gr go gv → VM.orderGo h (l.drop (i + 1)) (VM.drain h (h.length - (d + 1)) o (d + 1)) = VM.order h l →
      K18 [a0, .ptr (nx + 2) 0, a2, .clo 83 [.ptr (nx + 1) 0, .ptr (nx + 2) 0], .slc gv 0 l.length, .int .i64 l.length, .int .i64 i] H n) →
      zdj K6 K18 [a0, .ptr (nx + 2) 0, a2, .clo 83 [.ptr (nx + 1) 0, .ptr (nx + 2) 0], .slc gv 0 l.length, .int .i64 l.length, .int .i64 i] H n from
    key _ fun a2 H n gr go o st' hF' => ⟨_, by omega, d + 1, a2, gr, go, o, rfl, rfl, st', hF'⟩
  intro K18 hK18
  have hdr0 : VM.drain h (h.length - d) o d = VM.drain h (h.length - (d + 1)) (VM.meet (VM.meet o c.left) c.right) (d + 1) := by
    rw [show h.length - d = (h.length - (d + 1)) + 1 by omega]; exact VM.drain_step hc0 hc
  rw [hdr0] at hF
  have g1 := st.good.meet hok.1
  have pre : VM.meet (VM.meet o c.left) c.right <+: VM.order h l := by
    rw [← hF]; exact (VM.drain_pre h _ _ _).trans (VM.orderGo_pre h _ _)
  have cput := zago hc pre
  simp [zdj, hlenA, m2, hd, st.num.mr ho, hrow']
  refine (ha0.keep (H' := H) (nx' := n) st.keep (by have := st.lv; omega)).ld (zdf h) (x := c.avs) (by rw [List.getElem?_map, hc]; rfl) ?_
  obtain ⟨cl, cr⟩ := c
  simp [Cl.avs, Val.avs, CALL]
  have st1 := st.more (H1 := H.put n (some (AObj.row 6 (cl.avs ++ cr.avs)))) (n1 := n + 1) (by omega) (fun g hg => Heap.put_ne _ _ (by omega))
  have lv := st.lv
  have wl := VM.right_okC hr _ (List.mem_of_getElem? hc)
  refine (zrx cl o (fun hk => (wl.1.cell hk).1) (by omega) st1.num (by omega) (by omega) (by omega) (fun _ => by omega)).mono ?_
  rintro r H2 n2 ⟨rfl, hn2, gr2, st2, q2, q3⟩
  have S2 := st1.meet hok.1 hn2 st2 q2 q3
  have hcell : H2 n = some (AObj.row 6 (cl.avs ++ cr.avs)) := by
    rw [q3 n (by omega) (by omega) (by omega) fun _ => by omega]; exact Heap.put_at _ _ _
  have ho1 : VM.meet o cl ≠ [] := by
    intro e; have := (VM.meet_pre o cl).length_le; rw [e] at this; simp at this; exact ho this
  have ol2 : (VM.meet o cl).length ≤ h.length := S2.good.len
  have hlt0 : 0 < (VM.meet o cl).length := List.length_pos_iff.2 ho1
  obtain ⟨lr1, lr2, lr3⟩ := S2.lr ho1
  have lv2 := S2.lv
  simp [zoa, hcell, Cl.avs, Val.avs]
  have S3 := S2.more (H1 := H2.put n2 (some (AObj.row 3 (VM.put (VM.meet o cl) cl).avs))) (n1 := n2 + 1) (by omega) (fun g hg => Heap.put_ne _ _ (by omega))
  have hn0 : n ≠ n2 := by omega
  simp only [hn0, if_false, hcell, Cl.avs, Val.avs]
  simp
  have hd2 : (VM.meet (VM.meet o cl) cr)[d]? = some c0 := by
    obtain ⟨t, ht⟩ := (VM.meet_pre o cl).trans (VM.meet_pre (VM.meet o cl) cr)
    rw [← ht, List.getElem?_append_left hd]; exact hc0
  refine zwe cr (VM.meet o cl) (fun hk => (wl.2.cell hk).1) (by omega) ho1 S3.num (by omega) (by omega) (by omega) (by omega) (fun hno => ?_) (fun hnew => ?_)
  · have S4 : zbk h l (VM.order h l) H0 nx (i + 1) d (VM.meet (VM.meet o cl) cr) a2 (Heap.apply (H2.put n2 (some (AObj.row 3 (VM.put (VM.meet o cl) cl).avs))) []) (n2 + 1 + ([] : List Nat).length) gr2 go gv := by
      rw [zjq hno]; exact S3
    exact zwy S4 hs hd2 cput (by simp) fun a2 H n gr go st' => hK18 a2 H n gr go _ st' hF
  · have n1 : nx ≠ gr2 := by omega
    have ne_0 : nx ≠ nx + 1 ∧ nx + 1 ≠ nx ∧ nx ≠ nx + 2 ∧ nx + 2 ≠ nx ∧ nx ≠ gr2 ∧ gr2 ≠ nx ∧ nx + 1 ≠ nx + 2 ∧ nx + 2 ≠ nx + 1 ∧ nx + 1 ≠ gr2 ∧ gr2 ≠ nx + 1 ∧ nx + 2 ≠ gr2 ∧ gr2 ≠ nx + 2 ∧ nx ≠ n2 ∧ n2 ≠ nx ∧ nx ≠ n2 + 1 ∧ n2 + 1 ≠ nx ∧ nx + 1 ≠ n2 ∧ n2 ≠ nx + 1 ∧ nx + 1 ≠ n2 + 1 ∧ n2 + 1 ≠ nx + 1 ∧ nx + 2 ≠ n2 ∧ n2 ≠ nx + 2 ∧ nx + 2 ≠ n2 + 1 ∧ n2 + 1 ≠ nx + 2 ∧ gr2 ≠ n2 ∧ n2 ≠ gr2 ∧ gr2 ≠ n2 + 1 ∧ n2 + 1 ≠ gr2 := ⟨by omega, by omega, by omega, by omega, by omega, by omega, by omega, by omega, by omega, by omega, by omega, by omega, by omega, by omega, by omega, by omega, by omega, by omega, by omega, by omega, by omega, by omega, by omega, by omega, by omega, by omega, by omega, by omega⟩
    have st4 : zdp (Heap.apply (H2.put n2 (some (AObj.row 3 (VM.put (VM.meet o cl) cl).avs))) [(nx, some (.mp (zdv (VM.meet o cl ++ [cr.n.toNat])))), (gr2, none), (nx + 2, some (.row 1 [.slc (n2 + 1) 0 ((VM.meet o cl).length + 1)])), (n2 + 1, some (.row 1 (zag (VM.meet o cl ++ [cr.n.toNat]))))]) (nx + 1) (nx + 2) nx (n2 + 1) (VM.meet o cl ++ [cr.n.toNat]) := by
      refine S3.num.next (nx := n2 + 1) (by omega) (by omega) (by omega) (fun _ => by omega) (Nat.le_refl _) ?_ ?_ ?_ ?_
      · simp [ne_0]
      · simp [ne_0]
      · simp [ne_0]
      · simp [ne_0]
    rw [← zgz hnew] at st4
    have S4 := S3.meet (v := cr) hok.2 (n' := n2 + 1 + [n2 + 1].length) (by omega) st4 (fun _ => ⟨by simp, .inr (Nat.le_refl _)⟩) fun g hg a1 a2 a3 => by
      have a4 := a3 ho1
      have a5 : g ≠ n2 + 1 := by omega
      simp only [Heap.apply]
      rw [Heap.put_ne _ _ a5, Heap.put_ne _ _ a2, Heap.put_ne _ _ a4, Heap.put_ne _ _ a1]
    rw [zgz hnew] at S4 ⊢
    rw [zgz hnew] at hd2 cput hF
    exact zwy S4 hs hd2 cput (by simp; omega) fun a2 H n gr go st' => hK18 a2 H n gr go _ st' hF
end Go.Proofs.YtpbnaaoilgohkaaGreatDoor
set_option maxRecDepth 8000
namespace Go.Proofs.YtpbnaaoilgohkaaGreatDoor
open Go Go.RowKit
theorem zbk.setv {h : List Cl} {l : List Val} {F : List Nat} {H0 : Heap} {nx i d : Nat} {o : List Nat} {a2 : AV} {H : Heap} {n gr go gv : Nat} (st : zbk h l F H0 nx i d o a2 H n gr go gv) (c : Option AObj) (hc : c = some (.row 3 (rowV ((l.take (i + 1)).map (VM.put F) ++ l.drop (i + 1))))) : zbk h l F H0 nx (i + 1) d o a2 (H.put gv c) n gr go gv := by
  have l1 := st.lv
  have hk : ∀ g, g ≠ gv → (H.put gv c) g = H g := fun g hg => Heap.put_ne _ _ hg
  refine ⟨⟨?_, ?_, ?_, fun ho => ?_, st.num.d12, st.num.d1m, st.num.d2m, st.num.dr⟩, st.lr, ?_, by rw [Heap.put_at, hc], l1, fun g hg => by rw [hk g (by omega)]; exact st.keep g hg, st.good, st.dle⟩
  · rw [hk _ (by omega)]; exact st.num.m1
  · rw [hk _ (by omega)]; exact st.num.mm
  · rw [hk _ (by omega)]; exact st.num.m2
  · rw [hk _ (fun e => (st.lr ho).2.2 e.symm)]; exact st.num.mr ho
  · rcases st.out with h | ⟨p1, p2, p3, p4, p5, p6, p7⟩
    · exact .inl h
    · exact .inr ⟨p1, p2, by rw [hk _ p6]; exact p3, p4, p5, p6, p7⟩
set_option maxHeartbeats 2000000 in
set_option maxRecDepth 20000 in
theorem zagq (h : List Cl) (l : List Val) (hr : VM.right h l = true) (hs : h.length * 64 ≤ 140737488355328) (hl : l.length * 32 ≤ 140737488355328) {a0 a1 : AV} {H : Heap} {nx : Nat} (ha0 : zaa H nx 6 (h.map Cl.avs) a0) (ha1 : zaa H nx 3 (l.map Val.avs) a1) :
    za Tryz.prog 54 [a0, a1] H nx fun v H' _ => Frz H' nx v (.tup [.ro ((VM.canonV h l).map Val.avs), .ro ((VM.canonC h l).map Cl.avs)]) ∧ Keep nx H' H := by
  refine zrk _ _ H nx _ ?_
  simp [zny]
  generalize hH1 : ((H.put nx (some (AObj.mp []))).put (nx + 1) (some (AObj.row 1 [AV.amap nx]))).put (nx + 2) (some (AObj.row 1 [AV.nils])) = H1
  have k1 : ∀ g, g < nx → H1 g = H g := fun g hg => by
    subst hH1; rw [Heap.put_ne _ _ (by omega), Heap.put_ne _ _ (by omega), Heap.put_ne _ _ (by omega)]
  refine (zug l hl (ha1.keep (nx' := nx + 3) k1 (by omega))).mono ?_
  rintro v H2 n2 ⟨hn2, hk2, hv⟩
  have k2 : Keep nx H2 H := fun g hg => (hk2 g (by omega)).trans (k1 g hg)
  rcases hv with ⟨rfl, rfl⟩ | ⟨gv, v1, v2, rfl, v3⟩
  · simp [zie]
    refine LP.mk (fun _ xs H' n' => H' = H2 ∧ xs = [a0, .ptr (nx + 2) 0, .nils, .clo 83 [.ptr (nx + 1) 0, .ptr (nx + 2) 0], .nils, .int .i64 0, .int .i64 0]) 0 ⟨rfl, rfl⟩ ?_
    rintro m xs H' n' ⟨rfl, rfl⟩
    simp [zfl]
    exact ⟨⟨.nils, .nils⟩, k2⟩
  have st0 : zbk h l (VM.order h l) H nx 0 0 [] .nils H2 n2 0 0 gv := by
    refine ⟨⟨?_, ?_, ?_, fun ho => absurd rfl ho, by omega, by omega, by omega, fun ho => absurd rfl ho⟩, fun ho => absurd rfl ho, .inl ⟨rfl, rfl⟩, by simpa using v3, by omega, k2, VM.Good.nil, Nat.le_refl _⟩
    · rw [hk2 _ (by omega), ← hH1, Heap.put_ne _ _ (by omega), Heap.put_at]
    · rw [hk2 _ (by omega), ← hH1, Heap.put_ne _ _ (by omega), Heap.put_ne _ _ (by omega), Heap.put_at]; rfl
    · rw [hk2 _ (by omega), ← hH1, Heap.put_at]; rfl
  simp [zie]
  refine LP.mk (fun m xs H' n' => ∃ i a2 gr go o, m = l.length - i ∧ i ≤ l.length ∧ xs = [a0, .ptr (nx + 2) 0, a2, .clo 83 [.ptr (nx + 1) 0, .ptr (nx + 2) 0], .slc gv 0 l.length, .int .i64 l.length, .int .i64 i] ∧
    zbk h l (VM.order h l) H nx i o.length o a2 H' n' gr go gv ∧ VM.orderGo h (l.drop i) o = VM.order h l) l.length ⟨0, .nils, 0, 0, [], by omega, by omega, rfl, st0, rfl⟩ ?_
  rintro m xs H' n' ⟨i, a2, gr, go, o, rfl, hi, rfl, st, hF⟩
  have hll : l.length < 4611686018427387904 := by omega
  by_cases hil : i < l.length
  case neg =>
    obtain rfl : i = l.length := by omega
    simp [zfl]
    have hFo : VM.order h l = o := by rw [← hF, List.drop_length]; rfl
    have hFlt : ∀ n ∈ VM.order h l, n < h.length := by rw [hFo]; exact st.good.lt
    refine ⟨⟨?_, ?_⟩, st.keep⟩
    · refine Frz.row (sz := 3) (g := gv) (cells := rowV (VM.canonV h l)) (by have := st.lv; omega) (by rw [st.vs]; simp [VM.canonV]) (by simp [VM.canonV]) (zcq _) rfl fun c hc => zbf (zdt _ c hc)
    · rw [zuj hFlt]
      rcases st.out with ⟨h0, rfl⟩ | ⟨h0, rfl, h1, h2, h3, h4⟩
      · have : VM.order h l = [] := by rw [hFo]; exact List.eq_nil_of_length_eq_zero h0
        rw [this]; exact .nils
      · refine Frz.row (sz := 6) (g := go) (cells := rowC ((VM.order h l).map (zay (VM.order h l) h))) (by omega) (by rw [h1, List.take_length, hFo]) (by simp [hFo]) (zdf _) rfl fun c hc => zbf (zou _ c hc)
  obtain ⟨v, hv⟩ : ∃ v, l[i]? = some v := ⟨_, List.getElem?_eq_getElem hil⟩
  have wv := VM.right_okV hr v (List.mem_of_getElem? hv)
  have hol := st.good.len
  have lv := st.lv
  have hdrop : l.drop i = v :: l.drop (i + 1) := by
    obtain ⟨hi', hv'⟩ := List.getElem?_eq_some_iff.1 hv
    rw [← hv']; exact List.drop_eq_getElem_cons hi'
  rw [hdrop] at hF
  have hF' : VM.orderGo h (l.drop (i + 1)) (VM.drain h (h.length - o.length) (VM.meet o v) o.length) = VM.order h l := hF
  have pre : VM.meet o v <+: VM.order h l := by
    rw [← hF']; exact (VM.drain_pre h _ _ _).trans (VM.orderGo_pre h _ _)
  have hput : VM.put (VM.meet o v) v = VM.put (VM.order h l) v := VM.put_pre pre (VM.mem_meet o v)
  have hmix := zahr (zafk (F := VM.order h l) hv)
  have hset := zvy (L := (l.take i).map (VM.put (VM.order h l)) ++ l.drop i) (i := i) (v := VM.put (VM.order h l) v) (by simp; omega)
  rw [zahs hv] at hset
  simp only [List.map_take] at hmix hset
  simp [zfl, hil, st.vs, CALL]
  refine ⟨by rw [Nat.min_eq_left (by omega)]; omega, ?_⟩
  rw [hmix]
  refine (zrx v o (fun hk => (wv.cell hk).1) (by omega) st.num (by omega) (by omega) (by omega) (fun ho => (st.lr ho).2.1)).mono ?_
  rintro r H3 n3 ⟨rfl, hn3, gr3, st3, q2, q3⟩
  have S3 := st.meet wv.okV hn3 st3 q2 q3
  have hvs := S3.vs
  simp only [List.map_take] at hvs
  simp [znz, hvs, hput]
  refine ⟨hil, by rw [Nat.min_eq_left (by omega)]; omega, fun x hx => zbe (zbd _ x hx), ?_⟩
  refine zyh h l hr hs hil hl ha0 _ gv (fun a2' H4 n4 gr4 go4 o4 st4 hF4 => ?_) a2 _ _ gr3 go (VM.meet o v) o.length (S3.setv _ ?_) hF'
  · exact ⟨l.length - (i + 1), by omega, i + 1, rfl, by omega, a2', rfl, gr4, go4, o4, st4, hF4⟩
  · rw [List.append_assoc] at hset
    simp only [List.map_take]
    rw [hset]
end Go.Proofs.YtpbnaaoilgohkaaGreatDoor
set_option maxRecDepth 8000
namespace Go.Proofs.YtpbnaaoilgohkaaGreatDoor
open Go Go.RowKit
theorem zts (v : Val) {A : Nat → Prop} : Bel A (.agg v.avs) := .agg _ fun j x hx => zbf (zbd _ x (List.mem_of_getElem? hx))
def ztg (h : List Cl) : Prop := ∀ c ∈ h, VM.WrongOk c.left h.length ∧ VM.WrongOk c.right h.length
end Go.Proofs.YtpbnaaoilgohkaaGreatDoor
set_option maxRecDepth 8000
namespace Go.Proofs.YtpbnaaoilgohkaaGreatDoor
open Go Go.RowKit
def Grow (H : Heap) (lo n sz k : Nat) (cells : List AV) (a : AV) : Prop := (k = 0 ∧ a = .nils) ∨ (0 < k ∧ ∃ g, lo ≤ g ∧ g < n ∧ a = .slc g 0 k ∧ H g = some (.row sz cells))
theorem Grow.zero {H : Heap} {lo n sz : Nat} {cells : List AV} : Grow H lo n sz 0 cells .nils := .inl ⟨rfl, rfl⟩
theorem Grow.more {H H' : Heap} {lo n n' sz k : Nat} {cells : List AV} {a : AV} (h : Grow H lo n sz k cells a) (hn : n ≤ n') (hk : ∀ g, lo ≤ g → g < n → H' g = H g) : Grow H' lo n' sz k cells a := by
  rcases h with h | ⟨h0, g, h1, h2, h3, h4⟩
  · exact .inl h
  · exact .inr ⟨h0, g, h1, by omega, h3, by rw [hk g h1 h2]; exact h4⟩
theorem Grow.len {H : Heap} {lo n sz k : Nat} {cells : List AV} {a : AV} (h : Grow H lo n sz k cells a) {q : AV → Prop} : LNL a q = q (.int .i64 k) := by
  rcases h with ⟨rfl, rfl⟩ | ⟨h0, g, h1, h2, rfl, h4⟩ <;> simp
theorem Grow.app {H : Heap} {lo n sz k bytes t nx : Nat} {cells new : List AV} {a : AV} {kk : AV → Heap → Nat → Prop} (hg : Grow H lo n sz k cells a) (hlen : cells.length = k * sz) (ht : H t = some (.row sz new)) (hnl : new.length = sz) (hone : new.all AV.one = true)
    (hb : (k + 1) * bytes ≤ 140737488355328) (hn : n ≤ nx) (hlo : lo ≤ nx) (hk : ∀ H', Keep lo H' H → Grow H' lo (nx + 1) sz (k + 1) (cells ++ new) (.slc nx 0 (k + 1)) → kk (.slc nx 0 (k + 1)) H' (nx + 1)) : APP sz bytes a (.slc t 0 1) H nx kk := by
  have hs : ze sz H (.slc t 0 1) = some (1, new, [t]) := by
    simp only [ze, ht]
    rw [if_pos (by omega)]
    simp [← hnl]
  rcases hg with ⟨rfl, rfl⟩ | ⟨h0, g, h1, h2, rfl, h4⟩
  · rw [zagu, hs, optk]
    have hc : cells = [] := List.eq_nil_of_length_eq_zero (by omega)
    subst hc
    refine ⟨hone, fun h => absurd h Nat.one_ne_zero, fun _ => ?_⟩
    exact ⟨by simpa using hb, hk _ (fun x hx => Heap.put_ne _ _ (by omega)) (.inr ⟨by omega, nx, hlo, by omega, rfl, by rw [Heap.put_at]; rfl⟩)⟩
  · rw [zfv, hs, optk, h4, rowk]
    refine ⟨rfl, hone, by omega, hb, hk _ (fun x hx => ?_) (.inr ⟨by omega, nx, hlo, by omega, rfl, ?_⟩)⟩
    · rw [Heap.put_ne _ _ (by omega), Heap.put_ne _ _ (by omega)]
    · rw [Heap.put_at, List.drop_zero, List.take_of_length_le (by omega)]
theorem Grow.append {H : Heap} {lo n sz k bytes t nx : Nat} {cells new : List AV} {a : AV} {kt : Kt} (hg : Grow H lo n sz k cells a) (hlen : cells.length = k * sz) (ht : H t = some (.row sz new)) (hnl : new.length = sz) (hone : new.all AV.one = true)
    (hb : (k + 1) * bytes ≤ 140737488355328) (hn : n ≤ nx) (hlo : lo ≤ nx) (hk : ∀ rd D, (∀ g ∈ domD D, lo ≤ g) → Keep lo (H.apply D) H → Grow (H.apply D) lo (nx + 1) sz (k + 1) (cells ++ new) (.slc nx 0 (k + 1)) → kt (.slc nx 0 (k + 1)) rd [nx] D) : zt sz bytes a (.slc t 0 1) H nx kt := by
  have hs : ze sz H (.slc t 0 1) = some (1, new, [t]) := by
    simp only [ze, ht]
    rw [if_pos (by omega)]
    simp [← hnl]
  rcases hg with ⟨rfl, rfl⟩ | ⟨h0, g, h1, h2, rfl, h4⟩
  · rw [zlp, hs, optk]
    have hc : cells = [] := List.eq_nil_of_length_eq_zero (by omega)
    subst hc
    refine ⟨hone, fun h => absurd h Nat.one_ne_zero, fun _ => ?_⟩
    exact ⟨by simpa using hb, hk _ _ (by simpa using hlo) (fun x hx => Heap.put_ne _ _ (by omega)) (.inr ⟨by omega, nx, hlo, by omega, rfl, by simp only [zak, zat, Heap.put_at]; rfl⟩)⟩
  · rw [ziw, hs, optk, h4, rowk]
    refine ⟨rfl, hone, by omega, hb, hk _ _ (by simp; omega) (fun x hx => ?_) (.inr ⟨by omega, nx, hlo, by omega, rfl, ?_⟩)⟩
    · simp only [zak, zat]; rw [Heap.put_ne _ _ (by omega), Heap.put_ne _ _ (by omega)]
    · simp only [zak, zat]; rw [Heap.put_at, List.drop_zero, List.take_of_length_le (by omega)]
theorem Grow.frz {H : Heap} {lo n sz k nx : Nat} {cells : List AV} {a : AV} {xs : List (List AV)} (h : Grow H lo n sz k cells a) (hnx : nx ≤ lo) (hl : xs.length = k) (hs : ∀ x ∈ xs, x.length = sz) (hc : xs.flatten = cells) (hb : ∀ c ∈ cells, Bel (· < nx) c) : Frz H nx a (.ro xs) := by
  rcases h with ⟨rfl, rfl⟩ | ⟨h0, g, h1, h2, rfl, h4⟩
  · rw [List.eq_nil_of_length_eq_zero hl]; exact .nils
  · exact Frz.row (by omega) h4 hl hs hc hb
end Go.Proofs.YtpbnaaoilgohkaaGreatDoor
set_option maxRecDepth 8000
namespace Go.Proofs.YtpbnaaoilgohkaaGreatDoor
open Go Go.RowKit
inductive FrzP (H : Heap) (G : Nat → Prop) : AV → AV → Prop
  | same (v : AV) : FrzP H G v v
  | nils : FrzP H G .nils (.ro [])
  | zs : FrzP H G .zs (.ro [])
  | slc (g off len sz : Nat) (cells : List AV) (xs : List (List AV)) : G g → H g = some (.row sz cells) → off + len * sz ≤ cells.length → xs.length = len → (∀ x ∈ xs, x.length = sz) →
      (U : Nat → Nat → AV) → (∀ (i : Nat) (x : List AV) (j : Nat) (v : AV), xs[i]? = some x → x[j]? = some v → cells[off + i * sz + j]? = some (U i j)) →
      (∀ (i : Nat) (x : List AV) (j : Nat) (v : AV), xs[i]? = some x → x[j]? = some v → FrzP H G (U i j) v) → FrzP H G (.slc g off len) (.ro xs)
  | agg (xs ys : List AV) : ys.length = xs.length → (∀ (j : Nat) (v u : AV), xs[j]? = some v → ys[j]? = some u → FrzP H G v u) → FrzP H G (.agg xs) (.agg ys)
theorem FrzP.rel {A : Nat → Prop} {ρ : Nat → Loc} {H H0 : Heap} {w : World} {G : Nat → Prop} (s : Sim A ρ H w) (h0 : ∀ g o, H0 g = some o → ¬ G g ∧ H g = some o) {v u : AV} (h : FrzP H G v u) :
    ∀ (c : Value), VRel (Kof ρ H w) ρ A v c → VRel (Kof ρ H0 w) ρ A u c := by
  have hK : ∀ b o, Kof ρ H w b = some o → Kof ρ H0 w b = some o := fun b o hb => by
    obtain ⟨h1, h2⟩ := zm.1 hb
    refine zm.2 ⟨fun g hg => ?_, h2⟩
    obtain ⟨o', ho'⟩ := Option.isSome_iff_exists.1 hg
    exact h1 g (by rw [(h0 g o' ho').2]; rfl)
  induction h with
  | same v => exact fun c hc => hc.mono hK (fun _ h => ⟨rfl, h⟩)
  | nils =>
    intro c hc
    cases hc
    exact .ro [] none 0 0 0 0 0 (fun _ _ => undef) rfl (Nat.le_refl _) (fun h => absurd rfl h) (fun x hx => by cases hx) (fun i x j v hx => by simp at hx) (fun i x j v hx => by simp at hx)
  | zs =>
    intro c hc
    cases hc with
    | zs a => exact .ro [] a 0 0 0 0 0 (fun _ _ => undef) rfl (Nat.le_refl _) (fun h => absurd rfl h) (fun x hx => by cases hx) (fun i x j v hx => by simp at hx) (fun i x j v hx => by simp at hx)
  | slc g off len sz cells xs hg hH hle hl hsz U hU _ ih =>
    intro c hc
    cases hc with
    | slc _ _ _ cap a hA hcl hcap =>
      obtain ⟨cc, el, lo, hi, q1, q2, q3, q4, q5, q6⟩ := s.obj g _ hH
      have hKb : Kof ρ H0 w (ρ g).block = some (.cells cc el (lo, hi)) := by
        refine zm.2 ⟨fun x hx e => ?_, q1⟩
        obtain ⟨o', ho'⟩ := Option.isSome_iff_exists.1 hx
        obtain ⟨h1, h2⟩ := h0 x o' ho'
        have := s.inj x g (by rw [h2]; rfl) (by rw [hH]; rfl) e
        subst this
        exact h1 hg
      have hex : ∀ (i : Nat) (x : List AV) (j : Nat) (v : AV), xs[i]? = some x → x[j]? = some v → ∃ cv, cc[(ρ g).base + (off + i * sz + j)]? = some cv ∧ VRel (Kof ρ H w) ρ A (U i j) cv := fun i x j v hx hv => q6 _ _ (hU i x j v hx hv)
      refine .ro xs a len cap sz (ρ g).block ((ρ g).base + off) (fun i j => (cc[(ρ g).base + (off + i * sz + j)]?).getD undef) hl.symm hcl (fun hne => ?_) hsz (fun i x j v hx hv => ?_) (fun i x j v hx hv => ?_)
      · have hpos : 0 < xs.length := List.length_pos_iff.2 hne
        exact (hcap (by omega)).2
      · obtain ⟨cv, h1, h2⟩ := hex i x j v hx hv
        unfold zfj
        rw [hKb]
        simp only [h1, Option.getD_some]
        rw [← h1]; congr 1; omega
      · obtain ⟨cv, h1, h2⟩ := hex i x j v hx hv
        rw [h1]
        exact ih i x j v hx hv cv h2
  | agg xs ys hl _ ih =>
    intro c hc
    cases hc with
    | agg _ cs h1 h2 =>
    exact .agg ys cs (by omega) fun j v c hv hc => by
        have hlt := (List.getElem?_eq_some_iff.1 hv).1
        have hx : xs[j]? = some (xs[j]'(by omega)) := List.getElem?_eq_getElem (by omega)
        exact ih j _ v hx hv c (h2 j _ c hx hc)
theorem za.freeze {P : Program} {f : FuncId} {args : List AV} {H : Heap} {nx : Nat} {Q R : AV → Heap → Nat → Prop} (h : za P f args H nx Q)
    (hq : ∀ v H' nx', Q v H' nx' → ∃ (r : AV) (H0 : Heap) (G : Nat → Prop), R r H0 nx' ∧ FrzP H' G v r ∧ (∀ g o, H0 g = some o → ¬ G g ∧ H' g = some o)) : za P f args H nx R := by
  intro ρ w cargs s ha
  refine zi (h ρ w cargs s ha) fun cv w' ⟨v, H', nx', ρ', q1, q2, q3, q4⟩ => ?_
  obtain ⟨r, H0, G, hR, hF, h0⟩ := hq v H' nx' q1
  obtain ⟨s0, f0⟩ := q2.drop (H' := H0) fun g o ho => (h0 g o ho).2
  exact ⟨r, H0, nx', ρ', hR, s0, hF.rel q2 h0 cv q3, q4.trans f0⟩
theorem FrzP.row {H : Heap} {G : Nat → Prop} {g sz len : Nat} {cells : List AV} {xs : List (List AV)} (hg : G g) (hH : H g = some (.row sz cells)) (hl : xs.length = len) (hs : ∀ x ∈ xs, x.length = sz) (hc : ∀ (i : Nat) (x : List AV) (j : Nat) (v : AV), xs[i]? = some x → x[j]? = some v → ∃ u, cells[i * sz + j]? = some u ∧ FrzP H G u v) (hle : len * sz ≤ cells.length) : FrzP H G (.slc g 0 len) (.ro xs) := by
  refine .slc g 0 len sz cells xs hg hH (by omega) hl hs (fun i j => (cells[i * sz + j]?).getD .junk) (fun i x j v hx hv => ?_) fun i x j v hx hv => ?_
  · obtain ⟨u, h1, h2⟩ := hc i x j v hx hv
    rw [Nat.zero_add, h1]; rfl
  · obtain ⟨u, h1, h2⟩ := hc i x j v hx hv
    rw [h1]; exact h2
end Go.Proofs.YtpbnaaoilgohkaaGreatDoor
set_option maxRecDepth 8000
namespace Go.Proofs.YtpbnaaoilgohkaaGreatDoor
open Go Go.RowKit
@[simp] theorem zanb : AV.zs.cells = [AV.zs] := rfl
@[simp] theorem zanf : AV.zs.sure = true := rfl
@[simp] theorem zaov : AV.zs.one = true := rfl
@[simp ↓] theorem zun {esz bytes nx : Nat} {x : AV} {H : Heap} {kt : Kt} : zt esz bytes .zs x H nx kt = OPTK (ze esz H x) fun p => p.2.1.all AV.one = true ∧
    (p.1 = 0 → kt .zs p.2.2 [] []) ∧ (p.1 ≠ 0 → p.1 * bytes ≤ 140737488355328 ∧ kt (.slc nx 0 p.1) p.2.2 [nx] [(nx, some (.row esz p.2.1))]) := by
  simp only [zt, OPTK]
  cases hs : ze esz H x with
  | none => simp
  | some p => obtain ⟨m, news, rd⟩ := p; simp
def Slot (H : Heap) (sz k : Nat) (cells : List AV) (a : AV) : Prop := (k = 0 ∧ (a = .nils ∨ a = .zs)) ∨ ∃ g cs, a = .slc g 0 k ∧ H g = some (.row sz cs) ∧ cs.take (k * sz) = cells ∧ k * sz ≤ cs.length
def own : AV → List Nat
  | .slc g _ _ => [g]
  | _ => []
theorem Slot.keep {H H' : Heap} {sz k : Nat} {cells : List AV} {a : AV} (h : Slot H sz k cells a) (hk : ∀ g ∈ own a, H' g = H g) : Slot H' sz k cells a := by
  rcases h with h | ⟨g, cs, rfl, h1, h2, h3⟩
  · exact .inl h
  · exact .inr ⟨g, cs, rfl, by rw [hk g (by simp [own])]; exact h1, h2, h3⟩
theorem Slot.len {H : Heap} {sz k : Nat} {cells : List AV} {a : AV} (h : Slot H sz k cells a) {q : AV → Prop} : LNL a q = q (.int .i64 k) := by
  rcases h with ⟨rfl, rfl | rfl⟩ | ⟨g, cs, rfl, _⟩ <;> simp
theorem Slot.cut {H : Heap} {sz k j : Nat} {cells : List AV} {g off : Nat} (h : Slot H sz k cells (.slc g off k)) (hj : j ≤ k) : Slot H sz j (cells.take (j * sz)) (.slc g off j) := by
  rcases h with ⟨_, h | h⟩ | ⟨g', cs, h0, h1, h2, h3⟩
  · cases h
  · cases h
  · cases h0
    have : j * sz ≤ k * sz := Nat.mul_le_mul_right _ hj
    exact .inr ⟨g, cs, rfl, h1, by rw [← h2, List.take_take, Nat.min_eq_left this], by omega⟩
theorem Slot.src {H : Heap} {sz k : Nat} {cells : List AV} {a : AV} (h : Slot H sz k cells a) (h0 : k = 0 → cells = []) : ∃ rd, ze sz H a = some (k, cells, rd) := by
  rcases h with ⟨rfl, rfl | rfl⟩ | ⟨g, cs, rfl, h1, h2, h3⟩
  · exact ⟨[], by rw [h0 rfl]; rfl⟩
  · exact ⟨[], by rw [h0 rfl]; rfl⟩
  · refine ⟨[g], ?_⟩
    simp only [ze, h1, Nat.zero_add, List.drop_zero]
    rw [if_pos h3, h2]
theorem Slot.append {H : Heap} {sz k bytes t nx : Nat} {cells new : List AV} {a : AV} {kt : Kt} (hg : Slot H sz k cells a) (hlen : cells.length = k * sz) (ht : H t = some (.row sz new)) (hnl : new.length = sz) (hone : new.all AV.one = true)
    (hb : (k + 1) * bytes ≤ 140737488355328) (hk : ∀ rd D, (∀ g ∈ domD D, g ∈ own a ∨ g = nx) → (H.apply D) nx = some (.row sz (cells ++ new)) → (∀ g, g ∉ own a → g ≠ nx → (H.apply D) g = H g) → kt (.slc nx 0 (k + 1)) rd [nx] D) : zt sz bytes a (.slc t 0 1) H nx kt := by
  have hs : ze sz H (.slc t 0 1) = some (1, new, [t]) := by
    simp only [ze, ht]
    rw [if_pos (by omega)]
    simp [← hnl]
  rcases hg with ⟨rfl, rfl | rfl⟩ | ⟨g, cs, rfl, h1, h2, h3⟩
  · rw [zlp, hs, optk]
    have hc : cells = [] := List.eq_nil_of_length_eq_zero (by omega)
    subst hc
    refine ⟨hone, fun h => absurd h Nat.one_ne_zero, fun _ => ?_⟩
    exact ⟨by simpa using hb, hk _ _ (by simp) (by simp only [zak, zat, Heap.put_at]; rfl) (fun x _ hx => by simp only [zak, zat]; exact Heap.put_ne _ _ hx)⟩
  · rw [zun, hs, optk]
    have hc : cells = [] := List.eq_nil_of_length_eq_zero (by omega)
    subst hc
    refine ⟨hone, fun h => absurd h Nat.one_ne_zero, fun _ => ?_⟩
    exact ⟨by simpa using hb, hk _ _ (by simp) (by simp only [zak, zat, Heap.put_at]; rfl) (fun x _ hx => by simp only [zak, zat]; exact Heap.put_ne _ _ hx)⟩
  · rw [ziw, hs, optk, h1, rowk]
    refine ⟨rfl, hone, by omega, hb, hk _ _ (by simp [own]) ?_ (fun x hx1 hx => ?_)⟩
    · simp only [zak, zat]; rw [Heap.put_at, List.drop_zero, h2]
    · simp only [zak, zat]; rw [Heap.put_ne _ _ hx, Heap.put_ne _ _ (by simpa [own] using hx1)]
theorem Slot.app {H : Heap} {sz k bytes t nx : Nat} {cells new : List AV} {a : AV} {kk : AV → Heap → Nat → Prop} (hg : Slot H sz k cells a) (hlen : cells.length = k * sz) (ht : H t = some (.row sz new)) (hnl : new.length = sz) (hone : new.all AV.one = true)
    (hb : (k + 1) * bytes ≤ 140737488355328) (hk : ∀ H', H' nx = some (.row sz (cells ++ new)) → (∀ g, g ∉ own a → g ≠ nx → H' g = H g) → kk (.slc nx 0 (k + 1)) H' (nx + 1)) : APP sz bytes a (.slc t 0 1) H nx kk := by
  have := hg.append (bytes := bytes) (t := t) (nx := nx) (new := new) (kt := fun v _ fr D => kk v (H.apply D) (nx + fr.length)) hlen ht hnl hone hb fun rd D _ h1 h2 => hk _ h1 h2
  exact this
def frow : List Frm → List (AV × AV) → List AV
  | f :: fs, s :: ss => .int .i64 f.fn :: .int .i64 f.at_ :: s.1 :: s.2 :: frow fs ss
  | _, _ => []
theorem zju : ∀ {fs : List Frm} {ss : List (AV × AV)}, ss.length = fs.length → (frow fs ss).length = fs.length * 4
  | [], [], _ => rfl
  | f :: fs, s :: ss, h => by simp [frow, zju (fs := fs) (ss := ss) (by simpa using h)]; omega
  | [], s :: ss, h => by simp at h
  | f :: fs, [], h => by simp at h
theorem ztx : ∀ {fs : List Frm} {ss : List (AV × AV)} {f : Frm} {s : AV × AV}, ss.length = fs.length → frow (fs ++ [f]) (ss ++ [s]) = frow fs ss ++ [.int .i64 f.fn, .int .i64 f.at_, s.1, s.2]
  | [], [], f, s, _ => rfl
  | g :: fs, t :: ss, f, s, h => by simp [frow, ztx (fs := fs) (ss := ss) (f := f) (s := s) (by simpa using h)]
  | [], s :: ss, _, _, h => by simp at h
  | f :: fs, [], _, _, h => by simp at h
def owns (ss : List (AV × AV)) : List Nat := ss.flatMap fun s => own s.1 ++ own s.2
def Spt.avs (s : Spt) : List AV := [.str s.name, .ro (s.facts.map fun x => .str x.key :: x.val.avs), .int .i64 s.fuel, .int .i64 s.cells]
def Evt.avs (e : Evt) : List AV := [.int .i64 e.kind, .str e.text, .int .i64 e.err]
def zvx (id trip : Int) (p : Prg) (fa ha : AV) (m : Pmt) (gs : Nat) (e : Evt) : List AV :=
  [.int .i64 id, .int .i64 trip, .ro (p.codes.map Cod.avs), .ro (p.words.map fun w => [.str w]), fa, ha, .int .i64 m.fuel, .int .i64 m.room, .int .i64 m.hops, .ptr gs 0, .int .i64 e.kind, .str e.text, .int .i64 e.err]
def zw (H : Heap) (fs : List Frm) (ss : List (AV × AV)) : Prop := ss.length = fs.length ∧ ∀ (k : Nat) (f : Frm) (s : AV × AV), fs[k]? = some f → ss[k]? = some s → Slot H 3 f.vars.length (rowV f.vars) s.1 ∧ Slot H 3 f.stack.length (rowV f.stack) s.2
theorem zw.keep {H H' : Heap} {fs : List Frm} {ss : List (AV × AV)} (h : zw H fs ss) (hk : ∀ g ∈ owns ss, H' g = H g) : zw H' fs ss := by
  refine ⟨h.1, fun k f s hf hs => ?_⟩
  obtain ⟨a, b⟩ := h.2 k f s hf hs
  have hm := List.mem_of_getElem? hs
  exact ⟨a.keep fun g hg => hk g (List.mem_flatMap.2 ⟨s, hm, List.mem_append_left _ hg⟩), b.keep fun g hg => hk g (List.mem_flatMap.2 ⟨s, hm, List.mem_append_right _ hg⟩)⟩
theorem zw.snoc {H : Heap} {fs : List Frm} {ss : List (AV × AV)} {f : Frm} {s : AV × AV} (h : zw H fs ss) (h1 : Slot H 3 f.vars.length (rowV f.vars) s.1) (h2 : Slot H 3 f.stack.length (rowV f.stack) s.2) : zw H (fs ++ [f]) (ss ++ [s]) := by
  refine ⟨by simp [h.1], fun k f' s' hf hs => ?_⟩
  by_cases hk : k < fs.length
  · rw [List.getElem?_append_left hk] at hf
    rw [List.getElem?_append_left (by rw [h.1]; exact hk)] at hs
    exact h.2 k f' s' hf hs
  · have hk' : k = fs.length := by have := (List.getElem?_eq_some_iff.1 hf).1; simp at this; omega
    subst hk'
    rw [List.getElem?_append_right (Nat.le_refl _)] at hf
    rw [List.getElem?_append_right (by rw [h.1]; exact Nat.le_refl _), h.1] at hs
    simp at hf hs
    subst hf; subst hs
    exact ⟨h1, h2⟩
theorem zw.last {H : Heap} {fs : List Frm} {ss : List (AV × AV)} {f : Frm} {s : AV × AV} (h : zw H (fs ++ [f]) (ss ++ [s])) : zw H fs ss ∧ Slot H 3 f.vars.length (rowV f.vars) s.1 ∧ Slot H 3 f.stack.length (rowV f.stack) s.2 := by
  have hl : ss.length = fs.length := by simpa using h.1
  refine ⟨⟨hl, fun k f' s' hf hs => ?_⟩, h.2 fs.length f s (by simp) (by rw [← hl]; simp)⟩
  have h1 := (List.getElem?_eq_some_iff.1 hf).1
  exact h.2 k f' s' (by rw [List.getElem?_append_left h1]; exact hf) (by rw [List.getElem?_append_left (by omega)]; exact hs)
structure RL (H0 H : Heap) (lo n gr gs gf : Nat) (id trip : Int) (p : Prg) (s : Spt) (fs : List Frm) (ss : List (AV × AV)) (f : Frm) (va sa : AV) (h : List Cl) (ha : AV) (m : Pmt) (e : Evt) : Prop where
  run : H gr = some (.row 13 (zvx id trip p (.slc gf 0 (fs.length + 1)) ha m gs e))
  fr : ∃ cs, H gf = some (.row 4 cs) ∧ cs.take ((fs.length + 1) * 4) = frow fs ss ++ [.int .i64 f.fn, .int .i64 f.at_, va, sa] ∧ (fs.length + 1) * 4 ≤ cs.length
  frs : zw H fs ss
  sv : Slot H 3 f.vars.length (rowV f.vars) va
  st : Slot H 3 f.stack.length (rowV f.stack) sa
  hp : Slot H 6 h.length (rowC h) ha
  spot : H gs = some (.row 4 s.avs)
  nd : (gr :: gs :: gf :: (own ha ++ (owns ss ++ (own va ++ own sa)))).Nodup
  gsn : gs < n
  bd : ∀ g ∈ gr :: gf :: (own ha ++ (owns ss ++ (own va ++ own sa))), lo ≤ g ∧ g < n
  keep : Keep lo H H0
  le : lo ≤ n
end Go.Proofs.YtpbnaaoilgohkaaGreatDoor
set_option maxRecDepth 8000
namespace Go.Proofs.YtpbnaaoilgohkaaGreatDoor
open Go Go.RowKit
structure zahj (n gr gs gf : Nat) (ha : AV) (ss : List (AV × AV)) (va sa : AV) : Prop where
  rs : gr ≠ gs
  rf : gr ≠ gf
  sf : gs ≠ gf
  r : gr < n
  s : gs < n
  f : gf < n
  h : ∀ g ∈ own ha, g < n ∧ g ≠ gr ∧ g ≠ gs ∧ g ≠ gf ∧ g ∉ owns ss ∧ g ∉ own va ∧ g ∉ own sa
  w : ∀ g ∈ owns ss, g < n ∧ g ≠ gr ∧ g ≠ gs ∧ g ≠ gf ∧ g ∉ own ha ∧ g ∉ own va ∧ g ∉ own sa
  v : ∀ g ∈ own va, g < n ∧ g ≠ gr ∧ g ≠ gs ∧ g ≠ gf ∧ g ∉ own ha ∧ g ∉ owns ss ∧ g ∉ own sa
  t : ∀ g ∈ own sa, g < n ∧ g ≠ gr ∧ g ≠ gs ∧ g ≠ gf ∧ g ∉ own ha ∧ g ∉ owns ss ∧ g ∉ own va
theorem zadx {lo n gr gs gf : Nat} {ha va sa : AV} {ss : List (AV × AV)} (nd : (gr :: gs :: gf :: (own ha ++ (owns ss ++ (own va ++ own sa)))).Nodup) (gsn : gs < n) (bd : ∀ g ∈ gr :: gf :: (own ha ++ (owns ss ++ (own va ++ own sa))), lo ≤ g ∧ g < n) : zahj n gr gs gf ha ss va sa := by
  simp only [List.nodup_cons, List.nodup_append, List.mem_cons, List.mem_append, not_or] at nd
  simp only [List.mem_cons, List.mem_append] at bd
  obtain ⟨⟨a1, a2, a3, a4, a5, a6⟩, ⟨b1, b2, b3, b4, b5⟩, ⟨c1, c2, c3, c4⟩, n1, ⟨n2, ⟨n3, n4, n5⟩, n6⟩, n7⟩ := nd
  refine ⟨a1, a2, b1, (bd gr (by simp)).2, gsn, (bd gf (by simp)).2, fun g hg => ⟨(bd g (by simp [hg])).2, fun e => a3 (e ▸ hg), fun e => b2 (e ▸ hg), fun e => c1 (e ▸ hg), fun h => n7 g hg g (.inl h) rfl, fun h => n7 g hg g (.inr (.inl h)) rfl, fun h => n7 g hg g (.inr (.inr h)) rfl⟩,
    fun g hg => ⟨(bd g (by simp [hg])).2, fun e => a4 (e ▸ hg), fun e => b3 (e ▸ hg), fun e => c2 (e ▸ hg), fun h => n7 g h g (.inl hg) rfl, fun h => n6 g hg g (.inl h) rfl, fun h => n6 g hg g (.inr h) rfl⟩,
    fun g hg => ⟨(bd g (by simp [hg])).2, fun e => a5 (e ▸ hg), fun e => b4 (e ▸ hg), fun e => c3 (e ▸ hg), fun h => n7 g h g (.inr (.inl hg)) rfl, fun h => n6 g h g (.inl hg) rfl, fun h => n5 g hg g h rfl⟩,
    fun g hg => ⟨(bd g (by simp [hg])).2, fun e => a6 (e ▸ hg), fun e => b5 (e ▸ hg), fun e => c4 (e ▸ hg), fun h => n7 g h g (.inr (.inr hg)) rfl, fun h => n6 g h g (.inr hg) rfl, fun h => n5 g h g hg rfl⟩⟩
theorem zaco (a : AV) : (own a).Nodup := by cases a <;> simp [own]
section
variable {H0 H : Heap} {lo n gr gs gf : Nat} {id trip : Int} {p : Prg} {s : Spt} {fs : List Frm} {ss : List (AV × AV)} {f : Frm} {va sa : AV} {h : List Cl} {ha : AV} {m : Pmt} {e : Evt}
theorem RL.apart (st : RL H0 H lo n gr gs gf id trip p s fs ss f va sa h ha m e) : zahj n gr gs gf ha ss va sa := zadx st.nd st.gsn st.bd
theorem RL.upd (st : RL H0 H lo n gr gs gf id trip p s fs ss f va sa h ha m e) {H' : Heap} {n' : Nat} {f' : Frm} {va' sa' : AV} {h' : List Cl} {ha' : AV} {m' : Pmt} {e' : Evt} (hn : n ≤ n')
    (run' : H' gr = some (.row 13 (zvx id trip p (.slc gf 0 (fs.length + 1)) ha' m' gs e'))) (fr' : ∃ cs, H' gf = some (.row 4 cs) ∧ cs.take ((fs.length + 1) * 4) = frow fs ss ++ [.int .i64 f'.fn, .int .i64 f'.at_, va', sa'] ∧ (fs.length + 1) * 4 ≤ cs.length)
    (sv' : Slot H' 3 f'.vars.length (rowV f'.vars) va') (st' : Slot H' 3 f'.stack.length (rowV f'.stack) sa') (hp' : Slot H' 6 h'.length (rowC h') ha')
    (hk : ∀ g, g < n → g ≠ gr → g ≠ gf → g ∉ own ha → g ∉ own va → g ∉ own sa → H' g = H g)
    (oh : ∀ g ∈ own ha', g ∈ own ha ∨ (n ≤ g ∧ g < n')) (ov : ∀ g ∈ own va', g ∈ own va ∨ (n ≤ g ∧ g < n')) (ot : ∀ g ∈ own sa', g ∈ own sa ∨ (n ≤ g ∧ g < n'))
    (nd3 : (own ha' ++ (own va' ++ own sa')).Nodup) : RL H0 H' lo n' gr gs gf id trip p s fs ss f' va' sa' h' ha' m' e' := by
  have ap := st.apart
  have b := st.bd
  simp only [List.mem_cons, List.mem_append] at b
  refine ⟨run', fr', st.frs.keep fun g hg => ?_, sv', st', hp', by rw [hk gs ap.s ap.rs.symm ap.sf (fun h => (ap.h _ h).2.2.1 rfl) (fun h => (ap.v _ h).2.2.1 rfl) (fun h => (ap.t _ h).2.2.1 rfl)]; exact st.spot, ?_, by have := st.gsn; omega, ?_, ?_, by have := st.le; omega⟩
  · obtain ⟨w1, w2, w3, w4, w5, w6, w7⟩ := ap.w g hg
    exact hk g w1 w2 w4 w5 w6 w7
  · have mh : ∀ g ∈ own ha', g ≠ gr ∧ g ≠ gs ∧ g ≠ gf ∧ g ∉ owns ss := fun g hg => by
      rcases oh g hg with h | h
      · obtain ⟨w1, w2, w3, w4, w5, w6, w7⟩ := ap.h g h; exact ⟨w2, w3, w4, w5⟩
      · have := ap.r; have := ap.s; have := ap.f
        exact ⟨by omega, by omega, by omega, fun hx => by have := (ap.w g hx).1; omega⟩
    have mv : ∀ g ∈ own va', g ≠ gr ∧ g ≠ gs ∧ g ≠ gf ∧ g ∉ owns ss := fun g hg => by
      rcases ov g hg with h | h
      · obtain ⟨w1, w2, w3, w4, w5, w6, w7⟩ := ap.v g h; exact ⟨w2, w3, w4, w6⟩
      · have := ap.r; have := ap.s; have := ap.f
        exact ⟨by omega, by omega, by omega, fun hx => by have := (ap.w g hx).1; omega⟩
    have mt : ∀ g ∈ own sa', g ≠ gr ∧ g ≠ gs ∧ g ≠ gf ∧ g ∉ owns ss := fun g hg => by
      rcases ot g hg with h | h
      · obtain ⟨w1, w2, w3, w4, w5, w6, w7⟩ := ap.t g h; exact ⟨w2, w3, w4, w6⟩
      · have := ap.r; have := ap.s; have := ap.f
        exact ⟨by omega, by omega, by omega, fun hx => by have := (ap.w g hx).1; omega⟩
    have ndw : (owns ss).Nodup := by
      have := st.nd
      simp only [List.nodup_cons, List.nodup_append] at this
      exact this.2.2.2.2.1.1
    simp only [List.nodup_append] at nd3
    obtain ⟨z1, ⟨z2, z3, z4⟩, z5⟩ := nd3
    simp only [List.nodup_cons, List.nodup_append, List.mem_cons, List.mem_append, not_or]
    refine ⟨⟨ap.rs, ap.rf, fun h => (mh _ h).1 rfl, fun h => (ap.w _ h).2.1 rfl, fun h => (mv _ h).1 rfl, fun h => (mt _ h).1 rfl⟩, ⟨ap.sf, fun h => (mh _ h).2.1 rfl, fun h => (ap.w _ h).2.2.1 rfl, fun h => (mv _ h).2.1 rfl, fun h => (mt _ h).2.1 rfl⟩, ⟨fun h => (mh _ h).2.2.1 rfl, fun h => (ap.w _ h).2.2.2.1 rfl, fun h => (mv _ h).2.2.1 rfl, fun h => (mt _ h).2.2.1 rfl⟩, z1, ⟨ndw, ⟨z2, z3, z4⟩, ?_⟩, ?_⟩
    · rintro x hx y (hy | hy) rfl
      · exact (mv _ hy).2.2.2 hx
      · exact (mt _ hy).2.2.2 hx
    · rintro x hx y (hy | hy | hy) rfl
      · exact (mh _ hx).2.2.2 hy
      · exact z5 _ hx _ (List.mem_append_left _ hy) rfl
      · exact z5 _ hx _ (List.mem_append_right _ hy) rfl
  · intro g hg
    have hl := st.le
    simp only [List.mem_cons, List.mem_append] at hg
    have old : (lo ≤ g ∧ g < n) → lo ≤ g ∧ g < n' := fun h => by omega
    have new : (n ≤ g ∧ g < n') → lo ≤ g ∧ g < n' := fun h => by omega
    rcases hg with hg | hg | hg | hg | hg | hg
    · exact old (b g (.inl hg))
    · exact old (b g (.inr (.inl hg)))
    · rcases oh g hg with h | h
      · exact old (b g (.inr (.inr (.inl h))))
      · exact new h
    · exact old (b g (.inr (.inr (.inr (.inl hg)))))
    · rcases ov g hg with h | h
      · exact old (b g (.inr (.inr (.inr (.inr (.inl h))))))
      · exact new h
    · rcases ot g hg with h | h
      · exact old (b g (.inr (.inr (.inr (.inr (.inr h))))))
      · exact new h
  · intro g hg
    have lb : ∀ x, (x = gr ∨ x = gf ∨ x ∈ own ha ∨ x ∈ owns ss ∨ x ∈ own va ∨ x ∈ own sa) → lo ≤ x := fun x hx => (b x hx).1
    have hl := st.le
    rw [hk g (by omega) (fun e => by have := lb gr (.inl rfl); omega) (fun e => by have := lb gf (.inr (.inl rfl)); omega) (fun h => by have := lb g (.inr (.inr (.inl h))); omega) (fun h => by have := lb g (.inr (.inr (.inr (.inr (.inl h))))); omega) (fun h => by have := lb g (.inr (.inr (.inr (.inr (.inr h))))); omega)]
    exact st.keep g hg
theorem RL.nd3 (st : RL H0 H lo n gr gs gf id trip p s fs ss f va sa h ha m e) : (own ha ++ (own va ++ own sa)).Nodup := by
  have := st.nd
  simp only [List.nodup_cons, List.nodup_append, List.mem_append] at this
  obtain ⟨_, _, _, n1, ⟨n2, ⟨n3, n4, n5⟩, n6⟩, n7⟩ := this
  simp only [List.nodup_append, List.mem_append]
  exact ⟨n1, ⟨n3, n4, n5⟩, fun a ha b hb => n7 a ha b (.inr hb)⟩
theorem RL.more (st : RL H0 H lo n gr gs gf id trip p s fs ss f va sa h ha m e) {H' : Heap} {n' : Nat} (hn : n ≤ n') (hk : ∀ g, g < n → H' g = H g) : RL H0 H' lo n' gr gs gf id trip p s fs ss f va sa h ha m e := by
  have ap := st.apart
  obtain ⟨cs, c1, c2⟩ := st.fr
  exact st.upd hn (by rw [hk _ ap.r]; exact st.run) ⟨cs, by rw [hk _ ap.f]; exact c1, c2⟩ (st.sv.keep fun g hg => hk g (ap.v g hg).1) (st.st.keep fun g hg => hk g (ap.t g hg).1) (st.hp.keep fun g hg => hk g (ap.h g hg).1) (fun g hg _ _ _ _ _ => hk g hg) (fun g hg => .inl hg) (fun g hg => .inl hg) (fun g hg => .inl hg) st.nd3
end
end Go.Proofs.YtpbnaaoilgohkaaGreatDoor
set_option maxRecDepth 8000
namespace Go.Proofs.YtpbnaaoilgohkaaGreatDoor
open Go Go.RowKit
theorem zadw {D : zl} : ∀ {H H' : Heap} {g : Nat}, g ∈ domD D → (H.apply D) g = (H'.apply D) g := by
  induction D with
  | nil => intro H H' g hg; simp at hg
  | cons d r ih =>
    obtain ⟨g', o⟩ := d
    intro H H' g hg
    show ((H.put g' o).apply r) g = ((H'.put g' o).apply r) g
    by_cases hr : g ∈ domD r
    · exact ih hr
    · rw [zhs hr, zhs hr]
      have : g = g' := by simpa [hr] using hg
      subst this
      rw [Heap.put_at, Heap.put_at]
theorem LC.of_calls {P : Program} {f : FuncId} {args : List AV} {r : AV} {H0 : Heap} {rd : List Nat} {D : zl} (hrd : ∀ g ∈ rd, (H0 g).isSome = true) (hdom : ∀ g ∈ domD D, g ∈ rd) (hr : ∀ A : Nat → Prop, (∀ g ∈ rd, A g) → (∀ g ∈ rd, ∀ o, H0 g = some o → BelO A o) → Bel A r)
    (hb : ∀ A : Nat → Prop, (∀ g ∈ rd, A g) → (∀ g ∈ rd, ∀ o, H0 g = some o → BelO A o) → ∀ g o, g ∈ domD D → (H0.apply D) g = some o → BelO A o)
    (h : ∀ H nx, (∀ g ∈ rd, H g = H0 g ∧ g < nx) → za P f args H nx fun v H' nx' => v = r ∧ nx ≤ nx' ∧ (∀ g, g < nx → g ∉ domD D → H' g = H g) ∧ (∀ g o, g ∈ domD D → (H0.apply D) g = some o → H' g = some o)) : LC P f args H0 rd [] D r := by
  intro A ρ H w cargs ⟨N, hN⟩ s ha hag _
  have sN : Sim (· < N) ρ H w := ⟨fun g o ho => hN g (s.live g o ho), fun g o ho => (s.obj g o ho).mono rfl (fun _ _ h => h) (fun g hg => ⟨rfl, hN g hg⟩), s.inj, s.lay⟩
  have aN : LRel (Kof ρ H w) ρ (· < N) args cargs.toList := ⟨ha.1, fun j v c hv hc => (ha.2 j v c hv hc).mono (fun _ _ h => h) (fun g hg => ⟨rfl, hN g hg⟩)⟩
  have hrdA : ∀ g ∈ rd, A g := fun g hg => by
    obtain ⟨o, ho⟩ := Option.isSome_iff_exists.1 (hrd g hg)
    exact s.live g o ((hag g hg).trans ho)
  have hrdB : ∀ g ∈ rd, ∀ o, H0 g = some o → BelO A o := fun g hg o ho => (s.obj g o ((hag g hg).trans ho)).bel
  refine zi (h H N (fun g hg => ⟨hag g hg, hN g (hrdA g hg)⟩) ρ w cargs sN aN) fun cv w' ⟨v, H', nx', ρ', ⟨hv, hnx, hsame, hchg⟩, q3, q4, q5⟩ => ?_
  subst hv
  have hρ : ∀ g, g < N → ρ' g = ρ g := fun g hg => (q5.agree g hg).1
  have hAe : (fun x => A x ∨ x ∈ ([] : List Nat)) = A := by funext x; simp
  have lv : ∀ g o, (H.apply D) g = some o → A g ∧ H' g = some o ∧ BelO A o := fun g o ho => by
    by_cases hg : g ∈ domD D
    · rw [zadw (H' := H0) hg] at ho
      exact ⟨hrdA g (hdom g hg), hchg g o hg ho, hb A hrdA hrdB g o hg ho⟩
    · rw [zhs hg] at ho
      have hA := s.live g o ho
      exact ⟨hA, by rw [hsame g (hN g hA) hg]; exact ho, (s.obj g o ho).bel⟩
  have hK : ∀ b o, Kof ρ' H' w' b = some o → Kof ρ' (H.apply D) w' b = some o := fun b o hb => by
    obtain ⟨h1, h2⟩ := zm.1 hb
    refine zm.2 ⟨fun g hg => ?_, h2⟩
    obtain ⟨o1, ho1⟩ := Option.isSome_iff_exists.1 hg
    exact h1 g (by rw [(lv g o1 ho1).2.1]; rfl)
  refine ⟨ρ', ?_, ?_, ?_⟩
  · rw [hAe]
    refine ⟨fun g o ho => (lv g o ho).1, fun g o ho => ?_, fun x y hx hy hxy => ?_, q3.lay.mono hK⟩
    · obtain ⟨_, h1, h2⟩ := lv g o ho
      exact ((q3.obj g o h1).restrict h2).mono rfl hK (fun _ h => ⟨rfl, h⟩)
    · obtain ⟨o1, ho1⟩ := Option.isSome_iff_exists.1 hx
      obtain ⟨o2, ho2⟩ := Option.isSome_iff_exists.1 hy
      exact q3.inj x y (by rw [(lv x o1 ho1).2.1]; rfl) (by rw [(lv y o2 ho2).2.1]; rfl) hxy
  · rw [hAe]
    exact (q4.restrict (hr A hrdA hrdB)).mono hK (fun g hg => ⟨rfl, hg⟩)
  · rw [hAe]
    exact ⟨fun g hg => ⟨hρ g (hN g hg), hg⟩, fun b o hb => hK b o (q5.k b o hb), q5.os, q5.tape, q5.output, q5.size⟩
theorem LC.of_callsN {P : Program} {f : FuncId} {args : List AV} {r : AV} {H0 : Heap} {rd : List Nat} {D : zl} {g0 : Nat} (hrd : ∀ g ∈ rd, (H0 g).isSome = true) (hdom : ∀ g ∈ domD D, g ∈ rd ∨ g = g0)
    (h : ∀ A : Nat → Prop, (∀ g ∈ rd, A g) → (∀ g ∈ rd, ∀ o, H0 g = some o → BelO A o) → ∀ H nx, (∀ g ∈ rd, H g = H0 g ∧ g < nx) → za P f args H nx fun v H' nx' => ∃ gn, nx ≤ gn ∧ gn < nx' ∧ Rn A gn g0 v r ∧ (∀ g, g < nx → g ∉ domD D → H' g = H g) ∧
      (∀ g o, g ∈ domD D → g ≠ g0 → (H.apply D) g = some o → ∃ o', H' g = some o' ∧ RnO A gn g0 o' o) ∧ (∃ o o', (H.apply D) g0 = some o ∧ H' gn = some o' ∧ RnO A gn g0 o' o)) : LC P f args H0 rd [g0] D r := by
  intro A ρ H w cargs ⟨N0, hN0⟩ s ha hag hfresh
  obtain ⟨N, hN, hg0N⟩ : ∃ N, (∀ g, A g → g < N) ∧ g0 < N := ⟨max N0 (g0 + 1), fun g hg => by have := hN0 g hg; omega, by omega⟩
  have hg0 : ¬ A g0 := hfresh g0 (by simp)
  have sN : Sim (· < N) ρ H w := ⟨fun g o ho => hN g (s.live g o ho), fun g o ho => (s.obj g o ho).mono rfl (fun _ _ h => h) (fun g hg => ⟨rfl, hN g hg⟩), s.inj, s.lay⟩
  have aN : LRel (Kof ρ H w) ρ (· < N) args cargs.toList := ⟨ha.1, fun j v c hv hc => (ha.2 j v c hv hc).mono (fun _ _ h => h) (fun g hg => ⟨rfl, hN g hg⟩)⟩
  have hrdA : ∀ g ∈ rd, A g := fun g hg => by
    obtain ⟨o, ho⟩ := Option.isSome_iff_exists.1 (hrd g hg)
    exact s.live g o ((hag g hg).trans ho)
  have hrdB : ∀ g ∈ rd, ∀ o, H0 g = some o → BelO A o := fun g hg o ho => (s.obj g o ((hag g hg).trans ho)).bel
  refine zi (h A hrdA hrdB H N (fun g hg => ⟨hag g hg, hN g (hrdA g hg)⟩) ρ w cargs sN aN) fun cv w' ⟨v, H', nx', ρ', ⟨gn, hgN, hgn, hv, hsame, hchg, onew, onew', hn1, hn2, hn3⟩, q3, q4, q5⟩ => ?_
  have hρ : ∀ g, g < N → ρ' g = ρ g := fun g hg => (q5.agree g hg).1
  let ρ2 : Nat → Loc := fun g => if g = g0 then ρ' gn else ρ' g
  have h20 : ρ2 g0 = ρ' gn := if_pos rfl
  have h2 : ∀ g, g ≠ g0 → ρ2 g = ρ' g := fun g hg => if_neg hg
  have hAne : ∀ g, A g → g ≠ g0 := fun g hg e => hg0 (e ▸ hg)
  have hR : ∀ g, A g → g < nx' → ρ2 g = ρ' g ∧ (A g ∨ g ∈ [g0]) := fun g hg _ => ⟨h2 g (hAne g hg), .inl hg⟩
  have hRA : ∀ g, A g → g < nx' := fun g hg => by have := hN g hg; omega
  have hG : ρ2 g0 = ρ' gn ∧ (A g0 ∨ g0 ∈ [g0]) := ⟨h20, .inr (by simp)⟩
  -- who stands for whom
  have lv : ∀ g o, (H.apply D) g = some o → (A g ∨ g ∈ [g0]) ∧ ∃ g' o', H' g' = some o' ∧ ρ2 g = ρ' g' ∧ (g = g0 → g' = gn) ∧ (g ≠ g0 → g' = g ∧ A g) ∧
      (∀ K, zab K ρ' (· < nx') w' (ρ' g') o' → zab K ρ2 (fun x => A x ∨ x ∈ [g0]) w' (ρ2 g) o) := fun g o ho => by
    by_cases hgg : g = g0
    · subst hgg
      rw [hn1] at ho
      obtain rfl := Option.some.inj ho
      exact ⟨.inr (by simp), gn, onew', hn2, h20, fun _ => rfl, fun h => absurd rfl h, fun K hk => by rw [h20]; exact hk.rn hn3 hR hRA hG⟩
    · by_cases hg : g ∈ domD D
      · obtain ⟨o', h1, h3⟩ := hchg g o hg hgg ho
        have hA : A g := by
          rcases hdom g hg with h | h
          · exact hrdA g h
          · exact absurd h hgg
        exact ⟨.inl hA, g, o', h1, h2 g hgg, fun h => absurd h hgg, fun _ => ⟨rfl, hA⟩, fun K hk => by rw [h2 g hgg]; exact hk.rn h3 hR hRA hG⟩
      · rw [zhs hg] at ho
        have hA := s.live g o ho
        refine ⟨.inl hA, g, o, by rw [hsame g (hN g hA) hg]; exact ho, h2 g hgg, fun h => absurd h hgg, fun _ => ⟨rfl, hA⟩, fun K hk => ?_⟩
        rw [h2 g hgg]
        exact (hk.restrict (s.obj g o ho).bel).mono rfl (fun _ _ h => h) (fun x hx => ⟨h2 x (hAne x hx), .inl hx⟩)
  have hK : ∀ b o, Kof ρ' H' w' b = some o → Kof ρ2 (H.apply D) w' b = some o := fun b o hb => by
    obtain ⟨k1, k2⟩ := zm.1 hb
    refine zm.2 ⟨fun g hg => ?_, k2⟩
    obtain ⟨o1, ho1⟩ := Option.isSome_iff_exists.1 hg
    obtain ⟨_, g', o', e1, e2, _⟩ := lv g o1 ho1
    rw [e2]
    exact k1 g' (by rw [e1]; rfl)
  refine ⟨ρ2, ⟨fun g o ho => (lv g o ho).1, fun g o ho => ?_, fun x y hx hy hxy => ?_, q3.lay.mono hK⟩, ?_, ⟨fun g hg => ⟨(h2 g (hAne g hg)).trans (hρ g (hN g hg)), .inl hg⟩, fun b o hb => hK b o (q5.k b o hb), q5.os, q5.tape, q5.output, q5.size⟩⟩
  · obtain ⟨_, g', o', e1, _, _, _, e4⟩ := lv g o ho
    exact (e4 _ (q3.obj g' o' e1)).mono rfl hK (fun _ h => ⟨rfl, h⟩)
  · obtain ⟨o1, ho1⟩ := Option.isSome_iff_exists.1 hx
    obtain ⟨o2, ho2⟩ := Option.isSome_iff_exists.1 hy
    obtain ⟨_, x', p1, e1, e2, e3, e4, _⟩ := lv x o1 ho1
    obtain ⟨_, y', p2, f1, f2, f3, f4, _⟩ := lv y o2 ho2
    rw [e2, f2] at hxy
    have hxy' := q3.inj x' y' (by rw [e1]; rfl) (by rw [f1]; rfl) hxy
    by_cases hx0 : x = g0
    · by_cases hy0 : y = g0
      · rw [hx0, hy0]
      · have := (f4 hy0).1
        have hAy := hN y (f4 hy0).2
        have := e3 hx0
        omega
    · by_cases hy0 : y = g0
      · have := (e4 hx0).1
        have hAx := hN x (e4 hx0).2
        have := f3 hy0
        omega
      · rw [← (e4 hx0).1, ← (f4 hy0).1]; exact hxy'
  · exact (q4.rn hv hR hRA hG).mono hK (fun g hg => ⟨rfl, hg⟩)
end Go.Proofs.YtpbnaaoilgohkaaGreatDoor
set_option maxRecDepth 8000
namespace Go.Proofs.YtpbnaaoilgohkaaGreatDoor
open Go Go.RowKit
section
variable {ki : IntKind}
@[simp ↓] theorem zaev {s g off len : Nat} {a : Int} {H : Heap} {kt : Kt} : zao s (.slc g off len) none (some (.int ki a)) H kt = ROWK (H g) fun sz _ => sz = s ∧ 0 ≤ a ∧ a ≤ len ∧ kt (.slc g off a.toNat) [g] [] [] := by
  simp only [zao, lohi]
  refine zec (fun sz cs h => ?_) fun h => ?_
  · simp [h]
  · intro ha
    split at ha
    · rename_i sz cs he; exact h _ _ he
    · exact ha
@[simp ↓] theorem zaaj {s g off len : Nat} {a : Int} {H : Heap} {kt : Kt} : zao s (.slc g off len) (some (.int ki a)) none H kt = ROWK (H g) fun sz _ => sz = s ∧ 0 ≤ a ∧ a ≤ len ∧ kt (.slc g (off + a.toNat * s) ((len : Int) - a).toNat) [g] [] [] := by
  simp only [zao, lohi]
  refine zec (fun sz cs h => ?_) fun h => ?_
  · simp [h]
  · intro ha
    split at ha
    · rename_i sz cs he; exact h _ _ he
    · exact ha
end
section
variable {ki : IntKind}
theorem zaig {e g off len mm : Nat} {x : AV} {H : Heap} {cells news : List AV} {rd : List Nat} {kh : AV → Heap → Prop} (hs : ze e H x = some (mm, news, rd)) (hg : H g = some (.row e cells)) (hle : off + len * e ≤ cells.length) (hone : news.all AV.one = true)
    (hk : kh (.int .i64 (min mm len : Nat)) (H.put g (some (.row e (zaf cells off (news.take (min mm len * e))))))) : CP e (.slc g off len) x H kh := by
  unfold CP COPY
  rw [hs]
  simp only [hg]
  exact ⟨trivial, hle, hone, hk⟩
@[simp ↓] theorem zarm {s g off len : Nat} {a : Int} {H : Heap} {k : AV → Prop} : SL s (.slc g off len) (some (.int ki a)) none H k = ROWK (H g) fun sz _ => sz = s ∧ 0 ≤ a ∧ a ≤ len ∧ k (.slc g (off + a.toNat * s) ((len : Int) - a).toNat) := by
  unfold SL
  rw [zaaj]; rfl
@[simp ↓] theorem zarn {s g off len : Nat} {a : Int} {H : Heap} {k : AV → Prop} : SL s (.slc g off len) none (some (.int ki a)) H k = ROWK (H g) fun sz _ => sz = s ∧ 0 ≤ a ∧ a ≤ len ∧ k (.slc g off a.toNat) := by
  unfold SL
  rw [zaev]; rfl
@[simp ↓] theorem zaor {s : Nat} {a : Int} {H : Heap} {k : AV → Prop} : SL s .nils (some (.int ki a)) none H k = (a = 0 ∧ k .nils) := by
  simp [SL, zao, lohi, PURE, qk]
@[simp ↓] theorem zaop {s : Nat} {a : Int} {H : Heap} {k : AV → Prop} : SL s .zs (some (.int ki a)) none H k = (a = 0 ∧ k .zs) := by
  simp [SL, zao, lohi, PURE, qk]
@[simp ↓] theorem zaoq {s : Nat} {a : Int} {H : Heap} {k : AV → Prop} : SL s .zs none (some (.int ki a)) H k = (a = 0 ∧ k .zs) := by
  simp [SL, zao, lohi, PURE, qk]
@[simp ↓] theorem zaos {s : Nat} {a : Int} {H : Heap} {k : AV → Prop} : SL s .nils none (some (.int ki a)) H k = (a = 0 ∧ k .nils) := by
  simp [SL, zao, lohi, PURE, qk]
end
theorem ztu (ss : List (AV × AV)) (t : AV × AV) : owns (ss ++ [t]) = owns ss ++ (own t.1 ++ own t.2) := by simp [owns]
theorem zng (a b : List Val) : rowV (a ++ b) = rowV a ++ rowV b := by simp [rowV]
end Go.Proofs.YtpbnaaoilgohkaaGreatDoor
set_option maxRecDepth 8000
namespace Go.Proofs.YtpbnaaoilgohkaaGreatDoor
namespace VM
def textB (s : Str) : Str := WM.num s.length ++ s
def valB (v : Val) : Str := WM.num v.kind ++ (if v.kind = 1 then textB v.text else WM.num v.n)
def insB (i : Ins) : Str := WM.num i.op ++ WM.num i.a ++ WM.num i.b
def codB (c : Cod) : Str := WM.num c.params ++ WM.num c.vars ++ WM.num c.ins.length ++ c.ins.flatMap insB
def prgB (p : Prg) : Str := WM.num p.words.length ++ p.words.flatMap textB ++ WM.num p.codes.length ++ p.codes.flatMap codB
def valsB (l : List Val) : Str := WM.num l.length ++ l.flatMap valB
def frmB (f : Frm) : Str := WM.num f.fn ++ WM.num f.at_ ++ valsB f.vars ++ valsB f.stack
def clB (c : Cl) : Str := valB c.left ++ valB c.right
def agtB (a : Agt) : Str := WM.num a.id ++ WM.num a.trip ++ WM.num a.permit.fuel ++ WM.num a.permit.room ++ WM.num a.permit.hops ++ prgB a.prog ++ WM.num a.frames.length ++ a.frames.flatMap frmB ++ WM.num a.heap.length ++ a.heap.flatMap clB
def withSum (b : Str) : Str := b ++ WM.num (WM.sum b)
def image (a : Agt) : Str := withSum (agtB (pack a))
inductive R (α : Type) where
  | ok (a : α) (r : Str)
  | no (e : Int)
def Rd (α : Type) : Type := Str → R α
def Rd.pure {α : Type} (a : α) : Rd α := fun b => .ok a b
def Rd.bind {α β : Type} (m : Rd α) (f : α → Rd β) : Rd β := fun b => match m b with
  | .ok a r => f a r
  | .no e => .no e
def rMany {α : Type} (m : Rd α) : Nat → Rd (List α)
  | 0 => .pure []
  | n + 1 => m.bind fun a => (rMany m n).bind fun l => .pure (a :: l)
abbrev St := Str × Int
structure Goes {α : Type} (m : Rd α) (st : St) (a : α) (st' : St) : Prop where
  stuck : st.2 ≠ 0 → st'.2 = st.2
  good : st.2 = 0 → ∀ x r, m st.1 = .ok x r → a = x ∧ st' = (r, 0)
  bad : st.2 = 0 → ∀ e, m st.1 = .no e → e ≠ 0 ∧ st'.2 = e
theorem Goes.pure {α : Type} (a : α) (st : St) : Goes (Rd.pure a) st a st :=
  ⟨fun _ => rfl, fun h x r hr => by cases hr; exact ⟨rfl, Prod.ext rfl h⟩, fun _ e h => by cases h⟩
theorem Goes.bind {α β : Type} {m : Rd α} {k : α → Rd β} {st st1 st2 : St} {a : α} {b : β} (h : Goes m st a st1) (h2 : Goes (k a) st1 b st2) : Goes (m.bind k) st b st2 := by
  refine ⟨fun he => ?_, fun he x r hr => ?_, fun he e hr => ?_⟩
  · have h1 := h.stuck he
    rw [← h1]
    exact h2.stuck (by rw [h1]; exact he)
  · unfold Rd.bind at hr
    split at hr
    · rename_i a' r' hm
      obtain ⟨rfl, rfl⟩ := h.good he _ _ hm
      exact h2.good rfl x r hr
    · cases hr
  · unfold Rd.bind at hr
    split at hr
    · rename_i a' r' hm
      obtain ⟨rfl, rfl⟩ := h.good he _ _ hm
      exact h2.bad rfl e hr
    · rename_i e' hm
      cases hr
      obtain ⟨h1, h3⟩ := h.bad he _ hm
      refine ⟨h1, ?_⟩
      rw [← h3]
      exact h2.stuck (by rw [h3]; exact h1)
theorem Goes.more {α : Type} {m : Rd α} {st st1 st2 : St} {a : α} {l : List α} {n : Nat} (h : Goes m st a st1) (h2 : Goes (rMany m n) st1 l st2) : Goes (rMany m (n + 1)) st (a :: l) st2 :=
  h.bind (h2.bind (Goes.pure _ _))
end VM
end Go.Proofs.YtpbnaaoilgohkaaGreatDoor
set_option maxRecDepth 8000
namespace Go.Proofs.YtpbnaaoilgohkaaGreatDoor
open Go Go.RowKit
@[simp ↓] theorem zaol {ki : IntKind} {n : Int} {k : AV → Prop} : UO .xor (.int ki n) k = k (.int ki (bits .xor ki (if ki.signed then -1 else ki.max) n)) := by
  cases h : ki.signed <;> simp [UO, UN, h, IBIN, zee, PURE, qk] <;> rfl
@[simp ↓ 2000] theorem zaqt {ki : IntKind} {a b : Int} {k : AV → Prop} : BI .or (.int ki a) (.int ki b) k = k (.int ki (bits .or ki a b)) := zakm
@[simp ↓ 2000] theorem zaoi {ki : IntKind} {a b : Int} {k : AV → Prop} : BI .and (.int ki a) (.int ki b) k = k (.int ki (bits .and ki a b)) := zaje
@[simp ↓ 2000] theorem zaoh {ki : IntKind} {a b : Int} {k : AV → Prop} : BI .xor (.int ki a) (.int ki b) k = k (.int ki (bits .xor ki a b)) := zajc
theorem zahl (n : Int) (h0 : -9223372036854775808 ≤ n) (h : n < 0) :
    bits .xor .u64 IntKind.u64.max (IntKind.u64.wrap (IntKind.u64.wrap n * 2)) = ((WM.zig n : Nat) : Int) := by
  have e0 : IntKind.u64.wrap (IntKind.u64.wrap n * 2) = ((2 * n + 18446744073709551616).toNat : Int) := by
    rw [IntKind.wrap_u64, IntKind.wrap_u64]; omega
  rw [e0]
  have hlt : (2 * n + 18446744073709551616).toNat < 18446744073709551616 := by omega
  have hz : WM.zig n = 18446744073709551616 - 1 - (2 * n + 18446744073709551616).toNat := by unfold WM.zig; rw [if_pos h]; omega
  rw [hz]
  generalize (2 * n + 18446744073709551616).toNat = m at *
  have e1 : bits .xor .u64 IntKind.u64.max (m : Int) = IntKind.u64.wrap ((BitVec.ofInt 64 IntKind.u64.max ^^^ BitVec.ofInt 64 (m : Int)).toNat : Int) := rfl
  have e2 : (BitVec.ofInt 64 IntKind.u64.max) = BitVec.allOnes 64 := by decide
  rw [e1, e2, BitVec.ofInt_natCast, BitVec.allOnes_xor, BitVec.toNat_not, BitVec.toNat_ofNat, IntKind.wrap_u64]
  omega
theorem zahk (n : Int) (h0 : n ≤ 9223372036854775807) (h : ¬ n < 0) : IntKind.u64.wrap (IntKind.u64.wrap n * 2) = ((WM.zig n : Nat) : Int) := by
  rw [IntKind.wrap_u64, IntKind.wrap_u64]
  unfold WM.zig; rw [if_neg h]; omega
def bsV (b : Str) : List AV := b.map fun c => .int .u8 (c.toNat : Int)
theorem zzi (a b : Str) : bsV (a ++ b) = bsV a ++ bsV b := by simp [bsV]
theorem zjh (a : Str) : (bsV a).length = a.length := by simp [bsV]
theorem zzh (a : Str) : (bsV a).all AV.one = true := by simp [bsV]
theorem zadr {m : Nat} (h : m < 256) : bsV [UInt8.ofNat m] = [.int .u8 (m : Int)] := by
  simp [bsV, UInt8.toNat_ofNat']; omega
theorem Slot.full {H : Heap} {g sz k : Nat} {cs : List AV} (h : H g = some (.row sz cs)) (hl : cs.length = k * sz) : Slot H sz k cs (.slc g 0 k) :=
  .inr ⟨g, cs, rfl, h, by rw [← hl, List.take_length], by omega⟩
structure BExt (H : Heap) (n : Nat) (l : AV) (H' : Heap) (n' : Nat) (l' : AV) (bs : Str) : Prop where
  le : n ≤ n'
  slot : Slot H' 1 bs.length (bsV bs) l'
  ow : ∀ y ∈ own l', y ∈ own l ∨ (n ≤ y ∧ y < n')
  keep : ∀ y, y < n → y ∉ own l → H' y = H y
theorem BExt.refl {H : Heap} {n : Nat} {l : AV} {bs : Str} (h : Slot H 1 bs.length (bsV bs) l) : BExt H n l H n l bs := ⟨Nat.le_refl _, h, fun _ hy => .inl hy, fun _ _ _ => rfl⟩
theorem BExt.trans {H H' H2 : Heap} {n n' n2 : Nat} {l l' l2 : AV} {bs bs2 : Str} (h : BExt H n l H' n' l' bs) (k : BExt H' n' l' H2 n2 l2 bs2) : BExt H n l H2 n2 l2 bs2 :=
  ⟨Nat.le_trans h.le k.le, k.slot, fun y hy => by
    rcases k.ow y hy with h1 | h1
    · rcases h.ow y h1 with h2 | h2
      · exact .inl h2
      · exact .inr ⟨h2.1, by have := k.le; omega⟩
    · exact .inr ⟨by have := h.le; omega, h1.2⟩, fun y hy hn => by
    rw [k.keep y (by have := h.le; omega) fun h1 => ?_, h.keep y hy hn]
    rcases h.ow y h1 with h2 | h2
    · exact hn h2
    · omega⟩
theorem BExt.byte {H H1 : Heap} {n n1 : Nat} {l l1 : AV} {bs : Str} {m : Nat} (h : BExt H n l H1 n1 l1 bs) (hm : m < 256) (hl : ∀ y ∈ own l, y < n) (hb : bs.length + 1 ≤ 140737488355328) {kk : AV → Heap → Nat → Prop}
    (hk : ∀ H', BExt H n l H' (n1 + 2) (.slc (n1 + 1) 0 (bs.length + 1)) (bs ++ [UInt8.ofNat m]) → H' (n1 + 1) = some (.row 1 (bsV (bs ++ [UInt8.ofNat m]))) → kk (.slc (n1 + 1) 0 (bs.length + 1)) H' (n1 + 2)) : APP 1 1 l1 (.slc n1 0 1) (H1.put n1 (some (.row 1 [.int .u8 (m : Int)]))) (n1 + 1) kk := by
  have hlt : ∀ y ∈ own l1, y < n1 := fun y hy => by
    have := h.le
    rcases h.ow y hy with h1 | h1
    · have := hl y h1; omega
    · omega
  have s1 : Slot (H1.put n1 (some (.row 1 [.int .u8 (m : Int)]))) 1 bs.length (bsV bs) l1 := h.slot.keep fun g hg => Heap.put_ne _ _ (by have := hlt g hg; omega)
  refine s1.app (new := bsV [UInt8.ofNat m]) (by simp [zjh]) (by rw [Heap.put_at, zadr hm]) (by simp [bsV]) (zzh _) (by omega) fun H' h1 h2 => ?_
  rw [← zzi] at h1
  refine hk H' ⟨by have := h.le; omega, ?_, fun y hy => ?_, fun y hy hn => ?_⟩ h1
  · have := Slot.full (k := (bs ++ [UInt8.ofNat m]).length) h1 (by rw [zjh]; omega)
    simpa using this
  · have e : y = n1 + 1 := by simpa [own] using hy
    have := h.le
    exact .inr ⟨by omega, by omega⟩
  · have h3 := h.le
    rw [h2 y (fun h4 => ?_) (by omega), Heap.put_ne _ _ (by omega), h.keep y hy hn]
    rcases h.ow y h4 with h5 | h5
    · exact hn h5
    · omega
structure BNew (H : Heap) (n : Nat) (l : AV) (H' : Heap) (n' g : Nat) (bs : Str) : Prop where
  lo : n ≤ g
  hi : g < n'
  row : H' g = some (.row 1 (bsV bs))
  keep : ∀ y, y < n → y ∉ own l → H' y = H y
theorem zakb (q : Nat) : ((q : Int)).fdiv (2 ^ (min (7 : Int).toNat IntKind.u64.bits)) = ((q / 128 : Nat) : Int) := by
  have : (2 : Int) ^ (min (7 : Int).toNat IntKind.u64.bits) = 128 := rfl
  rw [this, Int.fdiv_eq_ediv_of_nonneg _ (by omega)]
  rfl
set_option maxRecDepth 20000 in
set_option maxHeartbeats 1000000 in
theorem zyr {l : AV} {bs : Str} {n : Int} {H : Heap} {nx : Nat} {Q : AV → Heap → Nat → Prop} (hs : Slot H 1 bs.length (bsV bs) l) (hb : bs.length ≤ 100000000000000) (hn : -9223372036854775808 ≤ n ∧ n ≤ 9223372036854775807) (hl : ∀ y ∈ own l, y < nx)
    (hq : ∀ H' n' g, BNew H nx l H' n' g (bs ++ WM.num n) → Q (.slc g 0 (bs ++ WM.num n).length) H' n') : za Tryz.prog 55 [l, .int .i64 n] H nx Q := by
  refine zsu _ _ H nx _ ?_
  have main : ∀ u : Nat, u = WM.zig n → LP (zeu Q) [l, .int .u64 (u : Int)] H nx := by
    intro u hu
    refine LP.mk (fun k xs H' n' => ∃ (q : Nat) (ys : Str) (l' : AV), xs = [l', .int .u64 (q : Int)] ∧ q < 2 ^ (1 + 7 * k) ∧ ys ++ WM.enc k q = WM.num n ∧ ys.length + k = 9 ∧ BExt H nx l H' n' l' (bs ++ ys)) 9 ⟨u, [], l, rfl, ?_, by rw [hu]; rfl, rfl, by simpa using BExt.refl hs⟩ ?_
    · have := WM.zig_lt n hn.1 hn.2
      rw [hu]; exact this
    rintro k xs H' n' ⟨q, ys, l', rfl, hq1, hq2, hq3, ext⟩
    have hw : IntKind.u8.wrap (q : Int) = (q : Int) % 256 := by rw [IntKind.wrap_u8]
    by_cases h : 128 ≤ q
    · have h' : (128 : Int) ≤ q := by omega
      have h8 : bits .or .u8 ((q : Int) % 256) 128 = ((q % 128 + 128 : Nat) : Int) := by
        have h8 := zaer (q % 256) (by omega)
        have e8 : q % 256 % 128 + 128 = q % 128 + 128 := by omega
        rw [e8] at h8
        exact h8
      cases k with
      | zero => simp at hq1; omega
      | succ k =>
        simp only [WM.enc, if_pos h] at hq2
        simp [zeu, h', hw]
        rw [h8]
        refine ext.byte (m := q % 128 + 128) (by omega) hl (by rw [List.length_append]; omega) fun H2 e2 _ => ?_
        refine ⟨k, by omega, q / 128, ys ++ [UInt8.ofNat (q % 128 + 128)], _, ⟨rfl, zakb q⟩, ?_, ?_, ?_, ?_⟩
        · have e : (2 : Nat) ^ (1 + 7 * (k + 1)) = 2 ^ (1 + 7 * k) * 128 := by rw [show 1 + 7 * (k + 1) = (1 + 7 * k) + 7 by omega, Nat.pow_add]
          rw [e] at hq1
          omega
        · rw [List.append_assoc]; exact hq2
        · simp; omega
        · rw [← List.append_assoc]; exact e2
    · have h' : ¬ (128 : Int) ≤ q := by omega
      have e0 : WM.enc k q = [UInt8.ofNat q] := by cases k <;> simp [WM.enc, h]
      have hw' : IntKind.u8.wrap (q : Int) = (q : Int) := by rw [IntKind.wrap_u8]; omega
      rw [e0] at hq2
      simp [zeu, h', hw']
      refine ext.byte (m := q) (by omega) hl (by rw [List.length_append]; omega) fun H2 e2 r2 => ?_
      rw [List.append_assoc, hq2] at e2 r2
      have el : (bs ++ ys).length + 1 = (bs ++ WM.num n).length := by rw [← hq2]; simp; omega
      have := ext.le
      have := hq H2 (n' + 2) (n' + 1) ⟨by omega, by omega, r2, e2.keep⟩
      rw [← el] at this
      exact this
  have h2 : (2 : Int) ^ (min 1 IntKind.u64.bits) = 2 := rfl
  by_cases h0 : n < 0
  · have z := zahl n hn.1 h0
    simp [zlj, h0]
    rw [h2, show IntKind.u64.signed = false from rfl, if_neg (by decide), z]
    exact main _ rfl
  · have z := zahk n hn.2 h0
    simp [zlj, h0]
    rw [h2, z]
    exact main _ rfl
theorem zce (n : Int) : (WM.num n).length ≤ 10 := WM.enc_length 9 _
theorem zor (s : Str) : (VM.textB s).length ≤ 10 + s.length := by unfold VM.textB; rw [List.length_append]; have := zce s.length; omega
theorem BNew.lt {H H' : Heap} {n n' g : Nat} {l : AV} {bs : Str} (h : BNew H n l H' n' g bs) : n ≤ n' := by have := h.lo; have := h.hi; omega
theorem zacf (s : Str) (H : Heap) : ze 1 H (.str s) = some (s.length, bsV s, []) := rfl
set_option maxHeartbeats 1000000 in
theorem zvq {l : AV} {bs s : Str} {H : Heap} {nx : Nat} {Q : AV → Heap → Nat → Prop} (hs : Slot H 1 bs.length (bsV bs) l) (hb : bs.length + s.length ≤ 100000000000000) (hl : ∀ y ∈ own l, y < nx)
    (hq : ∀ H' n' g, BNew H nx l H' n' g (bs ++ VM.textB s) → Q (.slc g 0 (bs ++ VM.textB s).length) H' n') : za Tryz.prog 56 [l, .str s] H nx Q := by
  refine zrr _ _ H nx _ ?_
  simp [zom]
  refine zyr hs (by omega) (by omega) hl fun H1 n1 g b1 => ?_
  have nl := zce s.length
  have h1 := b1.lo
  have h2 := b1.hi
  have s1 : Slot H1 1 (bs ++ WM.num s.length).length (bsV (bs ++ WM.num s.length)) (.slc g 0 (bs ++ WM.num s.length).length) := Slot.full b1.row (by rw [zjh]; omega)
  simp only [zon]
  unfold APP
  rw [ziw, zacf, optk, b1.row, rowk]
  refine ⟨rfl, zzh s, by rw [zjh]; omega, by rw [List.length_append]; omega, ?_⟩
  have e : bs ++ VM.textB s = bs ++ WM.num s.length ++ s := by rw [List.append_assoc]; rfl
  have el : (bs ++ WM.num s.length).length + s.length = (bs ++ VM.textB s).length := by rw [e, List.length_append (bs := s)]
  have := hq ((H1.put g none).put n1 (some (.row 1 (bsV (bs ++ VM.textB s))))) (n1 + 1) n1 ⟨by omega, by omega, Heap.put_at _ _ _, fun y hy hn => ?_⟩
  · rw [← el] at this
    rw [e, zzi] at this
    simp only [zak, zat, List.drop_zero, Nat.mul_one, List.length_singleton]
    rw [List.take_of_length_le (by rw [zjh]; omega)]
    exact this
  · rw [Heap.put_ne _ _ (by omega), Heap.put_ne _ _ (by omega), b1.keep y hy hn]
end Go.Proofs.YtpbnaaoilgohkaaGreatDoor
set_option maxRecDepth 8000
namespace Go.Proofs.YtpbnaaoilgohkaaGreatDoor
open Go Go.RowKit
theorem zrz (l : List Ins) : ∀ x ∈ l.map Ins.avs, x.length = 3 := by intro x hx; obtain ⟨v, _, rfl⟩ := List.mem_map.1 hx; rfl
theorem zru (l : List Str) : ∀ x ∈ l.map (fun w => [AV.str w]), x.length = 1 := by intro x hx; obtain ⟨v, _, rfl⟩ := List.mem_map.1 hx; rfl
theorem ztr (l : List Ins) : ∀ x ∈ l.map Ins.avs, ∀ c ∈ x, scal c = true := by
  intro x hx c hc
  obtain ⟨v, _, rfl⟩ := List.mem_map.1 hx
  simp [Ins.avs] at hc
  rcases hc with rfl | rfl | rfl <;> rfl
theorem ztq (l : List Str) : ∀ x ∈ l.map (fun w => [AV.str w]), ∀ c ∈ x, scal c = true := by
  intro x hx c hc
  obtain ⟨v, _, rfl⟩ := List.mem_map.1 hx
  simp at hc
  subst hc; rfl
theorem zwd {xs : List (List AV)} (h : ∀ x ∈ xs, ∀ c ∈ x, scal c = true) : xs.flatten.all AV.one = true := List.all_eq_true.2 fun c hc => by
  obtain ⟨x, hx, hcx⟩ := List.mem_flatten.1 hc
  exact zbe (h x hx c hcx)
def zbn (H : Heap) (R : Nat → Prop) (sz : Nat) (xs : List (List AV)) (a : AV) : Prop := (xs = [] ∧ a = .nils) ∨ ∃ g, R g ∧ a = .slc g 0 xs.length ∧ H g = some (.row sz xs.flatten)
theorem zbn.more {H H' : Heap} {R R' : Nat → Prop} {sz : Nat} {xs : List (List AV)} {a : AV} (h : zbn H R sz xs a) (hR : ∀ g, R g → R' g ∧ H' g = H g) : zbn H' R' sz xs a := by
  rcases h with h | ⟨g, h1, h3, h4⟩
  · exact .inl h
  · exact .inr ⟨g, (hR g h1).1, h3, by rw [(hR g h1).2]; exact h4⟩
theorem zbn.one {H : Heap} {R : Nat → Prop} {sz : Nat} {xs : List (List AV)} {a : AV} (h : zbn H R sz xs a) : a.cells = [a] ∧ a.one = true ∧ a.sure = true := by
  rcases h with ⟨_, rfl⟩ | ⟨g, _, rfl, _⟩ <;> exact ⟨rfl, rfl, rfl⟩
theorem Slot.one {H : Heap} {sz k : Nat} {cells : List AV} {a : AV} (h : Slot H sz k cells a) : a.cells = [a] ∧ a.one = true ∧ a.sure = true := by
  rcases h with ⟨_, rfl | rfl⟩ | ⟨g, cs, rfl, _⟩ <;> exact ⟨rfl, rfl, rfl⟩
theorem zbn.frz {H : Heap} {R : Nat → Prop} {sz : Nat} {xs : List (List AV)} {a : AV} {G : Nat → Prop} (h : zbn H R sz xs a) (hG : ∀ g, R g → G g) (hs : ∀ x ∈ xs, x.length = sz) : FrzP H G a (.ro xs) := by
  rcases h with ⟨rfl, rfl⟩ | ⟨g, h1, rfl, h4⟩
  · exact .nils
  · refine FrzP.row (hG g h1) h4 rfl hs (fun i x j v hx hv => ?_) (by rw [zde hs]; exact Nat.le_refl _)
    have hj : j < sz := by
      have := (List.getElem?_eq_some_iff.1 hv).1
      rw [hs x (List.mem_of_getElem? hx)] at this; exact this
    have e1 := zjg hs hx
    have := congrArg (·[j]?) e1
    simp only [List.getElem?_take, List.getElem?_drop, hj, if_true] at this
    exact ⟨v, by rw [this]; exact hv, .same v⟩
theorem zbn.slot {H : Heap} {R : Nat → Prop} {sz : Nat} {xs : List (List AV)} {a : AV} (h : zbn H R sz xs a) (hs : ∀ x ∈ xs, x.length = sz) : Slot H sz xs.length xs.flatten a ∧ ∀ g ∈ own a, R g := by
  rcases h with ⟨rfl, rfl⟩ | ⟨g, h1, rfl, h4⟩
  · exact ⟨.inl ⟨rfl, .inl rfl⟩, fun g hg => by simp [own] at hg⟩
  · exact ⟨.inr ⟨g, _, rfl, h4, List.take_of_length_le (by rw [zde hs]; exact Nat.le_refl _), by rw [zde hs]; exact Nat.le_refl _⟩, fun x hx => by simp [own] at hx; subst hx; exact h1⟩
theorem zado {l : List Ins} (hl : l.length * 24 ≤ 140737488355328) {a : AV} {H : Heap} {nx : Nat} (ha : zaa H nx 3 (l.map Ins.avs) a) : za Tryz.prog 79 [a] H nx fun v H' nx' => nx ≤ nx' ∧ Keep nx H' H ∧ zbn H' (fun g => nx ≤ g ∧ g < nx') 3 (l.map Ins.avs) v := by
  refine zjn _ H nx _ ?_
  unfold zfp
  refine ziv (Q := fun v H' nx' => nx ≤ nx' ∧ Keep nx H' H ∧ zbn H' (fun g => nx ≤ g ∧ g < nx') 3 (l.map Ins.avs) v) ha (zrz l) (zwd (ztr l)) (by simpa using hl) (fun h => ⟨Nat.le_refl _, by simp, .inl ⟨h, rfl⟩⟩) fun H' h1 h2 => ⟨by omega, h2, .inr ⟨nx + 1, ⟨by omega, by omega⟩, rfl, h1⟩⟩
theorem zadn {l : List Str} (hl : l.length * 16 ≤ 140737488355328) {a : AV} {H : Heap} {nx : Nat} (ha : zaa H nx 1 (l.map fun w => [AV.str w]) a) : za Tryz.prog 80 [a] H nx fun v H' nx' => nx ≤ nx' ∧ Keep nx H' H ∧ zbn H' (fun g => nx ≤ g ∧ g < nx') 1 (l.map fun w => [AV.str w]) v := by
  refine zfx _ H nx _ ?_
  unfold zct
  refine ziv (Q := fun v H' nx' => nx ≤ nx' ∧ Keep nx H' H ∧ zbn H' (fun g => nx ≤ g ∧ g < nx') 1 (l.map fun w => [AV.str w]) v) ha (zru l) (zwd (ztq l)) (by simpa using hl) (fun h => ⟨Nat.le_refl _, by simp, .inl ⟨h, rfl⟩⟩) fun H' h1 h2 => ⟨by omega, h2, .inr ⟨nx + 1, ⟨by omega, by omega⟩, rfl, h1⟩⟩
theorem zadp {l : List Cl} (hl : l.length * 64 ≤ 140737488355328) {a : AV} {H : Heap} {nx : Nat} (ha : zaa H nx 6 (l.map Cl.avs) a) : za Tryz.prog 82 [a] H nx fun v H' nx' => nx ≤ nx' ∧ Keep nx H' H ∧ zbn H' (fun g => nx ≤ g ∧ g < nx') 6 (l.map Cl.avs) v := by
  refine zka _ H nx _ ?_
  unfold zgm
  refine ziv (Q := fun v H' nx' => nx ≤ nx' ∧ Keep nx H' H ∧ zbn H' (fun g => nx ≤ g ∧ g < nx') 6 (l.map Cl.avs) v) ha (zdf l) (zafc l) (by simpa using hl) (fun h => ⟨Nat.le_refl _, by simp, .inl ⟨h, rfl⟩⟩) fun H' h1 h2 => ⟨by omega, h2, .inr ⟨nx + 1, ⟨by omega, by omega⟩, rfl, h1⟩⟩
def zdm (H : Heap) (R : Nat → Prop) (cs : List Cod) (cells : List AV) : Prop := cells.length = cs.length * 3 ∧ ∀ (k : Nat) (c : Cod), cs[k]? = some c → cells[k * 3]? = some (.int .i64 c.params) ∧ cells[k * 3 + 1]? = some (.int .i64 c.vars) ∧ ∃ a, cells[k * 3 + 2]? = some a ∧ zbn H R 3 (c.ins.map Ins.avs) a
theorem zdm.more {H H' : Heap} {R R' : Nat → Prop} {cs : List Cod} {cells : List AV} (h : zdm H R cs cells) (hR : ∀ g, R g → R' g ∧ H' g = H g) : zdm H' R' cs cells :=
  ⟨h.1, fun k c hc => let ⟨a, b, x, h1, h2⟩ := h.2 k c hc; ⟨a, b, x, h1, h2.more hR⟩⟩
theorem zdm.snoc {H : Heap} {R : Nat → Prop} {cs : List Cod} {cells : List AV} {c : Cod} {a : AV} (h : zdm H R cs cells) (ha : zbn H R 3 (c.ins.map Ins.avs) a) : zdm H R (cs ++ [c]) (cells ++ [.int .i64 c.params, .int .i64 c.vars, a]) := by
  refine ⟨by simp [h.1]; omega, fun k c' hc => ?_⟩
  by_cases hk : k < cs.length
  · rw [List.getElem?_append_left hk] at hc
    obtain ⟨q1, q2, x, q3, q4⟩ := h.2 k c' hc
    have hl := h.1
    refine ⟨by rw [List.getElem?_append_left (by omega)]; exact q1, by rw [List.getElem?_append_left (by omega)]; exact q2, x, by rw [List.getElem?_append_left (by omega)]; exact q3, q4⟩
  · have hk' : k = cs.length := by have := (List.getElem?_eq_some_iff.1 hc).1; simp at this; omega
    subst hk'
    rw [List.getElem?_append_right (Nat.le_refl _)] at hc
    simp at hc
    subst hc
    have hl := h.1
    refine ⟨?_, ?_, a, ?_, ha⟩
    · rw [List.getElem?_append_right (by omega), hl]; simp
    · rw [List.getElem?_append_right (by omega), hl, show cs.length * 3 + 1 - cs.length * 3 = 1 by omega]; rfl
    · rw [List.getElem?_append_right (by omega), hl, show cs.length * 3 + 2 - cs.length * 3 = 2 by omega]; rfl
theorem zdm.frz {H : Heap} {R : Nat → Prop} {cs : List Cod} {cells : List AV} {a : AV} {G : Nat → Prop} (h : zdm H R cs cells) (hG : ∀ g, R g → G g) (ha : Slot H 3 cs.length cells a) (hA : ∀ g ∈ own a, G g) : FrzP H G a (.ro (cs.map Cod.avs)) := by
  rcases ha with ⟨h0, rfl | rfl⟩ | ⟨g, cs', rfl, h1, h2, h3⟩
  · rw [List.eq_nil_of_length_eq_zero h0]; exact .nils
  · rw [List.eq_nil_of_length_eq_zero h0]; exact .zs
  · refine FrzP.row (hA g (by simp [own])) h1 (by simp) (fun x hx => ?_) (fun i x j v hx hv => ?_) h3
    · obtain ⟨c, _, rfl⟩ := List.mem_map.1 hx; rfl
    · rw [List.getElem?_map] at hx
      obtain ⟨c, hc, rfl⟩ := Option.map_eq_some_iff.1 hx
      obtain ⟨q1, q2, y, q3, q4⟩ := h.2 i c hc
      have hi := (List.getElem?_eq_some_iff.1 hc).1
      have up : ∀ (j : Nat) (u : AV), j < 3 → cells[i * 3 + j]? = some u → cs'[i * 3 + j]? = some u := fun j u hj hu => by
        rw [← h2, List.getElem?_take, if_pos (by omega)] at hu; exact hu
      match j, hv with
      | 0, hv => cases hv; exact ⟨_, up 0 _ (by omega) q1, .same _⟩
      | 1, hv => cases hv; exact ⟨_, up 1 _ (by omega) q2, .same _⟩
      | 2, hv => cases hv; exact ⟨y, up 2 _ (by omega) q3, q4.frz hG (zrz _)⟩
      | j + 3, hv => simp [Cod.avs] at hv
theorem FrzP.keep {H H' : Heap} {G : Nat → Prop} {v u : AV} (h : FrzP H G v u) (hk : ∀ g, G g → H' g = H g) : FrzP H' G v u := by
  induction h with
  | same v => exact .same v
  | nils => exact .nils
  | zs => exact .zs
  | slc g off len sz cells xs hg hH hle hl hsz U hU _ ih => exact .slc g off len sz cells xs hg (by rw [hk g hg]; exact hH) hle hl hsz U hU ih
  | agg xs ys hl _ ih => exact .agg xs ys hl ih
theorem FrzP.wide {H : Heap} {G G' : Nat → Prop} {v u : AV} (h : FrzP H G v u) (hG : ∀ g, G g → G' g) : FrzP H G' v u := by
  induction h with
  | same v => exact .same v
  | nils => exact .nils
  | zs => exact .zs
  | slc g off len sz cells xs hg hH hle hl hsz U hU _ ih => exact .slc g off len sz cells xs (hG g hg) hH hle hl hsz U hU ih
  | agg xs ys hl _ ih => exact .agg xs ys hl ih
theorem za.nil_zs {P : Program} {f : FuncId} {args : List AV} {H : Heap} {nx : Nat} {Q : Heap → Nat → Prop} (h : za P f args H nx fun v H' nx' => (v = .nils ∨ v = .zs) ∧ Q H' nx') : za P f args H nx fun v H' nx' => v = .zs ∧ Q H' nx' := by
  intro ρ w cargs s ha
  refine zi (h ρ w cargs s ha) fun cv w' ⟨v, H', nx', ρ', ⟨hv, hq⟩, q2, q3, q4⟩ => ⟨.zs, H', nx', ρ', ⟨rfl, hq⟩, q2, ?_, q4⟩
  rcases hv with rfl | rfl
  · cases q3; exact .zs _
  · exact q3
theorem zajf {esz bytes nx : Nat} {x : AV} {H : Heap} {kk : AV → Heap → Nat → Prop} : APP esz bytes .zs x H nx kk = OPTK (ze esz H x) fun p => p.2.1.all AV.one = true ∧
    (p.1 = 0 → kk .zs H nx) ∧ (p.1 ≠ 0 → p.1 * bytes ≤ 140737488355328 ∧ kk (.slc nx 0 p.1) (H.put nx (some (.row esz p.2.1))) (nx + 1)) := by
  simp only [APP, zt, OPTK]
  cases hs : ze esz H x with
  | none => simp
  | some p => obtain ⟨m, news, rd⟩ := p; simp [Heap.apply]
theorem zy.cloneV {l : List Val} (hl : l.length * 32 ≤ 140737488355328) {H : Heap} {nx : Nat} {k : Kt}
    (h0 : l = [] → k .zs [] [] []) (h1 : l ≠ [] → k (.slc nx 0 l.length) [] [nx] [(nx, some (.row 3 (rowV l)))]) : zy Tryz.prog (.clo 81 []) [.ro (l.map Val.avs)] H nx k := by
  by_cases he : l = []
  · subst he
    refine ⟨_, [], [], [], .inl rfl, LC.of_qcr (r := .zs) (by simp) (fun H' n _ => ?_) .zs, h0 rfl⟩
    refine za.tidy fun hlive => ?_
    have h0 : za Tryz.prog 81 [.ro []] H' n fun v H'' nx' => (v = .nils ∨ v = .zs) ∧ Keep n H'' H' := by
      refine zip _ H' n _ ?_
      simp [zew, zajf]
    refine (za.gc (R := fun v H'' => v = AV.zs ∧ H'' = H') h0.nil_zs fun v H'' nx' ⟨hv, hk⟩ => ⟨.zs, H', ⟨rfl, rfl⟩, by rw [hv]; exact .same _ .zs, fun g o ho => ⟨hlive g o ho, by rw [hk g (hlive g o ho)]; exact ho, .inl ho⟩⟩).mono fun v H'' nx' ⟨⟨a, b⟩, c⟩ => ⟨a, b, c⟩
  · refine ⟨_, [], [nx], _, .inr (.inl rfl), LC.of_callsN (by simp) (by simp) (fun A hA hB H' n' hag => ?_), h1 he⟩
    refine (zug l hl .ro).mono fun v H'' n'' ⟨q1, q2, q3⟩ => ?_
    rcases q3 with ⟨h, _⟩ | ⟨g, g1, g2, rfl, g3⟩
    · exact absurd h he
    · refine ⟨g, g1, g2, .slc _ _, fun x hx _ => q2 x hx, fun x o hx hxn => ?_, ⟨.row 3 (rowV l), _, by simp only [zak, zat]; rw [Heap.put_at], g3, rfl, rfl, fun j v u hv hu => ?_⟩⟩
      · exact absurd (by simpa using hx) hxn
      · rw [hv] at hu; cases hu; exact .same _ (zbf (zdt l _ (List.mem_of_getElem? hv)))
end Go.Proofs.YtpbnaaoilgohkaaGreatDoor
set_option maxRecDepth 8000
namespace Go.Proofs.YtpbnaaoilgohkaaGreatDoor
open Go Go.RowKit
structure WrM (p : Nat) (l : AV) (bs : Str) (H : Heap) (n : Nat) : Prop where
  row : H p = some (.row 1 [l])
  slot : Slot H 1 bs.length (bsV bs) l
  ow : ∀ y ∈ own l, p < y ∧ y < n
  lt : p < n
structure WExt (p : Nat) (l : AV) (H : Heap) (n : Nat) (l' : AV) (bs : Str) (H' : Heap) (n' : Nat) : Prop where
  le : n ≤ n'
  wr : WrM p l' bs H' n'
  new : ∀ y ∈ own l', y ∈ own l ∨ n ≤ y
  keep : ∀ y, y < n → y ≠ p → y ∉ own l → H' y = H y
theorem WrM.ext {p n : Nat} {l : AV} {bs : Str} {H : Heap} (h : WrM p l bs H n) : WExt p l H n l bs H n := ⟨Nat.le_refl _, h, fun _ hy => .inl hy, fun _ _ _ _ => rfl⟩
theorem WExt.trans {p n n' n2 : Nat} {l l' l2 : AV} {bs bs2 : Str} {H H' H2 : Heap} (h : WExt p l H n l' bs H' n') (k : WExt p l' H' n' l2 bs2 H2 n2) : WExt p l H n l2 bs2 H2 n2 :=
  ⟨Nat.le_trans h.le k.le, k.wr, fun y hy => by
    rcases k.new y hy with h1 | h1
    · exact h.new y h1
    · exact .inr (by have := h.le; omega), fun y hy h1 h2 => by
    rw [k.keep y (by have := h.le; omega) h1 fun h3 => ?_, h.keep y hy h1 h2]
    rcases h.new y h3 with h4 | h4
    · exact h2 h4
    · omega⟩
theorem WExt.put {p n n' : Nat} {l l' : AV} {bs : Str} {H H' : Heap} (h : WExt p l H n l' bs H' n') (o : AObj) : WExt p l H n l' bs (H'.put n' (some o)) (n' + 1) := by
  have w := h.wr
  refine ⟨by have := h.le; omega, ⟨by rw [Heap.put_ne _ _ (by have := w.lt; omega)]; exact w.row, w.slot.keep fun g hg => Heap.put_ne _ _ (by have := w.ow g hg; omega), fun y hy => by have := w.ow y hy; omega, by have := w.lt; omega⟩, h.new, fun y hy h1 h2 => ?_⟩
  rw [Heap.put_ne _ _ (by have := h.le; omega)]; exact h.keep y hy h1 h2
theorem WExt.row {p n n' n2 g : Nat} {l l' : AV} {bs bs2 : Str} {H H' H2 : Heap} (h : WExt p l H n l' bs H' n') (b : BNew H' n' l' H2 n2 g bs2) : WExt p l H n (.slc g 0 bs2.length) bs2 (H2.put p (some (.row 1 [.slc g 0 bs2.length]))) n2 := by
  have w := h.wr
  have h1 := b.lo
  have h2 := b.hi
  have h3 := h.le
  have h4 := w.lt
  refine ⟨by omega, ⟨Heap.put_at _ _ _, ?_, fun y hy => ?_, by omega⟩, fun y hy => ?_, fun y hy e1 e2 => ?_⟩
  · exact Slot.full (by rw [Heap.put_ne _ _ (by omega)]; exact b.row) (by rw [zjh]; omega)
  · have e : y = g := by simpa [own] using hy
    omega
  · have e : y = g := by simpa [own] using hy
    exact .inr (by omega)
  · rw [Heap.put_ne _ _ e1, b.keep y (by omega) fun h5 => ?_, h.keep y hy e1 e2]
    rcases h.new y h5 with h6 | h6
    · exact e2 h6
    · omega
theorem WrM.keep {p n n' : Nat} {l : AV} {bs : Str} {H H' : Heap} (w : WrM p l bs H n) (hn : n ≤ n') (hk : ∀ y, (y = p ∨ y ∈ own l) → H' y = H y) : WrM p l bs H' n' :=
  ⟨by rw [hk p (.inl rfl)]; exact w.row, w.slot.keep fun g hg => hk g (.inr hg), fun y hy => by have := w.ow y hy; omega, by have := w.lt; omega⟩
theorem WrM.one {p n : Nat} {l : AV} {bs : Str} {H : Heap} (w : WrM p l bs H n) : l.cells = [l] ∧ l.one = true ∧ l.sure = true := w.slot.one
def zu (ns : List Int) : Str := ns.flatMap WM.num
theorem zck (ns : List Int) : (zu ns).length ≤ 10 * ns.length := by
  induction ns with
  | nil => simp [zu]
  | cons n r ih => have := zce n; simp [zu] at ih ⊢; omega
theorem zaat {ns : List Int} {i : Nat} {n : Int} (h : ns[i]? = some n) : zu (ns.take (i + 1)) = zu (ns.take i) ++ WM.num n := by
  unfold zu; rw [List.take_add_one, h]; simp
set_option maxRecDepth 20000 in
set_option maxHeartbeats 1000000 in
theorem zyu {p g n : Nat} {l : AV} {bs : Str} {ns : List Int} {H : Heap} {Q : AV → Heap → Nat → Prop} (w : WrM p l bs H n) (hg : H g = some (.row 1 (ns.map (AV.int .i64)))) (hgp : g ≠ p) (hgl : g ∉ own l) (hgn : g < n) (hb : bs.length + 10 * ns.length ≤ 100000000000000) (hi : ∀ m ∈ ns, -9223372036854775808 ≤ m ∧ m ≤ 9223372036854775807)
    (hq : ∀ H' n' l', WExt p l H n l' (bs ++ zu ns) H' n' → Q (.tup []) H' n') : za Tryz.prog 28 [.ptr p 0, .slc g 0 ns.length] H n Q := by
  refine zkb _ _ H n _ ?_
  simp [zgo]
  refine LP.mk (fun k xs H' n' => ∃ (i : Nat) (l' : AV), k = ns.length - i ∧ i ≤ ns.length ∧ xs = [.ptr p 0, .slc g 0 ns.length, .int .i64 ns.length, .int .i64 i] ∧ WExt p l H n l' (bs ++ zu (ns.take i)) H' n') ns.length ⟨0, l, rfl, by omega, rfl, by simpa [zu] using w.ext⟩ ?_
  rintro k xs H' n' ⟨i, l', rfl, hil, rfl, ext⟩
  have e1 : H' g = some (.row 1 (ns.map (AV.int .i64))) := (ext.keep g hgn hgp hgl).trans hg
  have e2 := ext.wr.row
  have o1 := ext.wr.one
  by_cases hlt : i < ns.length
  · have hadd : IntKind.i64.wrap ((i : Int) + 1) = ((i + 1 : Nat) : Int) := by rw [i64w (by omega)]; rfl
    have hm : ns[i]? = some ns[i] := List.getElem?_eq_getElem hlt
    have hmi := hi _ (List.getElem_mem hlt)
    generalize hmm : ns[i] = m at hm hmi
    have hsn := zaat hm
    simp [zdd, hlt, e1, e2, hmm]
    have hl := zck (ns.take i)
    rw [List.length_take, Nat.min_eq_left hil] at hl
    refine zyr ext.wr.slot (by rw [List.length_append]; omega) hmi (fun y hy => (ext.wr.ow y hy).2) fun H2 n2 g2 b2 => ?_
    have er := ext.row b2
    rw [List.append_assoc, ← hsn] at er
    rw [List.append_assoc, ← hsn]
    have hp : H2 p = some (.row 1 [l']) := by rw [b2.keep p ext.wr.lt fun h => by have := ext.wr.ow p h; omega]; exact e2
    simp [zgp, hp, hadd]
    simp only [List.length_append] at er
    exact ⟨ns.length - (i + 1), by omega, i + 1, rfl, by omega, rfl, _, er⟩
  · obtain rfl : i = ns.length := by omega
    rw [List.take_length] at ext
    simp [zdd]
    exact hq _ _ _ ext
theorem WExt.nums {p n n' : Nat} {l l' : AV} {bs : Str} {H H' : Heap} {Q : AV → Heap → Nat → Prop} (e : WExt p l H n l' bs H' n') (ns : List Int) (hb : bs.length + 10 * ns.length ≤ 100000000000000) (hi : ∀ m ∈ ns, -9223372036854775808 ≤ m ∧ m ≤ 9223372036854775807)
    (hq : ∀ H2 n2 l2, WExt p l H n l2 (bs ++ zu ns) H2 n2 → (∀ y, y < n' → y ≠ p → y ∉ own l' → H2 y = H' y) → Q (.tup []) H2 n2) : za Tryz.prog 28 [.ptr p 0, .slc n' 0 ns.length] (H'.put n' (some (.row 1 (ns.map (AV.int .i64))))) (n' + 1) Q := by
  have w := e.wr
  have e1 := e.put (.row 1 (ns.map (AV.int .i64)))
  refine zyu e1.wr (Heap.put_at _ _ _) (by have := w.lt; omega) (fun h => by have := w.ow _ h; omega) (by omega) hb hi fun H2 n2 l2 e2 => hq _ _ _ (e1.trans e2) fun y h1 h2 h3 => ?_
  rw [e2.keep y (by omega) h2 h3, Heap.put_ne _ _ (by omega)]
theorem zy.wtext {l : AV} {bs s : Str} {H : Heap} {m : Nat} {kt : Kt} (hs : Slot H 1 bs.length (bsV bs) l) (hb : bs.length + s.length ≤ 100000000000000) (hl : ∀ y ∈ own l, y < m)
    (hq : ∀ rd D, (∀ y, y < m → y ∉ own l → (H.apply D) y = H y) → (H.apply D) m = some (.row 1 (bsV (bs ++ VM.textB s))) → (∀ y ∈ domD D, y ∈ own l ∨ y = m) → kt (.slc m 0 (bs ++ VM.textB s).length) rd [m] D) :
    zy Tryz.prog (.clo 56 []) [l, .str s] H m kt := by
  let D : zl := ((own l).map fun g => (g, none)) ++ [(m, some (.row 1 (bsV (bs ++ VM.textB s))))]
  have app : ∀ Hx : Heap, (Hx.apply D) m = some (.row 1 (bsV (bs ++ VM.textB s))) ∧ (∀ y, y ≠ m → y ∉ own l → (Hx.apply D) y = Hx y) ∧ (∀ y ∈ own l, (Hx.apply D) y = none) := fun Hx => by
    cases l <;> simp [D, own, Heap.apply] at hl ⊢
    case slc g off len => exact ⟨fun y h1 h2 => by rw [if_neg h1, if_neg h2], by omega⟩
    all_goals exact fun y h1 h2 => absurd h2 h1
  have dD : ∀ x, x ∈ domD D ↔ x ∈ own l ∨ x = m := fun x => by simp [D, domD]
  obtain ⟨a1, a2, _⟩ := app H
  refine ⟨_, own l, [m], D, .inr (.inl rfl), LC.of_callsN (fun x hx => ?_) (fun x hx => (dD x).1 hx) (fun A _ _ H' n' hag => ?_), hq _ D (fun y h1 h2 => a2 y (by omega) h2) a1 fun y hy => (dD y).1 hy⟩
  · rcases hs with ⟨_, rfl | rfl⟩ | ⟨g, cs, rfl, h1, _⟩
    · simp [own] at hx
    · simp [own] at hx
    · simp [own] at hx; subst hx; rw [h1]; rfl
  · have hs' : Slot H' 1 bs.length (bsV bs) l := hs.keep fun g hg => (hag g hg).1
    refine zvq hs' hb (fun y hy => (hag y hy).2) fun H2 n2 g b => ?_
    obtain ⟨c1, c2, c3⟩ := app H'
    refine ⟨g, b.lo, b.hi, .slc _ _, fun y hy hd => ?_, fun x o hx hxm ho => ?_, ⟨_, _, c1, b.row, rfl, rfl, fun j v u hv hu => ?_⟩⟩
    · have := (not_congr (dD y)).1 hd
      simp only [not_or] at this
      exact b.keep y hy this.1
    · rcases (dD x).1 hx with h | h
      · rw [c3 x h] at ho; cases ho
      · exact absurd h hxm
    · rw [hv] at hu; cases hu
      refine .same _ ?_
      unfold bsV at hv
      rw [List.getElem?_map] at hv
      obtain ⟨c, _, rfl⟩ := Option.map_eq_some_iff.1 hv
      exact .int _ _
theorem zji (v : Val) : (VM.valB v).length ≤ 20 + v.text.length := by
  unfold VM.valB
  have h1 := zce v.kind
  have h2 := zce v.n
  have h3 := zor v.text
  rw [List.length_append]
  split <;> omega
def I64v (v : Val) : Prop := (-9223372036854775808 ≤ v.kind ∧ v.kind ≤ 9223372036854775807) ∧ (-9223372036854775808 ≤ v.n ∧ v.n ≤ 9223372036854775807)
set_option maxRecDepth 20000 in
set_option maxHeartbeats 1000000 in
theorem zrc {p n : Nat} {l : AV} {bs : Str} {v : Val} {H : Heap} {Q : AV → Heap → Nat → Prop} (w : WrM p l bs H n) (hv : I64v v) (hb : bs.length + 20 + v.text.length ≤ 100000000000000)
    (hq : ∀ H' n' l', WExt p l H n l' (bs ++ VM.valB v) H' n' → Q (.tup []) H' n') : za Tryz.prog 31 [.ptr p 0, .agg v.avs] H n Q := by
  refine zjr _ _ H n _ ?_
  have e1 := w.ext.put (.row 3 v.avs)
  have lt := w.lt
  have ne_0 : n ≠ n + 1 ∧ n + 1 ≠ n ∧ n ≠ p ∧ p ≠ n := ⟨by omega, by omega, by omega, by omega⟩
  simp [zfr, Val.avs]
  refine e1.nums [v.kind] (by simp; omega) (by simpa using hv.1) fun H2 n2 l2 e2 k2 => ?_
  have hn : H2 n = some (.row 3 v.avs) := by rw [k2 n (by omega) (by omega) fun h => (by have := w.ow _ h; omega), Heap.put_at]
  have hp := e2.wr.row
  have o2 := e2.wr.one
  have en : zu [v.kind] = WM.num v.kind := by simp [zu]
  rw [en] at e2
  have nl := zce v.kind
  by_cases h1 : v.kind = 1
  · have eb : bs ++ VM.valB v = bs ++ WM.num v.kind ++ VM.textB v.text := by unfold VM.valB; rw [if_pos h1, List.append_assoc]
    simp [zcv, hn, Val.avs, h1, hp]
    refine zy.wtext e2.wr.slot (by rw [List.length_append]; omega) (fun y hy => (e2.wr.ow y hy).2) fun rd D d1 d2 d3 => ?_
    have hp2 : (H2.apply D) p = some (.row 1 [l2]) := by rw [d1 p e2.wr.lt fun h => (by have := e2.wr.ow _ h; omega)]; exact hp
    rw [← eb] at d2 ⊢
    simp [zft, hp2]
    have er := e2.row (bs2 := bs ++ VM.valB v) ⟨Nat.le_refl n2, Nat.lt_succ_self n2, d2, d1⟩
    rw [List.length_append] at er
    exact zax (fun g _ => by simp) (hq _ _ _ er)
  · have eb : bs ++ VM.valB v = bs ++ WM.num v.kind ++ zu [v.n] := by unfold VM.valB zu; rw [if_neg h1, List.append_assoc]; simp
    simp [zcv, hn, Val.avs, h1]
    refine e2.nums [v.n] (by rw [List.length_append]; simp; omega) (by simpa using hv.2) fun H3 n3 l3 e3 _ => ?_
    rw [← eb] at e3
    simp [zfs]
    exact hq _ _ _ e3
def I64l (l : List Val) : Prop := ∀ v ∈ l, I64v v ∧ v.text.length ≤ 4096
theorem zhr {α : Type} {f : α → Str} {k : Nat} {l : List α} (h : ∀ x ∈ l, (f x).length ≤ k) : (l.flatMap f).length ≤ k * l.length := by
  induction l with
  | nil => simp
  | cons x r ih =>
    have h1 := h x (by simp)
    have h2 := ih fun y hy => h y (by simp [hy])
    simp only [List.flatMap_cons, List.length_append, List.length_cons, Nat.mul_add]
    omega
theorem zeh {α : Type} {f : α → Str} {l : List α} {i : Nat} {x : α} (h : l[i]? = some x) : (l.take (i + 1)).flatMap f = (l.take i).flatMap f ++ f x := by
  rw [List.take_add_one, h]; simp
theorem zeg {α : Type} {f : α → Str} {k i : Nat} {l : List α} (h : ∀ x ∈ l, (f x).length ≤ k) (hi : i ≤ l.length) : ((l.take i).flatMap f).length ≤ k * i := by
  have := zhr (l := l.take i) (k := k) (f := f) fun x hx => h x (List.mem_of_mem_take hx)
  rw [List.length_take, Nat.min_eq_left hi] at this
  exact this
set_option maxRecDepth 20000 in
set_option maxHeartbeats 1000000 in
theorem zto {p n : Nat} {l : AV} {bs : Str} {vs : List Val} {H : Heap} {Q : AV → Heap → Nat → Prop} (w : WrM p l bs H n) (hv : I64l vs) (hl : vs.length ≤ 1000000) (hb : bs.length ≤ 50000000000000)
    (hq : ∀ H' n' l', WExt p l H n l' (bs ++ VM.valsB vs) H' n' → Q (.tup []) H' n') : za Tryz.prog 30 [.ptr p 0, .ro (vs.map Val.avs)] H n Q := by
  refine zis _ _ H n _ ?_
  simp [zfa]
  refine w.ext.nums [(vs.length : Int)] (by simp; omega) (by simp; omega) fun H2 n2 l2 e2 _ => ?_
  have en : zu [(vs.length : Int)] = WM.num vs.length := by simp [zu]
  rw [en] at e2
  have nl := zce vs.length
  have hk : ∀ v ∈ vs, (VM.valB v).length ≤ 4116 := fun v h => by have := zji v; have := (hv v h).2; omega
  simp [zfb]
  refine LP.mk (fun k xs H' n' => ∃ (i : Nat) (l' : AV), k = vs.length - i ∧ i ≤ vs.length ∧ xs = [.ptr p 0, .ro (vs.map Val.avs), .int .i64 vs.length, .int .i64 i] ∧ WExt p l H n l' (bs ++ WM.num vs.length ++ (vs.take i).flatMap VM.valB) H' n') vs.length ⟨0, l2, rfl, by omega, rfl, by simpa using e2⟩ ?_
  rintro k xs H' n' ⟨i, l', rfl, hil, rfl, ext⟩
  by_cases hlt : i < vs.length
  · have hadd : IntKind.i64.wrap ((i : Int) + 1) = ((i + 1 : Nat) : Int) := by rw [i64w (by omega)]; rfl
    have hm : vs[i]? = some vs[i] := List.getElem?_eq_getElem hlt
    have hmi := hv _ (List.getElem_mem hlt)
    have hft := zeg hk hil
    generalize hmm : vs[i] = m at hm hmi
    have hsn := zeh (f := VM.valB) hm
    simp [zcp, hlt, hmm, Val.avs]
    refine zrc (ext.put (.row 3 m.avs)).wr hmi.1 (by rw [List.length_append, List.length_append]; omega) fun H3 n3 l3 e3 => ?_
    have er := (ext.put (.row 3 m.avs)).trans e3
    rw [List.append_assoc _ _ (VM.valB m), ← hsn] at er
    simp [zfc, hadd]
    exact ⟨vs.length - (i + 1), by omega, i + 1, rfl, by omega, rfl, _, by simpa using er⟩
  · obtain rfl : i = vs.length := by omega
    rw [List.take_length, List.append_assoc] at ext
    simp [zcp]
    exact hq _ _ _ ext
end Go.Proofs.YtpbnaaoilgohkaaGreatDoor
