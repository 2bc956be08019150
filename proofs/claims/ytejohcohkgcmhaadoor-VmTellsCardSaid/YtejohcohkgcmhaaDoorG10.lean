/- The document's machine: Pack. The document's machine: what a step gives back. The document's machine: what a step does, in small. The document's machine: where a step's instruction begins. The document's machine: instructions. The document's machine: instructions. The document's machine: instructions on cells. The document's machine: other instructions. The document's machine: `with`, where the order is drawn. The document's machine: setting out, saying, calling, coming back. Rows of one's own, by value from now on: cell by cell. The document's machine: calling. The document's machine: coming back. The document's machine: each instruction does what the plain machine does. -/
import Derived.Test.YtejohcohkgcmhaaDoorG9
import Derived.Test.YtejohcohkgcmhaaDoorG7
import Derived.Test.YtejohcohkgcmhaaDoorG8
namespace Go.Proofs.YtejohcohkgcmhaaDoor
open Go Go.RowKit
section
variable {ki kj : IntKind}
theorem zahe {s : Nat} {xs : List (List AV)} {b : Int} {H : Heap} {kt : Kt} : zay s (.ro xs) none (some (.int ki b)) H kt = (0 ≤ b ∧ b ≤ xs.length ∧ (∀ x ∈ xs, x.length = s) ∧ kt (.ro (xs.take b.toNat)) [] [] []) := by
  simp [zay, lohi, PURE]
theorem zaen {s : Nat} {xs : List (List AV)} {a b : Int} {H : Heap} {kt : Kt} : zay s (.ro xs) (some (.int ki a)) (some (.int kj b)) H kt = (0 ≤ a ∧ a ≤ b ∧ b ≤ xs.length ∧ (∀ x ∈ xs, x.length = s) ∧ kt (.ro ((xs.take b.toNat).drop a.toNat)) [] [] []) := by
  simp [zay, lohi, PURE]
theorem zams {s : Nat} {xs : List (List AV)} {a : Int} {H : Heap} {k : AV → Prop} : SL s (.ro xs) (some (.int ki a)) none H k = (0 ≤ a ∧ a ≤ xs.length ∧ (∀ x ∈ xs, x.length = s) ∧ k (.ro (xs.drop a.toNat))) := by
  simp [SL, zay, lohi, PURE, qk]
end
set_option maxRecDepth 20000 in
set_option maxHeartbeats 1000000 in
theorem zacl {fs : List Frm} {H5 : Heap} {n : Nat} {Q : AV → Heap → Nat → Prop} (hb : (zi fs).length ≤ 4096) (hfl : fs.length ≤ 4096)
    (hend : ∀ H' n' l, n + 2 ≤ n' → (∀ g, g < n + 2 → H' g = H5 g) → Slot H' 3 (zi fs).length (rowV (zi fs)) l → (∀ g ∈ own l, n + 2 ≤ g ∧ g < n') →
      FA 5 (.ptr n 0) fun v29 => LD false 1 v29 H' fun v30 => za Tryd.prog 17 [v30, l] H' n' (zja [.ptr n 0, .ptr (n + 1) 0, l, .ro (fs.map Frm.avs), .int .i64 fs.length, .int .i64 fs.length] Q)) :
    LP (zdm Q) [.ptr n 0, .ptr (n + 1) 0, .nils, .ro (fs.map Frm.avs), .int .i64 fs.length, .int .i64 0] H5 (n + 2) := by
  refine LP.mk (fun k xs H' n' => ∃ (i : Nat) (l : AV), k = fs.length - i ∧ i ≤ fs.length ∧ xs = [.ptr n 0, .ptr (n + 1) 0, l, .ro (fs.map Frm.avs), .int .i64 fs.length, .int .i64 i] ∧ n + 2 ≤ n' ∧ (∀ g, g < n + 2 → H' g = H5 g) ∧
    Slot H' 3 (zi (fs.take i)).length (rowV (zi (fs.take i))) l ∧ ∀ g ∈ own l, n + 2 ≤ g ∧ g < n') fs.length ⟨0, .nils, rfl, by omega, rfl, Nat.le_refl _, fun _ _ => rfl, .inl ⟨rfl, .inl rfl⟩, by simp [own]⟩ ?_
  rintro k xs H' n' ⟨i, l, rfl, hi, rfl, hn, keep, sl, bl⟩
  suffices key : ∀ K : J3, (∀ (i' : Nat) (l : AV) H' n', fs.length - i' < fs.length - i → i' ≤ fs.length → n + 2 ≤ n' → (∀ g, g < n + 2 → H' g = H5 g) → Slot H' 3 (zi (fs.take i')).length (rowV (zi (fs.take i'))) l → (∀ g ∈ own l, n + 2 ≤ g ∧ g < n') → K [.ptr n 0, .ptr (n + 1) 0, l, .ro (fs.map Frm.avs), .int .i64 fs.length, .int .i64 i'] H' n') →
      zdm Q K [.ptr n 0, .ptr (n + 1) 0, l, .ro (fs.map Frm.avs), .int .i64 fs.length, .int .i64 i] H' n' from
    key _ fun i' l H' n' h1 h2 h3 h4 h5 h6 => ⟨_, h1, i', l, rfl, h2, rfl, h3, h4, h5, h6⟩
  intro K hK
  by_cases hil : i < fs.length
  · have hf : fs[i]? = some fs[i] := List.getElem?_eq_getElem hil
    have hadd : IntKind.i64.wrap ((i : Int) + 1) = ((i + 1 : Nat) : Int) := by rw [i64w (by omega)]; rfl
    have htk : fs.take (i + 1) = fs.take i ++ [fs[i]] := zcy hf
    have hle := zxv (fs := fs) (i + 1)
    have hr1 : zi (fs.take (i + 1)) = zi (fs.take i) ++ fs[i].vars ++ fs[i].stack := by rw [htk, zuy]
    rw [hr1] at hle
    simp only [List.length_append] at hle
    have b0 : ∀ l : List Val, (rowV l).all AV.one = true := fun l => List.all_eq_true.2 fun c hc => zaa (zbk _ c hc)
    have hsrc : ∀ (H : Heap) (l : List Val), zm 3 H (.ro (l.map Val.avs)) = some (l.length, rowV l, []) := fun H l => by rw [zcn (zbo l)]; simp [rowV]
    simp [zdm, hil]
    simp [Frm.avs]
    generalize hX : Heap.put H' n' _ = HX
    have x1 : HX n' = some (.row 4 [.int .i64 fs[i].fn, .int .i64 fs[i].at_, .ro (fs[i].vars.map Val.avs), .ro (fs[i].stack.map Val.avs)]) := by rw [← hX, Heap.put_at]
    have xk : ∀ g, g ≠ n' → HX g = H' g := fun g hg => by rw [← hX, Heap.put_ne _ _ hg]
    refine Slot.gather (sl.keep fun g hg => xk g (by have := bl g hg; omega)) (by simp) (hsrc _ _) (by simp) (b0 _) (by omega) fun v1 rd1 fr1 D1 l1 d1 s1 o1 k1 => ?_
    have y1 : (HX.apply D1) n' = some (.row 4 [.int .i64 fs[i].fn, .int .i64 fs[i].at_, .ro (fs[i].vars.map Val.avs), .ro (fs[i].stack.map Val.avs)]) := by rw [k1 n' (fun h => by have := bl _ h; omega) (by omega)]; exact x1
    have yk : ∀ g, g < n + 2 → (HX.apply D1) g = H5 g := fun g hg => by rw [k1 g (fun h => by have := bl _ h; omega) (by omega), xk g (by omega), keep g hg]
    have dd : n' ∉ domD D1 := fun h => by
      rcases d1 n' h with h | h
      · have := bl _ h; omega
      · omega
    generalize HX.apply D1 = HY at *
    simp only [y1, rowk]
    simp
    refine Slot.gather s1 (by simp; omega) (hsrc _ _) (by simp) (b0 _) (by omega) fun v2 rd3 fr2 D2 l2 d2 s2 o2 k2 => ?_
    have zk : ∀ g, g < n + 2 → (HY.apply D2) g = H5 g := fun g hg => by rw [k2 g (fun h => by have := o1 _ h; omega) (by omega), yk g hg]
    generalize HY.apply D2 = HZ at *
    refine zbd (fun g _ => by simp) (zbd (fun g _ => by simp) (zbd (fun g hg => by simp; rintro rfl; exact dd hg) (zbd (fun g _ => by simp) ?_)))
    rw [hadd]
    refine hK (i + 1) v2 HZ _ (by omega) (by omega) (by omega) zk ?_ fun g hg => ?_
    · rw [hr1, zhi, zhi]
      simpa [Nat.add_assoc] using s2
    · have := o2 g hg; omega
  · obtain rfl : i = fs.length := by omega
    rw [List.take_length] at sl
    have := hend H' n' l hn keep sl bl
    simpa [zdm] using this
set_option maxRecDepth 20000 in
set_option maxHeartbeats 1000000 in
theorem zafq {fs : List Frm} {id trip : Int} {pr : Prg} {m : Pmt} {p : Val → Val} {hp h : List Cl} {H1 : Heap} {n mid : Nat} {Q : AV → Heap → Nat → Prop} (hfl : fs.length ≤ 4096) (hb : ∀ f ∈ fs, f.vars.length ≤ 4096 ∧ f.stack.length ≤ 4096) (hmid : n + 2 ≤ mid)
    (r1 : H1 n = some (.row 9 (zc id trip pr (.ro (fs.map Frm.avs)) (.ro (h.map Cl.avs)) m))) (r2 : ∃ z, H1 (n + 1) = some (.row 9 z) ∧ z.length = 9)
    (hend : ∀ H' n' ss fa, zgo H' mid n' (fs.map (pkF p)) ss fa → (∀ g, g < n → H' g = H1 g) → Q (.agg (zc id trip pr fa (.ro (hp.map Cl.avs)) m)) H' n') :
    LP (zdn Q) [.ptr n 0, .ptr (n + 1) 0, .ro ((zi fs).map fun v => (p v).avs), .ro (hp.map Cl.avs), .nils, .ro (fs.map Frm.avs), .int .i64 fs.length, .int .i64 0] H1 mid := by
  refine LP.mk (fun k xs H' n' => ∃ (i : Nat) (ss : List (AV × AV)) (fa : AV), k = fs.length - i ∧ i ≤ fs.length ∧ mid ≤ n' ∧ xs = [.ptr n 0, .ptr (n + 1) 0, .ro ((zi (fs.drop i)).map fun v => (p v).avs), .ro (hp.map Cl.avs), fa, .ro (fs.map Frm.avs), .int .i64 fs.length, .int .i64 i] ∧
    zgo H' mid n' ((fs.take i).map (pkF p)) ss fa ∧ ∀ g, g < mid → H' g = H1 g) fs.length ⟨0, [], .nils, rfl, by omega, Nat.le_refl _, rfl, ⟨⟨rfl, fun k f s hf => by simp at hf⟩, .inl ⟨by simp, .inl rfl⟩, by simp [own, owns], by simp [own, owns]⟩, fun _ _ => rfl⟩ ?_
  rintro k xs H' n' ⟨i, ss, fa, rfl, hi, hn', rfl, st, keep⟩
  suffices key : ∀ K : J3, (∀ (i' : Nat) ss fa H' n', fs.length - i' < fs.length - i → i' ≤ fs.length → mid ≤ n' → zgo H' mid n' ((fs.take i').map (pkF p)) ss fa → (∀ g, g < mid → H' g = H1 g) → K [.ptr n 0, .ptr (n + 1) 0, .ro ((zi (fs.drop i')).map fun v => (p v).avs), .ro (hp.map Cl.avs), fa, .ro (fs.map Frm.avs), .int .i64 fs.length, .int .i64 i'] H' n') →
      zdn Q K [.ptr n 0, .ptr (n + 1) 0, .ro ((zi (fs.drop i)).map fun v => (p v).avs), .ro (hp.map Cl.avs), fa, .ro (fs.map Frm.avs), .int .i64 fs.length, .int .i64 i] H' n' from
    key _ fun i' ss fa H' n' h1 h2 h3 h4 h5 => ⟨_, h1, i', ss, fa, rfl, h2, h3, rfl, h4, h5⟩
  intro K hK
  have e1 := (keep n (by omega)).trans r1
  obtain ⟨z, z1, z2⟩ := r2
  have e2 := (keep (n + 1) (by omega)).trans z1
  by_cases hil : i < fs.length
  · have hf : fs[i]? = some fs[i] := List.getElem?_eq_getElem hil
    have hdrop : fs.drop i = fs[i] :: fs.drop (i + 1) := List.drop_eq_getElem_cons hil
    have htk : fs.take (i + 1) = fs.take i ++ [fs[i]] := zcy hf
    have hadd : IntKind.i64.wrap ((i : Int) + 1) = ((i + 1 : Nat) : Int) := by rw [i64w (by omega)]; rfl
    have hroots : zi (fs.drop i) = fs[i].vars ++ (fs[i].stack ++ zi (fs.drop (i + 1))) := by unfold zi; rw [hdrop, List.flatMap_cons, List.append_assoc]
    have len3 : ∀ l : List Val, ∀ x ∈ l.map (fun v => (p v).avs), x.length = 3 := fun l x hx => by obtain ⟨v, _, rfl⟩ := List.mem_map.1 hx; rfl
    have one3 : ∀ l : List Val, ∀ x ∈ l.map (fun v => (p v).avs), ∀ c ∈ x, c.one = true := fun l x hx c hc => by obtain ⟨v, _, rfl⟩ := List.mem_map.1 hx; exact zaa (zan _ c hc)
    have fl : ∀ l : List Val, (l.map fun v => (p v).avs).flatten = rowV (l.map p) := fun l => by simp [rowV, List.map_map, Function.comp_def]
    obtain ⟨b1, b2⟩ := hb _ (List.getElem_mem hil)
    have hw : IntKind.i64.wrap ((fs[i].vars.length : Int) + fs[i].stack.length) = ((fs[i].vars.length + fs[i].stack.length : Nat) : Int) := by rw [i64w (by omega)]; rfl
    have hsrc : ∀ (H : Heap) (l : List Val), zm 3 H (.ro (l.map fun v => (p v).avs)) = some (l.length, rowV (l.map p), []) := fun H l => by rw [zcn (len3 l), fl]; simp
    have hones : ∀ l : List Val, ∀ x ∈ rowV l, x.one = true := fun l c hc => zaa (zbk l c hc)
    obtain ⟨X, hX⟩ : ∃ X, X = (zi (fs.drop i)).map fun v => (p v).avs := ⟨_, rfl⟩
    have x3 : ∀ x ∈ X, x.length = 3 := by rw [hX]; exact len3 _
    have lX : fs[i].vars.length + fs[i].stack.length ≤ X.length := by rw [hX, hroots]; simp
    have t1 : X.take fs[i].vars.length = fs[i].vars.map fun v => (p v).avs := by rw [hX, hroots, List.map_append, List.take_append_of_le_length (by simp), List.take_of_length_le (by simp)]
    have t2 : (X.take (fs[i].vars.length + fs[i].stack.length)).drop fs[i].vars.length = fs[i].stack.map fun v => (p v).avs := by
      rw [hX, hroots, List.map_append, List.map_append, ← List.append_assoc, List.take_append_of_le_length (by simp), List.take_of_length_le (by simp), List.drop_append_of_le_length (by simp), List.drop_of_length_le (by simp), List.nil_append]
    have t3 : X.drop (fs[i].vars.length + fs[i].stack.length) = (zi (fs.drop (i + 1))).map fun v => (p v).avs := by
      rw [hX, hroots, List.map_append, List.map_append, ← List.append_assoc, List.drop_append_of_le_length (by simp), List.drop_of_length_le (by simp), List.nil_append]
    have q1 : ((fs[i].vars.length : Int)) ≤ X.length := by omega
    have q2 : ((fs[i].vars.length : Int) + fs[i].stack.length) ≤ X.length := by omega
    have q3 : ((fs[i].vars.length : Int) + fs[i].stack.length).toNat = fs[i].vars.length + fs[i].stack.length := by omega
    rw [← hX]
    simp [zdn, hil]
    have m1 : n' ≠ n' + 2 := by omega
    have m2 : n' ≠ n' + 2 + 1 := by omega
    have m3 : n' ≠ n' + 4 := by omega
    have m4 : n' ≠ n' + 1 := by omega
    have m5 : n' ≠ n' + 4 + 1 := by omega
    simp [Frm.avs, zahe, zaen, zams, hw, t1, t2, t3, hsrc, x3, q1, q2, q3, m1, m2, m3, m4, m5]
    refine ⟨x3, hones _, by omega, by omega, x3, hones _, by omega, by omega, x3, ?_⟩
    generalize hY : Heap.put _ (n' + 4 + 1) _ = HY
    have y1 : HY (n' + 4 + 1) = some (.row 4 [.int .i64 fs[i].fn, .int .i64 fs[i].at_, .slc (n' + 2) 0 fs[i].vars.length, .slc (n' + 4) 0 fs[i].stack.length]) := by rw [← hY, Heap.put_at]
    have y2 : HY (n' + 4) = some (.row 3 (rowV (fs[i].stack.map p))) := by rw [← hY, Heap.put_ne _ _ (by omega), Heap.put_ne _ _ (by omega), Heap.put_at]
    have y3 : HY (n' + 2) = some (.row 3 (rowV (fs[i].vars.map p))) := by rw [← hY, Heap.put_ne _ _ (by omega), Heap.put_ne _ _ (by omega), Heap.put_ne _ _ (by omega), Heap.put_ne _ _ (by omega), Heap.put_at]
    have yk : ∀ g, g < n' → HY g = H' g := fun g hg => by rw [← hY, Heap.put_ne _ _ (by omega), Heap.put_ne _ _ (by omega), Heap.put_ne _ _ (by omega), Heap.put_ne _ _ (by omega), Heap.put_ne _ _ (by omega), Heap.put_ne _ _ (by omega), Heap.put_ne _ _ (by omega)]
    have tl : ((fs.take i).map (pkF p)).length = i := by simp; omega
    refine st.snoc (f := pkF p fs[i]) (va := .slc (n' + 2) 0 fs[i].vars.length) (sa := .slc (n' + 4) 0 fs[i].stack.length) (N := n' + 2) (by omega) (by omega) (by omega) (by rw [tl]; omega) yk (.inr ⟨n' + 2, _, by simp [pkF], y3, List.take_of_length_le (by simp [pkF]), by simp [pkF]⟩) (.inr ⟨n' + 4, _, by simp [pkF], y2, List.take_of_length_le (by simp [pkF]), by simp [pkF]⟩) (by simp [own]) (fun g hg => by simp [own] at hg; omega) y1 fun H3 a' h1 h2 => ?_
    rw [hadd]
    refine hK (i + 1) (ss ++ [(.slc (n' + 2) 0 fs[i].vars.length, .slc (n' + 4) 0 fs[i].stack.length)]) a' H3 _ (by omega) (by omega) (by omega) ?_ fun g hg => ?_
    · rw [htk, List.map_append]; exact h2
    · rw [h1 g hg, yk g (by omega)]; exact keep g hg
  · obtain rfl : i = fs.length := by omega
    rw [List.take_length] at st
    simp [zdn, e1, e2, zc, z2, st.row.one.1, st.row.one.2.1, st.row.one.2.2]
    have bd := st.bd
    refine hend _ n' ss fa ⟨st.frs.keep fun g hg => ?_, st.row.keep fun g hg => ?_, st.nd, st.bd⟩ fun g hg => ?_
    · have := bd g (List.mem_append_right _ hg)
      rw [Heap.put_ne _ _ (by omega), Heap.put_ne _ _ (by omega)]
    · have := bd g (List.mem_append_left _ hg)
      rw [Heap.put_ne _ _ (by omega), Heap.put_ne _ _ (by omega)]
    · rw [Heap.put_ne _ _ (by omega), Heap.put_ne _ _ (by omega)]; exact keep g (by omega)
set_option maxRecDepth 20000 in
set_option maxHeartbeats 1000000 in
theorem zaja {a : Agt} (hfl : a.frames.length ≤ 4096) (hb : (zi a.frames).length ≤ 4096) (hh : a.heap.length ≤ 4096) (hr : VM.right a.heap (zi a.frames) = true) :
    QC Tryd.prog 30 [.agg a.avs] (.agg (VM.pack a).avs) := by
  refine QC.of' fun H n => ?_
  refine zwr _ H n _ ?_
  have av : (AV.agg a.avs).cells = a.avs := by simp
  have hsu : (AV.agg a.avs).sure = true := by simp [Agt.avs]
  have e9 : a.avs.length = 9 := rfl
  have e4 : a.avs[4]? = some (.ro (a.frames.map Frm.avs)) := rfl
  have e5 : a.avs[5]? = some (.ro (a.heap.map Cl.avs)) := rfl
  unfold ziz
  rw [av, e9]
  refine ⟨hsu, ?_⟩
  simp [e4]
  generalize hX : Heap.put _ (n + 1) _ = HX
  have x0 : HX n = some (.row 9 a.avs) := by rw [← hX, Heap.put_ne _ _ (by omega), Heap.put_at]
  have x1 : ∃ z, HX (n + 1) = some (.row 9 z) ∧ z.length = 9 := ⟨_, by rw [← hX, Heap.put_at], rfl⟩
  have xk : ∀ g, g < n → HX g = H g := fun g hg => by rw [← hX, Heap.put_ne _ _ (by omega), Heap.put_ne _ _ (by omega)]
  have each : ∀ f ∈ a.frames, f.vars.length ≤ 4096 ∧ f.stack.length ≤ 4096 := fun f hf => by
    obtain ⟨s, t, e⟩ := List.append_of_mem hf
    have : zi a.frames = zi s ++ (f.vars ++ f.stack ++ zi t) := by rw [e]; simp [zi]
    rw [this] at hb
    simp only [List.length_append] at hb
    omega
  refine zacl hb hfl fun H' n' l hn keep sl bl => ?_
  have y0 := (keep n (by omega)).trans x0
  simp [y0, e5]
  let G : Nat → Prop := fun g => g ∈ own l
  let H0 : Heap := fun g => if g ∈ own l then none else H' g
  have h0 : ∀ g o, H0 g = some o → ¬ G g ∧ H' g = some o := fun g o hg => by
    by_cases h : g ∈ own l
    · simp only [H0, if_pos h] at hg; cases hg
    · simp only [H0, if_neg h] at hg; exact ⟨h, hg⟩
  have up : ∀ g, g < n + 2 → H0 g = HX g := fun g h2 => by
    simp only [H0]
    rw [if_neg (fun h => by have := bl g h; omega)]
    exact keep g h2
  refine QC.thaw (zahj a.heap (zi a.frames) hr (by omega) (by omega)) (G := G) (H0 := H0) (zgy.cons (.same _) (zgy.cons (Slot.frzP (sz := 3) (by simpa [rowV] using sl) (fun g hg => hg) (zbo _)) .nil)) h0 ?_
  have z0 := (up n (by omega)).trans x0
  obtain ⟨z, z1, z2⟩ := x1
  simp [zja, z0, e4]
  have hcv : (VM.canonV a.heap (zi a.frames)).map Val.avs = (zi a.frames).map fun v => (VM.put (VM.order a.heap (zi a.frames)) v).avs := by
    unfold VM.canonV; rw [List.map_map]; rfl
  rw [hcv]
  refine zafq (id := a.id) (trip := a.trip) (pr := a.prog) (m := a.permit) (p := VM.put (VM.order a.heap (zi a.frames))) (hp := VM.canonC a.heap (zi a.frames)) (h := a.heap) hfl each hn z0 ⟨z, (up (n + 1) (by omega)).trans z1, z2⟩ fun H3 n3 ss fa fc k3 => ⟨?_, fun g hg => ?_⟩
  · have hp : VM.pack a = ⟨a.id, a.trip, a.prog, a.frames.map (pkF (VM.put (VM.order a.heap (zi a.frames)))), VM.canonC a.heap (zi a.frames), a.permit⟩ := rfl
    rw [hp]
    refine zbs ?_ (.same _ (zcc (zag _)))
    rcases fc.row with ⟨q0, rfl | rfl⟩ | ⟨gf, cs, rfl, c1, c2, c3⟩
    · rw [List.eq_nil_of_length_eq_zero q0]; exact .nils
    · rw [List.eq_nil_of_length_eq_zero q0]; exact .zs
    · exact zak.frz fc.frs c1 c2 c3 (by have := fc.bd gf (by simp [own]); omega) (fun x hx => by have := fc.bd x (List.mem_append_right _ hx); omega) rfl
  · rw [k3 g hg, up g (by omega)]; exact xk g hg
end Go.Proofs.YtejohcohkgcmhaaDoor
namespace Go.Proofs.YtejohcohkgcmhaaDoor
open Go Go.RowKit
def Good (H : Heap) (nx : Nat) (v : AV) (r : Agt) : Prop := ∃ xs, v = .agg xs ∧ xs.length = 9 ∧ (∀ x ∈ xs, x.one = true) ∧ (AV.agg xs).sure = true ∧ ∀ H2 : Heap, (∀ g, nx + 4 ≤ g → H2 g = H g) → Frz H2 nx v (.agg r.avs)
structure Outs (H0 H : Heap) (nx : Nat) : Prop where
  r2 : ∃ z, H (nx + 2) = some (.row 9 z) ∧ z.length = 9
  r3 : ∃ z, H (nx + 3) = some (.row 3 z) ∧ z.length = 3
  keep : Keep nx H H0
theorem Outs.more {H0 H H' : Heap} {nx : Nat} (o : Outs H0 H nx) (hk : ∀ g, g < nx + 4 → g ≠ nx → g ≠ nx + 1 → H' g = H g) : Outs H0 H' nx := by
  obtain ⟨z, z1, z2⟩ := o.r2
  obtain ⟨y, y1, y2⟩ := o.r3
  exact ⟨⟨z, by rw [hk _ (by omega) (by omega) (by omega)]; exact z1, z2⟩, ⟨y, by rw [hk _ (by omega) (by omega) (by omega)]; exact y1, y2⟩, fun g hg => by rw [hk g (by omega) (by omega) (by omega)]; exact o.keep g hg⟩
theorem Good.more {H H' : Heap} {nx : Nat} {v : AV} {r : Agt} (g : Good H nx v r) (hk : ∀ g, nx + 4 ≤ g → H' g = H g) : Good H' nx v r := by
  obtain ⟨xs, h1, h2, h3, h4, h5⟩ := g
  exact ⟨xs, h1, h2, h3, h4, fun H2 h => h5 H2 fun g hg => (h g hg).trans (hk g hg)⟩
def zio (H0 : Heap) (nx : Nat) (r : Agt × Evt) : AV → Heap → Nat → Prop := fun v H' _ => Frz H' nx v (.tup [.agg r.1.avs, .agg r.2.avs]) ∧ Keep nx H' H0
theorem ret {H0 H : Heap} {nx n : Nat} {v : AV} {r : Agt × Evt} (g : Good H nx v r.1) (o : Outs H0 H nx) : ST 9 (.ptr (nx + 2) 0) v H fun H1 => ST 3 (.ptr (nx + 3) 0) (.agg r.2.avs) H1 fun H2 => LD true 9 (.ptr (nx + 2) 0) H2 fun v1 => LD true 3 (.ptr (nx + 3) 0) H2 fun v2 => zio H0 nx r (.tup [v1, v2]) H2 n := by
  obtain ⟨xs, rfl, h2, h3, h4, h5⟩ := g
  obtain ⟨⟨z, z1, z2⟩, ⟨y, y1, y2⟩, keep⟩ := o
  have tx : xs.take 9 = xs := List.take_of_length_le (by omega)
  have m1 : nx + 2 ≠ nx + 3 := by omega
  have m2 : nx + 3 ≠ nx + 2 := by omega
  have m : min xs.length 9 = 9 := by omega
  simp [z1, y1, z2, y2, h2, tx, Evt.avs, m1, m2, m]
  refine ⟨h3, Frz.tup2 (h5 _ fun g hg => by rw [Heap.put_ne _ _ (by omega), Heap.put_ne _ _ (by omega)]) (.same _ (zny _)), fun g hg => ?_⟩
  · rw [Heap.put_ne _ _ (by omega), Heap.put_ne _ _ (by omega)]; exact keep g hg
theorem ex_0 {a b : AV} {k : AV → Prop} : EX (.tup [a, b]) 0 k = k a := by simp
theorem ex_1 {a b : AV} {k : AV → Prop} : EX (.tup [a, b]) 1 k = k b := by simp
theorem retE {H0 H : Heap} {nx n : Nat} {v : AV} {r : Agt × Evt} (g : Good H nx v r.1) (o : Outs H0 H nx) : EX (.tup [v, .agg r.2.avs]) 0 fun a => EX (.tup [v, .agg r.2.avs]) 1 fun b => ST 9 (.ptr (nx + 2) 0) a H fun H1 => ST 3 (.ptr (nx + 3) 0) b H1 fun H2 => LD true 9 (.ptr (nx + 2) 0) H2 fun v1 => LD true 3 (.ptr (nx + 3) 0) H2 fun v2 => zio H0 nx r (.tup [v1, v2]) H2 n := by
  rw [ex_0, ex_1]; exact ret g o
theorem zaaz {H : Heap} {nx g : Nat} {l : List Val} (h : H g = some (.row 3 (rowV l))) (hg : nx ≤ g) : Frz H nx (.slc g 0 l.length) (.ro (l.map Val.avs)) :=
  Slot.frzV (.inr ⟨g, _, rfl, h, List.take_of_length_le (by simp), by simp⟩) (by simpa [own] using hg)
def Part (H : Heap) (nx n : Nat) (v r : AV) : Prop := v.cells = [v] ∧ v.one = true ∧ v.sure = true ∧ ∀ H2 : Heap, (∀ g, nx + 4 ≤ g → g < n → H2 g = H g) → Frz H2 nx v r
theorem Part.more {H H' : Heap} {nx n n' : Nat} {v r : AV} (p : Part H nx n v r) (hn : n ≤ n') (hk : ∀ g, nx + 4 ≤ g → g < n → H' g = H g) : Part H' nx n' v r := ⟨p.1, p.2.1, p.2.2.1, fun H2 h => p.2.2.2 H2 fun g hg hl => (h g hg (by omega)).trans (hk g hg hl)⟩
theorem Part.ro {H : Heap} {nx n : Nat} {xs : List (List AV)} (hx : ∀ x ∈ xs, ∀ c ∈ x, scal c = true) : Part H nx n (.ro xs) (.ro xs) := ⟨rfl, rfl, rfl, fun H2 _ => .same _ (zcc hx)⟩
theorem Part.row {H : Heap} {nx n g : Nat} {l : List Val} (h : H g = some (.row 3 (rowV l))) (hg : nx + 4 ≤ g) (hl : g < n) : Part H nx n (.slc g 0 l.length) (.ro (l.map Val.avs)) :=
  ⟨rfl, rfl, rfl, fun H2 hk => zaaz (by rw [hk g hg hl]; exact h) (by omega)⟩
theorem Part.nils {H : Heap} {nx n : Nat} : Part H nx n .nils (.ro []) := ⟨rfl, rfl, rfl, fun H2 _ => .nils⟩
theorem zmr {H : Heap} {nx n g : Nat} {id trip : Int} {p : Prg} {fs : List Frm} {f : Frm} {h : List Cl} {m : Pmt} {va sa ha : AV} (hg : nx + 4 ≤ g) (hr : H g = some (.row 4 ((fs.map Frm.avs).flatten ++ [.int .i64 f.fn, .int .i64 f.at_, va, sa]))) (hv : Part H nx n va (.ro (f.vars.map Val.avs))) (hs : Part H nx n sa (.ro (f.stack.map Val.avs))) (hh : Part H nx n ha (.ro (h.map Cl.avs))) :
    Good H nx (.agg (zc id trip p (.slc g 0 (fs.length + 1)) ha m)) ⟨id, trip, p, fs ++ [f], h, m⟩ := by
  refine ⟨_, rfl, rfl, ?_, ?_, fun H2 hk => zbs (zve (by rw [hk g hg]; exact hr) rfl (by omega) (hv.2.2.2 H2 fun g hg _ => hk g hg) (hs.2.2.2 H2 fun g hg _ => hk g hg)) (hh.2.2.2 H2 fun g hg _ => hk g hg)⟩
  · intro x hx
    simp [zc] at hx
    rcases hx with rfl | rfl | rfl | rfl | rfl | rfl | rfl | rfl | rfl <;> first | rfl | exact hh.2.1
  · simp [zc, hh.2.2.1]
theorem zcw {H : Heap} {nx n ga : Nat} {id trip : Int} {p : Prg} {fs : List Frm} {f : Frm} {h : List Cl} {m : Pmt} {va sa ha w1 w2 w3 w4 : AV} {Q : AV → Heap → Nat → Prop} (hn : nx + 4 ≤ n) (hk : fs.length ≤ 4096) (hl : ga < n) (hr : H ga = some (.row 4 ((fs.map Frm.avs).flatten ++ [w1, w2, w3, w4]))) (hw : w1.one = true ∧ w2.one = true ∧ w3.one = true ∧ w4.one = true)
    (hv : Part H nx n va (.ro (f.vars.map Val.avs))) (hs : Part H nx n sa (.ro (f.stack.map Val.avs))) (hh : Part H nx n ha (.ro (h.map Cl.avs)))
    (hq : ∀ H' n' g', n ≤ g' → g' < n' → Keep n H' H → H' g' = some (.row 4 ((fs.map Frm.avs).flatten ++ [.int .i64 f.fn, .int .i64 f.at_, va, sa])) → Good H' nx (.agg (zc id trip p (.slc g' 0 (fs.length + 1)) ha m)) ⟨id, trip, p, fs ++ [f], h, m⟩ → Q (.agg (zc id trip p (.slc g' 0 (fs.length + 1)) ha m)) H' n') :
    za Tryd.prog 51 [.agg (zc id trip p (.slc ga 0 (fs.length + 1)) ha m), .agg [.int .i64 f.fn, .int .i64 f.at_, va, sa]] H n Q := by
  have hlf : ((fs.map Frm.avs).flatten).length = fs.length * 4 := by rw [zba (zdf fs)]; simp
  refine zwb (zdy.slc hr hl (by rw [List.length_append, hlf]; simp; omega) ?_) hk ⟨hh.1, hh.2.1, hh.2.2.1⟩ ⟨hv.2.1, hv.2.2.1⟩ ⟨hs.2.1, hs.2.2.1⟩ fun H' n' g' h1 h2 kp hr' => ?_
  · refine List.all_eq_true.2 fun c hc => ?_
    rcases List.mem_append.1 hc with hc | hc
    · obtain ⟨x, hx, hcx⟩ := List.mem_flatten.1 hc; exact oneF fs x hx c hcx
    · simp at hc; rcases hc with rfl | rfl | rfl | rfl
      · exact hw.1
      · exact hw.2.1
      · exact hw.2.2.1
      · exact hw.2.2.2
  · rw [List.take_append_of_le_length (by omega), List.take_of_length_le (by omega)] at hr'
    exact hq H' n' g' h1 h2 kp hr' (zmr (n := n) (by omega) hr' (hv.more (Nat.le_refl _) fun g _ hg => kp g hg) (hs.more (Nat.le_refl _) fun g _ hg => kp g hg) (hh.more (Nat.le_refl _) fun g _ hg => kp g hg))
end Go.Proofs.YtejohcohkgcmhaaDoor
namespace Go.Proofs.YtejohcohkgcmhaaDoor
open Go Go.RowKit
section
variable {H0 H : Heap} {nx n ga : Nat} {id trip : Int} {p : Prg} {fs : List Frm} {f : Frm} {h : List Cl} {m : Pmt} {va sa ha w1 w2 w3 w4 : AV}
theorem zajf (er : Int) {xs : List AV} (hx : H nx = some (.row 9 xs)) (hl : xs.length = 9) (ho : ∀ x ∈ xs, x.one = true) (hn : nx < n) {Q : AV → Heap → Nat → Prop} (hq : ∀ H', (∀ g, g < n → H' g = H g) → Q (.tup [.agg xs, .agg (VM.dead er).avs]) H' (n + 2)) : za Tryd.prog 66 [.int .i64 er, .ptr nx 0] H n Q := by
  refine ztm _ _ H n _ ?_
  have tx : xs.take 9 = xs := List.take_of_length_le (by omega)
  have m1 : nx ≠ n := by omega
  have m2 : nx ≠ n + 1 := by omega
  have m3 : n ≠ n + 1 := by omega
  have m : min xs.length 9 = 9 := by omega
  have d9 : List.drop 9 [AV.int .i64 0, .int .i64 0, .nils, .nils, .nils, .nils, .int .i64 0, .int .i64 0, .int .i64 0] = [] := rfl
  simp [zhb, hx, m1, m2, m3, tx, hl, m]
  exact ⟨ho, fun x hx => by rcases hx with (rfl | rfl) | rfl <;> rfl, hq _ fun g hg => by rw [Heap.put_ne _ _ (by omega), Heap.put_ne _ _ (by omega), Heap.put_ne _ _ (by omega), Heap.put_ne _ _ (by omega)]⟩
set_option maxRecDepth 20000 in
set_option maxHeartbeats 1000000 in
theorem zafa (v : Val) {gs : Nat} (hn : nx + 6 ≤ n) (hk : fs.length ≤ 4096) (hst : f.stack.length ≤ 4096) (r0 : H nx = some (.row 9 (zc id trip p (.slc ga 0 (fs.length + 1)) ha m))) (r4 : H (nx + 4) = some (.row 4 [.int .i64 f.fn, .int .i64 f.at_, va, .slc gs 0 f.stack.length])) (rs : H gs = some (.row 3 (rowV f.stack))) (hgs : nx + 6 ≤ gs ∧ gs < n)
    (hga : nx + 6 ≤ ga ∧ ga < n) (ra : H ga = some (.row 4 ((fs.map Frm.avs).flatten ++ [w1, w2, w3, w4]))) (hne : ga ≠ gs) (hw : w1.one = true ∧ w2.one = true ∧ w3.one = true ∧ w4.one = true)
    (hv : ∀ H' : Heap, (∀ g, nx + 6 ≤ g → g < n → g ≠ gs → H' g = H g) → Part H' nx n va (.ro (f.vars.map Val.avs))) (hh : ∀ H' : Heap, (∀ g, nx + 6 ≤ g → g < n → g ≠ gs → H' g = H g) → Part H' nx n ha (.ro (h.map Cl.avs)))
    {Q : AV → Heap → Nat → Prop} (hq : ∀ v' H' n', Good H' nx v' ⟨id, trip, p, fs ++ [{ f with stack := f.stack ++ [v] }], h, m⟩ → (∀ g, g < nx + 4 → H' g = H g) → Q (.tup [v', .agg VM.ev0.avs]) H' n') :
    za Tryd.prog 68 [.agg v.avs, .ptr (nx + 4) 0, .ptr nx 0] H n Q := by
  refine ztl _ _ _ H n _ ?_
  have ce : (AV.agg v.avs).cells = v.avs := by simp
  have lv : v.avs.length = 3 := rfl
  have tv : v.avs.take 3 = v.avs := rfl
  unfold zha
  rw [ce, lv]
  have m0 : nx + 4 ≠ n := by omega
  have m1 : nx + 4 ≠ n + 1 := by omega
  have m2 : nx + 4 ≠ n + 2 := by omega
  have m3 : nx + 4 ≠ n + 3 := by omega
  have ga1 : gs ≠ n := by omega
  have ga2 : gs ≠ n + 1 := by omega
  have ga3 : gs ≠ n + 2 := by omega
  have ga4 : gs ≠ n + 3 := by omega
  refine ⟨by simp [Val.avs], ?_⟩
  have b1 : nx ≠ n := by omega
  have b2 : nx ≠ n + 1 := by omega
  have b3 : nx ≠ n + 2 := by omega
  have b4 : nx ≠ n + 3 := by omega
  have b5 : nx ≠ n + 4 := by omega
  have b6 : nx ≠ gs := by omega
  have b7 : nx + 4 ≠ gs := by omega
  have b8 : nx ≠ nx + 4 := by omega
  have tk : (rowV f.stack).take (f.stack.length * 3) = rowV f.stack := List.take_of_length_le (by simp)
  simp [r4, m0, m1, m2, m3, tv, lv, ga1, ga2, ga3, ga4, rs, b1, b2, b3, b4, b5, b6, b7, b8, r0, zc, tk]
  refine ⟨fun x hx => zaa (zan v x hx), by omega, ?_⟩
  generalize hX : Heap.put _ (nx + 4) _ = HX
  have old : ∀ g, g < n → g ≠ gs → g ≠ nx + 4 → HX g = H g := fun g h1 h2 h3 => by
    rw [← hX, Heap.put_ne _ _ h3, Heap.put_ne _ _ (by omega), Heap.put_ne _ _ h2, Heap.put_ne _ _ (by omega), Heap.put_ne _ _ (by omega), Heap.put_ne _ _ (by omega), Heap.put_ne _ _ (by omega)]
  have x1 : HX (n + 4) = some (.row 3 (rowV (f.stack ++ [v]))) := by rw [← hX, Heap.put_ne _ _ (by omega), Heap.put_at, zeb]
  have x2 : ∃ z, HX (n + 1) = some (.row 9 z) ∧ z.length = 9 := ⟨_, by rw [← hX, Heap.put_ne _ _ (by omega), Heap.put_ne _ _ (by omega), Heap.put_ne _ _ (by omega), Heap.put_ne _ _ (by omega), Heap.put_ne _ _ (by omega), Heap.put_at], rfl⟩
  have x3 : ∃ z, HX (n + 2) = some (.row 3 z) ∧ z.length = 3 := ⟨_, by rw [← hX, Heap.put_ne _ _ (by omega), Heap.put_ne _ _ (by omega), Heap.put_ne _ _ (by omega), Heap.put_ne _ _ (by omega), Heap.put_at], rfl⟩
  have hs' : Part HX nx (n + 4 + 1) (.slc (n + 4) 0 (f.stack.length + 1)) (.ro ((f.stack ++ [v]).map Val.avs)) := by
    have := Part.row (nx := nx) (n := n + 4 + 1) x1 (by omega) (by omega)
    simpa using this
  have hv0 := hv HX fun g h1 h2 h3 => old g h2 h3 (by omega)
  have hh0 := hh HX fun g h1 h2 h3 => old g h2 h3 (by omega)
  have hv' := hv0.more (n' := n + 4 + 1) (H' := HX) (by omega) fun g _ _ => rfl
  have hh' := hh0.more (n' := n + 4 + 1) (H' := HX) (by omega) fun g _ _ => rfl
  refine zcw (f := { f with stack := f.stack ++ [v] }) (by omega) hk (by omega) (by rw [old ga hga.2 hne (by omega)]; exact ra) hw hv' hs' hh' fun H' n' g' h1 h2 kp hr gd => ?_
  obtain ⟨z, z1, z2⟩ := x2
  obtain ⟨y, y1, y2⟩ := x3
  have q1 := (kp (n + 1) (by omega)).trans z1
  have q2 := (kp (n + 2) (by omega)).trans y1
  have c1 : n + 2 ≠ n + 1 := by omega
  have c2 : n + 1 ≠ n + 2 := by omega
  simp [zmu, zc, q1, q2, z2, y2, c1, c2, hh'.1, hh'.2.1]
  have q4 := (kp (n + 4) (by omega)).trans x1
  have fin : ∀ o o', ∀ g, g ≠ n + 1 → g ≠ n + 2 → ((H'.put (n + 1) o).put (n + 2) o') g = H' g := fun o o' g h1 h2 => by rw [Heap.put_ne _ _ h2, Heap.put_ne _ _ h1]
  refine hq _ _ _ (zmr (n := n') (f := { f with stack := f.stack ++ [v] }) (by omega) (by rw [fin _ _ g' (by omega) (by omega)]; exact hr) (hv0.more (by omega) fun g h1 h2 => ?_) ?_ (hh0.more (by omega) fun g h1 h2 => ?_)) fun g hg => ?_
  · rw [fin _ _ g (by omega) (by omega), kp g (by omega)]
  · have := Part.row (nx := nx) (n := n') ((fin (some (.row 9 (zc id trip p (.slc g' 0 (fs.length + 1)) ha m ++ z.drop 9))) (some (.row 3 (VM.ev0.avs ++ y.drop 3))) (n + 4) (by omega) (by omega)).trans q4) (by omega) (by omega)
    simpa [zc, VM.ev0, Evt.avs] using this
  · rw [fin _ _ g (by omega) (by omega), kp g (by omega)]
  · rw [fin _ _ g (by omega) (by omega), kp g (by omega)]; exact old g (by omega) (by omega) (by omega)
end
end Go.Proofs.YtejohcohkgcmhaaDoor
namespace Go.Proofs.YtejohcohkgcmhaaDoor
open Go Go.RowKit
structure VSt (H0 H : Heap) (nx n ga : Nat) (b : Agt) (s : Spt) (fs : List Frm) (f : Frm) (ins : List Val) (i : Ins) : Prop where
  o : Outs H0 H nx
  r0 : H nx = some (.row 9 (zc b.id b.trip b.prog (.slc ga 0 (fs.length + 1)) (.ro (b.heap.map Cl.avs)) b.permit))
  r1 : H (nx + 1) = some (.row 4 s.avs)
  r4 : H (nx + 4) = some (.row 4 [.int .i64 f.fn, .int .i64 f.at_, .slc (nx + 11) 0 f.vars.length, .slc (nx + 9) 0 f.stack.length])
  r5 : H (nx + 5) = some (.row 3 i.avs)
  ra : H ga = some (.row 4 ((fs.map Frm.avs).flatten ++ [.int .i64 f.fn, .int .i64 f.at_, .slc (nx + 11) 0 f.vars.length, .slc (nx + 9) 0 f.stack.length]))
  rv : H (nx + 11) = some (.row 3 (rowV f.vars))
  rs : H (nx + 9) = some (.row 3 (rowV f.stack))
  ri : H (nx + 7) = some (.row 3 (rowV ins))
  ga1 : nx + 12 ≤ ga ∧ ga < n
  hk : fs.length ≤ 4096
  hst : f.stack.length ≤ 4096
section
variable {H0 H : Heap} {nx n ga : Nat} {b : Agt} {s : Spt} {fs : List Frm} {f : Frm} {ins : List Val} {i : Ins}
theorem VSt.more (R : VSt H0 H nx n ga b s fs f ins i) {H' : Heap} {n' : Nat} (hn : n ≤ n') (hk : ∀ g, g < n → H' g = H g) : VSt H0 H' nx n' ga b s fs f ins i := by
  have g1 := R.ga1
  exact ⟨R.o.more fun g hg _ _ => hk g (by omega), by rw [hk _ (by omega)]; exact R.r0, by rw [hk _ (by omega)]; exact R.r1, by rw [hk _ (by omega)]; exact R.r4, by rw [hk _ (by omega)]; exact R.r5, by rw [hk _ (by omega)]; exact R.ra, by rw [hk _ (by omega)]; exact R.rv, by rw [hk _ (by omega)]; exact R.rs, by rw [hk _ (by omega)]; exact R.ri, ⟨by omega, by omega⟩, R.hk, R.hst⟩
theorem zaky {H : Heap} {g : Nat} {o : Option AObj} (h : H g = o) : H.put g o = H := by
  funext x
  by_cases e : x = g
  · subst e; rw [Heap.put_at, h]
  · rw [Heap.put_ne _ _ e]
theorem VSt.self (R : VSt H0 H nx n ga b s fs f ins i) : H.put nx (some (.row 9 [.int .i64 b.id, .int .i64 b.trip, .ro (b.prog.codes.map Cod.avs), .ro (b.prog.words.map fun w => [.str w]), .slc ga 0 (fs.length + 1), .ro (b.heap.map Cl.avs), .int .i64 b.permit.fuel, .int .i64 b.permit.room, .int .i64 b.permit.hops])) = H := zaky R.r0
theorem VSt.push (R : VSt H0 H nx n ga b s fs f ins i) (v : Val) {Q : AV → Heap → Nat → Prop} (hq : ∀ v' H' n', Good H' nx v' ⟨b.id, b.trip, b.prog, fs ++ [{ f with stack := f.stack ++ [v] }], b.heap, b.permit⟩ → Outs H0 H' nx → Q (.tup [v', .agg VM.ev0.avs]) H' n') :
    za Tryd.prog 68 [.agg v.avs, .ptr (nx + 4) 0, .ptr nx 0] H n Q := by
  have g1 := R.ga1
  refine zafa (f := f) v (by omega) R.hk R.hst R.r0 R.r4 R.rs ⟨by omega, by omega⟩ ⟨by omega, by omega⟩ R.ra (by omega) ⟨rfl, rfl, rfl, rfl⟩ (fun H' hk => ?_) (fun H' hk => .ro (zag _)) fun v' H' n' g hk => hq v' H' n' g (R.o.more fun g hg _ _ => hk g hg)
  exact Part.row (by rw [hk _ (by omega) (by omega) (by omega)]; exact R.rv) (by omega) (by omega)
theorem VSt.good (R : VSt H0 H nx n ga b s fs f ins i) {H' : Heap} (hk : ∀ g, nx + 4 ≤ g → g < n → H' g = H g) : Good H' nx (.agg (zc b.id b.trip b.prog (.slc ga 0 (fs.length + 1)) (.ro (b.heap.map Cl.avs)) b.permit)) ⟨b.id, b.trip, b.prog, fs ++ [f], b.heap, b.permit⟩ := by
  have g1 := R.ga1
  exact zmr (n := n) (by omega) (by rw [hk _ (by omega) (by omega)]; exact R.ra) (Part.row (by rw [hk _ (by omega) (by omega)]; exact R.rv) (by omega) (by omega)) (Part.row (by rw [hk _ (by omega) (by omega)]; exact R.rs) (by omega) (by omega)) (.ro (zag _))
theorem VSt.no (R : VSt H0 H nx n ga b s fs f ins i) (er : Int) {Q : AV → Heap → Nat → Prop} (hq : ∀ v' H' n', Good H' nx v' ⟨b.id, b.trip, b.prog, fs ++ [f], b.heap, b.permit⟩ → Outs H0 H' nx → Q (.tup [v', .agg (VM.dead er).avs]) H' n') :
    za Tryd.prog 66 [.int .i64 er, .ptr nx 0] H n Q := by
  have g1 := R.ga1
  refine zajf er R.r0 rfl (fun x hx => ?_) (by omega) fun H' hk => hq _ H' _ (R.good fun g _ hg => hk g hg) (R.o.more fun g hg _ _ => hk g (by omega))
  simp [zc] at hx
  rcases hx with rfl | rfl | rfl | rfl | rfl | rfl | rfl | rfl | rfl <;> rfl
theorem VSt.with (R : VSt H0 H nx n ga b s fs f ins i) {f' : Frm} {h : List Cl} {m : Pmt} {va sa ha : AV} (hv : Part H nx n va (.ro (f'.vars.map Val.avs))) (hs : Part H nx n sa (.ro (f'.stack.map Val.avs))) (hh : Part H nx n ha (.ro (h.map Cl.avs))) {Q : AV → Heap → Nat → Prop}
    (hq : ∀ H' n' g', n ≤ g' → g' < n' → Keep n H' H → H' g' = some (.row 4 ((fs.map Frm.avs).flatten ++ [.int .i64 f'.fn, .int .i64 f'.at_, va, sa])) → Good H' nx (.agg (zc b.id b.trip b.prog (.slc g' 0 (fs.length + 1)) ha m)) ⟨b.id, b.trip, b.prog, fs ++ [f'], h, m⟩ → Outs H0 H' nx → Q (.agg (zc b.id b.trip b.prog (.slc g' 0 (fs.length + 1)) ha m)) H' n') :
    za Tryd.prog 51 [.agg (zc b.id b.trip b.prog (.slc ga 0 (fs.length + 1)) ha m), .agg [.int .i64 f'.fn, .int .i64 f'.at_, va, sa]] H n Q := by
  have g1 := R.ga1
  exact zcw (by omega) R.hk g1.2 R.ra ⟨rfl, rfl, rfl, rfl⟩ hv hs hh fun H' n' g' h1 h2 kp hr gd => hq H' n' g' h1 h2 kp hr gd (R.o.more fun g hg _ _ => kp g (by omega))
def Then (H0 H : Heap) (nx n ga : Nat) (b : Agt) (fs : List Frm) (ins : List Val) (r : Agt × Evt) : Prop :=
  zj nx (zio H0 nx r) (.slc (nx + 7) 0 ins.length) (.agg (zc b.id b.trip b.prog (.slc ga 0 (fs.length + 1)) (.ro (b.heap.map Cl.avs)) b.permit)) H n
end
end Go.Proofs.YtejohcohkgcmhaaDoor
namespace Go.Proofs.YtejohcohkgcmhaaDoor
open Go Go.RowKit
section
variable {H0 H : Heap} {nx n ga : Nat} {b : Agt} {s : Spt} {fs : List Frm} {f : Frm} {ins : List Val} {ia ib : Int}
set_option maxRecDepth 20000 in
set_option maxHeartbeats 1000000 in
theorem zaqz (R : VSt H0 H nx n ga b s fs f ins ⟨1, ia, ib⟩) : Then H0 H nx n ga b fs ins (VM.push b fs f f.stack ⟨0, ia, []⟩) := by
  unfold Then
  have r0 := R.r0
  have r5 := R.r5
  have self := R.self
  simp [zj, r0, zc, r5, self, Ins.avs]
  exact R.push ⟨0, ia, []⟩ fun v' H' n' g o => retE (r := VM.push b fs f f.stack ⟨0, ia, []⟩) g o
set_option maxRecDepth 20000 in
set_option maxHeartbeats 1000000 in
theorem zaqy (R : VSt H0 H nx n ga b s fs f ins ⟨2, ia, ib⟩) (h0 : 0 ≤ ia) {w : Str} (hw : b.prog.words[ia.toNat]? = some w) (hl : w.length ≤ maxLen) : Then H0 H nx n ga b fs ins (VM.push b fs f f.stack (VM.cText w)) := by
  unfold Then
  have r0 := R.r0
  have r5 := R.r5
  have self := R.self
  obtain ⟨hlt, hwe⟩ := List.getElem?_eq_some_iff.1 hw
  have hlt' : ia < b.prog.words.length := by omega
  simp [zj, r0, zc, r5, self, Ins.avs, h0, hlt, hlt', hwe]
  refine QC.call (zze w hl) ?_
  simp only [zqi]
  exact R.push (VM.cText w) fun v' H' n' g o => retE (r := VM.push b fs f f.stack (VM.cText w)) g o
set_option maxRecDepth 20000 in
set_option maxHeartbeats 1000000 in
theorem zapl (R : VSt H0 H nx n ga b s fs f ins ⟨12, ia, ib⟩) (hl : s.name.length ≤ maxLen) : Then H0 H nx n ga b fs ins (VM.push b fs f f.stack (VM.cText s.name)) := by
  unfold Then
  have r0 := R.r0
  have r1 := R.r1
  have r5 := R.r5
  have self := R.self
  simp [zj, r0, r1, zc, r5, self, Ins.avs, Spt.avs]
  refine QC.call (zze s.name hl) ?_
  simp only [zqh]
  exact R.push (VM.cText s.name) fun v' H' n' g o => retE (r := VM.push b fs f f.stack (VM.cText s.name)) g o
set_option maxRecDepth 20000 in
set_option maxHeartbeats 1000000 in
theorem zaqx (R : VSt H0 H nx n ga b s fs f ins ⟨3, ia, ib⟩) (h0 : 0 ≤ ia) {v : Val} (hv : f.vars[ia.toNat]? = some v) : Then H0 H nx n ga b fs ins (VM.push b fs f f.stack v) := by
  unfold Then
  have r0 := R.r0
  have r4 := R.r4
  have r5 := R.r5
  have rv := R.rv
  have self := R.self
  obtain ⟨hlt, hve⟩ := List.getElem?_eq_some_iff.1 hv
  have hlt' : ia < f.vars.length := by omega
  have row := zwc hv
  have hle : ia.toNat * 3 + 3 ≤ f.vars.length * 3 := by omega
  simp [zj, r0, zc, r4, r5, rv, self, Ins.avs, h0, hlt', row, hle]
  exact R.push v fun v' H' n' g o => retE (r := VM.push b fs f f.stack v) g o
set_option maxRecDepth 20000 in
set_option maxHeartbeats 1000000 in
theorem zaqw (R : VSt H0 H nx n ga b s fs f ins ⟨4, ia, ib⟩) (h0 : 0 ≤ ia) {v : Val} (hlt : ia.toNat < f.vars.length) (hi : ins = [v]) : Then H0 H nx n ga b fs ins (VM.toF b fs { f with vars := f.vars.set ia.toNat v }, VM.ev0) := by
  unfold Then
  have r0 := R.r0
  have r4 := R.r4
  have r5 := R.r5
  have rv := R.rv
  have ri := R.ri
  have self := R.self
  subst hi
  have hlt' : ia < f.vars.length := by omega
  have hle : ia.toNat * 3 + 3 ≤ f.vars.length * 3 := by omega
  have one : rowV [v] = v.avs := by simp [rowV]
  have lv : v.avs.length = 3 := rfl
  have tv : v.avs.take 3 = v.avs := rfl
  rw [one] at ri
  simp [zj, r0, zc, r4, r5, rv, ri, self, Ins.avs, h0, hlt', hle, lv, tv]
  refine ⟨fun x hx => zaa (zan v x hx), ?_⟩
  have g1 := R.ga1
  generalize hX : Heap.put H (nx + 11) _ = HX
  have xk : ∀ g, g ≠ nx + 11 → HX g = H g := fun g hg => by rw [← hX, Heap.put_ne _ _ hg]
  have x1 : HX (nx + 11) = some (.row 3 (rowV (f.vars.set ia.toNat v))) := by rw [← hX, Heap.put_at, ← zzg hlt, List.append_assoc]
  have hv : Part HX nx n (.slc (nx + 11) 0 f.vars.length) (.ro ((f.vars.set ia.toNat v).map Val.avs)) := by
    have := Part.row (nx := nx) (n := n) x1 (by omega) (by omega)
    simpa using this
  refine zcw (f := { f with vars := f.vars.set ia.toNat v }) (by omega) R.hk g1.2 (by rw [xk ga (by omega)]; exact R.ra) ⟨rfl, rfl, rfl, rfl⟩ hv (.row (by rw [xk _ (by omega)]; exact R.rs) (by omega) (by omega)) (.ro (zag _)) fun H' n' g' h1 h2 kp hr gd => ?_
  exact ret (r := (VM.toF b fs { f with vars := f.vars.set ia.toNat v }, VM.ev0)) gd (R.o.more fun g hg _ _ => by rw [kp g (by omega)]; exact xk g (by omega))
end
end Go.Proofs.YtejohcohkgcmhaaDoor
namespace Go.Proofs.YtejohcohkgcmhaaDoor
open Go Go.RowKit
section
variable {H0 H : Heap} {nx n ga : Nat} {b : Agt} {s : Spt} {fs : List Frm} {f : Frm} {ins : List Val} {ia ib : Int}
theorem zaol {A : Nat → Prop} {a b : AV} (h1 : Bel A a) (h2 : Bel A b) : Bel A (.tup [a, b]) := by
  refine .tup _ fun i x hx => ?_
  match i, hx with
  | 0, hx => cases hx; exact h1
  | 1, hx => cases hx; exact h2
  | i + 2, hx => simp at hx
theorem Part.rowC {H : Heap} {nx n g : Nat} {l : List Cl} (h : H g = some (.row 6 (rowC l))) (hg : nx + 4 ≤ g) (hl : g < n) : Part H nx n (.slc g 0 l.length) (.ro (l.map Cl.avs)) :=
  ⟨rfl, rfl, rfl, fun H2 hk => Slot.frzH (.inr ⟨g, _, rfl, by rw [hk g hg hl]; exact h, List.take_of_length_le (by simp), by simp⟩) (by simp [own]; omega)⟩
theorem zafo (x y : Val) : (rowV [x, y]).take 3 = x.avs ∧ ((rowV [x, y]).drop 3).take 3 = y.avs ∧ (rowV [x, y]).length = 6 := ⟨rfl, rfl, rfl⟩
set_option maxRecDepth 20000 in
set_option maxHeartbeats 1000000 in
theorem zaqv (R : VSt H0 H nx n ga b s fs f ins ⟨5, ia, ib⟩) {x y : Val} (hi : ins = [x, y]) {N M : Int} (wx : VM.wrong x N = 0) (wy : VM.wrong y M = 0) : Then H0 H nx n ga b fs ins (if (VM.two ia x y).2 = 0 then VM.push b fs f f.stack (VM.two ia x y).1 else (VM.toF b fs f, VM.dead (VM.two ia x y).2)) := by
  unfold Then
  have r0 := R.r0
  have r4 := R.r4
  have r5 := R.r5
  have ri := R.ri
  have self := R.self
  subst hi
  have g1 := R.ga1
  obtain ⟨w1, w2, w3⟩ := zafo x y
  have n1 : n ≠ nx + 5 := by omega
  have n2 : n ≠ nx + 7 := by omega
  simp [zj, r0, zc, r4, r5, ri, self, Ins.avs, w1, w2, w3]
  refine zn.of_qc (r := .tup [.agg (VM.two ia x y).1.avs, .int .i64 (VM.two ia x y).2]) (zapa ia x y N M wx wy) ?_ ?_
  · exact zaol (zfd _) (.int _ _)
  have one := zae (VM.two ia x y).1
  have R' := R.more (H' := H.put n (some (.row 3 (VM.two ia x y).1.avs))) (n' := n + 1) (by omega) fun g hg => Heap.put_ne _ _ (by omega)
  by_cases h2 : (VM.two ia x y).2 = 0
  · simp [zhs, h2, n1, n2]
    exact ⟨one, R'.push _ fun v' H' n' g o => retE (r := VM.push b fs f f.stack (VM.two ia x y).1) g o⟩
  · simp [zhs, h2, n1, n2]
    exact ⟨one, R'.no _ fun v' H' n' g o => retE (r := (VM.toF b fs f, VM.dead (VM.two ia x y).2)) g o⟩
set_option maxRecDepth 20000 in
set_option maxHeartbeats 1000000 in
theorem zaqu (R : VSt H0 H nx n ga b s fs f ins ⟨6, ia, ib⟩) {x y : Val} (hi : ins = [x, y]) (h0 : 0 ≤ b.permit.room) (hh : b.heap.length ≤ 4096) (hm : b.permit.room ≤ 4096) : Then H0 H nx n ga b fs ins (if b.permit.room = 0 then (VM.toF b fs f, VM.dead 13) else VM.push { b with heap := b.heap ++ [Cl.mk x y], permit := { b.permit with room := b.permit.room - 1 } } fs f f.stack ⟨2, b.heap.length, []⟩) := by
  unfold Then
  have r0 := R.r0
  have r4 := R.r4
  have r5 := R.r5
  have ri := R.ri
  have self := R.self
  subst hi
  have g1 := R.ga1
  obtain ⟨w1, w2, w3⟩ := zafo x y
  have n1 : n ≠ nx + 5 := by omega
  have n2 : n ≠ nx + 7 := by omega
  by_cases hr : b.permit.room = 0
  · have hr1 : b.permit.room < 1 := by omega
    simp [zj, r0, zc, r4, r5, ri, self, Ins.avs, w1, w2, w3, hr]
    rw [hr] at self
    rw [self]
    exact R.no 13 fun v' H' n' g o => retE (r := (VM.toF b fs f, VM.dead 13)) g o
  · have hr1 : ¬ b.permit.room < 1 := by omega
    have hw : IntKind.i64.wrap (b.permit.room - 1) = b.permit.room - 1 := i64w (by omega)
    have hsrc : ∀ (H : Heap), zm 6 H (.ro (b.heap.map Cl.avs)) = some (b.heap.length, rowC b.heap, []) := fun H => by rw [zcn (zbe b.heap)]; simp [rowC]
    have tk : (rowC b.heap).take (b.heap.length * 6) = rowC b.heap := List.take_of_length_le (by simp)
    have hw2 : IntKind.i64.wrap (b.heap.length : Int) = b.heap.length := i64w (by omega)
    have one := zae x
    have one2 := zae y
    have lx : x.avs.length = 3 := rfl
    have ly : y.avs.length = 3 := rfl
    have e6 : List.drop 6 (x.avs ++ [AV.int .i64 0, AV.int .i64 0, AV.str []]) = [] := rfl
    have t6 : List.take 6 (x.avs ++ y.avs) = x.avs ++ y.avs := rfl
    have ne_0 : nx ≠ nx + 4 ∧ nx + 4 ≠ nx ∧ nx ≠ nx + 5 ∧ nx + 5 ≠ nx ∧ nx ≠ nx + 7 ∧ nx + 7 ≠ nx ∧ nx + 4 ≠ nx + 5 ∧ nx + 5 ≠ nx + 4 ∧ nx + 4 ≠ nx + 7 ∧ nx + 7 ≠ nx + 4 ∧ nx + 5 ≠ nx + 7 ∧ nx + 7 ≠ nx + 5 ∧ nx ≠ n ∧ n ≠ nx ∧ nx ≠ n + 1 ∧ n + 1 ≠ nx ∧ nx ≠ n + 1 + 1 ∧ n + 1 + 1 ≠ nx ∧ nx ≠ n + 1 + 1 + 1 ∧ n + 1 + 1 + 1 ≠ nx ∧ nx ≠ n + 2 ∧ n + 2 ≠ nx ∧ nx ≠ n + 3 ∧ n + 3 ≠ nx ∧ nx + 4 ≠ n ∧ n ≠ nx + 4 ∧ nx + 4 ≠ n + 1 ∧ n + 1 ≠ nx + 4 ∧ nx + 4 ≠ n + 1 + 1 ∧ n + 1 + 1 ≠ nx + 4 ∧ nx + 4 ≠ n + 1 + 1 + 1 ∧ n + 1 + 1 + 1 ≠ nx + 4 ∧ nx + 4 ≠ n + 2 ∧ n + 2 ≠ nx + 4 ∧ nx + 4 ≠ n + 3 ∧ n + 3 ≠ nx + 4 ∧ nx + 5 ≠ n ∧ n ≠ nx + 5 ∧ nx + 5 ≠ n + 1 ∧ n + 1 ≠ nx + 5 ∧ nx + 5 ≠ n + 1 + 1 ∧ n + 1 + 1 ≠ nx + 5 ∧ nx + 5 ≠ n + 1 + 1 + 1 ∧ n + 1 + 1 + 1 ≠ nx + 5 ∧ nx + 5 ≠ n + 2 ∧ n + 2 ≠ nx + 5 ∧ nx + 5 ≠ n + 3 ∧ n + 3 ≠ nx + 5 ∧ nx + 7 ≠ n ∧ n ≠ nx + 7 ∧ nx + 7 ≠ n + 1 ∧ n + 1 ≠ nx + 7 ∧ nx + 7 ≠ n + 1 + 1 ∧ n + 1 + 1 ≠ nx + 7 ∧ nx + 7 ≠ n + 1 + 1 + 1 ∧ n + 1 + 1 + 1 ≠ nx + 7 ∧ nx + 7 ≠ n + 2 ∧ n + 2 ≠ nx + 7 ∧ nx + 7 ≠ n + 3 ∧ n + 3 ≠ nx + 7 := ⟨by omega, by omega, by omega, by omega, by omega, by omega, by omega, by omega, by omega, by omega, by omega, by omega, by omega, by omega, by omega, by omega, by omega, by omega, by omega, by omega, by omega, by omega, by omega, by omega, by omega, by omega, by omega, by omega, by omega, by omega, by omega, by omega, by omega, by omega, by omega, by omega, by omega, by omega, by omega, by omega, by omega, by omega, by omega, by omega, by omega, by omega, by omega, by omega, by omega, by omega, by omega, by omega, by omega, by omega, by omega, by omega, by omega, by omega, by omega, by omega⟩
    simp [zj, r0, zc, r4, r5, ri, self, Ins.avs, w1, w2, w3, hr, hr1, hw, hsrc, tk, hw2, lx, ly, ne_0, e6, t6]
    refine ⟨fun c hc => zaa (zbr _ c hc), by omega, fun c hc => by rcases hc with h | h; exact one c h; exact one2 c h, by omega, by omega, by omega, by omega, ?_⟩
    generalize hX : Heap.put _ nx _ = HX
    have x0 : HX nx = some (.row 9 (zc b.id b.trip b.prog (.slc ga 0 (fs.length + 1)) (.slc (n + 1 + 1 + 1) 0 (b.heap.length + 1)) (Pmt.mk b.permit.fuel (b.permit.room - 1) b.permit.hops))) := by rw [← hX, Heap.put_at]; rfl
    have x1 : HX (n + 1 + 1 + 1) = some (.row 6 (rowC (b.heap ++ [Cl.mk x y]))) := by rw [← hX, Heap.put_ne _ _ (by omega), Heap.put_at, zux]; rfl
    have xk : ∀ g, g < n → g ≠ nx → HX g = H g := fun g h1 h2 => by
      rw [← hX, Heap.put_ne _ _ h2, Heap.put_ne _ _ (by omega), Heap.put_ne _ _ (by omega), Heap.put_ne _ _ (by omega), Heap.put_ne _ _ (by omega), Heap.put_ne _ _ (by omega), Heap.put_ne _ _ h2]
    refine zafa (f := f) (h := b.heap ++ [Cl.mk x y]) (m := Pmt.mk b.permit.fuel (b.permit.room - 1) b.permit.hops) ⟨2, b.heap.length, []⟩ (by omega) R.hk R.hst x0 (by rw [xk _ (by omega) (by omega)]; exact R.r4) (by rw [xk _ (by omega) (by omega)]; exact R.rs) ⟨by omega, by omega⟩ ⟨by omega, by omega⟩ (by rw [xk _ (by omega) (by omega)]; exact R.ra) (by omega) ⟨rfl, rfl, rfl, rfl⟩ (fun H' hk => ?_) (fun H' hk => ?_) fun v' H' n' g hk => retE (r := VM.push { b with heap := b.heap ++ [Cl.mk x y], permit := { b.permit with room := b.permit.room - 1 } } fs f f.stack ⟨2, b.heap.length, []⟩) g (R.o.more fun g hg h1 _ => by rw [hk g hg]; exact xk g (by omega) h1)
    · exact Part.row (by rw [hk _ (by omega) (by omega) (by omega), xk _ (by omega) (by omega)]; exact R.rv) (by omega) (by omega)
    · have := Part.rowC (H := H') (nx := nx) (n := n + 4) (g := n + 1 + 1 + 1) (l := b.heap ++ [Cl.mk x y]) (by rw [hk _ (by omega) (by omega) (by omega)]; exact x1) (by omega) (by omega)
      simpa using this
end
end Go.Proofs.YtejohcohkgcmhaaDoor
namespace Go.Proofs.YtejohcohkgcmhaaDoor
open Go Go.RowKit
section
variable {H0 H : Heap} {nx n ga : Nat} {b : Agt} {s : Spt} {fs : List Frm} {f : Frm} {ins : List Val} {ia ib : Int}
theorem zzh : ∀ {L : List Cl} {i : Nat} {c : Cl}, i < L.length → (rowC L).take (i * 6) ++ c.avs ++ (rowC L).drop (i * 6 + 6) = rowC (L.set i c)
  | [], i, c, h => by simp at h
  | w :: L, 0, c, h => by simp [rowC, Cl.avs, List.drop_append, List.drop_of_length_le, Val.avs]
  | w :: L, i + 1, c, h => by
    have ih := zzh (L := L) (i := i) (c := c) (by simpa using h)
    have hw : w.avs.length = 6 := rfl
    have e : rowC (w :: L) = w.avs ++ rowC L := by simp [rowC]
    have e2 : rowC ((w :: L).set (i + 1) c) = w.avs ++ rowC (L.set i c) := by simp [rowC]
    rw [e, e2, ← ih, List.take_append, List.take_of_length_le (by omega), List.drop_append, List.drop_of_length_le (by omega), hw, show (i + 1) * 6 - 6 = i * 6 by omega, show (i + 1) * 6 + 6 - 6 = i * 6 + 6 by omega, List.nil_append]
    simp only [List.append_assoc]
theorem zbx (x : Val) : rowV [x] = x.avs := by simp [rowV]
set_option maxRecDepth 20000 in
set_option maxHeartbeats 1000000 in
theorem zapd (R : VSt H0 H nx n ga b s fs f ins ⟨7, ia, ib⟩) {x : Val} (hi : ins = [x]) (hk : x.kind ≠ 2) : Then H0 H nx n ga b fs ins (VM.toF b fs f, VM.dead 11) := by
  unfold Then
  have r0 := R.r0
  have r4 := R.r4
  have r5 := R.r5
  have ri := R.ri
  have self := R.self
  subst hi
  have g1 := R.ga1
  have ri' : H (nx + 7) = some (.row 3 [.int .i64 x.kind, .int .i64 x.n, .str x.text]) := by rw [ri, zbx]; rfl
  simp [zj, r0, zc, r4, r5, ri', self, Ins.avs]
  refine JN.same ?_
  simp [zt]
  simp [zq, r0, zc, r4, r5, ri', Ins.avs, hk, CALL]
  exact R.no 11 fun v' H' n' g o => retE (r := (VM.toF b fs f, VM.dead 11)) g o
set_option maxRecDepth 20000 in
set_option maxHeartbeats 1000000 in
theorem zaqt (R : VSt H0 H nx n ga b s fs f ins ⟨7, ia, ib⟩) {x : Val} (hi : ins = [x]) (hk : x.kind = 2) (h0 : 0 ≤ x.n) {c : Cl} (hc : b.heap[x.n.toNat]? = some c) : Then H0 H nx n ga b fs ins (VM.push b fs f f.stack c.left) := by
  unfold Then
  have r0 := R.r0
  have r4 := R.r4
  have r5 := R.r5
  have ri := R.ri
  have self := R.self
  subst hi
  have g1 := R.ga1
  have ri' : H (nx + 7) = some (.row 3 [.int .i64 x.kind, .int .i64 x.n, .str x.text]) := by rw [ri, zbx]; rfl
  have h1 := (List.getElem?_eq_some_iff.1 hc).1
  have h2 : x.n < b.heap.length := by omega
  have hce : b.heap[x.n.toNat] = c := (List.getElem?_eq_some_iff.1 hc).2
  have c6 : c.avs.take 6 = c.avs := rfl
  have c3 : c.avs.take 3 = c.left.avs := rfl
  have d3 : (c.avs.drop 3).take 3 = c.right.avs := rfl
  have lc : c.avs.length = 6 := rfl
  have ne_0 : nx ≠ nx + 4 ∧ nx + 4 ≠ nx ∧ nx ≠ nx + 5 ∧ nx + 5 ≠ nx ∧ nx ≠ nx + 7 ∧ nx + 7 ≠ nx ∧ nx + 4 ≠ nx + 5 ∧ nx + 5 ≠ nx + 4 ∧ nx + 4 ≠ nx + 7 ∧ nx + 7 ≠ nx + 4 ∧ nx + 5 ≠ nx + 7 ∧ nx + 7 ≠ nx + 5 ∧ nx ≠ n ∧ n ≠ nx ∧ nx + 4 ≠ n ∧ n ≠ nx + 4 ∧ nx + 5 ≠ n ∧ n ≠ nx + 5 ∧ nx + 7 ≠ n ∧ n ≠ nx + 7 := ⟨by omega, by omega, by omega, by omega, by omega, by omega, by omega, by omega, by omega, by omega, by omega, by omega, by omega, by omega, by omega, by omega, by omega, by omega, by omega, by omega⟩
  simp [zj, r0, zc, r4, r5, ri', self, Ins.avs]
  refine JN.same ?_
  simp [zt]
  simp [zq, r0, zc, r4, r5, ri', Ins.avs, hk, h0, h2, hce, c6, c3, d3, lc, CALL, ne_0]
  exact ⟨fun y hy => zaa (zbr [c] y (by simpa [rowC] using hy)), (R.more (by omega) fun g hg => Heap.put_ne _ _ (by omega)).push _ fun v' H' n' g o => retE (r := VM.push b fs f f.stack c.left) g o⟩
set_option maxRecDepth 20000 in
set_option maxHeartbeats 1000000 in
theorem zapc (R : VSt H0 H nx n ga b s fs f ins ⟨8, ia, ib⟩) {x : Val} (hi : ins = [x]) (hk : x.kind ≠ 2) : Then H0 H nx n ga b fs ins (VM.toF b fs f, VM.dead 11) := by
  unfold Then
  have r0 := R.r0
  have r4 := R.r4
  have r5 := R.r5
  have ri := R.ri
  have self := R.self
  subst hi
  have g1 := R.ga1
  have ri' : H (nx + 7) = some (.row 3 [.int .i64 x.kind, .int .i64 x.n, .str x.text]) := by rw [ri, zbx]; rfl
  simp [zj, r0, zc, r4, r5, ri', self, Ins.avs]
  refine JN.same ?_
  simp [zt]
  simp [zq, r0, zc, r4, r5, ri', Ins.avs, hk, CALL]
  exact R.no 11 fun v' H' n' g o => retE (r := (VM.toF b fs f, VM.dead 11)) g o
set_option maxRecDepth 20000 in
set_option maxHeartbeats 1000000 in
theorem zaqs (R : VSt H0 H nx n ga b s fs f ins ⟨8, ia, ib⟩) {x : Val} (hi : ins = [x]) (hk : x.kind = 2) (h0 : 0 ≤ x.n) {c : Cl} (hc : b.heap[x.n.toNat]? = some c) : Then H0 H nx n ga b fs ins (VM.push b fs f f.stack c.right) := by
  unfold Then
  have r0 := R.r0
  have r4 := R.r4
  have r5 := R.r5
  have ri := R.ri
  have self := R.self
  subst hi
  have g1 := R.ga1
  have ri' : H (nx + 7) = some (.row 3 [.int .i64 x.kind, .int .i64 x.n, .str x.text]) := by rw [ri, zbx]; rfl
  have h1 := (List.getElem?_eq_some_iff.1 hc).1
  have h2 : x.n < b.heap.length := by omega
  have hce : b.heap[x.n.toNat] = c := (List.getElem?_eq_some_iff.1 hc).2
  have c6 : c.avs.take 6 = c.avs := rfl
  have c3 : c.avs.take 3 = c.left.avs := rfl
  have d3 : (c.avs.drop 3).take 3 = c.right.avs := rfl
  have lc : c.avs.length = 6 := rfl
  have ne_1 : nx ≠ nx + 4 ∧ nx + 4 ≠ nx ∧ nx ≠ nx + 5 ∧ nx + 5 ≠ nx ∧ nx ≠ nx + 7 ∧ nx + 7 ≠ nx ∧ nx + 4 ≠ nx + 5 ∧ nx + 5 ≠ nx + 4 ∧ nx + 4 ≠ nx + 7 ∧ nx + 7 ≠ nx + 4 ∧ nx + 5 ≠ nx + 7 ∧ nx + 7 ≠ nx + 5 ∧ nx ≠ n ∧ n ≠ nx ∧ nx + 4 ≠ n ∧ n ≠ nx + 4 ∧ nx + 5 ≠ n ∧ n ≠ nx + 5 ∧ nx + 7 ≠ n ∧ n ≠ nx + 7 := ⟨by omega, by omega, by omega, by omega, by omega, by omega, by omega, by omega, by omega, by omega, by omega, by omega, by omega, by omega, by omega, by omega, by omega, by omega, by omega, by omega⟩
  simp [zj, r0, zc, r4, r5, ri', self, Ins.avs]
  refine JN.same ?_
  simp [zt]
  simp [zq, r0, zc, r4, r5, ri', Ins.avs, hk, h0, h2, hce, c6, c3, d3, lc, CALL, ne_1]
  exact ⟨fun y hy => zaa (zbr [c] y (by simpa [rowC] using hy)), (R.more (by omega) fun g hg => Heap.put_ne _ _ (by omega)).push _ fun v' H' n' g o => retE (r := VM.push b fs f f.stack c.right) g o⟩
set_option maxRecDepth 20000 in
set_option maxHeartbeats 1000000 in
theorem zapb (R : VSt H0 H nx n ga b s fs f ins ⟨9, ia, ib⟩) {x y : Val} (hi : ins = [x, y]) (hk : x.kind ≠ 2) : Then H0 H nx n ga b fs ins (VM.toF b fs f, VM.dead 11) := by
  unfold Then
  have r0 := R.r0
  have r4 := R.r4
  have r5 := R.r5
  have ri := R.ri
  have self := R.self
  subst hi
  have g1 := R.ga1
  have ri' : H (nx + 7) = some (.row 3 [.int .i64 x.kind, .int .i64 x.n, .str x.text, .int .i64 y.kind, .int .i64 y.n, .str y.text]) := by rw [ri]; rfl
  simp [zj, r0, zc, r4, r5, ri', self, Ins.avs]
  refine JN.same ?_
  simp [zt]
  simp [zq, r0, zc, r4, r5, ri', Ins.avs, hk, CALL]
  exact R.no 11 fun v' H' n' g o => retE (r := (VM.toF b fs f, VM.dead 11)) g o
set_option maxRecDepth 20000 in
set_option maxHeartbeats 1000000 in
theorem zaqr (R : VSt H0 H nx n ga b s fs f ins ⟨9, ia, ib⟩) {x y : Val} (hi : ins = [x, y]) (hk : x.kind = 2) (h0 : 0 ≤ x.n) (hh : b.heap.length ≤ 4096) {c : Cl} (hc : b.heap[x.n.toNat]? = some c) : Then H0 H nx n ga b fs ins (VM.toF { b with heap := b.heap.set x.n.toNat ⟨y, c.right⟩ } fs f, VM.ev0) := by
  unfold Then
  have r0 := R.r0
  have r4 := R.r4
  have r5 := R.r5
  have ri := R.ri
  have self := R.self
  subst hi
  have g1 := R.ga1
  have ri' : H (nx + 7) = some (.row 3 ([.int .i64 x.kind, .int .i64 x.n, .str x.text] ++ y.avs)) := by rw [ri]; rfl
  have h1 := (List.getElem?_eq_some_iff.1 hc).1
  have h2 : x.n < b.heap.length := by omega
  have hce : b.heap[x.n.toNat] = c := (List.getElem?_eq_some_iff.1 hc).2
  have c6 : c.avs.take 6 = c.avs := rfl
  have c3 : c.avs.take 3 = c.left.avs := rfl
  have d3 : c.avs.drop 3 = c.right.avs := rfl
  have d6 : c.avs.drop 6 = [] := rfl
  have nc : y.avs ++ c.right.avs = (Cl.mk y c.right).avs := rfl
  have n6 : (Cl.mk y c.right).avs.take 6 = (Cl.mk y c.right).avs := rfl
  have nl : (Cl.mk y c.right).avs.length = 6 := rfl
  have lc : c.avs.length = 6 := rfl
  have ly : y.avs.length = 3 := rfl
  have ty : y.avs.take 3 = y.avs := rfl
  have hsrc : ∀ (H : Heap), zm 6 H (.ro (b.heap.map Cl.avs)) = some (b.heap.length, rowC b.heap, []) := fun H => by rw [zcn (zbe b.heap)]; simp [rowC]
  have ne_2 : nx ≠ nx + 4 ∧ nx + 4 ≠ nx ∧ nx ≠ nx + 5 ∧ nx + 5 ≠ nx ∧ nx ≠ nx + 7 ∧ nx + 7 ≠ nx ∧ nx ≠ n ∧ n ≠ nx ∧ nx + 4 ≠ nx + 5 ∧ nx + 5 ≠ nx + 4 ∧ nx + 4 ≠ nx + 7 ∧ nx + 7 ≠ nx + 4 ∧ nx + 4 ≠ n ∧ n ≠ nx + 4 ∧ nx + 5 ≠ nx + 7 ∧ nx + 7 ≠ nx + 5 ∧ nx + 5 ≠ n ∧ n ≠ nx + 5 ∧ nx + 7 ≠ n ∧ n ≠ nx + 7 ∧ nx ≠ n + 1 ∧ n + 1 ≠ nx ∧ nx ≠ n + 2 ∧ n + 2 ≠ nx ∧ nx ≠ n + 1 + 1 ∧ n + 1 + 1 ≠ nx ∧ nx + 4 ≠ n + 1 ∧ n + 1 ≠ nx + 4 ∧ nx + 4 ≠ n + 2 ∧ n + 2 ≠ nx + 4 ∧ nx + 4 ≠ n + 1 + 1 ∧ n + 1 + 1 ≠ nx + 4 ∧ nx + 5 ≠ n + 1 ∧ n + 1 ≠ nx + 5 ∧ nx + 5 ≠ n + 2 ∧ n + 2 ≠ nx + 5 ∧ nx + 5 ≠ n + 1 + 1 ∧ n + 1 + 1 ≠ nx + 5 ∧ nx + 7 ≠ n + 1 ∧ n + 1 ≠ nx + 7 ∧ nx + 7 ≠ n + 2 ∧ n + 2 ≠ nx + 7 ∧ nx + 7 ≠ n + 1 + 1 ∧ n + 1 + 1 ≠ nx + 7 ∧ n ≠ n + 1 ∧ n + 1 ≠ n ∧ n ≠ n + 2 ∧ n + 2 ≠ n ∧ n ≠ n + 1 + 1 ∧ n + 1 + 1 ≠ n := ⟨by omega, by omega, by omega, by omega, by omega, by omega, by omega, by omega, by omega, by omega, by omega, by omega, by omega, by omega, by omega, by omega, by omega, by omega, by omega, by omega, by omega, by omega, by omega, by omega, by omega, by omega, by omega, by omega, by omega, by omega, by omega, by omega, by omega, by omega, by omega, by omega, by omega, by omega, by omega, by omega, by omega, by omega, by omega, by omega, by omega, by omega, by omega, by omega, by omega, by omega⟩
  simp [zj, r0, zc, r4, r5, ri', self, Ins.avs]
  refine JN.same ?_
  simp [zt]
  simp [zq, r0, zc, r4, r5, ri', Ins.avs, hk, h0, h2, hce, c6, c3, d3, d6, nc, n6, nl, lc, ly, ty, hsrc, CALL, ne_2]
  refine ⟨fun z hz => zaa (zbr [c] z (by simpa [rowC] using hz)), fun z hz => zaa (zbr _ z hz), by omega, zae y, by omega, fun z hz => zaa (zbr [Cl.mk y c.right] z (by simpa [rowC] using hz)), ?_⟩
  generalize hX : Heap.put _ (n + 1 + 1) (some (AObj.row 6 (List.take _ _ ++ _))) = HX
  have xk : ∀ g, g < n → g ≠ nx → HX g = H g := fun g h1 h2 => by
    rw [← hX, Heap.put_ne _ _ (by omega), Heap.put_ne _ _ (by omega), Heap.put_ne _ _ h2, Heap.put_ne _ _ (by omega), Heap.put_ne _ _ (by omega), Heap.put_ne _ _ (by omega)]
  have x1 : HX (n + 1 + 1) = some (.row 6 (rowC (b.heap.set x.n.toNat (Cl.mk y c.right)))) := by rw [← hX, Heap.put_at, ← zzh h1, List.append_assoc]
  have hh' : Part HX nx (n + 3) (.slc (n + 1 + 1) 0 b.heap.length) (.ro ((b.heap.set x.n.toNat (Cl.mk y c.right)).map Cl.avs)) := by
    have := Part.rowC (nx := nx) (n := n + 3) x1 (by omega) (by omega)
    simpa using this
  refine zcw (f := f) (by omega) R.hk (by omega) (by rw [xk ga (by omega) (by omega)]; exact R.ra) ⟨rfl, rfl, rfl, rfl⟩ (.row (by rw [xk _ (by omega) (by omega)]; exact R.rv) (by omega) (by omega)) (.row (by rw [xk _ (by omega) (by omega)]; exact R.rs) (by omega) (by omega)) hh' fun H' n' g' q1 q2 kp hr gd => ?_
  exact ret (r := (VM.toF { b with heap := b.heap.set x.n.toNat (Cl.mk y c.right) } fs f, VM.ev0)) gd (R.o.more fun g hg q3 _ => by rw [kp g (by omega)]; exact xk g (by omega) q3)
set_option maxRecDepth 20000 in
set_option maxHeartbeats 1000000 in
theorem zamn (R : VSt H0 H nx n ga b s fs f ins ⟨10, ia, ib⟩) {x y : Val} (hi : ins = [x, y]) (hk : x.kind ≠ 2) : Then H0 H nx n ga b fs ins (VM.toF b fs f, VM.dead 11) := by
  unfold Then
  have r0 := R.r0
  have r4 := R.r4
  have r5 := R.r5
  have ri := R.ri
  have self := R.self
  subst hi
  have g1 := R.ga1
  have ri' : H (nx + 7) = some (.row 3 [.int .i64 x.kind, .int .i64 x.n, .str x.text, .int .i64 y.kind, .int .i64 y.n, .str y.text]) := by rw [ri]; rfl
  simp [zj, r0, zc, r4, r5, ri', self, Ins.avs]
  refine JN.same ?_
  simp [zt]
  simp [zq, r0, zc, r4, r5, ri', Ins.avs, hk, CALL]
  exact R.no 11 fun v' H' n' g o => retE (r := (VM.toF b fs f, VM.dead 11)) g o
set_option maxRecDepth 20000 in
set_option maxHeartbeats 1000000 in
theorem zapn (R : VSt H0 H nx n ga b s fs f ins ⟨10, ia, ib⟩) {x y : Val} (hi : ins = [x, y]) (hk : x.kind = 2) (h0 : 0 ≤ x.n) (hh : b.heap.length ≤ 4096) {c : Cl} (hc : b.heap[x.n.toNat]? = some c) : Then H0 H nx n ga b fs ins (VM.toF { b with heap := b.heap.set x.n.toNat ⟨c.left, y⟩ } fs f, VM.ev0) := by
  unfold Then
  have r0 := R.r0
  have r4 := R.r4
  have r5 := R.r5
  have ri := R.ri
  have self := R.self
  subst hi
  have g1 := R.ga1
  have ri' : H (nx + 7) = some (.row 3 ([.int .i64 x.kind, .int .i64 x.n, .str x.text] ++ y.avs)) := by rw [ri]; rfl
  have h1 := (List.getElem?_eq_some_iff.1 hc).1
  have h2 : x.n < b.heap.length := by omega
  have hce : b.heap[x.n.toNat] = c := (List.getElem?_eq_some_iff.1 hc).2
  have c6 : c.avs.take 6 = c.avs := rfl
  have c3 : c.avs.take 3 = c.left.avs := rfl
  have d3 : c.avs.drop 3 = c.right.avs := rfl
  have d6 : c.avs.drop 6 = [] := rfl
  have nc : c.left.avs ++ y.avs = (Cl.mk c.left y).avs := rfl
  have n6 : (Cl.mk c.left y).avs.take 6 = (Cl.mk c.left y).avs := rfl
  have nl : (Cl.mk c.left y).avs.length = 6 := rfl
  have lc : c.avs.length = 6 := rfl
  have ly : y.avs.length = 3 := rfl
  have ty : y.avs.take 3 = y.avs := rfl
  have hsrc : ∀ (H : Heap), zm 6 H (.ro (b.heap.map Cl.avs)) = some (b.heap.length, rowC b.heap, []) := fun H => by rw [zcn (zbe b.heap)]; simp [rowC]
  have ne_3 : nx ≠ nx + 4 ∧ nx + 4 ≠ nx ∧ nx ≠ nx + 5 ∧ nx + 5 ≠ nx ∧ nx ≠ nx + 7 ∧ nx + 7 ≠ nx ∧ nx ≠ n ∧ n ≠ nx ∧ nx + 4 ≠ nx + 5 ∧ nx + 5 ≠ nx + 4 ∧ nx + 4 ≠ nx + 7 ∧ nx + 7 ≠ nx + 4 ∧ nx + 4 ≠ n ∧ n ≠ nx + 4 ∧ nx + 5 ≠ nx + 7 ∧ nx + 7 ≠ nx + 5 ∧ nx + 5 ≠ n ∧ n ≠ nx + 5 ∧ nx + 7 ≠ n ∧ n ≠ nx + 7 ∧ nx ≠ n + 1 ∧ n + 1 ≠ nx ∧ nx ≠ n + 2 ∧ n + 2 ≠ nx ∧ nx ≠ n + 1 + 1 ∧ n + 1 + 1 ≠ nx ∧ nx + 4 ≠ n + 1 ∧ n + 1 ≠ nx + 4 ∧ nx + 4 ≠ n + 2 ∧ n + 2 ≠ nx + 4 ∧ nx + 4 ≠ n + 1 + 1 ∧ n + 1 + 1 ≠ nx + 4 ∧ nx + 5 ≠ n + 1 ∧ n + 1 ≠ nx + 5 ∧ nx + 5 ≠ n + 2 ∧ n + 2 ≠ nx + 5 ∧ nx + 5 ≠ n + 1 + 1 ∧ n + 1 + 1 ≠ nx + 5 ∧ nx + 7 ≠ n + 1 ∧ n + 1 ≠ nx + 7 ∧ nx + 7 ≠ n + 2 ∧ n + 2 ≠ nx + 7 ∧ nx + 7 ≠ n + 1 + 1 ∧ n + 1 + 1 ≠ nx + 7 ∧ n ≠ n + 1 ∧ n + 1 ≠ n ∧ n ≠ n + 2 ∧ n + 2 ≠ n ∧ n ≠ n + 1 + 1 ∧ n + 1 + 1 ≠ n := ⟨by omega, by omega, by omega, by omega, by omega, by omega, by omega, by omega, by omega, by omega, by omega, by omega, by omega, by omega, by omega, by omega, by omega, by omega, by omega, by omega, by omega, by omega, by omega, by omega, by omega, by omega, by omega, by omega, by omega, by omega, by omega, by omega, by omega, by omega, by omega, by omega, by omega, by omega, by omega, by omega, by omega, by omega, by omega, by omega, by omega, by omega, by omega, by omega, by omega, by omega⟩
  simp [zj, r0, zc, r4, r5, ri', self, Ins.avs]
  refine JN.same ?_
  simp [zt]
  simp [zq, r0, zc, r4, r5, ri', Ins.avs, hk, h0, h2, hce, c6, c3, d3, d6, nc, n6, nl, lc, ly, ty, hsrc, CALL, ne_3]
  refine ⟨fun z hz => zaa (zbr [c] z (by simpa [rowC] using hz)), fun z hz => zaa (zbr _ z hz), by omega, zae y, by omega, fun z hz => zaa (zbr [Cl.mk c.left y] z (by simpa [rowC] using hz)), ?_⟩
  generalize hX : Heap.put _ (n + 1 + 1) (some (AObj.row 6 (List.take _ _ ++ _))) = HX
  have xk : ∀ g, g < n → g ≠ nx → HX g = H g := fun g h1 h2 => by
    rw [← hX, Heap.put_ne _ _ (by omega), Heap.put_ne _ _ (by omega), Heap.put_ne _ _ h2, Heap.put_ne _ _ (by omega), Heap.put_ne _ _ (by omega), Heap.put_ne _ _ (by omega)]
  have x1 : HX (n + 1 + 1) = some (.row 6 (rowC (b.heap.set x.n.toNat (Cl.mk c.left y)))) := by rw [← hX, Heap.put_at, ← zzh h1, List.append_assoc]
  have hh' : Part HX nx (n + 3) (.slc (n + 1 + 1) 0 b.heap.length) (.ro ((b.heap.set x.n.toNat (Cl.mk c.left y)).map Cl.avs)) := by
    have := Part.rowC (nx := nx) (n := n + 3) x1 (by omega) (by omega)
    simpa using this
  refine zcw (f := f) (by omega) R.hk (by omega) (by rw [xk ga (by omega) (by omega)]; exact R.ra) ⟨rfl, rfl, rfl, rfl⟩ (.row (by rw [xk _ (by omega) (by omega)]; exact R.rv) (by omega) (by omega)) (.row (by rw [xk _ (by omega) (by omega)]; exact R.rs) (by omega) (by omega)) hh' fun H' n' g' q1 q2 kp hr gd => ?_
  exact ret (r := (VM.toF { b with heap := b.heap.set x.n.toNat (Cl.mk c.left y) } fs f, VM.ev0)) gd (R.o.more fun g hg q3 _ => by rw [kp g (by omega)]; exact xk g (by omega) q3)
end
end Go.Proofs.YtejohcohkgcmhaaDoor
namespace Go.Proofs.YtejohcohkgcmhaaDoor
open Go Go.RowKit
section
variable {H0 H : Heap} {nx n ga : Nat} {b : Agt} {s : Spt} {fs : List Frm} {f : Frm} {ins : List Val} {i : Ins} {ia ib : Int}
theorem VSt.withV (R : VSt H0 H nx n ga b s fs f ins i) (f' : Frm) (h1 : f'.vars = f.vars) (h2 : f'.stack = f.stack) {H1 : Heap} (hk : ∀ g, nx + 6 ≤ g → H1 g = H g) (ho : Outs H0 H1 nx) {m : Pmt} {Q : AV → Heap → Nat → Prop}
    (hq : ∀ H' n' g', n ≤ g' → g' < n' → Keep n H' H1 → H' g' = some (.row 4 ((fs.map Frm.avs).flatten ++ [.int .i64 f'.fn, .int .i64 f'.at_, .slc (nx + 11) 0 f'.vars.length, .slc (nx + 9) 0 f'.stack.length])) → Good H' nx (.agg (zc b.id b.trip b.prog (.slc g' 0 (fs.length + 1)) (.ro (b.heap.map Cl.avs)) m)) ⟨b.id, b.trip, b.prog, fs ++ [f'], b.heap, m⟩ → Outs H0 H' nx → Q (.agg (zc b.id b.trip b.prog (.slc g' 0 (fs.length + 1)) (.ro (b.heap.map Cl.avs)) m)) H' n') :
    za Tryd.prog 51 [.agg (zc b.id b.trip b.prog (.slc ga 0 (fs.length + 1)) (.ro (b.heap.map Cl.avs)) m), .agg [.int .i64 f'.fn, .int .i64 f'.at_, .slc (nx + 11) 0 f'.vars.length, .slc (nx + 9) 0 f'.stack.length]] H1 n Q := by
  have g1 := R.ga1
  exact zcw (f := f') (by omega) R.hk g1.2 (by rw [hk _ (by omega)]; exact R.ra) ⟨rfl, rfl, rfl, rfl⟩ (by rw [h1]; exact .row (by rw [hk _ (by omega)]; exact R.rv) (by omega) (by omega)) (by rw [h2]; exact .row (by rw [hk _ (by omega)]; exact R.rs) (by omega) (by omega)) (.ro (zag _)) fun H' n' g' q1 q2 kp hr gd => hq H' n' g' q1 q2 kp hr gd (ho.more fun g hg _ _ => kp g (by omega))
set_option maxRecDepth 20000 in
set_option maxHeartbeats 1000000 in
theorem zape (R : VSt H0 H nx n ga b s fs f ins ⟨19, ia, ib⟩) : Then H0 H nx n ga b fs ins (VM.toF b fs f, VM.ev0) := by
  unfold Then
  have r0 := R.r0
  have r1 := R.r1
  have r4 := R.r4
  have r5 := R.r5
  have ri := R.ri
  have self := R.self
  have g1 := R.ga1
  simp [zj, r0, zc, r4, r5, self, Ins.avs]
  refine JN.same ?_
  simp [zt]
  simp [zq]
  refine JN.same ?_
  simp [zai]
  simp [zah, r0, zc, r4, r5, Ins.avs]
  exact R.withV f rfl rfl (fun _ _ => rfl) R.o fun H' n' g' q1 q2 kp hr gd o => ret (r := (VM.toF b fs f, VM.ev0)) gd o
set_option maxRecDepth 20000 in
set_option maxHeartbeats 1000000 in
theorem zapi (R : VSt H0 H nx n ga b s fs f ins ⟨15, ia, ib⟩) : Then H0 H nx n ga b fs ins (VM.toF b fs { f with at_ := ia }, VM.ev0) := by
  unfold Then
  have r0 := R.r0
  have r1 := R.r1
  have r4 := R.r4
  have r5 := R.r5
  have ri := R.ri
  have self := R.self
  have g1 := R.ga1
  have ne_0 : nx ≠ nx + 4 ∧ nx + 4 ≠ nx ∧ nx ≠ nx + 5 ∧ nx + 5 ≠ nx ∧ nx + 4 ≠ nx + 5 ∧ nx + 5 ≠ nx + 4 ∧ nx ≠ n ∧ n ≠ nx ∧ nx + 4 ≠ n ∧ n ≠ nx + 4 ∧ nx + 5 ≠ n ∧ n ≠ nx + 5 := ⟨by omega, by omega, by omega, by omega, by omega, by omega, by omega, by omega, by omega, by omega, by omega, by omega⟩
  simp [zj, r0, zc, r4, r5, self, Ins.avs]
  refine JN.same ?_
  simp [zt]
  simp [zq]
  refine JN.same ?_
  simp [zai]
  simp [zah, r0, zc, r4, r5, Ins.avs, ne_0]
  exact R.withV { f with at_ := ia } rfl rfl (fun g hg => Heap.put_ne _ _ (by omega)) (R.o.more fun g hg _ _ => Heap.put_ne _ _ (by omega)) fun H' n' g' q1 q2 kp hr gd o => ret (r := (VM.toF b fs { f with at_ := ia }, VM.ev0)) gd o
set_option maxRecDepth 20000 in
set_option maxHeartbeats 1000000 in
theorem zaph (R : VSt H0 H nx n ga b s fs f ins ⟨16, ia, ib⟩) {x : Val} (hi : ins = [x]) (hx : x.kind = 0 → x.text = []) : Then H0 H nx n ga b fs ins (VM.toF b fs { f with at_ := if x.kind = 0 ∧ x.n = 0 then ia else f.at_ }, VM.ev0) := by
  unfold Then
  have r0 := R.r0
  have r1 := R.r1
  have r4 := R.r4
  have r5 := R.r5
  have ri := R.ri
  have self := R.self
  have g1 := R.ga1
  subst hi
  have ri' : H (nx + 7) = some (.row 3 [.int .i64 x.kind, .int .i64 x.n, .str x.text]) := by rw [ri, zbx]; rfl
  have ne_1 : nx ≠ nx + 4 ∧ nx + 4 ≠ nx ∧ nx ≠ nx + 5 ∧ nx + 5 ≠ nx ∧ nx + 4 ≠ nx + 5 ∧ nx + 5 ≠ nx + 4 ∧ nx ≠ n ∧ n ≠ nx ∧ nx + 4 ≠ n ∧ n ≠ nx + 4 ∧ nx + 5 ≠ n ∧ n ≠ nx + 5 := ⟨by omega, by omega, by omega, by omega, by omega, by omega, by omega, by omega, by omega, by omega, by omega, by omega⟩
  by_cases hz : x.kind = 0 ∧ x.n = 0
  · obtain ⟨z1, z2⟩ := hz
    have z3 := hx z1
    rw [if_pos ⟨z1, z2⟩]
    simp [zj, r0, zc, r4, r5, self, Ins.avs]
    refine JN.same ?_
    simp [zt]
    simp [zq]
    refine JN.same ?_
    simp [zai]
    simp [zah, r0, zc, r4, r5, Ins.avs, ri', z1, z2, z3, ne_1]
    exact R.withV { f with at_ := ia } rfl rfl (fun g hg => Heap.put_ne _ _ (by omega)) (R.o.more fun g hg _ _ => Heap.put_ne _ _ (by omega)) fun H' n' g' q1 q2 kp hr gd o => ret (r := (VM.toF b fs { f with at_ := ia }, VM.ev0)) gd o
  · rw [if_neg hz]
    simp [zj, r0, zc, r4, r5, self, Ins.avs]
    refine JN.same ?_
    simp [zt]
    simp [zq]
    refine JN.same ?_
    simp [zai]
    simp [zah, r0, zc, r4, r5, Ins.avs, ri', hz, ne_1]
    exact ⟨fun a c _ => absurd ⟨a, c⟩ hz, fun _ => R.withV f rfl rfl (fun _ _ => rfl) R.o fun H' n' g' q1 q2 kp hr gd o => ret (r := (VM.toF b fs f, VM.ev0)) gd o⟩
set_option maxRecDepth 20000 in
set_option maxHeartbeats 1000000 in
theorem zamm (R : VSt H0 H nx n ga b s fs f ins ⟨11, ia, ib⟩) {x : Val} (hi : ins = [x]) (hk : x.kind ≠ 1) : Then H0 H nx n ga b fs ins (VM.toF b fs f, VM.dead 11) := by
  unfold Then
  have r0 := R.r0
  have r1 := R.r1
  have r4 := R.r4
  have r5 := R.r5
  have ri := R.ri
  have self := R.self
  have g1 := R.ga1
  subst hi
  have ri' : H (nx + 7) = some (.row 3 [.int .i64 x.kind, .int .i64 x.n, .str x.text]) := by rw [ri, zbx]; rfl
  simp [zj, r0, zc, r4, r5, self, Ins.avs]
  refine JN.same ?_
  simp [zt]
  simp [zq]
  refine JN.same ?_
  simp [zai]
  simp [zah, r0, zc, r4, r5, Ins.avs, ri', hk, CALL]
  exact R.no 11 fun v' H' n' g o => retE (r := (VM.toF b fs f, VM.dead 11)) g o
set_option maxRecDepth 20000 in
set_option maxHeartbeats 1000000 in
theorem zamk (R : VSt H0 H nx n ga b s fs f ins ⟨13, ia, ib⟩) {x : Val} (hi : ins = [x]) (hk : x.kind ≠ 1) : Then H0 H nx n ga b fs ins (VM.toF b fs f, VM.dead 11) := by
  unfold Then
  have r0 := R.r0
  have r1 := R.r1
  have r4 := R.r4
  have r5 := R.r5
  have ri := R.ri
  have self := R.self
  have g1 := R.ga1
  subst hi
  have ri' : H (nx + 7) = some (.row 3 [.int .i64 x.kind, .int .i64 x.n, .str x.text]) := by rw [ri, zbx]; rfl
  simp [zj, r0, zc, r4, r5, self, Ins.avs]
  refine JN.same ?_
  simp [zt]
  simp [zq]
  refine JN.same ?_
  simp [zai]
  simp [zah, r0, zc, r4, r5, Ins.avs, ri', hk, CALL]
  exact R.no 11 fun v' H' n' g o => retE (r := (VM.toF b fs f, VM.dead 11)) g o
set_option maxRecDepth 20000 in
set_option maxHeartbeats 1000000 in
theorem zamj (R : VSt H0 H nx n ga b s fs f ins ⟨13, ia, ib⟩) {x : Val} (hi : ins = [x]) (hk : x.kind = 1) (hh : b.permit.hops = 0) (hl : s.facts.length ≤ 4611686018427387903) : Then H0 H nx n ga b fs ins (VM.push b fs f f.stack VM.vzero) := by
  unfold Then
  have r0 := R.r0
  have r1 := R.r1
  have r4 := R.r4
  have r5 := R.r5
  have ri := R.ri
  have self := R.self
  have g1 := R.ga1
  subst hi
  have ri' : H (nx + 7) = some (.row 3 [.int .i64 x.kind, .int .i64 x.n, .str x.text]) := by rw [ri, zbx]; rfl
  rw [hh] at self
  have hw : IntKind.i64.wrap ((s.facts.length : Int) - 1) = s.facts.length - 1 := i64w (by omega)
  have ne_2 : nx ≠ nx + 1 ∧ nx + 1 ≠ nx ∧ nx ≠ nx + 4 ∧ nx + 4 ≠ nx ∧ nx ≠ nx + 5 ∧ nx + 5 ≠ nx ∧ nx ≠ nx + 7 ∧ nx + 7 ≠ nx ∧ nx + 1 ≠ nx + 4 ∧ nx + 4 ≠ nx + 1 ∧ nx + 1 ≠ nx + 5 ∧ nx + 5 ≠ nx + 1 ∧ nx + 1 ≠ nx + 7 ∧ nx + 7 ≠ nx + 1 ∧ nx + 4 ≠ nx + 5 ∧ nx + 5 ≠ nx + 4 ∧ nx + 4 ≠ nx + 7 ∧ nx + 7 ≠ nx + 4 ∧ nx + 5 ≠ nx + 7 ∧ nx + 7 ≠ nx + 5 ∧ nx ≠ n ∧ n ≠ nx ∧ nx + 1 ≠ n ∧ n ≠ nx + 1 ∧ nx + 4 ≠ n ∧ n ≠ nx + 4 ∧ nx + 5 ≠ n ∧ n ≠ nx + 5 ∧ nx + 7 ≠ n ∧ n ≠ nx + 7 := ⟨by omega, by omega, by omega, by omega, by omega, by omega, by omega, by omega, by omega, by omega, by omega, by omega, by omega, by omega, by omega, by omega, by omega, by omega, by omega, by omega, by omega, by omega, by omega, by omega, by omega, by omega, by omega, by omega, by omega, by omega⟩
  simp [zj, r0, zc, r4, r5, self, Ins.avs]
  refine JN.same ?_
  simp [zt]
  simp [zq]
  refine JN.same ?_
  simp [zai]
  simp [zah, r0, zc, r4, r5, Ins.avs, ri', hk, hh, r1, Spt.avs, hw, self, CALL, ne_2]
  generalize hX : Heap.put H n _ = HX
  have x5 : HX (nx + 5) = some (.row 3 [.int .i64 13, .int .i64 ia, .int .i64 ib]) := by rw [← hX, Heap.put_ne _ _ (by omega)]; exact r5
  have xn : HX n = some (.row 3 [.int .i64 0, .int .i64 0, .str []]) := by rw [← hX, Heap.put_at]
  have P := (R.more (H' := HX) (n' := n + 1) (by omega) fun g hg => by rw [← hX, Heap.put_ne _ _ (by omega)]).push (Q := fun v H' n' => EX v 0 fun a => EX v 1 fun b_1 => ST 9 (.ptr (nx + 2) 0) a H' fun H1 => ST 3 (.ptr (nx + 3) 0) b_1 H1 fun H2 => LD true 9 (.ptr (nx + 2) 0) H2 fun v1 => LD true 3 (.ptr (nx + 3) 0) H2 fun v2 => zio H0 nx (VM.push b fs f f.stack VM.vzero) (.tup [v1, v2]) H2 n') VM.vzero fun v' H' n' g o => retE (r := VM.push b fs f f.stack VM.vzero) g o
  refine LP.mk (fun _ xs H' n' => H' = HX ∧ n' = n + 1 ∧ xs = [.ptr (nx + 1) 0, .ptr (nx + 2) 0, .ptr (nx + 3) 0, .ptr (nx + 5) 0, .slc (nx + 7) 0 1, .clo 68 [.ptr (nx + 4) 0, .ptr nx 0], .ptr n 0, .int .i64 ((s.facts.length : Int) - 1)]) 0 ⟨rfl, rfl, rfl⟩ ?_
  rintro k xs H' n' ⟨rfl, rfl, rfl⟩
  simp [zqg, x5, xn, CALL]
  exact ⟨fun _ => P, fun _ => P⟩
set_option maxRecDepth 20000 in
set_option maxHeartbeats 1000000 in
theorem zapm (R : VSt H0 H nx n ga b s fs f ins ⟨11, ia, ib⟩) {x : Val} (hi : ins = [x]) (hk : x.kind = 1) (hl : s.facts.length ≤ 4611686018427387903) : Then H0 H nx n ga b fs ins (VM.push b fs f f.stack (VM.ask s.facts x.text)) := by
  unfold Then
  have r0 := R.r0
  have r1 := R.r1
  have r4 := R.r4
  have r5 := R.r5
  have ri := R.ri
  have self := R.self
  have g1 := R.ga1
  subst hi
  have ri' : H (nx + 7) = some (.row 3 [.int .i64 x.kind, .int .i64 x.n, .str x.text]) := by rw [ri, zbx]; rfl
  have hw : IntKind.i64.wrap ((s.facts.length : Int) - 1) = s.facts.length - 1 := i64w (by omega)
  have ne_3 : nx ≠ nx + 1 ∧ nx + 1 ≠ nx ∧ nx ≠ nx + 4 ∧ nx + 4 ≠ nx ∧ nx ≠ nx + 5 ∧ nx + 5 ≠ nx ∧ nx ≠ nx + 7 ∧ nx + 7 ≠ nx ∧ nx + 1 ≠ nx + 4 ∧ nx + 4 ≠ nx + 1 ∧ nx + 1 ≠ nx + 5 ∧ nx + 5 ≠ nx + 1 ∧ nx + 1 ≠ nx + 7 ∧ nx + 7 ≠ nx + 1 ∧ nx + 4 ≠ nx + 5 ∧ nx + 5 ≠ nx + 4 ∧ nx + 4 ≠ nx + 7 ∧ nx + 7 ≠ nx + 4 ∧ nx + 5 ≠ nx + 7 ∧ nx + 7 ≠ nx + 5 ∧ nx ≠ n ∧ n ≠ nx ∧ nx + 1 ≠ n ∧ n ≠ nx + 1 ∧ nx + 4 ≠ n ∧ n ≠ nx + 4 ∧ nx + 5 ≠ n ∧ n ≠ nx + 5 ∧ nx + 7 ≠ n ∧ n ≠ nx + 7 := ⟨by omega, by omega, by omega, by omega, by omega, by omega, by omega, by omega, by omega, by omega, by omega, by omega, by omega, by omega, by omega, by omega, by omega, by omega, by omega, by omega, by omega, by omega, by omega, by omega, by omega, by omega, by omega, by omega, by omega, by omega⟩
  simp [zj, r0, zc, r4, r5, self, Ins.avs]
  refine JN.same ?_
  simp [zt]
  simp [zq]
  refine JN.same ?_
  simp [zai]
  simp [zah, r0, zc, r4, r5, Ins.avs, ri', hk, r1, Spt.avs, hw, self, CALL, ne_3]
  refine LP.mk (fun k xs H' n' => ∃ j : Nat, k = j ∧ j ≤ s.facts.length ∧ n' = n + 1 ∧ xs = [.ptr (nx + 1) 0, .ptr (nx + 2) 0, .ptr (nx + 3) 0, .ptr (nx + 5) 0, .slc (nx + 7) 0 1, .clo 68 [.ptr (nx + 4) 0, .ptr nx 0], .ptr n 0, .int .i64 ((j : Int) - 1)] ∧
    H' n = some (.row 3 (VM.ask (s.facts.drop j) x.text).avs) ∧ ∀ g, g ≠ n → H' g = H g) s.facts.length ⟨_, rfl, Nat.le_refl _, rfl, rfl, by rw [Heap.put_at, List.drop_length]; rfl, fun g hg => Heap.put_ne _ _ hg⟩ ?_
  rintro k xs H' n' ⟨j, rfl, hj, rfl, rfl, xn, xk⟩
  suffices key : ∀ K : J3, (∀ (j' : Nat) H', j' < k → j' ≤ s.facts.length → H' n = some (.row 3 (VM.ask (s.facts.drop j') x.text).avs) → (∀ g, g ≠ n → H' g = H g) → K [.ptr (nx + 1) 0, .ptr (nx + 2) 0, .ptr (nx + 3) 0, .ptr (nx + 5) 0, .slc (nx + 7) 0 1, .clo 68 [.ptr (nx + 4) 0, .ptr nx 0], .ptr n 0, .int .i64 ((j' : Int) - 1)] H' (n + 1)) →
      zdl (zio H0 nx (VM.push b fs f f.stack (VM.ask s.facts x.text))) K [.ptr (nx + 1) 0, .ptr (nx + 2) 0, .ptr (nx + 3) 0, .ptr (nx + 5) 0, .slc (nx + 7) 0 1, .clo 68 [.ptr (nx + 4) 0, .ptr nx 0], .ptr n 0, .int .i64 ((k : Int) - 1)] H' (n + 1) from
    key _ fun j' H' h1 h2 h3 h4 => ⟨j', h1, j', rfl, h2, rfl, rfl, h3, h4⟩
  intro K hK
  have x5 := (xk (nx + 5) (by omega)).trans r5
  have x1 := (xk (nx + 1) (by omega)).trans r1
  have x7 := (xk (nx + 7) (by omega)).trans ri'
  have lv : ∀ v : Val, v.avs.length = 3 := fun v => rfl
  have tv : ∀ v : Val, v.avs.take 3 = v.avs := fun v => rfl
  cases k with
  | zero =>
    have R' := R.more (H' := H') (n' := n + 1) (by omega) fun g hg => xk g (by omega)
    simp [zdl, xn, CALL, lv, tv]
    exact R'.push _ fun v' H' n' g o => retE (r := VM.push b fs f f.stack (VM.ask s.facts x.text)) g o
  | succ j =>
    have hc : 0 ≤ ((j + 1 : Nat) : Int) - 1 := by omega
    have hjl : j < s.facts.length := by omega
    have hd : s.facts.drop j = s.facts[j] :: s.facts.drop (j + 1) := List.drop_eq_getElem_cons hjl
    have ask : VM.ask (s.facts.drop j) x.text = if s.facts[j].key = x.text then s.facts[j].val else VM.ask (s.facts.drop (j + 1)) x.text := by
      rw [hd]; unfold VM.ask; rw [List.find?_cons]
      by_cases e : s.facts[j].key = x.text
      · simp [e]
      · simp [e]
    have hj1 : ((j + 1 : Nat) : Int) - 1 = (j : Int) := by omega
    have hw2 : IntKind.i64.wrap ((j : Int) - 1) = (j : Int) - 1 := i64w (by omega)
    rw [hj1]
    by_cases e : s.facts[j].key = x.text
    · simp [zdl, x5, x1, x7, xn, Spt.avs, Ins.avs, hjl, e, lv, tv, hw2]
      exact ⟨zae _, hK j _ (by omega) (by omega) (by rw [Heap.put_at, ask, if_pos e]; rfl) fun g hg => by rw [Heap.put_ne _ _ hg]; exact xk g hg⟩
    · simp [zdl, x5, x1, x7, xn, Spt.avs, Ins.avs, hjl, e, lv, tv, hw2]
      exact hK j H' (by omega) (by omega) (by rw [xn, ask, if_neg e]) xk
end
end Go.Proofs.YtejohcohkgcmhaaDoor
namespace Go.Proofs.YtejohcohkgcmhaaDoor
open Go Go.RowKit
theorem zpp {A : Nat → Prop} (fs : List Frm) : ∀ c ∈ (fs.map Frm.avs).flatten, Bel A c := fun c hc => by
  obtain ⟨x, hx, hcx⟩ := List.mem_flatten.1 hc
  obtain ⟨f, _, rfl⟩ := List.mem_map.1 hx
  obtain ⟨j, hj⟩ := List.getElem?_of_mem hcx
  exact zacz f j c hj
theorem zn.withD {H : Heap} {n ga gv gs nv ns : Nat} {id trip : Int} {p : Prg} {fs : List Frm} {h : List Cl} {m : Pmt} {fn at_ : Int} {w1 w2 w3 w4 : AV} (hk : fs.length ≤ 4096) (ra : H ga = some (.row 4 ((fs.map Frm.avs).flatten ++ [w1, w2, w3, w4]))) (hw : w1.one = true ∧ w2.one = true ∧ w3.one = true ∧ w4.one = true) (hv : (H gv).isSome = true) (hs : (H gs).isSome = true) {kt : Kt}
    (hkt : kt (.agg (zc id trip p (.slc n 0 (fs.length + 1)) (.ro (h.map Cl.avs)) m)) [ga, gv, gs] [n] [(n, some (.row 4 ((fs.map Frm.avs).flatten ++ [.int .i64 fn, .int .i64 at_, .slc gv 0 nv, .slc gs 0 ns])))]) :
    zn Tryd.prog (.clo 51 []) [.agg (zc id trip p (.slc ga 0 (fs.length + 1)) (.ro (h.map Cl.avs)) m), .agg [.int .i64 fn, .int .i64 at_, .slc gv 0 nv, .slc gs 0 ns]] H n kt := by
  have hlf : ((fs.map Frm.avs).flatten).length = fs.length * 4 := by rw [zba (zdf fs)]; simp
  refine ⟨_, [ga, gv, gs], [n], _, .inr rfl, LC.of_callsN (fun g hg => ?_) (by simp) (fun A hA hB H' n' hag => ?_), hkt⟩
  · simp at hg
    rcases hg with rfl | rfl | rfl
    · rw [ra]; rfl
    · exact hv
    · exact hs
  · obtain ⟨e1, l1⟩ := hag ga (by simp)
    refine zwb (zdy.slc (e1.trans ra) l1 (by rw [List.length_append, hlf]; simp; omega) ?_) hk ⟨rfl, rfl, rfl⟩ ⟨rfl, rfl⟩ ⟨rfl, rfl⟩ fun H'' n'' g' h1 h2 kp hr => ?_
    · refine List.all_eq_true.2 fun c hc => ?_
      rcases List.mem_append.1 hc with hc | hc
      · obtain ⟨x, hx, hcx⟩ := List.mem_flatten.1 hc; exact oneF fs x hx c hcx
      · simp at hc; rcases hc with rfl | rfl | rfl | rfl
        · exact hw.1
        · exact hw.2.1
        · exact hw.2.2.1
        · exact hw.2.2.2
    · rw [List.take_append_of_le_length (by omega), List.take_of_length_le (by omega)] at hr
      refine ⟨g', h1, h2, .agg _ _ rfl fun j v u hv hu => ?_, fun g hg _ => kp g hg, fun g o hg hne => absurd (by simpa using hg) hne, ⟨.row 4 ((fs.map Frm.avs).flatten ++ [.int .i64 fn, .int .i64 at_, .slc gv 0 nv, .slc gs 0 ns]), _, by simp only [zar, zbb]; rw [Heap.put_at], hr, rfl, rfl, fun j v u hv hu => ?_⟩⟩
      · match j with
        | 0 => cases hv; cases hu; exact .same _ (.int _ _)
        | 1 => cases hv; cases hu; exact .same _ (.int _ _)
        | 2 => cases hv; cases hu; exact .same _ (zvu _)
        | 3 => cases hv; cases hu; exact .same _ (zvt _)
        | 4 => cases hv; cases hu; exact .slc _ _
        | 5 => cases hv; cases hu; exact .same _ (zcc (zag _))
        | 6 => cases hv; cases hu; exact .same _ (.int _ _)
        | 7 => cases hv; cases hu; exact .same _ (.int _ _)
        | 8 => cases hv; cases hu; exact .same _ (.int _ _)
        | j + 9 => simp [zc] at hv
      · rw [hv] at hu; cases hu
        refine .same _ ?_
        rcases List.mem_append.1 (List.mem_of_getElem? hv) with hc | hc
        · exact zpp fs _ hc
        · simp at hc
          rcases hc with rfl | rfl | rfl | rfl
          · exact .int _ _
          · exact .int _ _
          · exact .slc _ _ _ (hA gv (by simp))
          · exact .slc _ _ _ (hA gs (by simp))
end Go.Proofs.YtejohcohkgcmhaaDoor
namespace Go.Proofs.YtejohcohkgcmhaaDoor
open Go Go.RowKit
section
variable {H0 H : Heap} {nx n ga : Nat} {b : Agt} {s : Spt} {fs : List Frm} {f : Frm} {ins : List Val} {i : Ins} {g : Frm} {ia ib : Int}
theorem zame {zero : List AV} {k : IntKind} {n : Int} (h : 0 ≤ n ∧ n ≤ 140737488355328) : zsrc zero (.int k n) = .ro (List.replicate n.toNat zero) := by
  unfold zsrc; simp only; rw [if_pos h]
theorem zio.of {r : Agt × Evt} {v : AV} {e : AV} {HF : Heap} (g : Good HF nx v r.1) (he : e = .agg r.2.avs) (hk : Keep nx HF H0) : zio H0 nx r (.tup [v, e]) HF n := by
  obtain ⟨xs, h1, h2, h3, h4, h5⟩ := g
  subst he
  exact ⟨Frz.tup2 (h5 HF fun g _ => rfl) (.same _ (zny _)), hk⟩
set_option maxRecDepth 20000 in
set_option maxHeartbeats 1000000 in
theorem zapk (R : VSt H0 H nx n ga b s fs f ins ⟨13, ia, ib⟩) {x : Val} (hi : ins = [x]) (hk : x.kind = 1) (hh : 0 < b.permit.hops) (hm : b.permit.hops ≤ 4096) : Then H0 H nx n ga b fs ins (VM.toF { b with permit := { b.permit with hops := b.permit.hops - 1 } } fs f, ⟨3, x.text, 0⟩) := by
  unfold Then
  have r0 := R.r0
  have r1 := R.r1
  have r4 := R.r4
  have r5 := R.r5
  have ri := R.ri
  have self := R.self
  have g1 := R.ga1
  subst hi
  have ri' : H (nx + 7) = some (.row 3 [.int .i64 x.kind, .int .i64 x.n, .str x.text]) := by rw [ri, zbx]; rfl
  have hw : IntKind.i64.wrap (b.permit.hops - 1) = b.permit.hops - 1 := i64w (by omega)
  have ne_0 : nx ≠ nx + 1 ∧ nx + 1 ≠ nx ∧ nx ≠ nx + 4 ∧ nx + 4 ≠ nx ∧ nx ≠ nx + 5 ∧ nx + 5 ≠ nx ∧ nx ≠ nx + 7 ∧ nx + 7 ≠ nx ∧ nx + 1 ≠ nx + 4 ∧ nx + 4 ≠ nx + 1 ∧ nx + 1 ≠ nx + 5 ∧ nx + 5 ≠ nx + 1 ∧ nx + 1 ≠ nx + 7 ∧ nx + 7 ≠ nx + 1 ∧ nx + 4 ≠ nx + 5 ∧ nx + 5 ≠ nx + 4 ∧ nx + 4 ≠ nx + 7 ∧ nx + 7 ≠ nx + 4 ∧ nx + 5 ≠ nx + 7 ∧ nx + 7 ≠ nx + 5 ∧ nx ≠ n ∧ n ≠ nx ∧ nx + 1 ≠ n ∧ n ≠ nx + 1 ∧ nx + 4 ≠ n ∧ n ≠ nx + 4 ∧ nx + 5 ≠ n ∧ n ≠ nx + 5 ∧ nx + 7 ≠ n ∧ n ≠ nx + 7 := ⟨by omega, by omega, by omega, by omega, by omega, by omega, by omega, by omega, by omega, by omega, by omega, by omega, by omega, by omega, by omega, by omega, by omega, by omega, by omega, by omega, by omega, by omega, by omega, by omega, by omega, by omega, by omega, by omega, by omega, by omega⟩
  simp [zj, r0, zc, r4, r5, self, Ins.avs]
  refine JN.same ?_
  simp [zt]
  simp [zq]
  refine JN.same ?_
  simp [zai]
  simp [zah, r0, zc, r4, r5, Ins.avs, ri', hk, hh, hw, CALL, ne_0]
  generalize hX : Heap.put H nx _ = HX
  have xk : ∀ g, g ≠ nx → HX g = H g := fun g hg => by rw [← hX, Heap.put_ne _ _ hg]
  obtain ⟨z, z1, z2⟩ := R.o.r2
  obtain ⟨y, y1, y2⟩ := R.o.r3
  have x2 := (xk (nx + 2) (by omega)).trans z1
  have x3 := (xk (nx + 3) (by omega)).trans y1
  have x7 := (xk (nx + 7) (by omega)).trans ri'
  refine zn.withD (id := b.id) (trip := b.trip) (p := b.prog) (h := b.heap) (m := Pmt.mk b.permit.fuel b.permit.room (b.permit.hops - 1)) R.hk (by rw [xk ga (by omega)]; exact R.ra) ⟨rfl, rfl, rfl, rfl⟩ (by rw [xk _ (by omega), R.rv]; rfl) (by rw [xk _ (by omega), R.rs]; rfl) ?_
  have ne_1 : nx ≠ nx + 1 ∧ nx + 1 ≠ nx ∧ nx ≠ nx + 2 ∧ nx + 2 ≠ nx ∧ nx ≠ nx + 3 ∧ nx + 3 ≠ nx ∧ nx ≠ nx + 4 ∧ nx + 4 ≠ nx ∧ nx ≠ nx + 5 ∧ nx + 5 ≠ nx ∧ nx ≠ nx + 7 ∧ nx + 7 ≠ nx ∧ nx + 1 ≠ nx + 2 ∧ nx + 2 ≠ nx + 1 ∧ nx + 1 ≠ nx + 3 ∧ nx + 3 ≠ nx + 1 ∧ nx + 1 ≠ nx + 4 ∧ nx + 4 ≠ nx + 1 ∧ nx + 1 ≠ nx + 5 ∧ nx + 5 ≠ nx + 1 ∧ nx + 1 ≠ nx + 7 ∧ nx + 7 ≠ nx + 1 ∧ nx + 2 ≠ nx + 3 ∧ nx + 3 ≠ nx + 2 ∧ nx + 2 ≠ nx + 4 ∧ nx + 4 ≠ nx + 2 ∧ nx + 2 ≠ nx + 5 ∧ nx + 5 ≠ nx + 2 ∧ nx + 2 ≠ nx + 7 ∧ nx + 7 ≠ nx + 2 ∧ nx + 3 ≠ nx + 4 ∧ nx + 4 ≠ nx + 3 ∧ nx + 3 ≠ nx + 5 ∧ nx + 5 ≠ nx + 3 ∧ nx + 3 ≠ nx + 7 ∧ nx + 7 ≠ nx + 3 ∧ nx + 4 ≠ nx + 5 ∧ nx + 5 ≠ nx + 4 ∧ nx + 4 ≠ nx + 7 ∧ nx + 7 ≠ nx + 4 ∧ nx + 5 ≠ nx + 7 ∧ nx + 7 ≠ nx + 5 ∧ nx ≠ n ∧ n ≠ nx ∧ nx + 1 ≠ n ∧ n ≠ nx + 1 ∧ nx + 2 ≠ n ∧ n ≠ nx + 2 ∧ nx + 3 ≠ n ∧ n ≠ nx + 3 ∧ nx + 4 ≠ n ∧ n ≠ nx + 4 ∧ nx + 5 ≠ n ∧ n ≠ nx + 5 ∧ nx + 7 ≠ n ∧ n ≠ nx + 7 := ⟨by omega, by omega, by omega, by omega, by omega, by omega, by omega, by omega, by omega, by omega, by omega, by omega, by omega, by omega, by omega, by omega, by omega, by omega, by omega, by omega, by omega, by omega, by omega, by omega, by omega, by omega, by omega, by omega, by omega, by omega, by omega, by omega, by omega, by omega, by omega, by omega, by omega, by omega, by omega, by omega, by omega, by omega, by omega, by omega, by omega, by omega, by omega, by omega, by omega, by omega, by omega, by omega, by omega, by omega, by omega, by omega⟩
  simp [zoj, zc, x2, x3, x7, z2, y2, ne_1]
  generalize hF : Heap.put _ (nx + 3) _ = HF
  have fk : ∀ g, g ≠ n → g ≠ nx + 2 → g ≠ nx + 3 → HF g = HX g := fun g h1 h2 h3 => by rw [← hF, Heap.put_ne _ _ h3, Heap.put_ne _ _ h2, Heap.put_ne _ _ h1]
  have fn : HF n = some (.row 4 ((fs.map Frm.avs).flatten ++ [.int .i64 f.fn, .int .i64 f.at_, .slc (nx + 11) 0 f.vars.length, .slc (nx + 9) 0 f.stack.length])) := by rw [← hF, Heap.put_ne _ _ (by omega), Heap.put_ne _ _ (by omega), Heap.put_at]
  refine zio.of (zmr (n := n) (m := Pmt.mk b.permit.fuel b.permit.room (b.permit.hops - 1)) (by omega) fn (.row (by rw [fk _ (by omega) (by omega) (by omega), xk _ (by omega)]; exact R.rv) (by omega) (by omega)) (.row (by rw [fk _ (by omega) (by omega) (by omega), xk _ (by omega)]; exact R.rs) (by omega) (by omega)) (.ro (zag _))) rfl fun g hg => ?_
  rw [fk g (by omega) (by omega) (by omega), xk g (by omega)]; exact R.o.keep g hg
set_option maxRecDepth 20000 in
set_option maxHeartbeats 1000000 in
theorem zapj (R : VSt H0 H nx n ga b s fs f ins ⟨14, ia, ib⟩) {x : Val} (hi : ins = [x]) (hc : zcr b.heap) (hx : VM.WrongOk x b.heap.length) : Then H0 H nx n ga b fs ins (VM.toF b fs f, ⟨2, VM.vshow b.heap 4 x, 0⟩) := by
  unfold Then
  have r0 := R.r0
  have r1 := R.r1
  have r4 := R.r4
  have r5 := R.r5
  have ri := R.ri
  have self := R.self
  have g1 := R.ga1
  subst hi
  have ri' : H (nx + 7) = some (.row 3 [.int .i64 x.kind, .int .i64 x.n, .str x.text]) := by rw [ri, zbx]; rfl
  have ne_2 : nx ≠ nx + 1 ∧ nx + 1 ≠ nx ∧ nx ≠ nx + 4 ∧ nx + 4 ≠ nx ∧ nx ≠ nx + 5 ∧ nx + 5 ≠ nx ∧ nx ≠ nx + 7 ∧ nx + 7 ≠ nx ∧ nx + 1 ≠ nx + 4 ∧ nx + 4 ≠ nx + 1 ∧ nx + 1 ≠ nx + 5 ∧ nx + 5 ≠ nx + 1 ∧ nx + 1 ≠ nx + 7 ∧ nx + 7 ≠ nx + 1 ∧ nx + 4 ≠ nx + 5 ∧ nx + 5 ≠ nx + 4 ∧ nx + 4 ≠ nx + 7 ∧ nx + 7 ≠ nx + 4 ∧ nx + 5 ≠ nx + 7 ∧ nx + 7 ≠ nx + 5 ∧ nx ≠ n ∧ n ≠ nx ∧ nx + 1 ≠ n ∧ n ≠ nx + 1 ∧ nx + 4 ≠ n ∧ n ≠ nx + 4 ∧ nx + 5 ≠ n ∧ n ≠ nx + 5 ∧ nx + 7 ≠ n ∧ n ≠ nx + 7 := ⟨by omega, by omega, by omega, by omega, by omega, by omega, by omega, by omega, by omega, by omega, by omega, by omega, by omega, by omega, by omega, by omega, by omega, by omega, by omega, by omega, by omega, by omega, by omega, by omega, by omega, by omega, by omega, by omega, by omega, by omega⟩
  simp [zj, r0, zc, r4, r5, self, Ins.avs]
  refine JN.same ?_
  simp [zt]
  simp [zq]
  refine JN.same ?_
  simp [zai]
  simp [zah, r0, zc, r4, r5, Ins.avs, ri', ne_2]
  obtain ⟨z, z1, z2⟩ := R.o.r2
  obtain ⟨y, y1, y2⟩ := R.o.r3
  refine zn.withD (id := b.id) (trip := b.trip) (p := b.prog) (h := b.heap) (m := b.permit) R.hk R.ra ⟨rfl, rfl, rfl, rfl⟩ (by rw [R.rv]; rfl) (by rw [R.rs]; rfl) ?_
  have ne_3 : nx ≠ nx + 1 ∧ nx + 1 ≠ nx ∧ nx ≠ nx + 2 ∧ nx + 2 ≠ nx ∧ nx ≠ nx + 3 ∧ nx + 3 ≠ nx ∧ nx ≠ nx + 4 ∧ nx + 4 ≠ nx ∧ nx ≠ nx + 5 ∧ nx + 5 ≠ nx ∧ nx ≠ nx + 7 ∧ nx + 7 ≠ nx ∧ nx + 1 ≠ nx + 2 ∧ nx + 2 ≠ nx + 1 ∧ nx + 1 ≠ nx + 3 ∧ nx + 3 ≠ nx + 1 ∧ nx + 1 ≠ nx + 4 ∧ nx + 4 ≠ nx + 1 ∧ nx + 1 ≠ nx + 5 ∧ nx + 5 ≠ nx + 1 ∧ nx + 1 ≠ nx + 7 ∧ nx + 7 ≠ nx + 1 ∧ nx + 2 ≠ nx + 3 ∧ nx + 3 ≠ nx + 2 ∧ nx + 2 ≠ nx + 4 ∧ nx + 4 ≠ nx + 2 ∧ nx + 2 ≠ nx + 5 ∧ nx + 5 ≠ nx + 2 ∧ nx + 2 ≠ nx + 7 ∧ nx + 7 ≠ nx + 2 ∧ nx + 3 ≠ nx + 4 ∧ nx + 4 ≠ nx + 3 ∧ nx + 3 ≠ nx + 5 ∧ nx + 5 ≠ nx + 3 ∧ nx + 3 ≠ nx + 7 ∧ nx + 7 ≠ nx + 3 ∧ nx + 4 ≠ nx + 5 ∧ nx + 5 ≠ nx + 4 ∧ nx + 4 ≠ nx + 7 ∧ nx + 7 ≠ nx + 4 ∧ nx + 5 ≠ nx + 7 ∧ nx + 7 ≠ nx + 5 ∧ nx ≠ n ∧ n ≠ nx ∧ nx + 1 ≠ n ∧ n ≠ nx + 1 ∧ nx + 2 ≠ n ∧ n ≠ nx + 2 ∧ nx + 3 ≠ n ∧ n ≠ nx + 3 ∧ nx + 4 ≠ n ∧ n ≠ nx + 4 ∧ nx + 5 ≠ n ∧ n ≠ nx + 5 ∧ nx + 7 ≠ n ∧ n ≠ nx + 7 := ⟨by omega, by omega, by omega, by omega, by omega, by omega, by omega, by omega, by omega, by omega, by omega, by omega, by omega, by omega, by omega, by omega, by omega, by omega, by omega, by omega, by omega, by omega, by omega, by omega, by omega, by omega, by omega, by omega, by omega, by omega, by omega, by omega, by omega, by omega, by omega, by omega, by omega, by omega, by omega, by omega, by omega, by omega, by omega, by omega, by omega, by omega, by omega, by omega, by omega, by omega, by omega, by omega, by omega, by omega, by omega, by omega⟩
  simp [zoh, r0, zc, ri', ne_3]
  refine zn.of_qc (zrw hc 4 x 4 hx rfl (by omega) (by omega)) (.str _) ?_
  simp [zoi, z1, y1, z2, y2, ne_3]
  generalize hF : Heap.put _ (nx + 3) _ = HF
  have fk : ∀ g, g ≠ n → g ≠ nx + 2 → g ≠ nx + 3 → HF g = H g := fun g h1 h2 h3 => by rw [← hF, Heap.put_ne _ _ h3, Heap.put_ne _ _ h2, Heap.put_ne _ _ h1]
  have fn : HF n = some (.row 4 ((fs.map Frm.avs).flatten ++ [.int .i64 f.fn, .int .i64 f.at_, .slc (nx + 11) 0 f.vars.length, .slc (nx + 9) 0 f.stack.length])) := by rw [← hF, Heap.put_ne _ _ (by omega), Heap.put_ne _ _ (by omega), Heap.put_at]
  refine zio.of (zmr (n := n) (m := b.permit) (by omega) fn (.row (by rw [fk _ (by omega) (by omega) (by omega)]; exact R.rv) (by omega) (by omega)) (.row (by rw [fk _ (by omega) (by omega) (by omega)]; exact R.rs) (by omega) (by omega)) (.ro (zag _))) rfl fun g hg => ?_
  rw [fk g (by omega) (by omega) (by omega)]; exact R.o.keep g hg
set_option maxRecDepth 20000 in
set_option maxHeartbeats 1000000 in
theorem zami (R : VSt H0 H nx n ga b s fs f ins ⟨17, ia, ib⟩) (hf : 12 ≤ fs.length + 1) (hi : ins.length ≤ 4096) : Then H0 H nx n ga b fs ins (VM.toF b fs { f with stack := f.stack ++ ins }, VM.dead 9) := by
  unfold Then
  have r0 := R.r0
  have r1 := R.r1
  have r4 := R.r4
  have r5 := R.r5
  have ri := R.ri
  have self := R.self
  have g1 := R.ga1
  have hf' : (12 : Int) ≤ (fs.length : Int) + 1 := by omega
  have t1 : (rowV f.stack).take (f.stack.length * 3) = rowV f.stack := List.take_of_length_le (by simp)
  have t2 : (rowV ins).take (ins.length * 3) = rowV ins := List.take_of_length_le (by simp)
  have rs := R.rs
  have ne_4 : nx ≠ nx + 1 ∧ nx + 1 ≠ nx ∧ nx ≠ nx + 4 ∧ nx + 4 ≠ nx ∧ nx ≠ nx + 5 ∧ nx + 5 ≠ nx ∧ nx ≠ nx + 7 ∧ nx + 7 ≠ nx ∧ nx ≠ nx + 9 ∧ nx + 9 ≠ nx ∧ nx + 1 ≠ nx + 4 ∧ nx + 4 ≠ nx + 1 ∧ nx + 1 ≠ nx + 5 ∧ nx + 5 ≠ nx + 1 ∧ nx + 1 ≠ nx + 7 ∧ nx + 7 ≠ nx + 1 ∧ nx + 1 ≠ nx + 9 ∧ nx + 9 ≠ nx + 1 ∧ nx + 4 ≠ nx + 5 ∧ nx + 5 ≠ nx + 4 ∧ nx + 4 ≠ nx + 7 ∧ nx + 7 ≠ nx + 4 ∧ nx + 4 ≠ nx + 9 ∧ nx + 9 ≠ nx + 4 ∧ nx + 5 ≠ nx + 7 ∧ nx + 7 ≠ nx + 5 ∧ nx + 5 ≠ nx + 9 ∧ nx + 9 ≠ nx + 5 ∧ nx + 7 ≠ nx + 9 ∧ nx + 9 ≠ nx + 7 ∧ nx ≠ n ∧ n ≠ nx ∧ nx + 1 ≠ n ∧ n ≠ nx + 1 ∧ nx + 4 ≠ n ∧ n ≠ nx + 4 ∧ nx + 5 ≠ n ∧ n ≠ nx + 5 ∧ nx + 7 ≠ n ∧ n ≠ nx + 7 ∧ nx + 9 ≠ n ∧ n ≠ nx + 9 := ⟨by omega, by omega, by omega, by omega, by omega, by omega, by omega, by omega, by omega, by omega, by omega, by omega, by omega, by omega, by omega, by omega, by omega, by omega, by omega, by omega, by omega, by omega, by omega, by omega, by omega, by omega, by omega, by omega, by omega, by omega, by omega, by omega, by omega, by omega, by omega, by omega, by omega, by omega, by omega, by omega, by omega, by omega⟩
  simp [zj, r0, zc, r4, r5, self, Ins.avs]
  refine JN.same ?_
  simp [zt]
  simp [zq]
  refine JN.same ?_
  simp [zai]
  simp [zah, r0, zc, r4, r5, Ins.avs, ri, rs, hf', t1, t2, CALL, ne_4]
  refine ⟨fun c hc => zaa (zbk _ c hc), by have := R.hst; omega, ?_⟩
  generalize hX : Heap.put _ (nx + 4) _ = HX
  have xk : ∀ g, g ≠ n → g ≠ nx + 9 → g ≠ nx + 4 → HX g = H g := fun g h1 h2 h3 => by rw [← hX, Heap.put_ne _ _ h3, Heap.put_ne _ _ h1, Heap.put_ne _ _ h2]
  have xn : HX n = some (.row 3 (rowV (f.stack ++ ins))) := by rw [← hX, Heap.put_ne _ _ (by omega), Heap.put_at]; simp [rowV]
  have ps : Part HX nx (n + 1) (.slc n 0 (f.stack.length + ins.length)) (.ro ((f.stack ++ ins).map Val.avs)) := by
    have := Part.row (nx := nx) (n := n + 1) xn (by omega) (by omega)
    simpa using this
  refine zcw (f := { f with stack := f.stack ++ ins }) (by omega) R.hk (by omega) (by rw [xk ga (by omega) (by omega) (by omega)]; exact R.ra) ⟨rfl, rfl, rfl, rfl⟩ (.row (by rw [xk _ (by omega) (by omega) (by omega)]; exact R.rv) (by omega) (by omega)) ps (.ro (zag _)) fun H' n' g' h1 h2 kp hr gd => ?_
  have q0 : H' nx = some (.row 9 (zc b.id b.trip b.prog (.slc ga 0 (fs.length + 1)) (.ro (b.heap.map Cl.avs)) b.permit)) := by rw [kp _ (by omega), xk _ (by omega) (by omega) (by omega)]; exact r0
  simp [zog, q0, zc, CALL]
  refine zajf 9 (Heap.put_at _ _ _) rfl (fun x hx => ?_) (by omega) fun H2 hk2 => ?_
  · simp at hx
    rcases hx with rfl | rfl | rfl | rfl | rfl | rfl | rfl | rfl | rfl <;> rfl
  · have z : ∀ g, g < n' → g ≠ nx → H2 g = H' g := fun g h1 h2 => (hk2 g h1).trans (Heap.put_ne _ _ h2)
    have y : ∀ g, g < n + 1 → g ≠ nx → H2 g = HX g := fun g h1 h2 => (z g (by omega) h2).trans (kp g h1)
    refine retE (r := (VM.toF b fs { f with stack := f.stack ++ ins }, VM.dead 9)) (zmr (n := n') (f := { f with stack := f.stack ++ ins }) (by omega) (by rw [z g' h2 (by omega)]; exact hr) (.row (by rw [y _ (by omega) (by omega), xk _ (by omega) (by omega) (by omega)]; exact R.rv) (by omega) (by omega)) ?_ (.ro (zag _))) (R.o.more fun g hg h1 h2 => by rw [y g (by omega) h1, xk g (by omega) (by omega) (by omega)])
    have := Part.row (nx := nx) (n := n') ((y n (by omega) (by omega)).trans xn) (by omega) (by omega)
    simpa using this
end
end Go.Proofs.YtejohcohkgcmhaaDoor
namespace Go.Proofs.YtejohcohkgcmhaaDoor
open Go Go.RowKit
inductive FL (H : Heap) (nx : Nat) : List AV → List AV → Prop
  | nil : FL H nx [] []
  | cons {u v : AV} {us vs : List AV} : Frz H nx u v → FL H nx us vs → FL H nx (u :: us) (v :: vs)
section
variable {H : Heap} {nx : Nat}
theorem FL.append : ∀ {us vs us' vs' : List AV}, FL H nx us vs → FL H nx us' vs' → FL H nx (us ++ us') (vs ++ vs')
  | _, _, _, _, .nil, k => k
  | _, _, _, _, .cons a b, k => .cons a (b.append k)
theorem FL.same : ∀ {l : List AV}, (∀ c ∈ l, Bel (· < nx) c) → FL H nx l l
  | [], _ => .nil
  | c :: r, h => .cons (.same _ (h c (by simp))) (FL.same fun x hx => h x (by simp [hx]))
theorem FL.get : ∀ {us vs : List AV}, FL H nx us vs → ∀ {j : Nat} {v : AV}, vs[j]? = some v → ∃ u, us[j]? = some u ∧ Frz H nx u v
  | _, _, .nil, j, v, h => by simp at h
  | _, _, .cons a b, 0, v, h => by simp at h; subst h; exact ⟨_, rfl, a⟩
  | _, _, .cons a b, j + 1, v, h => by simpa using b.get (j := j) (by simpa using h)
theorem FL.len : ∀ {us vs : List AV}, FL H nx us vs → us.length = vs.length
  | _, _, .nil => rfl
  | _, _, .cons a b => by simp [b.len]
theorem Frz.rowL {g off len sz : Nat} {cells : List AV} {xs : List (List AV)} (hg : nx ≤ g) (hH : H g = some (.row sz cells)) (hl : xs.length = len) (hs : ∀ x ∈ xs, x.length = sz) (hb : off + len * sz ≤ cells.length) (hc : FL H nx ((cells.drop off).take (len * sz)) xs.flatten) :
    Frz H nx (.slc g off len) (.ro xs) := by
  have key : ∀ (i : Nat) (x : List AV) (j : Nat) (v : AV), xs[i]? = some x → x[j]? = some v → ∃ u, cells[off + i * sz + j]? = some u ∧ Frz H nx u v := fun i x j v hx hv => by
    have e1 := zfm hs hx
    have hj : j < sz := by rw [← hs x (List.mem_of_getElem? hx)]; exact (List.getElem?_eq_some_iff.1 hv).1
    have hv2 : xs.flatten[i * sz + j]? = some v := by
      have e2 := congrArg (·[j]?) e1
      simp only [List.getElem?_take, List.getElem?_drop, hj, if_true] at e2
      rw [e2]; exact hv
    obtain ⟨u, q1, q2⟩ := hc.get hv2
    refine ⟨u, ?_, q2⟩
    rw [List.getElem?_take] at q1
    split at q1
    · rw [List.getElem?_drop] at q1; rw [Nat.add_assoc]; exact q1
    · cases q1
  refine .slc g off _ sz cells _ hg hH hb hl hs (fun i j => (cells[off + i * sz + j]?).getD .junk) (fun i x j v hx hv => ?_) (fun i x j v hx hv => ?_)
  · obtain ⟨u, q1, q2⟩ := key i x j v hx hv; rw [q1]; rfl
  · obtain ⟨u, q1, q2⟩ := key i x j v hx hv; rw [q1]; exact q2
theorem Frz.rowW {g len sz : Nat} {cells : List AV} {xs : List (List AV)} (hg : nx ≤ g) (hH : H g = some (.row sz cells)) (hl : xs.length = len) (hs : ∀ x ∈ xs, x.length = sz) (hc : FL H nx cells xs.flatten) : Frz H nx (.slc g 0 len) (.ro xs) := by
  have e : cells.length = len * sz := by rw [hc.len, zba hs, hl]
  refine .rowL hg hH hl hs (by omega) ?_
  rw [List.drop_zero, List.take_of_length_le (by omega)]; exact hc
theorem FL.agg {us vs : List AV} (h : FL H nx us vs) : Frz H nx (.agg us) (.agg vs) := by
  refine .agg _ _ h.len.symm fun j v u hv hu => ?_
  obtain ⟨w, q1, q2⟩ := h.get hu
  rw [hv] at q1; cases q1; exact q2
theorem FL.tup {us vs : List AV} (h : FL H nx us vs) : Frz H nx (.tup us) (.tup vs) := by
  refine .tup _ _ h.len.symm fun j v u hv hu => ?_
  obtain ⟨w, q1, q2⟩ := h.get hu
  rw [hv] at q1; cases q1; exact q2
end
end Go.Proofs.YtejohcohkgcmhaaDoor
namespace Go.Proofs.YtejohcohkgcmhaaDoor
open Go Go.RowKit
section
variable {H0 H : Heap} {nx n ga : Nat} {b : Agt} {s : Spt} {fs : List Frm} {f : Frm} {ins : List Val} {i : Ins} {g : Frm} {ia ib : Int}
theorem zaqe {H : Heap} {nx g : Nat} {fs : List Frm} {f k : Frm} {va sa vb sb : AV} (hg : nx ≤ g) (h : H g = some (.row 4 ((fs.map Frm.avs).flatten ++ [.int .i64 f.fn, .int .i64 f.at_, va, sa] ++ [.int .i64 k.fn, .int .i64 k.at_, vb, sb]))) (h1 : Frz H nx va (.ro (f.vars.map Val.avs))) (h2 : Frz H nx sa (.ro (f.stack.map Val.avs)))
    (h3 : Frz H nx vb (.ro (k.vars.map Val.avs))) (h4 : Frz H nx sb (.ro (k.stack.map Val.avs))) : Frz H nx (.slc g 0 (fs.length + 1 + 1)) (.ro ((fs ++ [f] ++ [k]).map Frm.avs)) := by
  refine Frz.rowW hg h (by simp) (zdf _) ?_
  simp only [List.map_append, List.flatten_append]
  refine ((FL.same (zpp fs)).append ?_).append ?_
  · exact .cons (.same _ (.int _ _)) (.cons (.same _ (.int _ _)) (.cons h1 (.cons h2 .nil)))
  · exact .cons (.same _ (.int _ _)) (.cons (.same _ (.int _ _)) (.cons h3 (.cons h4 .nil)))
set_option maxRecDepth 20000 in
set_option maxHeartbeats 1000000 in
theorem zapg (R : VSt H0 H nx n ga b s fs f ins ⟨17, ia, ib⟩) (hf : fs.length + 1 < 12) (h0 : 0 ≤ ia) {c : Cod} (hc : b.prog.codes[ia.toNat]? = some c) (hi : ins.length ≤ 4096) (hv : ins.length ≤ c.vars) (hm : c.vars ≤ 4096) : Then H0 H nx n ga b fs ins (VM.toF b (fs ++ [f]) ⟨ia, 0, ins ++ List.replicate (c.vars - ins.length).toNat VM.vzero, []⟩, VM.ev0) := by
  unfold Then
  have r0 := R.r0
  have r1 := R.r1
  have r4 := R.r4
  have r5 := R.r5
  have ri := R.ri
  have self := R.self
  have g1 := R.ga1
  have hf' : ¬ (12 : Int) ≤ (fs.length : Int) + 1 := by omega
  obtain ⟨hlt, hce⟩ := List.getElem?_eq_some_iff.1 hc
  have hlt' : ia < b.prog.codes.length := by omega
  have hw : IntKind.i64.wrap (c.vars - (ins.length : Int)) = c.vars - ins.length := i64w (by omega)
  have t2 : (rowV ins).take (ins.length * 3) = rowV ins := List.take_of_length_le (by simp)
  obtain ⟨k, hk⟩ : ∃ k : Nat, c.vars = ins.length + k := ⟨(c.vars - ins.length).toNat, by omega⟩
  have hkn : (c.vars - (ins.length : Int)).toNat = k := by omega
  have zs := zame (zero := [.int .i64 0, .int .i64 0, .str []]) (k := .i64) (n := c.vars - ins.length) (by omega)
  rw [hkn] at zs
  have src : ∀ (H : Heap), zm 3 H (.ro (List.replicate k [.int .i64 0, .int .i64 0, .str []])) = some (k, rowV (List.replicate k VM.vzero), []) := fun H => by
    rw [zcn (by intro x hx; rw [List.eq_of_mem_replicate hx]; rfl)]; simp [rowV, VM.vzero, Val.avs]
  have ne_0 : nx ≠ nx + 1 ∧ nx + 1 ≠ nx ∧ nx ≠ nx + 4 ∧ nx + 4 ≠ nx ∧ nx ≠ nx + 5 ∧ nx + 5 ≠ nx ∧ nx ≠ nx + 7 ∧ nx + 7 ≠ nx ∧ nx ≠ nx + 9 ∧ nx + 9 ≠ nx ∧ nx + 1 ≠ nx + 4 ∧ nx + 4 ≠ nx + 1 ∧ nx + 1 ≠ nx + 5 ∧ nx + 5 ≠ nx + 1 ∧ nx + 1 ≠ nx + 7 ∧ nx + 7 ≠ nx + 1 ∧ nx + 1 ≠ nx + 9 ∧ nx + 9 ≠ nx + 1 ∧ nx + 4 ≠ nx + 5 ∧ nx + 5 ≠ nx + 4 ∧ nx + 4 ≠ nx + 7 ∧ nx + 7 ≠ nx + 4 ∧ nx + 4 ≠ nx + 9 ∧ nx + 9 ≠ nx + 4 ∧ nx + 5 ≠ nx + 7 ∧ nx + 7 ≠ nx + 5 ∧ nx + 5 ≠ nx + 9 ∧ nx + 9 ≠ nx + 5 ∧ nx + 7 ≠ nx + 9 ∧ nx + 9 ≠ nx + 7 ∧ nx ≠ n ∧ n ≠ nx ∧ nx + 1 ≠ n ∧ n ≠ nx + 1 ∧ nx + 4 ≠ n ∧ n ≠ nx + 4 ∧ nx + 5 ≠ n ∧ n ≠ nx + 5 ∧ nx + 7 ≠ n ∧ n ≠ nx + 7 ∧ nx + 9 ≠ n ∧ n ≠ nx + 9 := ⟨by omega, by omega, by omega, by omega, by omega, by omega, by omega, by omega, by omega, by omega, by omega, by omega, by omega, by omega, by omega, by omega, by omega, by omega, by omega, by omega, by omega, by omega, by omega, by omega, by omega, by omega, by omega, by omega, by omega, by omega, by omega, by omega, by omega, by omega, by omega, by omega, by omega, by omega, by omega, by omega, by omega, by omega⟩
  simp [zj, r0, zc, r4, r5, self, Ins.avs]
  refine JN.same ?_
  simp [zt]
  simp [zq]
  refine JN.same ?_
  simp [zai]
  simp [zah, r0, zc, r4, r5, Ins.avs, ri, hf', h0, hlt, hlt', hce, hw, t2, zs, src, CALL, Cod.avs, ne_0]
  refine ⟨fun x hx => zaa (zbk _ x hx), by omega, ?_⟩
  generalize hX : Heap.put _ n _ = HX
  have xk : ∀ g, g ≠ n → g ≠ nx + 7 → HX g = H g := fun g h1 h2 => by rw [← hX, Heap.put_ne _ _ h1, Heap.put_ne _ _ h2]
  have xn : HX n = some (.row 3 (rowV (ins ++ List.replicate k VM.vzero))) := by rw [← hX, Heap.put_at]; simp [rowV]
  refine zcw (nx := nx) (n := n + 1) (f := f) (by omega) R.hk (by omega) (by rw [xk ga (by omega) (by omega)]; exact R.ra) ⟨rfl, rfl, rfl, rfl⟩ (.row (by rw [xk _ (by omega) (by omega)]; exact R.rv) (by omega) (by omega)) (.row (by rw [xk _ (by omega) (by omega)]; exact R.rs) (by omega) (by omega)) (.ro (zag _)) fun H' n' g' h1 h2 kp hr gd => ?_
  have q0 : H' nx = some (.row 9 (zc b.id b.trip b.prog (.slc ga 0 (fs.length + 1)) (.ro (b.heap.map Cl.avs)) b.permit)) := by rw [kp _ (by omega), xk _ (by omega) (by omega)]; exact r0
  have q5 : H' (nx + 5) = some (.row 3 [.int .i64 17, .int .i64 ia, .int .i64 ib]) := by rw [kp _ (by omega), xk _ (by omega) (by omega)]; exact r5
  have hlf : ((fs.map Frm.avs).flatten).length = fs.length * 4 := by rw [zba (zdf fs)]; simp
  have tk : ((fs.map Frm.avs).flatten ++ [AV.int .i64 f.fn, .int .i64 f.at_, .slc (nx + 11) 0 f.vars.length, .slc (nx + 9) 0 f.stack.length]).take ((fs.length + 1) * 4) = (fs.map Frm.avs).flatten ++ [AV.int .i64 f.fn, .int .i64 f.at_, .slc (nx + 11) 0 f.vars.length, .slc (nx + 9) 0 f.stack.length] := List.take_of_length_le (by simp [hlf]; omega)
  obtain ⟨z, z1, z2⟩ := R.o.r2
  obtain ⟨y, y1, y2⟩ := R.o.r3
  have q2 : H' (nx + 2) = some (.row 9 z) := by rw [kp _ (by omega), xk _ (by omega) (by omega)]; exact z1
  have q3 : H' (nx + 3) = some (.row 3 y) := by rw [kp _ (by omega), xk _ (by omega) (by omega)]; exact y1
  have hle : fs.length * 4 + 4 = (fs.length + 1) * 4 := by omega
  have ne_1 : nx ≠ nx + 2 ∧ nx + 2 ≠ nx ∧ nx ≠ nx + 3 ∧ nx + 3 ≠ nx ∧ nx ≠ nx + 5 ∧ nx + 5 ≠ nx ∧ nx ≠ g' ∧ g' ≠ nx ∧ nx + 2 ≠ nx + 3 ∧ nx + 3 ≠ nx + 2 ∧ nx + 2 ≠ nx + 5 ∧ nx + 5 ≠ nx + 2 ∧ nx + 2 ≠ g' ∧ g' ≠ nx + 2 ∧ nx + 3 ≠ nx + 5 ∧ nx + 5 ≠ nx + 3 ∧ nx + 3 ≠ g' ∧ g' ≠ nx + 3 ∧ nx + 5 ≠ g' ∧ g' ≠ nx + 5 ∧ nx ≠ n' ∧ n' ≠ nx ∧ nx ≠ n' + 1 ∧ n' + 1 ≠ nx ∧ nx + 2 ≠ n' ∧ n' ≠ nx + 2 ∧ nx + 2 ≠ n' + 1 ∧ n' + 1 ≠ nx + 2 ∧ nx + 3 ≠ n' ∧ n' ≠ nx + 3 ∧ nx + 3 ≠ n' + 1 ∧ n' + 1 ≠ nx + 3 ∧ nx + 5 ≠ n' ∧ n' ≠ nx + 5 ∧ nx + 5 ≠ n' + 1 ∧ n' + 1 ≠ nx + 5 ∧ g' ≠ n' ∧ n' ≠ g' ∧ g' ≠ n' + 1 ∧ n' + 1 ≠ g' := ⟨by omega, by omega, by omega, by omega, by omega, by omega, by omega, by omega, by omega, by omega, by omega, by omega, by omega, by omega, by omega, by omega, by omega, by omega, by omega, by omega, by omega, by omega, by omega, by omega, by omega, by omega, by omega, by omega, by omega, by omega, by omega, by omega, by omega, by omega, by omega, by omega, by omega, by omega, by omega, by omega⟩
  simp [zof, q0, q5, q2, q3, z2, y2, hr, tk, hlf, hle, zc, CALL, ne_1]
  refine ⟨by omega, ?_⟩
  generalize hF : Heap.put _ (nx + 3) _ = HF
  have fk : ∀ g, g ≠ nx → g ≠ n' → g ≠ g' → g ≠ n' + 1 → g ≠ nx + 2 → g ≠ nx + 3 → HF g = H' g := fun g h1 h2 h3 h4 h5 h6 => by
    rw [← hF, Heap.put_ne _ _ h6, Heap.put_ne _ _ h5, Heap.put_ne _ _ h1, Heap.put_ne _ _ h4, Heap.put_ne _ _ h3, Heap.put_ne _ _ h2, Heap.put_ne _ _ h1]
  have ff : HF (n' + 1) = some (.row 4 ((fs.map Frm.avs).flatten ++ [.int .i64 f.fn, .int .i64 f.at_, .slc (nx + 11) 0 f.vars.length, .slc (nx + 9) 0 f.stack.length] ++ [.int .i64 ia, .int .i64 0, .slc n 0 (ins.length + k), .nils])) := by
    rw [← hF, Heap.put_ne _ _ (by omega), Heap.put_ne _ _ (by omega), Heap.put_ne _ _ (by omega), Heap.put_at]; simp
  have ek : c.vars.toNat - ins.length = k := by omega
  rw [ek]
  have fo : ∀ g, nx + 4 ≤ g → g < n + 1 → g ≠ nx + 7 → g ≠ n → HF g = H g := fun g h3 h4 h5 h6 => by
    rw [fk g (by omega) (by omega) (by omega) (by omega) (by omega) (by omega), kp g (by omega), xk g (by omega) (by omega)]
  have fn : HF n = some (.row 3 (rowV (ins ++ List.replicate k VM.vzero))) := by
    rw [fk n (by omega) (by omega) (by omega) (by omega) (by omega) (by omega), kp n (by omega)]; exact xn
  refine zio.of ⟨_, rfl, rfl, fun x hx => ?_, ?_, fun H2 hk => ?_⟩ rfl fun g hg => ?_
  · simp at hx
    rcases hx with rfl | rfl | rfl | rfl | rfl | rfl | rfl | rfl | rfl <;> rfl
  · simp
  · have v1 : H2 (nx + 11) = some (.row 3 (rowV f.vars)) := by rw [hk _ (by omega), fo _ (by omega) (by omega) (by omega) (by omega)]; exact R.rv
    have v2 : H2 (nx + 9) = some (.row 3 (rowV f.stack)) := by rw [hk _ (by omega), fo _ (by omega) (by omega) (by omega) (by omega)]; exact R.rs
    have v3 := zaaz (nx := nx) ((hk n (by omega)).trans fn) (by omega)
    have v4 := zaqe (nx := nx) (k := ⟨ia, 0, ins ++ List.replicate k VM.vzero, []⟩) (by omega) ((hk (n' + 1) (by omega)).trans ff) (zaaz v1 (by omega)) (zaaz v2 (by omega)) (by simpa using v3) .nils
    exact zbs (fs := fs ++ [f] ++ [⟨ia, 0, ins ++ List.replicate k VM.vzero, []⟩]) (m := b.permit) v4 (.same _ (zcc (zag _)))
  · rw [fk g (by omega) (by omega) (by omega) (by omega) (by omega) (by omega), kp g (by omega), xk g (by omega) (by omega)]; exact R.o.keep g hg
end
end Go.Proofs.YtejohcohkgcmhaaDoor
namespace Go.Proofs.YtejohcohkgcmhaaDoor
open Go Go.RowKit
section
variable {H0 H : Heap} {nx n ga : Nat} {b : Agt} {s : Spt} {fs : List Frm} {f : Frm} {ins : List Val} {i : Ins} {g : Frm} {ia ib : Int}
set_option maxRecDepth 20000 in
set_option maxHeartbeats 1000000 in
theorem zamh (R : VSt H0 H nx n ga b s fs f ins ⟨18, ia, ib⟩) {x : Val} (hi : ins = [x]) (hc : zcr b.heap) (hx : VM.WrongOk x b.heap.length) (hf : fs = []) : Then H0 H nx n ga b fs ins ({ b with frames := [] }, ⟨4, VM.vshow b.heap 4 x, 0⟩) := by
  unfold Then
  have r0 := R.r0
  have r1 := R.r1
  have r4 := R.r4
  have r5 := R.r5
  have ri := R.ri
  have self := R.self
  have g1 := R.ga1
  subst hi
  have ri' : H (nx + 7) = some (.row 3 [.int .i64 x.kind, .int .i64 x.n, .str x.text]) := by rw [ri, zbx]; rfl
  subst hf
  have ra := R.ra
  have w0 : IntKind.i64.wrap (0 : Int) = 0 := rfl
  have gn : ga ≠ n := by omega
  have ne_0 : nx ≠ nx + 1 ∧ nx + 1 ≠ nx ∧ nx ≠ nx + 2 ∧ nx + 2 ≠ nx ∧ nx ≠ nx + 3 ∧ nx + 3 ≠ nx ∧ nx ≠ nx + 4 ∧ nx + 4 ≠ nx ∧ nx ≠ nx + 5 ∧ nx + 5 ≠ nx ∧ nx ≠ nx + 7 ∧ nx + 7 ≠ nx ∧ nx + 1 ≠ nx + 2 ∧ nx + 2 ≠ nx + 1 ∧ nx + 1 ≠ nx + 3 ∧ nx + 3 ≠ nx + 1 ∧ nx + 1 ≠ nx + 4 ∧ nx + 4 ≠ nx + 1 ∧ nx + 1 ≠ nx + 5 ∧ nx + 5 ≠ nx + 1 ∧ nx + 1 ≠ nx + 7 ∧ nx + 7 ≠ nx + 1 ∧ nx + 2 ≠ nx + 3 ∧ nx + 3 ≠ nx + 2 ∧ nx + 2 ≠ nx + 4 ∧ nx + 4 ≠ nx + 2 ∧ nx + 2 ≠ nx + 5 ∧ nx + 5 ≠ nx + 2 ∧ nx + 2 ≠ nx + 7 ∧ nx + 7 ≠ nx + 2 ∧ nx + 3 ≠ nx + 4 ∧ nx + 4 ≠ nx + 3 ∧ nx + 3 ≠ nx + 5 ∧ nx + 5 ≠ nx + 3 ∧ nx + 3 ≠ nx + 7 ∧ nx + 7 ≠ nx + 3 ∧ nx + 4 ≠ nx + 5 ∧ nx + 5 ≠ nx + 4 ∧ nx + 4 ≠ nx + 7 ∧ nx + 7 ≠ nx + 4 ∧ nx + 5 ≠ nx + 7 ∧ nx + 7 ≠ nx + 5 ∧ nx ≠ n ∧ n ≠ nx ∧ nx ≠ n + 1 ∧ n + 1 ≠ nx ∧ nx ≠ n + 2 ∧ n + 2 ≠ nx ∧ nx ≠ n + 3 ∧ n + 3 ≠ nx ∧ nx ≠ n + 4 ∧ n + 4 ≠ nx ∧ nx ≠ n + 5 ∧ n + 5 ≠ nx ∧ nx ≠ n + 6 ∧ n + 6 ≠ nx ∧ nx ≠ ga ∧ ga ≠ nx ∧ nx + 1 ≠ n ∧ n ≠ nx + 1 ∧ nx + 1 ≠ n + 1 ∧ n + 1 ≠ nx + 1 ∧ nx + 1 ≠ n + 2 ∧ n + 2 ≠ nx + 1 ∧ nx + 1 ≠ n + 3 ∧ n + 3 ≠ nx + 1 ∧ nx + 1 ≠ n + 4 ∧ n + 4 ≠ nx + 1 ∧ nx + 1 ≠ n + 5 ∧ n + 5 ≠ nx + 1 ∧ nx + 1 ≠ n + 6 ∧ n + 6 ≠ nx + 1 ∧ nx + 1 ≠ ga ∧ ga ≠ nx + 1 ∧ nx + 2 ≠ n ∧ n ≠ nx + 2 ∧ nx + 2 ≠ n + 1 ∧ n + 1 ≠ nx + 2 ∧ nx + 2 ≠ n + 2 ∧ n + 2 ≠ nx + 2 ∧ nx + 2 ≠ n + 3 ∧ n + 3 ≠ nx + 2 ∧ nx + 2 ≠ n + 4 ∧ n + 4 ≠ nx + 2 ∧ nx + 2 ≠ n + 5 ∧ n + 5 ≠ nx + 2 ∧ nx + 2 ≠ n + 6 ∧ n + 6 ≠ nx + 2 ∧ nx + 2 ≠ ga ∧ ga ≠ nx + 2 ∧ nx + 3 ≠ n ∧ n ≠ nx + 3 ∧ nx + 3 ≠ n + 1 ∧ n + 1 ≠ nx + 3 ∧ nx + 3 ≠ n + 2 ∧ n + 2 ≠ nx + 3 ∧ nx + 3 ≠ n + 3 ∧ n + 3 ≠ nx + 3 ∧ nx + 3 ≠ n + 4 ∧ n + 4 ≠ nx + 3 ∧ nx + 3 ≠ n + 5 ∧ n + 5 ≠ nx + 3 ∧ nx + 3 ≠ n + 6 ∧ n + 6 ≠ nx + 3 ∧ nx + 3 ≠ ga ∧ ga ≠ nx + 3 ∧ nx + 4 ≠ n ∧ n ≠ nx + 4 ∧ nx + 4 ≠ n + 1 ∧ n + 1 ≠ nx + 4 ∧ nx + 4 ≠ n + 2 ∧ n + 2 ≠ nx + 4 ∧ nx + 4 ≠ n + 3 ∧ n + 3 ≠ nx + 4 ∧ nx + 4 ≠ n + 4 ∧ n + 4 ≠ nx + 4 ∧ nx + 4 ≠ n + 5 ∧ n + 5 ≠ nx + 4 ∧ nx + 4 ≠ n + 6 ∧ n + 6 ≠ nx + 4 ∧ nx + 4 ≠ ga ∧ ga ≠ nx + 4 ∧ nx + 5 ≠ n ∧ n ≠ nx + 5 ∧ nx + 5 ≠ n + 1 ∧ n + 1 ≠ nx + 5 ∧ nx + 5 ≠ n + 2 ∧ n + 2 ≠ nx + 5 ∧ nx + 5 ≠ n + 3 ∧ n + 3 ≠ nx + 5 ∧ nx + 5 ≠ n + 4 ∧ n + 4 ≠ nx + 5 ∧ nx + 5 ≠ n + 5 ∧ n + 5 ≠ nx + 5 ∧ nx + 5 ≠ n + 6 ∧ n + 6 ≠ nx + 5 ∧ nx + 5 ≠ ga ∧ ga ≠ nx + 5 ∧ nx + 7 ≠ n ∧ n ≠ nx + 7 ∧ nx + 7 ≠ n + 1 ∧ n + 1 ≠ nx + 7 ∧ nx + 7 ≠ n + 2 ∧ n + 2 ≠ nx + 7 ∧ nx + 7 ≠ n + 3 ∧ n + 3 ≠ nx + 7 ∧ nx + 7 ≠ n + 4 ∧ n + 4 ≠ nx + 7 ∧ nx + 7 ≠ n + 5 ∧ n + 5 ≠ nx + 7 ∧ nx + 7 ≠ n + 6 ∧ n + 6 ≠ nx + 7 ∧ nx + 7 ≠ ga ∧ ga ≠ nx + 7 := ⟨by omega, by omega, by omega, by omega, by omega, by omega, by omega, by omega, by omega, by omega, by omega, by omega, by omega, by omega, by omega, by omega, by omega, by omega, by omega, by omega, by omega, by omega, by omega, by omega, by omega, by omega, by omega, by omega, by omega, by omega, by omega, by omega, by omega, by omega, by omega, by omega, by omega, by omega, by omega, by omega, by omega, by omega, by omega, by omega, by omega, by omega, by omega, by omega, by omega, by omega, by omega, by omega, by omega, by omega, by omega, by omega, by omega, by omega, by omega, by omega, by omega, by omega, by omega, by omega, by omega, by omega, by omega, by omega, by omega, by omega, by omega, by omega, by omega, by omega, by omega, by omega, by omega, by omega, by omega, by omega, by omega, by omega, by omega, by omega, by omega, by omega, by omega, by omega, by omega, by omega, by omega, by omega, by omega, by omega, by omega, by omega, by omega, by omega, by omega, by omega, by omega, by omega, by omega, by omega, by omega, by omega, by omega, by omega, by omega, by omega, by omega, by omega, by omega, by omega, by omega, by omega, by omega, by omega, by omega, by omega, by omega, by omega, by omega, by omega, by omega, by omega, by omega, by omega, by omega, by omega, by omega, by omega, by omega, by omega, by omega, by omega, by omega, by omega, by omega, by omega, by omega, by omega, by omega, by omega, by omega, by omega, by omega, by omega, by omega, by omega, by omega, by omega, by omega, by omega⟩
  simp [zj, r0, zc, r4, r5, self, Ins.avs]
  refine JN.same ?_
  simp [zt]
  simp [zq]
  refine JN.same ?_
  simp [zai]
  simp [zah, r0, zc, r4, r5, Ins.avs, ri', ra, gn, w0, CALL, ne_0]
  obtain ⟨z, z1, z2⟩ := R.o.r2
  obtain ⟨y, y1, y2⟩ := R.o.r3
  refine zn.of_qc (zrw hc 4 x 4 hx rfl (by omega) (by omega)) (.str _) ?_
  simp [zoe, z1, y1, z2, y2, ne_0]
  generalize hF : Heap.put _ (nx + 3) _ = HF
  have fk : ∀ g, g ≠ nx → g ≠ n → g ≠ n + 1 → g ≠ nx + 2 → g ≠ nx + 3 → HF g = H g := fun g h1 h2 h4 h5 h6 => by
    rw [← hF, Heap.put_ne _ _ h6, Heap.put_ne _ _ h5, Heap.put_ne _ _ h1, Heap.put_ne _ _ h4, Heap.put_ne _ _ h2, Heap.put_ne _ _ h1]
  have fn : HF (n + 1) = some (.row 4 []) := by rw [← hF, Heap.put_ne _ _ (by omega), Heap.put_ne _ _ (by omega), Heap.put_ne _ _ (by omega), Heap.put_at]
  refine zio.of ⟨_, rfl, rfl, fun x hx => ?_, ?_, fun H2 hk => ?_⟩ rfl fun g hg => ?_
  · simp at hx
    rcases hx with rfl | rfl | rfl | rfl | rfl | rfl | rfl | rfl | rfl <;> rfl
  · simp
  · exact zbs (fs := []) (m := b.permit) (Frz.rowW (by omega) ((hk _ (by omega)).trans fn) rfl (by simp) .nil) (.same _ (zcc (zag _)))
  · rw [fk g (by omega) (by omega) (by omega) (by omega) (by omega)]; exact R.o.keep g hg
set_option maxRecDepth 20000 in
set_option maxHeartbeats 1000000 in
theorem zapf (R : VSt H0 H nx n ga b s (fs ++ [g]) f ins ⟨18, ia, ib⟩) {x : Val} (hi : ins = [x]) (hgs : g.stack.length ≤ 4096) : Then H0 H nx n ga b (fs ++ [g]) ins (VM.push b fs g g.stack x) := by
  unfold Then
  have r0 := R.r0
  have r1 := R.r1
  have r4 := R.r4
  have r5 := R.r5
  have ri := R.ri
  have self := R.self
  have g1 := R.ga1
  subst hi
  have ri' : H (nx + 7) = some (.row 3 [.int .i64 x.kind, .int .i64 x.n, .str x.text]) := by rw [ri, zbx]; rfl
  have ra := R.ra
  have gn : ga ≠ n := by omega
  have hkk := R.hk
  have hlf : ((fs.map Frm.avs).flatten).length = fs.length * 4 := by rw [zba (zdf fs)]; simp
  simp at hkk ra
  have hw : IntKind.i64.wrap ((fs.length : Int) + 1) = fs.length + 1 := i64w (by omega)
  have hw2 : IntKind.i64.wrap (fs.length : Int) = fs.length := i64w (by omega)
  have hst : g.stack.length ≤ 4096 := hgs
  have f1 : ∀ x ∈ (fs.map Frm.avs).flatten, x.one = true := fun x hx => by
    obtain ⟨l, hl, hxl⟩ := List.mem_flatten.1 hx
    exact oneF fs l hl x hxl
  have f2 := FL.same (H := fun _ => none) (nx := nx) (zpp fs)
  have f3 := zpp (A := fun g => g < nx) fs
  generalize hFF : (fs.map Frm.avs).flatten = F at *
  have tk : (F ++ (g.avs ++ [AV.int .i64 f.fn, .int .i64 f.at_, .slc (nx + 11) 0 f.vars.length, .slc (nx + 9) 0 f.stack.length])).take ((fs.length + 1) * 4) = F ++ g.avs := by
    rw [← List.append_assoc, List.take_append_of_le_length (by simp [hlf, Frm.avs]; omega), List.take_of_length_le (by simp [hlf, Frm.avs]; omega)]
  have tk2 : (F ++ g.avs).take ((fs.length + 1) * 4) = F ++ g.avs := List.take_of_length_le (by simp [hlf, Frm.avs]; omega)
  have tk3 : ((F ++ g.avs).drop (fs.length * 4)).take 4 = g.avs := by rw [← hlf, List.drop_left]; rfl
  have gl : g.avs.length = 4 := rfl
  have hmin : min 4 (F.length + 4 - fs.length * 4) = 4 := by omega
  have e4 : List.drop 4 [AV.int .i64 0, .int .i64 0, .nils, .nils] = [] := rfl
  have g3 : g.avs[3]'(by rw [gl]; omega) = .ro (g.stack.map Val.avs) := rfl
  have gt : g.avs.take 3 = [.int .i64 g.fn, .int .i64 g.at_, .ro (g.vars.map Val.avs)] := rfl
  have gd : g.avs.drop 4 = [] := rfl
  have tks : (rowV g.stack).take (g.stack.length * 3) = rowV g.stack := List.take_of_length_le (by simp)
  have e1 : ∀ x ∈ g.avs, x.one = true := oneF [g] g.avs (by simp)
  have src : ∀ (H : Heap), zm 3 H (.ro (g.stack.map Val.avs)) = some (g.stack.length, rowV g.stack, []) := fun H => by rw [zcn (zbo g.stack)]; simp [rowV]
  have ne_1 : nx ≠ nx + 1 ∧ nx + 1 ≠ nx ∧ nx ≠ nx + 2 ∧ nx + 2 ≠ nx ∧ nx ≠ nx + 3 ∧ nx + 3 ≠ nx ∧ nx ≠ nx + 4 ∧ nx + 4 ≠ nx ∧ nx ≠ nx + 5 ∧ nx + 5 ≠ nx ∧ nx ≠ nx + 7 ∧ nx + 7 ≠ nx ∧ nx + 1 ≠ nx + 2 ∧ nx + 2 ≠ nx + 1 ∧ nx + 1 ≠ nx + 3 ∧ nx + 3 ≠ nx + 1 ∧ nx + 1 ≠ nx + 4 ∧ nx + 4 ≠ nx + 1 ∧ nx + 1 ≠ nx + 5 ∧ nx + 5 ≠ nx + 1 ∧ nx + 1 ≠ nx + 7 ∧ nx + 7 ≠ nx + 1 ∧ nx + 2 ≠ nx + 3 ∧ nx + 3 ≠ nx + 2 ∧ nx + 2 ≠ nx + 4 ∧ nx + 4 ≠ nx + 2 ∧ nx + 2 ≠ nx + 5 ∧ nx + 5 ≠ nx + 2 ∧ nx + 2 ≠ nx + 7 ∧ nx + 7 ≠ nx + 2 ∧ nx + 3 ≠ nx + 4 ∧ nx + 4 ≠ nx + 3 ∧ nx + 3 ≠ nx + 5 ∧ nx + 5 ≠ nx + 3 ∧ nx + 3 ≠ nx + 7 ∧ nx + 7 ≠ nx + 3 ∧ nx + 4 ≠ nx + 5 ∧ nx + 5 ≠ nx + 4 ∧ nx + 4 ≠ nx + 7 ∧ nx + 7 ≠ nx + 4 ∧ nx + 5 ≠ nx + 7 ∧ nx + 7 ≠ nx + 5 ∧ nx ≠ n ∧ n ≠ nx ∧ nx ≠ n + 1 ∧ n + 1 ≠ nx ∧ nx ≠ n + 2 ∧ n + 2 ≠ nx ∧ nx ≠ n + 3 ∧ n + 3 ≠ nx ∧ nx ≠ n + 4 ∧ n + 4 ≠ nx ∧ nx ≠ n + 5 ∧ n + 5 ≠ nx ∧ nx ≠ n + 6 ∧ n + 6 ≠ nx ∧ nx ≠ ga ∧ ga ≠ nx ∧ nx + 1 ≠ n ∧ n ≠ nx + 1 ∧ nx + 1 ≠ n + 1 ∧ n + 1 ≠ nx + 1 ∧ nx + 1 ≠ n + 2 ∧ n + 2 ≠ nx + 1 ∧ nx + 1 ≠ n + 3 ∧ n + 3 ≠ nx + 1 ∧ nx + 1 ≠ n + 4 ∧ n + 4 ≠ nx + 1 ∧ nx + 1 ≠ n + 5 ∧ n + 5 ≠ nx + 1 ∧ nx + 1 ≠ n + 6 ∧ n + 6 ≠ nx + 1 ∧ nx + 1 ≠ ga ∧ ga ≠ nx + 1 ∧ nx + 2 ≠ n ∧ n ≠ nx + 2 ∧ nx + 2 ≠ n + 1 ∧ n + 1 ≠ nx + 2 ∧ nx + 2 ≠ n + 2 ∧ n + 2 ≠ nx + 2 ∧ nx + 2 ≠ n + 3 ∧ n + 3 ≠ nx + 2 ∧ nx + 2 ≠ n + 4 ∧ n + 4 ≠ nx + 2 ∧ nx + 2 ≠ n + 5 ∧ n + 5 ≠ nx + 2 ∧ nx + 2 ≠ n + 6 ∧ n + 6 ≠ nx + 2 ∧ nx + 2 ≠ ga ∧ ga ≠ nx + 2 ∧ nx + 3 ≠ n ∧ n ≠ nx + 3 ∧ nx + 3 ≠ n + 1 ∧ n + 1 ≠ nx + 3 ∧ nx + 3 ≠ n + 2 ∧ n + 2 ≠ nx + 3 ∧ nx + 3 ≠ n + 3 ∧ n + 3 ≠ nx + 3 ∧ nx + 3 ≠ n + 4 ∧ n + 4 ≠ nx + 3 ∧ nx + 3 ≠ n + 5 ∧ n + 5 ≠ nx + 3 ∧ nx + 3 ≠ n + 6 ∧ n + 6 ≠ nx + 3 ∧ nx + 3 ≠ ga ∧ ga ≠ nx + 3 ∧ nx + 4 ≠ n ∧ n ≠ nx + 4 ∧ nx + 4 ≠ n + 1 ∧ n + 1 ≠ nx + 4 ∧ nx + 4 ≠ n + 2 ∧ n + 2 ≠ nx + 4 ∧ nx + 4 ≠ n + 3 ∧ n + 3 ≠ nx + 4 ∧ nx + 4 ≠ n + 4 ∧ n + 4 ≠ nx + 4 ∧ nx + 4 ≠ n + 5 ∧ n + 5 ≠ nx + 4 ∧ nx + 4 ≠ n + 6 ∧ n + 6 ≠ nx + 4 ∧ nx + 4 ≠ ga ∧ ga ≠ nx + 4 ∧ nx + 5 ≠ n ∧ n ≠ nx + 5 ∧ nx + 5 ≠ n + 1 ∧ n + 1 ≠ nx + 5 ∧ nx + 5 ≠ n + 2 ∧ n + 2 ≠ nx + 5 ∧ nx + 5 ≠ n + 3 ∧ n + 3 ≠ nx + 5 ∧ nx + 5 ≠ n + 4 ∧ n + 4 ≠ nx + 5 ∧ nx + 5 ≠ n + 5 ∧ n + 5 ≠ nx + 5 ∧ nx + 5 ≠ n + 6 ∧ n + 6 ≠ nx + 5 ∧ nx + 5 ≠ ga ∧ ga ≠ nx + 5 ∧ nx + 7 ≠ n ∧ n ≠ nx + 7 ∧ nx + 7 ≠ n + 1 ∧ n + 1 ≠ nx + 7 ∧ nx + 7 ≠ n + 2 ∧ n + 2 ≠ nx + 7 ∧ nx + 7 ≠ n + 3 ∧ n + 3 ≠ nx + 7 ∧ nx + 7 ≠ n + 4 ∧ n + 4 ≠ nx + 7 ∧ nx + 7 ≠ n + 5 ∧ n + 5 ≠ nx + 7 ∧ nx + 7 ≠ n + 6 ∧ n + 6 ≠ nx + 7 ∧ nx + 7 ≠ ga ∧ ga ≠ nx + 7 := ⟨by omega, by omega, by omega, by omega, by omega, by omega, by omega, by omega, by omega, by omega, by omega, by omega, by omega, by omega, by omega, by omega, by omega, by omega, by omega, by omega, by omega, by omega, by omega, by omega, by omega, by omega, by omega, by omega, by omega, by omega, by omega, by omega, by omega, by omega, by omega, by omega, by omega, by omega, by omega, by omega, by omega, by omega, by omega, by omega, by omega, by omega, by omega, by omega, by omega, by omega, by omega, by omega, by omega, by omega, by omega, by omega, by omega, by omega, by omega, by omega, by omega, by omega, by omega, by omega, by omega, by omega, by omega, by omega, by omega, by omega, by omega, by omega, by omega, by omega, by omega, by omega, by omega, by omega, by omega, by omega, by omega, by omega, by omega, by omega, by omega, by omega, by omega, by omega, by omega, by omega, by omega, by omega, by omega, by omega, by omega, by omega, by omega, by omega, by omega, by omega, by omega, by omega, by omega, by omega, by omega, by omega, by omega, by omega, by omega, by omega, by omega, by omega, by omega, by omega, by omega, by omega, by omega, by omega, by omega, by omega, by omega, by omega, by omega, by omega, by omega, by omega, by omega, by omega, by omega, by omega, by omega, by omega, by omega, by omega, by omega, by omega, by omega, by omega, by omega, by omega, by omega, by omega, by omega, by omega, by omega, by omega, by omega, by omega, by omega, by omega, by omega, by omega, by omega, by omega⟩
  simp [zj, r0, zc, r4, r5, self, Ins.avs]
  refine JN.same ?_
  simp [zt]
  simp [zq]
  refine JN.same ?_
  simp [zai]
  simp [zah, r0, zc, r4, r5, Ins.avs, ri', ra, gn, hw, hw2, tk, tk2, tk3, gl, src, hmin, e4, g3, gt, gd, tks, CALL, ne_1]
  refine ⟨by omega, by omega, by omega, fun x hx => hx.elim (f1 x) (e1 x), by omega, by omega, by omega, e1, fun c hc => zaa (zbk _ c hc), by omega, by omega, ?_⟩
  generalize hX : Heap.put _ (n + 1 + 1) _ = HX
  have xk : ∀ g, g < n → g ≠ nx → HX g = H g := fun g h1 h2 => by
    rw [← hX, Heap.put_ne _ _ (by omega), Heap.put_ne _ _ (by omega), Heap.put_ne _ _ (by omega), Heap.put_ne _ _ (by omega), Heap.put_ne _ _ (by omega), Heap.put_ne _ _ (by omega), Heap.put_ne _ _ (by omega), Heap.put_ne _ _ h2, Heap.put_ne _ _ (by omega), Heap.put_ne _ _ (by omega), Heap.put_ne _ _ h2]
  have x1 : HX (n + 1) = some (.row 4 (F ++ g.avs)) := by
    rw [← hX, Heap.put_ne _ _ (by omega), Heap.put_ne _ _ (by omega), Heap.put_ne _ _ (by omega), Heap.put_ne _ _ (by omega), Heap.put_ne _ _ (by omega), Heap.put_ne _ _ (by omega), Heap.put_ne _ _ (by omega), Heap.put_ne _ _ (by omega), Heap.put_at]
  have x2 : HX (n + 1 + 1 + 2 + 1 + 1) = some (.row 3 (rowV (g.stack ++ [x]))) := by
    rw [← hX, Heap.put_ne _ _ (by omega), Heap.put_at, zeb]; rfl
  have x0 : HX nx = some (.row 9 (zc b.id b.trip b.prog (.slc (n + 1) 0 (fs.length + 1)) (.ro (b.heap.map Cl.avs)) b.permit)) := by
    rw [← hX, Heap.put_ne _ _ (by omega), Heap.put_ne _ _ (by omega), Heap.put_ne _ _ (by omega), Heap.put_ne _ _ (by omega), Heap.put_ne _ _ (by omega), Heap.put_ne _ _ (by omega), Heap.put_ne _ _ (by omega), Heap.put_at]; rfl
  have ps := Part.row (nx := nx) (n := n + 7) x2 (by omega) (by omega)
  refine zcw (nx := nx) (n := n + 7) (fs := fs) (f := { g with stack := g.stack ++ [x] }) (by omega) (by omega) (by omega) (by rw [x1, hFF]; rfl) ⟨rfl, rfl, rfl, rfl⟩ (.ro (zea _)) (by simpa using ps) (.ro (zag _)) fun H' n' g' h1 h2 kp hr gd => ?_
  exact ret (r := VM.push b fs g g.stack x) gd (R.o.more fun g hg h1 _ => by rw [kp g (by omega), xk g (by omega) h1])
end
end Go.Proofs.YtejohcohkgcmhaaDoor
namespace Go.Proofs.YtejohcohkgcmhaaDoor
open Go Go.RowKit
theorem znr (st : List Val) : VM.low 0 st = st := by simp [VM.low]
theorem zpk {st : List Val} (h : 1 ≤ st.length) : st.drop (st.length - 1) = [VM.top1 st] := by
  have e := zfc h
  have hl : (VM.low 1 st).length = st.length - 1 := VM.low_len 1 st
  have : st.drop (st.length - 1) = (VM.low 1 st ++ [VM.top1 st]).drop (VM.low 1 st).length := by rw [← e, hl]
  rw [this, List.drop_left]
theorem zaev {st : List Val} (h : 2 ≤ st.length) : st.drop (st.length - 2) = [VM.top2 st, VM.top1 st] := by
  have e := zut h
  have hl : (VM.low 2 st).length = st.length - 2 := VM.low_len 2 st
  have : st.drop (st.length - 2) = (VM.low 2 st ++ [VM.top2 st, VM.top1 st]).drop (VM.low 2 st).length := by rw [← e, hl]
  rw [this, List.drop_left]
theorem zus {a : Agt} {fs : List Frm} {f : Frm} (l : VM.Live a fs f) : f.stack.length ≤ 17 := by
  have nw := l.now
  have ok := l.ok f (by simp)
  have hst := l.still
  unfold VM.Still VM.hts at hst
  have hm := (zde ((zz l.prog).1 _ (VM.code_mem ok.code)).2.1 ((zz l.prog).1 _ (VM.code_mem ok.code)).2.2).2 _ (List.mem_of_getElem? hst)
  omega
section
variable {H0 H : Heap} {nx n ga : Nat} {a : Agt} {s : Spt} {fs : List Frm} {f : Frm}
theorem zaml {b : Agt} {f' : Frm} {ia ib : Int} {ins : List Val} {x : Val} (R : VSt H0 H nx n ga b s fs f' ins ⟨13, ia, ib⟩) (hin : ins = [x]) (hfacts : s.facts.length ≤ 4611686018427387903) (h0 : 0 ≤ b.permit.hops) (hm : b.permit.hops ≤ 4096) :
    Then H0 H nx n ga b fs ins (if x.kind ≠ 1 then (VM.toF b fs f', VM.dead 11) else if b.permit.hops = 0 then VM.push b fs f' f'.stack VM.vzero else (VM.toF { b with permit := { b.permit with hops := b.permit.hops - 1 } } fs f', ⟨3, x.text, 0⟩)) := by
  by_cases hk : x.kind = 1
  · rw [if_neg (by simpa using hk)]
    by_cases hh : b.permit.hops = 0
    · rw [if_pos hh]; exact zamj R hin hk hh hfacts
    · rw [if_neg hh]; exact zapk R hin hk (by omega) hm
  · rw [if_pos hk]; exact zamk R hin hk
set_option maxHeartbeats 4000000 in
theorem zamg (l : VM.Live a fs f) (hname : s.name.length ≤ maxLen) (hfacts : s.facts.length ≤ 4611686018427387903) {ins : List Val} {f' : Frm} {b : Agt} {i : Ins} (hi' : i = VM.insAt a.prog f) (hb' : b = { a with permit := { a.permit with fuel := a.permit.fuel - 1 } })
    (hf' : f' = { f with at_ := f.at_ + 1, stack := VM.low (VM.effect i).1.toNat f.stack }) (hin : ins = f.stack.drop (f.stack.length - (VM.effect i).1.toNat)) (R : VSt H0 H nx n ga b s fs f' ins i) :
    Then H0 H nx n ga b fs ins (VM.opDo b s fs { f with at_ := f.at_ + 1 } i) := by
  have flen := l.flen
  have ok := l.ok f (by simp)
  have nw := l.now
  rw [← hi'] at nw
  clear hi'
  obtain ⟨iop, ia, ib⟩ := i
  have hins := nw.at_
  obtain ⟨o1, o2, o3, o4⟩ := VM.numbers_ok nw.num
  have pops := nw.pops
  have slen := zus l
  obtain ⟨crange, _, _⟩ := (zz l.prog).1 _ (VM.code_mem ok.code)
  unfold VM.codeRange at crange
  rw [decide_eq_false_iff_not] at crange
  have b1 := l.fuel
  have b2 := l.room
  have b3 := l.hops
  have b4 := l.hlen
  have oc : zcr a.heap := l.cells
  have m1 : 1 ≤ f.stack.length → VM.WrongOk (VM.top1 f.stack) a.heap.length := fun h => ok.sv _ (VM.top1_mem h)
  have m2 : 2 ≤ f.stack.length → VM.WrongOk (VM.top2 f.stack) a.heap.length := fun h => ok.sv _ (VM.top2_mem h)
  have hcell : ∀ x : Val, VM.WrongOk x a.heap.length → x.kind = 2 → 0 ≤ x.n ∧ a.heap[x.n.toNat]? = some (a.heap.getD x.n.toNat VM.cl0) := fun x hx hk => by
    obtain ⟨w1, w2⟩ := hx.cell hk
    refine ⟨w1, ?_⟩
    rw [List.getD_eq_getElem?_getD, List.getElem?_eq_getElem (by omega)]; rfl
  simp only at o1 o2 o3 o4 pops
  have hop : iop = 1 ∨ iop = 2 ∨ iop = 3 ∨ iop = 4 ∨ iop = 5 ∨ iop = 6 ∨ iop = 7 ∨ iop = 8 ∨ iop = 9 ∨ iop = 10 ∨ iop = 11 ∨ iop = 12 ∨ iop = 13 ∨ iop = 14 ∨ iop = 15 ∨ iop = 16 ∨ iop = 17 ∨ iop = 18 ∨ iop = 19 := by omega
  rcases hop with rfl | rfl | rfl | rfl | rfl | rfl | rfl | rfl | rfl | rfl | rfl | rfl | rfl | rfl | rfl | rfl | rfl | rfl | rfl
  · -- 1
    rw [show (VM.effect ⟨1, ia, ib⟩).1.toNat = 0 by simp [VM.effect]] at hf' hin
    rw [znr] at hf'
    subst hf'
    rw [VM.opDo_1]
    exact zaqz R
  · -- 2
    rw [show (VM.effect ⟨2, ia, ib⟩).1.toNat = 0 by simp [VM.effect]] at hf' hin
    rw [znr] at hf'
    subst hf'
    have hn : 0 ≤ ia ∧ ia < a.prog.words.length := by unfold VM.numOk VM.isIn at o3; simpa using o3
    have hlt : ia.toNat < a.prog.words.length := by omega
    have hget : a.prog.words[ia.toNat]? = some (a.prog.words.getD ia.toNat []) := by rw [List.getD_eq_getElem?_getD, List.getElem?_eq_getElem hlt]; rfl
    have hwl := ztg l.prog _ (List.mem_of_getElem? hget)
    subst hb'
    rw [VM.opDo_2]
    exact zaqy R hn.1 hget (by simp only [maxLen]; omega)
  · -- 3
    rw [show (VM.effect ⟨3, ia, ib⟩).1.toNat = 0 by simp [VM.effect]] at hf' hin
    rw [znr] at hf'
    subst hf'
    have hn : 0 ≤ ia ∧ ia < (VM.codeAt a.prog f.fn).vars := by unfold VM.numOk VM.isIn at o3; simpa using o3
    have okv := ok.vars
    have hlt : ia.toNat < f.vars.length := by omega
    have hget : f.vars[ia.toNat]? = some (f.vars.getD ia.toNat VM.vzero) := by rw [List.getD_eq_getElem?_getD, List.getElem?_eq_getElem hlt]; rfl
    rw [VM.opDo_3]
    exact zaqx R hn.1 hget
  · -- 4
    rw [show (VM.effect ⟨4, ia, ib⟩).1.toNat = 1 by simp [VM.effect]] at hf' hin
    have hp : 1 ≤ f.stack.length := by simp [VM.effect] at pops; omega
    rw [zpk hp] at hin
    subst hf'
    have hn : 0 ≤ ia ∧ ia < (VM.codeAt a.prog f.fn).vars := by unfold VM.numOk VM.isIn at o3; simpa using o3
    have okv := ok.vars
    rw [VM.opDo_4]
    exact zaqw R hn.1 (by simp only; omega) hin
  · -- 5
    rw [show (VM.effect ⟨5, ia, ib⟩).1.toNat = 2 by simp [VM.effect]] at hf' hin
    have hp : 2 ≤ f.stack.length := by simp [VM.effect] at pops; omega
    rw [zaev hp] at hin
    subst hf'
    rw [VM.opDo_5]
    exact zaqv R hin (VM.ok_wrong (m2 hp)) (VM.ok_wrong (m1 (by omega)))
  · -- 6
    rw [show (VM.effect ⟨6, ia, ib⟩).1.toNat = 2 by simp [VM.effect]] at hf' hin
    have hp : 2 ≤ f.stack.length := by simp [VM.effect] at pops; omega
    rw [zaev hp] at hin
    subst hf' hb'
    rw [VM.opDo_6]
    exact zaqu R hin b2 (by simp only; omega) (by simp only; omega)
  · -- 7
    rw [show (VM.effect ⟨7, ia, ib⟩).1.toNat = 1 by simp [VM.effect]] at hf' hin
    have hp : 1 ≤ f.stack.length := by simp [VM.effect] at pops; omega
    rw [zpk hp] at hin
    subst hf' hb'
    rw [VM.opDo_7]
    by_cases hk : (VM.top1 f.stack).kind = 2
    · rw [if_neg (by simpa using hk)]
      obtain ⟨c0, c1⟩ := hcell _ (m1 hp) hk
      exact zaqt R hin hk c0 c1
    · rw [if_pos hk]; exact zapd R hin hk
  · -- 8
    rw [show (VM.effect ⟨8, ia, ib⟩).1.toNat = 1 by simp [VM.effect]] at hf' hin
    have hp : 1 ≤ f.stack.length := by simp [VM.effect] at pops; omega
    rw [zpk hp] at hin
    subst hf' hb'
    rw [VM.opDo_8]
    by_cases hk : (VM.top1 f.stack).kind = 2
    · rw [if_neg (by simpa using hk)]
      obtain ⟨c0, c1⟩ := hcell _ (m1 hp) hk
      exact zaqs R hin hk c0 c1
    · rw [if_pos hk]; exact zapc R hin hk
  · -- 9
    rw [show (VM.effect ⟨9, ia, ib⟩).1.toNat = 2 by simp [VM.effect]] at hf' hin
    have hp : 2 ≤ f.stack.length := by simp [VM.effect] at pops; omega
    rw [zaev hp] at hin
    subst hf' hb'
    rw [VM.opDo_9]
    by_cases hk : (VM.top2 f.stack).kind = 2
    · rw [if_neg (by simpa using hk)]
      obtain ⟨c0, c1⟩ := hcell _ (m2 hp) hk
      exact zaqr R hin hk c0 (by simp only; omega) c1
    · rw [if_pos hk]; exact zapb R hin hk
  · -- 10
    rw [show (VM.effect ⟨10, ia, ib⟩).1.toNat = 2 by simp [VM.effect]] at hf' hin
    have hp : 2 ≤ f.stack.length := by simp [VM.effect] at pops; omega
    rw [zaev hp] at hin
    subst hf' hb'
    rw [VM.opDo_10]
    by_cases hk : (VM.top2 f.stack).kind = 2
    · rw [if_neg (by simpa using hk)]
      obtain ⟨c0, c1⟩ := hcell _ (m2 hp) hk
      exact zapn R hin hk c0 (by simp only; omega) c1
    · rw [if_pos hk]; exact zamn R hin hk
  · -- 11
    rw [show (VM.effect ⟨11, ia, ib⟩).1.toNat = 1 by simp [VM.effect]] at hf' hin
    have hp : 1 ≤ f.stack.length := by simp [VM.effect] at pops; omega
    rw [zpk hp] at hin
    subst hf' hb'
    rw [VM.opDo_11]
    by_cases hk : (VM.top1 f.stack).kind = 1
    · rw [if_neg (by simpa using hk)]; exact zapm R hin hk hfacts
    · rw [if_pos hk]; exact zamm R hin hk
  · -- 12
    rw [show (VM.effect ⟨12, ia, ib⟩).1.toNat = 0 by simp [VM.effect]] at hf' hin
    rw [znr] at hf'
    subst hf'
    rw [VM.opDo_12]
    exact zapl R hname
  · -- 13
    rw [show (VM.effect ⟨13, ia, ib⟩).1.toNat = 1 by simp [VM.effect]] at hf' hin
    have hp : 1 ≤ f.stack.length := by simp [VM.effect] at pops; omega
    rw [zpk hp] at hin
    subst hf' hb'
    rw [VM.opDo_13]
    exact zaml R hin hfacts (by simp only; omega) (by simp only; omega)
  · -- 14
    rw [show (VM.effect ⟨14, ia, ib⟩).1.toNat = 1 by simp [VM.effect]] at hf' hin
    have hp : 1 ≤ f.stack.length := by simp [VM.effect] at pops; omega
    rw [zpk hp] at hin
    subst hf' hb'
    rw [VM.opDo_14]
    exact zapj R hin oc (m1 hp)
  · -- 15
    rw [show (VM.effect ⟨15, ia, ib⟩).1.toNat = 0 by simp [VM.effect]] at hf' hin
    rw [znr] at hf'
    subst hf'
    rw [VM.opDo_15]
    exact zapi R
  · -- 16
    rw [show (VM.effect ⟨16, ia, ib⟩).1.toNat = 1 by simp [VM.effect]] at hf' hin
    have hp : 1 ≤ f.stack.length := by simp [VM.effect] at pops; omega
    rw [zpk hp] at hin
    subst hf'
    rw [VM.opDo_16]
    exact zaph R hin fun hk => (m1 hp).non (fun h => by rw [hk] at h; cases h)
  · -- 17
    have he : (VM.effect ⟨17, ia, ib⟩).1 = ib := by simp [VM.effect]
    rw [he] at hf' hin
    have hn : VM.numOk a.prog (VM.codeAt a.prog f.fn) ⟨17, ia, ib⟩ = true := o3
    unfold VM.numOk VM.isIn at hn
    simp at hn
    have hk : (ia.toNat < a.prog.codes.length) := by omega
    have hcc : a.prog.codes[ia.toNat]? = some (VM.codeAt a.prog ia) := by unfold VM.codeAt; rw [List.getD_eq_getElem?_getD, List.getElem?_eq_getElem hk]; rfl
    have hcr := ((zz l.prog).1 _ (VM.code_mem hk)).1
    unfold VM.codeRange at hcr
    rw [decide_eq_false_iff_not] at hcr
    have hb : ib = (VM.codeAt a.prog ia).params := by
      have := hn.2
      unfold VM.codeAt
      rw [List.getD_eq_getElem?_getD]
      rw [List.getElem?_eq_getElem hk] at this ⊢
      simpa using this
    have hpp : ib ≤ f.stack.length := by rw [he] at pops; exact pops
    have hil : ins.length = ib.toNat := by rw [hin, List.length_drop]; omega
    subst hf' hb'
    rw [VM.opDo_17]
    by_cases hd : 12 ≤ fs.length + 1
    · rw [if_pos hd]
      have := zami R hd (by omega)
      have e : VM.low ib.toNat f.stack ++ ins = f.stack := by rw [hin]; exact List.take_append_drop _ _
      simp only [e] at this
      exact this
    · rw [if_neg hd]
      have := zapg R (by omega) hn.1.1 hcc (by omega) (by omega) (by omega)
      have e2 : (ins.length : Int) = ib := by omega
      rw [e2] at this
      rw [← hin]
      exact this
  · -- 18
    rw [show (VM.effect ⟨18, ia, ib⟩).1.toNat = 1 by simp [VM.effect]] at hf' hin
    have hp : 1 ≤ f.stack.length := by simp [VM.effect] at pops; omega
    rw [zpk hp] at hin
    subst hf' hb'
    rw [VM.opDo_18]
    rcases List.eq_nil_or_concat fs with rfl | ⟨gs, g, hg⟩
    · exact zamh R hin oc (m1 hp) rfl
    · rw [List.concat_eq_append] at hg
      subst hg
      have := zub l g (by simp)
      have e1 : (gs ++ [g]).getLast? = some g := by simp
      have e2 : (gs ++ [g]).dropLast = gs := by simp
      rw [e1, e2]
      exact zapf R hin (by omega)
  · -- 19
    rw [show (VM.effect ⟨19, ia, ib⟩).1.toNat = 1 by simp [VM.effect]] at hf' hin
    subst hf'
    rw [VM.opDo_19]
    exact zape R
end
end Go.Proofs.YtejohcohkgcmhaaDoor
