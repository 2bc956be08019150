/- The document's machine: Pack. A program, and an agent, are the same as themselves. Agents: what the document's function says is wrong with one. Agents: what the document's function says is wrong with one, on. Agents: what the document's function says is wrong with one, whole. Each operation, reckoned: what it comes to, what it reads, what is new, what it changes. A function's text, run: what a call comes to, reckoned. -/
import Derived.Test.YtpbnaaoilgohkaaGreatDoorG10
import Derived.Test.YtpbnaaoilgohkaaGreatDoorG11
import Derived.Test.YtpbnaaoilgohkaaGreatDoorG6
import Derived.Test.YtpbnaaoilgohkaaGreatDoorG3
import Derived.Test.YtpbnaaoilgohkaaGreatDoorG5
set_option linter.unusedSimpArgs false
set_option linter.unusedVariables false
set_option maxRecDepth 8000
namespace Go.Proofs.YtpbnaaoilgohkaaGreatDoor
open Go Go.RowKit
section
variable {ki kj : IntKind}
theorem zxn {s : Nat} {xs : List (List AV)} {b : Int} {H : Heap} {kt : Kt} : zao s (.ro xs) none (some (.int ki b)) H kt = (0 ≤ b ∧ b ≤ xs.length ∧ (∀ x ∈ xs, x.length = s) ∧ kt (.ro (xs.take b.toNat)) [] [] []) := by
  simp [zao, lohi, PURE]
theorem zus {s : Nat} {xs : List (List AV)} {a b : Int} {H : Heap} {kt : Kt} : zao s (.ro xs) (some (.int ki a)) (some (.int kj b)) H kt = (0 ≤ a ∧ a ≤ b ∧ b ≤ xs.length ∧ (∀ x ∈ xs, x.length = s) ∧ kt (.ro ((xs.take b.toNat).drop a.toNat)) [] [] []) := by
  simp [zao, lohi, PURE]
theorem zaew {s : Nat} {xs : List (List AV)} {a : Int} {H : Heap} {k : AV → Prop} : SL s (.ro xs) (some (.int ki a)) none H k = (0 ≤ a ∧ a ≤ xs.length ∧ (∀ x ∈ xs, x.length = s) ∧ k (.ro (xs.drop a.toNat))) := by
  simp [SL, zao, lohi, PURE, qk]
end
set_option maxRecDepth 20000 in
set_option maxHeartbeats 1000000 in
theorem zsx {fs : List Frm} {H5 : Heap} {n : Nat} {Q : AV → Heap → Nat → Prop} (hb : (zc fs).length ≤ 4096) (hfl : fs.length ≤ 4096)
    (hend : ∀ H' n' l, n + 2 ≤ n' → (∀ g, g < n + 2 → H' g = H5 g) → Slot H' 3 (zc fs).length (rowV (zc fs)) l → (∀ g ∈ own l, n + 2 ≤ g ∧ g < n') →
      FA 5 (.ptr n 0) fun v29 => LD false 1 v29 H' fun v30 => za Tryz.prog 36 [v30, l] H' n' (zgw [.ptr n 0, .ptr (n + 1) 0, l, .ro (fs.map Frm.avs), .int .i64 fs.length, .int .i64 fs.length] Q)) :
    LP (zcr Q) [.ptr n 0, .ptr (n + 1) 0, .nils, .ro (fs.map Frm.avs), .int .i64 fs.length, .int .i64 0] H5 (n + 2) := by
  refine LP.mk (fun k xs H' n' => ∃ (i : Nat) (l : AV), k = fs.length - i ∧ i ≤ fs.length ∧ xs = [.ptr n 0, .ptr (n + 1) 0, l, .ro (fs.map Frm.avs), .int .i64 fs.length, .int .i64 i] ∧ n + 2 ≤ n' ∧ (∀ g, g < n + 2 → H' g = H5 g) ∧
    Slot H' 3 (zc (fs.take i)).length (rowV (zc (fs.take i))) l ∧ ∀ g ∈ own l, n + 2 ≤ g ∧ g < n') fs.length ⟨0, .nils, rfl, by omega, rfl, Nat.le_refl _, fun _ _ => rfl, .inl ⟨rfl, .inl rfl⟩, by simp [own]⟩ ?_
  rintro k xs H' n' ⟨i, l, rfl, hi, rfl, hn, keep, sl, bl⟩
  suffices key : ∀ K : J3, (∀ (i' : Nat) (l : AV) H' n', fs.length - i' < fs.length - i → i' ≤ fs.length → n + 2 ≤ n' → (∀ g, g < n + 2 → H' g = H5 g) → Slot H' 3 (zc (fs.take i')).length (rowV (zc (fs.take i'))) l → (∀ g ∈ own l, n + 2 ≤ g ∧ g < n') → K [.ptr n 0, .ptr (n + 1) 0, l, .ro (fs.map Frm.avs), .int .i64 fs.length, .int .i64 i'] H' n') →
      zcr Q K [.ptr n 0, .ptr (n + 1) 0, l, .ro (fs.map Frm.avs), .int .i64 fs.length, .int .i64 i] H' n' from
    key _ fun i' l H' n' h1 h2 h3 h4 h5 h6 => ⟨_, h1, i', l, rfl, h2, rfl, h3, h4, h5, h6⟩
  intro K hK
  by_cases hil : i < fs.length
  · have hf : fs[i]? = some fs[i] := List.getElem?_eq_getElem hil
    have hadd : IntKind.i64.wrap ((i : Int) + 1) = ((i + 1 : Nat) : Int) := by rw [i64w (by omega)]; rfl
    have htk : fs.take (i + 1) = fs.take i ++ [fs[i]] := zds hf
    have hle := zqn (fs := fs) (i + 1)
    have hr1 : zc (fs.take (i + 1)) = zc (fs.take i) ++ fs[i].vars ++ fs[i].stack := by rw [htk, zoz]
    rw [hr1] at hle
    simp only [List.length_append] at hle
    have b0 : ∀ l : List Val, (rowV l).all AV.one = true := fun l => List.all_eq_true.2 fun c hc => zbe (zdt _ c hc)
    have hsrc : ∀ (H : Heap) (l : List Val), ze 3 H (.ro (l.map Val.avs)) = some (l.length, rowV l, []) := fun H l => by rw [zjl (zcq l)]; simp [rowV]
    simp [zcr, hil]
    simp [Frm.avs]
    generalize hX : Heap.put H' n' _ = HX
    have x1 : HX n' = some (.row 4 [.int .i64 fs[i].fn, .int .i64 fs[i].at_, .ro (fs[i].vars.map Val.avs), .ro (fs[i].stack.map Val.avs)]) := by rw [← hX, Heap.put_at]
    have xk : ∀ g, g ≠ n' → HX g = H' g := fun g hg => by rw [← hX, Heap.put_ne _ _ hg]
    refine Slot.gather (sl.keep fun g hg => xk g (by have := bl g hg; omega)) (by simp) (hsrc _ _) (by simp) (b0 _) (by omega) fun v1 rd1 fr1 D1 l1 d1 s1 o1 k1 => ?_
    have y1 : (HX.apply D1) n' = some (.row 4 [.int .i64 fs[i].fn, .int .i64 fs[i].at_, .ro (fs[i].vars.map Val.avs), .ro (fs[i].stack.map Val.avs)]) := by rw [k1 n' (fun h => by have := bl _ h; omega) (by omega)]; exact x1
    have yk : ∀ g, g < n + 2 → (HX.apply D1) g = H5 g := fun g hg => by rw [k1 g (fun h => by have := bl _ h; omega) (by omega), xk g (by omega), keep g hg]
    have dd : n' ∉ domD D1 := fun h => by
      rcases d1 n' h with h | h
      · have := bl _ h; omega
      · omega
    generalize HX.apply D1 = HY at *
    simp only [y1, rowk]
    simp
    refine Slot.gather s1 (by simp; omega) (hsrc _ _) (by simp) (b0 _) (by omega) fun v2 rd3 fr2 D2 l2 d2 s2 o2 k2 => ?_
    have zk : ∀ g, g < n + 2 → (HY.apply D2) g = H5 g := fun g hg => by rw [k2 g (fun h => by have := o1 _ h; omega) (by omega), yk g hg]
    generalize HY.apply D2 = HZ at *
    refine zax (fun g _ => by simp) (zax (fun g _ => by simp) (zax (fun g hg => by simp; rintro rfl; exact dd hg) (zax (fun g _ => by simp) ?_)))
    rw [hadd]
    refine hK (i + 1) v2 HZ _ (by omega) (by omega) (by omega) zk ?_ fun g hg => ?_
    · rw [hr1, zng, zng]
      simpa [Nat.add_assoc] using s2
    · have := o2 g hg; omega
  · obtain rfl : i = fs.length := by omega
    rw [List.take_length] at sl
    have := hend H' n' l hn keep sl bl
    simpa [zcr] using this
set_option maxRecDepth 20000 in
set_option maxHeartbeats 1000000 in
theorem zwa {fs : List Frm} {id trip : Int} {pr : Prg} {m : Pmt} {p : Val → Val} {hp h : List Cl} {H1 : Heap} {n mid : Nat} {Q : AV → Heap → Nat → Prop} (hfl : fs.length ≤ 4096) (hb : ∀ f ∈ fs, f.vars.length ≤ 4096 ∧ f.stack.length ≤ 4096) (hmid : n + 2 ≤ mid)
    (r1 : H1 n = some (.row 9 (zam id trip pr (.ro (fs.map Frm.avs)) (.ro (h.map Cl.avs)) m))) (r2 : ∃ z, H1 (n + 1) = some (.row 9 z) ∧ z.length = 9)
    (hend : ∀ H' n' ss fa, zfh H' mid n' (fs.map (pkF p)) ss fa → (∀ g, g < n → H' g = H1 g) → Q (.agg (zam id trip pr fa (.ro (hp.map Cl.avs)) m)) H' n') :
    LP (zcs Q) [.ptr n 0, .ptr (n + 1) 0, .ro ((zc fs).map fun v => (p v).avs), .ro (hp.map Cl.avs), .nils, .ro (fs.map Frm.avs), .int .i64 fs.length, .int .i64 0] H1 mid := by
  refine LP.mk (fun k xs H' n' => ∃ (i : Nat) (ss : List (AV × AV)) (fa : AV), k = fs.length - i ∧ i ≤ fs.length ∧ mid ≤ n' ∧ xs = [.ptr n 0, .ptr (n + 1) 0, .ro ((zc (fs.drop i)).map fun v => (p v).avs), .ro (hp.map Cl.avs), fa, .ro (fs.map Frm.avs), .int .i64 fs.length, .int .i64 i] ∧
    zfh H' mid n' ((fs.take i).map (pkF p)) ss fa ∧ ∀ g, g < mid → H' g = H1 g) fs.length ⟨0, [], .nils, rfl, by omega, Nat.le_refl _, rfl, ⟨⟨rfl, fun k f s hf => by simp at hf⟩, .inl ⟨by simp, .inl rfl⟩, by simp [own, owns], by simp [own, owns]⟩, fun _ _ => rfl⟩ ?_
  rintro k xs H' n' ⟨i, ss, fa, rfl, hi, hn', rfl, st, keep⟩
  suffices key : ∀ K : J3, (∀ (i' : Nat) ss fa H' n', fs.length - i' < fs.length - i → i' ≤ fs.length → mid ≤ n' → zfh H' mid n' ((fs.take i').map (pkF p)) ss fa → (∀ g, g < mid → H' g = H1 g) → K [.ptr n 0, .ptr (n + 1) 0, .ro ((zc (fs.drop i')).map fun v => (p v).avs), .ro (hp.map Cl.avs), fa, .ro (fs.map Frm.avs), .int .i64 fs.length, .int .i64 i'] H' n') →
      zcs Q K [.ptr n 0, .ptr (n + 1) 0, .ro ((zc (fs.drop i)).map fun v => (p v).avs), .ro (hp.map Cl.avs), fa, .ro (fs.map Frm.avs), .int .i64 fs.length, .int .i64 i] H' n' from
    key _ fun i' ss fa H' n' h1 h2 h3 h4 h5 => ⟨_, h1, i', ss, fa, rfl, h2, h3, rfl, h4, h5⟩
  intro K hK
  have e1 := (keep n (by omega)).trans r1
  obtain ⟨z, z1, z2⟩ := r2
  have e2 := (keep (n + 1) (by omega)).trans z1
  by_cases hil : i < fs.length
  · have hf : fs[i]? = some fs[i] := List.getElem?_eq_getElem hil
    have hdrop : fs.drop i = fs[i] :: fs.drop (i + 1) := List.drop_eq_getElem_cons hil
    have htk : fs.take (i + 1) = fs.take i ++ [fs[i]] := zds hf
    have hadd : IntKind.i64.wrap ((i : Int) + 1) = ((i + 1 : Nat) : Int) := by rw [i64w (by omega)]; rfl
    have hroots : zc (fs.drop i) = fs[i].vars ++ (fs[i].stack ++ zc (fs.drop (i + 1))) := by unfold zc; rw [hdrop, List.flatMap_cons, List.append_assoc]
    have len3 : ∀ l : List Val, ∀ x ∈ l.map (fun v => (p v).avs), x.length = 3 := fun l x hx => by obtain ⟨v, _, rfl⟩ := List.mem_map.1 hx; rfl
    have one3 : ∀ l : List Val, ∀ x ∈ l.map (fun v => (p v).avs), ∀ c ∈ x, c.one = true := fun l x hx c hc => by obtain ⟨v, _, rfl⟩ := List.mem_map.1 hx; exact zbe (zbd _ c hc)
    have fl : ∀ l : List Val, (l.map fun v => (p v).avs).flatten = rowV (l.map p) := fun l => by simp [rowV, List.map_map, Function.comp_def]
    obtain ⟨b1, b2⟩ := hb _ (List.getElem_mem hil)
    have hw : IntKind.i64.wrap ((fs[i].vars.length : Int) + fs[i].stack.length) = ((fs[i].vars.length + fs[i].stack.length : Nat) : Int) := by rw [i64w (by omega)]; rfl
    have hsrc : ∀ (H : Heap) (l : List Val), ze 3 H (.ro (l.map fun v => (p v).avs)) = some (l.length, rowV (l.map p), []) := fun H l => by rw [zjl (len3 l), fl]; simp
    have hones : ∀ l : List Val, ∀ x ∈ rowV l, x.one = true := fun l c hc => zbe (zdt l c hc)
    obtain ⟨X, hX⟩ : ∃ X, X = (zc (fs.drop i)).map fun v => (p v).avs := ⟨_, rfl⟩
    have x3 : ∀ x ∈ X, x.length = 3 := by rw [hX]; exact len3 _
    have lX : fs[i].vars.length + fs[i].stack.length ≤ X.length := by rw [hX, hroots]; simp
    have t1 : X.take fs[i].vars.length = fs[i].vars.map fun v => (p v).avs := by rw [hX, hroots, List.map_append, List.take_append_of_le_length (by simp), List.take_of_length_le (by simp)]
    have t2 : (X.take (fs[i].vars.length + fs[i].stack.length)).drop fs[i].vars.length = fs[i].stack.map fun v => (p v).avs := by
      rw [hX, hroots, List.map_append, List.map_append, ← List.append_assoc, List.take_append_of_le_length (by simp), List.take_of_length_le (by simp), List.drop_append_of_le_length (by simp), List.drop_of_length_le (by simp), List.nil_append]
    have t3 : X.drop (fs[i].vars.length + fs[i].stack.length) = (zc (fs.drop (i + 1))).map fun v => (p v).avs := by
      rw [hX, hroots, List.map_append, List.map_append, ← List.append_assoc, List.drop_append_of_le_length (by simp), List.drop_of_length_le (by simp), List.nil_append]
    have q1 : ((fs[i].vars.length : Int)) ≤ X.length := by omega
    have q2 : ((fs[i].vars.length : Int) + fs[i].stack.length) ≤ X.length := by omega
    have q3 : ((fs[i].vars.length : Int) + fs[i].stack.length).toNat = fs[i].vars.length + fs[i].stack.length := by omega
    rw [← hX]
    simp [zcs, hil]
    have m1 : n' ≠ n' + 2 := by omega
    have m2 : n' ≠ n' + 2 + 1 := by omega
    have m3 : n' ≠ n' + 4 := by omega
    have m4 : n' ≠ n' + 1 := by omega
    have m5 : n' ≠ n' + 4 + 1 := by omega
    simp [Frm.avs, zxn, zus, zaew, hw, t1, t2, t3, hsrc, x3, q1, q2, q3, m1, m2, m3, m4, m5]
    refine ⟨x3, hones _, by omega, by omega, x3, hones _, by omega, by omega, x3, ?_⟩
    generalize hY : Heap.put _ (n' + 4 + 1) _ = HY
    have y1 : HY (n' + 4 + 1) = some (.row 4 [.int .i64 fs[i].fn, .int .i64 fs[i].at_, .slc (n' + 2) 0 fs[i].vars.length, .slc (n' + 4) 0 fs[i].stack.length]) := by rw [← hY, Heap.put_at]
    have y2 : HY (n' + 4) = some (.row 3 (rowV (fs[i].stack.map p))) := by rw [← hY, Heap.put_ne _ _ (by omega), Heap.put_ne _ _ (by omega), Heap.put_at]
    have y3 : HY (n' + 2) = some (.row 3 (rowV (fs[i].vars.map p))) := by rw [← hY, Heap.put_ne _ _ (by omega), Heap.put_ne _ _ (by omega), Heap.put_ne _ _ (by omega), Heap.put_ne _ _ (by omega), Heap.put_at]
    have yk : ∀ g, g < n' → HY g = H' g := fun g hg => by rw [← hY, Heap.put_ne _ _ (by omega), Heap.put_ne _ _ (by omega), Heap.put_ne _ _ (by omega), Heap.put_ne _ _ (by omega), Heap.put_ne _ _ (by omega), Heap.put_ne _ _ (by omega), Heap.put_ne _ _ (by omega)]
    have tl : ((fs.take i).map (pkF p)).length = i := by simp; omega
    refine st.snoc (f := pkF p fs[i]) (va := .slc (n' + 2) 0 fs[i].vars.length) (sa := .slc (n' + 4) 0 fs[i].stack.length) (N := n' + 2) (by omega) (by omega) (by omega) (by rw [tl]; omega) yk (.inr ⟨n' + 2, _, by simp [pkF], y3, List.take_of_length_le (by simp [pkF]), by simp [pkF]⟩) (.inr ⟨n' + 4, _, by simp [pkF], y2, List.take_of_length_le (by simp [pkF]), by simp [pkF]⟩) (by simp [own]) (fun g hg => by simp [own] at hg; omega) y1 fun H3 a' h1 h2 => ?_
    rw [hadd]
    refine hK (i + 1) (ss ++ [(.slc (n' + 2) 0 fs[i].vars.length, .slc (n' + 4) 0 fs[i].stack.length)]) a' H3 _ (by omega) (by omega) (by omega) ?_ fun g hg => ?_
    · rw [htk, List.map_append]; exact h2
    · rw [h1 g hg, yk g (by omega)]; exact keep g hg
  · obtain rfl : i = fs.length := by omega
    rw [List.take_length] at st
    simp [zcs, e1, e2, zam, z2, st.row.one.1, st.row.one.2.1, st.row.one.2.2]
    have bd := st.bd
    refine hend _ n' ss fa ⟨st.frs.keep fun g hg => ?_, st.row.keep fun g hg => ?_, st.nd, st.bd⟩ fun g hg => ?_
    · have := bd g (List.mem_append_right _ hg)
      rw [Heap.put_ne _ _ (by omega), Heap.put_ne _ _ (by omega)]
    · have := bd g (List.mem_append_left _ hg)
      rw [Heap.put_ne _ _ (by omega), Heap.put_ne _ _ (by omega)]
    · rw [Heap.put_ne _ _ (by omega), Heap.put_ne _ _ (by omega)]; exact keep g (by omega)
set_option maxRecDepth 20000 in
set_option maxHeartbeats 1000000 in
theorem zaam {a : Agt} (hfl : a.frames.length ≤ 4096) (hb : (zc a.frames).length ≤ 4096) (hh : a.heap.length ≤ 4096) (hr : VM.right a.heap (zc a.frames) = true) :
    QC Tryz.prog 11 [.agg a.avs] (.agg (VM.pack a).avs) := by
  refine QC.of' fun H n => ?_
  refine zqe _ H n _ ?_
  have av : (AV.agg a.avs).cells = a.avs := by simp
  have hsu : (AV.agg a.avs).sure = true := by simp [Agt.avs]
  have e9 : a.avs.length = 9 := rfl
  have e4 : a.avs[4]? = some (.ro (a.frames.map Frm.avs)) := rfl
  have e5 : a.avs[5]? = some (.ro (a.heap.map Cl.avs)) := rfl
  unfold zlr
  rw [av, e9]
  refine ⟨hsu, ?_⟩
  simp [e4]
  generalize hX : Heap.put _ (n + 1) _ = HX
  have x0 : HX n = some (.row 9 a.avs) := by rw [← hX, Heap.put_ne _ _ (by omega), Heap.put_at]
  have x1 : ∃ z, HX (n + 1) = some (.row 9 z) ∧ z.length = 9 := ⟨_, by rw [← hX, Heap.put_at], rfl⟩
  have xk : ∀ g, g < n → HX g = H g := fun g hg => by rw [← hX, Heap.put_ne _ _ (by omega), Heap.put_ne _ _ (by omega)]
  have each : ∀ f ∈ a.frames, f.vars.length ≤ 4096 ∧ f.stack.length ≤ 4096 := fun f hf => by
    obtain ⟨s, t, e⟩ := List.append_of_mem hf
    have : zc a.frames = zc s ++ (f.vars ++ f.stack ++ zc t) := by rw [e]; simp [zc]
    rw [this] at hb
    simp only [List.length_append] at hb
    omega
  refine zsx hb hfl fun H' n' l hn keep sl bl => ?_
  have y0 := (keep n (by omega)).trans x0
  simp [y0, e5]
  let G : Nat → Prop := fun g => g ∈ own l
  let H0 : Heap := fun g => if g ∈ own l then none else H' g
  have h0 : ∀ g o, H0 g = some o → ¬ G g ∧ H' g = some o := fun g o hg => by
    by_cases h : g ∈ own l
    · simp only [H0, if_pos h] at hg; cases hg
    · simp only [H0, if_neg h] at hg; exact ⟨h, hg⟩
  have up : ∀ g, g < n + 2 → H0 g = HX g := fun g h2 => by
    simp only [H0]
    rw [if_neg (fun h => by have := bl g h; omega)]
    exact keep g h2
  refine QC.thaw (zxs a.heap (zc a.frames) hr (by omega) (by omega)) (G := G) (H0 := H0) (zdg.cons (.same _) (zdg.cons (Slot.frzP (sz := 3) (by simpa [rowV] using sl) (fun g hg => hg) (zcq _)) .nil)) h0 ?_
  have z0 := (up n (by omega)).trans x0
  obtain ⟨z, z1, z2⟩ := x1
  simp [zgw, z0, e4]
  have hcv : (VM.canonV a.heap (zc a.frames)).map Val.avs = (zc a.frames).map fun v => (VM.put (VM.order a.heap (zc a.frames)) v).avs := by
    unfold VM.canonV; rw [List.map_map]; rfl
  rw [hcv]
  refine zwa (id := a.id) (trip := a.trip) (pr := a.prog) (m := a.permit) (p := VM.put (VM.order a.heap (zc a.frames))) (hp := VM.canonC a.heap (zc a.frames)) (h := a.heap) hfl each hn z0 ⟨z, (up (n + 1) (by omega)).trans z1, z2⟩ fun H3 n3 ss fa fc k3 => ⟨?_, fun g hg => ?_⟩
  · have hp : VM.pack a = ⟨a.id, a.trip, a.prog, a.frames.map (pkF (VM.put (VM.order a.heap (zc a.frames)))), VM.canonC a.heap (zc a.frames), a.permit⟩ := rfl
    rw [hp]
    refine ztw ?_ (.same _ (zpq (zov _)))
    rcases fc.row with ⟨q0, rfl | rfl⟩ | ⟨gf, cs, rfl, c1, c2, c3⟩
    · rw [List.eq_nil_of_length_eq_zero q0]; exact .nils
    · rw [List.eq_nil_of_length_eq_zero q0]; exact .zs
    · exact zw.frz fc.frs c1 c2 c3 (by have := fc.bd gf (by simp [own]); omega) (fun x hx => by have := fc.bd x (List.mem_append_right _ hx); omega) rfl
  · rw [k3 g hg, up g (by omega)]; exact xk g hg
end Go.Proofs.YtpbnaaoilgohkaaGreatDoor
set_option maxRecDepth 8000
namespace Go.Proofs.YtpbnaaoilgohkaaGreatDoor
open Go Go.RowKit
end Go.Proofs.YtpbnaaoilgohkaaGreatDoor
set_option maxRecDepth 8000
namespace Go.Proofs.YtpbnaaoilgohkaaGreatDoor
open Go Go.RowKit
def fl (l : List Val) : List AV := (l.map Val.avs).flatten
theorem zyz (v : Val) (l : List Val) : fl (v :: l) = v.avs ++ fl l := rfl
theorem zacw (l m : List Val) : fl (l ++ m) = fl l ++ fl m := by simp [fl]
theorem zwm (l : List Val) : (fl l).length = l.length * 3 := by
  induction l with
  | nil => rfl
  | cons v r ih => rw [zyz, List.length_append, ih, zzk, List.length_cons]; omega
theorem zacv (l : List Val) : ∀ x ∈ fl l, x.one = true := by
  intro x hx
  simp [fl] at hx
  obtain ⟨_, ⟨v, _, rfl⟩, h⟩ := hx
  unfold Val.avs at h
  simp at h
  rcases h with rfl | rfl | rfl <;> rfl
theorem zajz (l : List Val) (j : Nat) (v : Val) (h : l[j]? = some v) : ((fl l).drop (j * 3)).take 3 = v.avs := by
  induction l generalizing j with
  | nil => simp at h
  | cons w r ih =>
    cases j with
    | zero => simp at h; subst h; rfl
    | succ j =>
      rw [zyz, List.drop_append, List.drop_of_length_le (by simp; omega), zzk, show (j + 1) * 3 - 3 = j * 3 by omega, List.nil_append]
      exact ih j (by simpa using h)
set_option maxHeartbeats 4000000 in
theorem zqs (a : Agt) (k : Nat) (f : Frm) (hv : Int) (away : Bool) (r1 r2 : AV) (H H0 : Heap) (nx n0 g b0 : Nat) (K : J3) (R : Int) (hg : H g = some (.row 9 a.avs)) (hgn : g < nx) (hb : H b0 = some (.row 4 f.avs)) (hbn : b0 < nx) (hn0 : n0 ≤ nx) (hK : Keep n0 H H0) (hvl : f.vars.length ≤ 8) (hb16 : hv ≤ 16) (hk12 : k ≤ 12)
    (hbad : zcn a f.vars f.stack hv ≠ 0 → R = zcn a f.vars f.stack hv)
    (hgo : zcn a f.vars f.stack hv = 0 → ∀ H' nx', H' g = some (.row 9 a.avs) → Keep n0 H' H0 → nx ≤ nx' → K [.bool away, .ptr g 0, r1, r2, .int .i64 (k + 1)] H' nx') :
    zaw (fun v H' _ => Frz H' n0 v (.int .i64 R) ∧ Keep n0 H' H0) K [.bool away, .ptr g 0, .ptr b0 0, .int .i64 hv, r1, r2, .int .i64 k] H nx := by
  by_cases h1 : hv < 0 ∨ (f.stack.length : Int) ≠ hv
  · have e : zcn a f.vars f.stack hv = 10 := by unfold zcn; rw [if_pos h1]
    have hR := hbad (by omega)
    rw [hR, e]
    by_cases h2 : hv < 0
    · simp [zaw, h2, hK]
    · have h3 : ¬ hv = (f.stack.length : Int) := by omega
      simp [zaw, h2, h3, hK, hb, Frm.avs]
  have e : zcn a f.vars f.stack hv = VM.firstErr (fun v => VM.wrong v a.heap.length) (f.vars ++ f.stack) := by unfold zcn; rw [if_neg h1]
  rw [e] at hbad hgo
  have h2 : ¬ hv < 0 := by omega
  have h3 : hv = (f.stack.length : Int) := by omega
  have n1' : b0 ≠ nx := by omega
  have n2' : b0 ≠ nx + 1 := by omega
  have hs1 : ∀ H : Heap, ze 3 H (.ro (f.vars.map Val.avs)) = some (f.vars.length, fl f.vars, []) := fun H => by rw [zjl (by simp)]; simp [fl]
  have hs2 : ∀ H : Heap, ze 3 H (.ro (f.stack.map Val.avs)) = some (f.stack.length, fl f.stack, []) := fun H => by rw [zjl (by simp)]; simp [fl]
  simp [zaw, h2, h3, hb, Frm.avs, n1', n2', -zjl, hs1, hs2]
  have htk : List.take (f.vars.length * 3) (fl f.vars) = fl f.vars := List.take_of_length_le (by rw [zwm]; omega)
  rw [htk, ← zacw]
  refine ⟨fun h => by omega, zacv _, by omega, zacv _, by rw [zwm]; omega, by omega, by omega, by omega, ?_⟩
  have hll : (f.vars ++ f.stack).length = f.vars.length + f.stack.length := by simp
  generalize f.vars ++ f.stack = l at *
  refine LP.mk (fun m xs H' nx' => ∃ (j : Nat), j ≤ l.length ∧ m = l.length - j ∧ xs = [.bool away, .ptr g 0, r1, r2, .int .i64 k, .slc (nx + 1 + 1) 0 l.length, .int .i64 l.length, .int .i64 j] ∧ H' (nx + 1 + 1) = some (.row 3 (fl l)) ∧ H' g = some (.row 9 a.avs) ∧ Keep n0 H' H0 ∧ nx + 2 < nx' ∧
    VM.firstErr (fun v => VM.wrong v a.heap.length) l = VM.firstErr (fun v => VM.wrong v a.heap.length) (l.drop j)) l.length
    ⟨0, by omega, by omega, by simp [hll], by simp, ?_, ?_, by omega, rfl⟩ ?_
  · rw [Heap.put_ne _ _ (by omega), Heap.put_ne _ _ (by omega), Heap.put_ne _ _ (by omega)]; exact hg
  · rw [Keep.put (by omega), Keep.put (by omega), Keep.put (by omega)]; exact hK
  rintro m xs H2 n2 ⟨j, hj, rfl, rfl, hb2, hg2, hK2, hn2, hfj⟩
  by_cases hjl : j < l.length
  · obtain ⟨v, hv'⟩ : ∃ v, l[j]? = some v := ⟨_, List.getElem?_eq_getElem hjl⟩
    have m1 : g ≠ n2 := by omega
    have m2 : nx + 1 + 1 ≠ n2 := by omega
    have hfa := zajz l j v hv'
    have hlen3 : j * 3 + 3 ≤ (fl l).length := by rw [zwm]; omega
    simp only [Val.avs] at hfa
    simp [zfz, hjl, hb2, hfa, hg2, m1, Agt.avs, hlen3]
    refine QC.call (zol v _) ?_
    simp [zkh]
    rw [zdi _ _ _ _ hv'] at hfj
    have hK3 : Keep n0 (H2.put n2 (some (.row 3 [.int .i64 v.kind, .int .i64 v.n, .str v.text]))) H0 := by rw [Keep.put (by omega)]; exact hK2
    refine ⟨fun hz => ⟨?_, hK3⟩, fun hz => ?_⟩
    · rw [if_pos hz] at hfj
      rw [hbad (by rw [hfj]; exact hz), hfj]
    · rw [if_neg (by simpa using hz)] at hfj
      rw [i64w (by omega)]
      exact ⟨l.length - (j + 1), by omega, j + 1, by omega, rfl, rfl, by rw [if_neg m2]; exact hb2, by rw [if_neg m1]; exact hg2, hK3, by omega, hfj⟩
  obtain rfl : j = l.length := by omega
  have hz : VM.firstErr (fun v => VM.wrong v a.heap.length) l = 0 := by rw [hfj]; simp [VM.firstErr]
  simp [zfz]
  rw [i64w (by omega)]
  exact hgo hz _ _ hg2 hK2 (by omega)
end Go.Proofs.YtpbnaaoilgohkaaGreatDoor
set_option maxRecDepth 8000
namespace Go.Proofs.YtpbnaaoilgohkaaGreatDoor
open Go Go.RowKit
set_option maxHeartbeats 4000000 in
theorem zye (a : Agt) (k : Nat) (away : Bool) (H H0 : Heap) (nx n0 g : Nat) (K : J3) (R : Int) (hg : H g = some (.row 9 a.avs)) (hgn : g < nx) (hn0 : n0 ≤ nx) (hK : Keep n0 H H0) (hk : k < a.frames.length) (hl : a.frames.length ≤ 12) (hp : VM.program a.prog = 0)
    (hbad : VM.frame a k away ≠ 0 → R = VM.frame a k away)
    (hgo : VM.frame a k away = 0 → ∀ H' nx', H' g = some (.row 9 a.avs) → Keep n0 H' H0 → nx ≤ nx' → K [.bool away, .ptr g 0, .ro (a.frames.map Frm.avs), .int .i64 a.frames.length, .int .i64 (k + 1)] H' nx') :
    zae (fun v H' _ => Frz H' n0 v (.int .i64 R) ∧ Keep n0 H' H0) K [.bool away, .ptr g 0, .ro (a.frames.map Frm.avs), .int .i64 a.frames.length, .int .i64 k] H nx := by
  obtain ⟨f, hf⟩ : ∃ f, a.frames[k]? = some f := ⟨_, List.getElem?_eq_getElem hk⟩
  obtain ⟨_, hf'⟩ := List.getElem?_eq_some_iff.1 hf
  obtain ⟨fn, at_, vs, st⟩ := f
  have hgx : g ≠ nx := by omega
  have hgx1 : g ≠ nx + 1 := by omega
  have hKf : ∀ o, Keep n0 (H.put nx o) H0 := fun o => by rw [Keep.put (by omega)]; exact hK
  have hKf2 : ∀ o o', Keep n0 ((H.put nx o).put (nx + 1) o') H0 := fun o o' => by rw [Keep.put (by omega), Keep.put (by omega)]; exact hK
  by_cases h1 : 0 ≤ fn ∧ fn < a.prog.codes.length
  case neg =>
    have e : VM.frame a k away = 3 := by
      unfold VM.frame
      rw [hf]
      have : (if 0 ≤ fn then a.prog.codes[fn.toNat]? else none) = none := by
        split
        · exact List.getElem?_eq_none (by omega)
        · rfl
      simp only [this]
    have hR := hbad (by omega)
    rw [hR, e]
    by_cases h0 : fn < 0
    · simp [zae, hg, Agt.avs, hk, hf', Frm.avs, h0, hKf]
    · have : (a.prog.codes.length : Int) ≤ fn := by omega
      simp [zae, hg, Agt.avs, hk, hf', Frm.avs, h0, this, hKf, hgx]
  obtain ⟨h10, h11⟩ := h1
  obtain ⟨n, rfl⟩ : ∃ n : Nat, fn = n := ⟨fn.toNat, by omega⟩
  have hnl : n < a.prog.codes.length := by omega
  obtain ⟨c, hc⟩ : ∃ c, a.prog.codes[n]? = some c := ⟨_, List.getElem?_eq_getElem hnl⟩
  obtain ⟨_, hc'⟩ := List.getElem?_eq_some_iff.1 hc
  obtain ⟨hcr, hcalm, hch⟩ := (zbr hp).1 c (List.mem_of_getElem? hc)
  have hcr' : ¬ (c.params < 0 ∨ 4 < c.params ∨ c.vars < c.params ∨ 8 < c.vars ∨ c.ins.length < 1 ∨ 200 < c.ins.length) := by
    unfold VM.codeRange at hcr
    rwa [decide_eq_false_iff_not] at hcr
  have hnn : ¬ (a.prog.codes.length ≤ n) := by omega
  have hn0' : ¬ ((n : Int) < 0) := by omega
  by_cases h2 : (0 ≤ at_ ∧ at_ < c.ins.length) ∧ (vs.length : Int) = c.vars
  case neg =>
    have e : VM.frame a k away = 3 := by
      unfold VM.frame
      rw [hf]
      simp only [Int.toNat_natCast]
      rw [if_pos (by omega), hc]
      simp only
      by_cases hat : 0 ≤ at_ ∧ at_ < c.ins.length
      · rw [if_pos hat.1, List.getElem?_eq_getElem (by omega)]
        simp only
        rw [if_pos (by omega)]
      · have : (if 0 ≤ at_ then c.ins[at_.toNat]? else none) = none := by
          split
          · exact List.getElem?_eq_none (by omega)
          · rfl
        simp only [this]
    have hR := hbad (by omega)
    rw [hR, e]
    by_cases h0 : at_ < 0
    · simp [zae, hg, Agt.avs, hk, hf', Frm.avs, hn0', hnn, hnl, hc', h0, Cod.avs, hKf, hKf2, hgx, hgx1]
    · by_cases h3 : (c.ins.length : Int) ≤ at_
      · simp [zae, hg, Agt.avs, hk, hf', Frm.avs, hn0', hnn, hnl, hc', h0, h3, Cod.avs, hKf, hKf2, hgx, hgx1]
      · have h4 : ¬ (vs.length : Int) = c.vars := by omega
        simp [zae, hg, Agt.avs, hk, hf', Frm.avs, hn0', hnn, hnl, hc', h0, h3, h4, Cod.avs, hKf, hKf2, hgx, hgx1]
  obtain ⟨⟨h20, h21⟩, h22⟩ := h2
  obtain ⟨m, rfl⟩ : ∃ m : Nat, at_ = m := ⟨at_.toNat, by omega⟩
  have hml : m < c.ins.length := by omega
  have hm0' : ¬ ((m : Int) < 0) := by omega
  obtain ⟨hhl, hhb⟩ := zfd hcalm hch
  obtain ⟨h, hh⟩ : ∃ h, (VM.heights c.ins).1[m]? = some h := ⟨_, List.getElem?_eq_getElem (by omega)⟩
  obtain ⟨hm1, hh'⟩ := List.getElem?_eq_some_iff.1 hh
  have hhb' := hhb h (List.mem_of_getElem? hh)
  have hfe := zafp (away := away) hf hc hml h22 rfl hh
  have hnm : ¬ (c.ins.length ≤ m) := by omega
  simp [zae, hg, Agt.avs, hk, hf', Frm.avs, hn0', hnn, hnl, hc', h22, Cod.avs, hm0', hml, hnm, hgx, hgx1]
  refine QC.call (zqr c (by omega) hcalm) ?_
  have hg2 : ((H.put nx (some (.row 4 [.int .i64 n, .int .i64 m, .ro (vs.map Val.avs), .ro (st.map Val.avs)]))).put (nx + 1) (some (.row 3 [.int .i64 c.params, .int .i64 c.vars, .ro (c.ins.map Ins.avs)]))) g = some (.row 9 a.avs) := by rw [Heap.put_ne _ _ hgx1, Heap.put_ne _ _ hgx]; exact hg
  have hf2 : ((H.put nx (some (.row 4 [.int .i64 n, .int .i64 m, .ro (vs.map Val.avs), .ro (st.map Val.avs)]))).put (nx + 1) (some (.row 3 [.int .i64 c.params, .int .i64 c.vars, .ro (c.ins.map Ins.avs)]))) nx = some (.row 4 [.int .i64 n, .int .i64 m, .ro (vs.map Val.avs), .ro (st.map Val.avs)]) := by rw [Heap.put_ne _ _ (by omega), Heap.put_at]
  have hc2 : ((H.put nx (some (.row 4 [.int .i64 n, .int .i64 m, .ro (vs.map Val.avs), .ro (st.map Val.avs)]))).put (nx + 1) (some (.row 3 [.int .i64 c.params, .int .i64 c.vars, .ro (c.ins.map Ins.avs)]))) (nx + 1) = some (.row 3 [.int .i64 c.params, .int .i64 c.vars, .ro (c.ins.map Ins.avs)]) := Heap.put_at _ _ _
  have hK2 := hKf2 (some (.row 4 [.int .i64 n, .int .i64 m, .ro (vs.map Val.avs), .ro (st.map Val.avs)])) (some (.row 3 [.int .i64 c.params, .int .i64 c.vars, .ro (c.ins.map Ins.avs)]))
  generalize ((H.put nx (some (.row 4 [.int .i64 n, .int .i64 m, .ro (vs.map Val.avs), .ro (st.map Val.avs)]))).put (nx + 1) (some (.row 3 [.int .i64 c.params, .int .i64 c.vars, .ro (c.ins.map Ins.avs)]))) = H1 at *
  have w1 : IntKind.i64.wrap ((a.frames.length : Int) - 1) = (a.frames.length : Int) - 1 := i64w (by omega)
  have hvl : vs.length ≤ 8 := by omega
  simp [zkg, hf2, hm1, hh', hg2, Agt.avs, w1]
  refine JN.same ?_
  simp [zki]
  refine JN.same ?_
  have key : zbo (fun v H' _ => Frz H' n0 v (.int .i64 R) ∧ Keep n0 H' H0) (zaw (fun v H' _ => Frz H' n0 v (.int .i64 R) ∧ Keep n0 H' H0) K)
      [.bool away, .ptr g 0, .int .i64 k, .ptr nx 0, .ptr (nx + 1) 0, .ro ((VM.heights c.ins).1.map fun n => [.int .i64 n]), .int .i64 h, .bool (decide (k + 1 = a.frames.length)), .ro (a.frames.map Frm.avs), .int .i64 a.frames.length, .int .i64 k, .bool (!decide (k + 1 = a.frames.length) || away)] H1 (nx + 2) := by
    cases hw : (!decide (k + 1 = a.frames.length) || away)
    · rw [hw] at hfe
      simp only [Bool.false_and, Bool.false_eq_true, if_false] at hfe
      rw [hfe] at hbad hgo
      simp [zbo]
      exact zqs a k ⟨n, m, vs, st⟩ h away _ _ H1 H0 (nx + 2) n0 g nx K R hg2 (by omega) hf2 (by omega) (by omega) hK2 hvl hhb'.2 (by omega) hbad fun h0 H' nx' q1 q2 q3 => hgo h0 H' nx' q1 q2 (by omega)
    rw [hw] at hfe
    simp only [Bool.true_and, if_true] at hfe
    cases m with
    | zero =>
      have e10 : VM.frame a k away = 10 := by rw [hfe]; simp
      have hR := hbad (by omega)
      rw [hR, e10]
      have w2 : IntKind.i64.wrap (h - 1) = h - 1 := i64w (by omega)
      simp [zbo, hf2, hK2]
    | succ m =>
    have h00 : ¬ ((m : Int) + 1 = 0) := by omega
    have w2 : IntKind.i64.wrap (h - 1) = h - 1 := i64w (by omega)
    have w3 : IntKind.i64.wrap (m : Int) = m := i64w (by omega)
    have hml' : m < c.ins.length := by omega
    obtain ⟨i, hi⟩ : ∃ i, c.ins[m]? = some i := ⟨_, List.getElem?_eq_getElem hml'⟩
    obtain ⟨_, hi'⟩ := List.getElem?_eq_some_iff.1 hi
    obtain ⟨q, hq⟩ : ∃ q, (VM.heights c.ins).1[m]? = some q := ⟨_, List.getElem?_eq_getElem (by omega)⟩
    obtain ⟨hqm, hq'⟩ := List.getElem?_eq_some_iff.1 hq
    have z1 : nx ≠ nx + 2 := by omega
    have z2 : nx + 1 ≠ nx + 2 := by omega
    have z3 : g ≠ nx + 2 := by omega
    have hg3 : (H1.put (nx + 2) (some (.row 3 [.int .i64 i.op, .int .i64 i.a, .int .i64 i.b]))) g = some (.row 9 a.avs) := by rw [Heap.put_ne _ _ z3]; exact hg2
    have hf3 : (H1.put (nx + 2) (some (.row 3 [.int .i64 i.op, .int .i64 i.a, .int .i64 i.b]))) nx = some (.row 4 [.int .i64 n, .int .i64 ((m + 1 : Nat) : Int), .ro (vs.map Val.avs), .ro (st.map Val.avs)]) := by rw [Heap.put_ne _ _ z1]; exact hf2
    have hi3 : (H1.put (nx + 2) (some (.row 3 [.int .i64 i.op, .int .i64 i.a, .int .i64 i.b]))) (nx + 2) = some (.row 3 [.int .i64 i.op, .int .i64 i.a, .int .i64 i.b]) := Heap.put_at _ _ _
    have hK3 : Keep n0 (H1.put (nx + 2) (some (.row 3 [.int .i64 i.op, .int .i64 i.a, .int .i64 i.b]))) H0 := by rw [Keep.put (by omega)]; exact hK2
    have hbp : zml a k c (VM.heights c.ins).1 (m + 1) = ((!decide (k + 1 = a.frames.length) && (decide (i.op ≠ 17) || decide (i.a ≠ ((a.frames[k + 1]?).map (·.fn)).getD 0))) || (decide (k + 1 = a.frames.length) && decide (i.op ≠ 13)) || decide (q < 0)) := by
      unfold zml
      simp only [Nat.add_sub_cancel, List.getD_eq_getElem?_getD, hi, hq, Option.getD_some]
    have hbadv : zml a k c (VM.heights c.ins).1 (m + 1) = true → R = 10 := fun hb => by
      have : VM.frame a k away = 10 := by rw [hfe, if_pos (by simp [hb])]
      rw [hbad (by omega), this]
    have hfin : zml a k c (VM.heights c.ins).1 (m + 1) = false → zaw (fun v H' _ => Frz H' n0 v (.int .i64 R) ∧ Keep n0 H' H0) K [.bool away, .ptr g 0, .ptr nx 0, .int .i64 (h - 1), .ro (a.frames.map Frm.avs), .int .i64 a.frames.length, .int .i64 k] (H1.put (nx + 2) (some (.row 3 [.int .i64 i.op, .int .i64 i.a, .int .i64 i.b]))) (nx + 2 + 1) := by
      intro hb
      have e : VM.frame a k away = zcn a vs st (h - 1) := by rw [hfe, if_neg (by simp [hb]; omega)]
      rw [e] at hbad hgo
      exact zqs a k ⟨n, ((m + 1 : Nat) : Int), vs, st⟩ (h - 1) away _ _ _ H0 (nx + 2 + 1) n0 g nx K R hg3 (by omega) hf3 (by omega) (by omega) hK3 hvl (by omega) (by omega) hbad fun h0 H' nx' q1 q2 q3 => hgo h0 H' nx' q1 q2 (by omega)
    rw [hbp] at hfin hbadv
    by_cases hlast : k + 1 = a.frames.length
    · simp [hlast] at hfin hbadv
      simp [zbo, hf2, hc2, h00, w2, w3, hml', hi', Ins.avs, z1, z2, hqm, hq', hlast]
      refine ⟨fun hq0 => ⟨fun h13 => ⟨hbadv (.inl h13), hK3⟩, fun h13 => hfin h13 hq0⟩, fun hq0 => ⟨hbadv (.inr hq0), hK3⟩⟩
    · have hk2 : k + 1 < a.frames.length := by omega
      obtain ⟨f2, hf2'⟩ : ∃ f2, a.frames[k + 1]? = some f2 := ⟨_, List.getElem?_eq_getElem hk2⟩
      obtain ⟨_, hf2''⟩ := List.getElem?_eq_some_iff.1 hf2'
      rw [hf2'] at hfin hbadv
      simp [hlast] at hfin hbadv
      have w4 : IntKind.i64.wrap ((k : Int) + 1) = (k : Int) + 1 := i64w (by omega)
      have hk2i : (k : Int) + 1 < a.frames.length := by omega
      have hk0 : (0 : Int) ≤ (k : Int) + 1 := by omega
      have htn : ((k : Int) + 1).toNat = k + 1 := by omega
      simp [zbo, hf2, hc2, h00, w2, w3, w4, hml', hi', Ins.avs, z1, z2, z3, hqm, hq', hlast, hg2, Agt.avs, hk2i, hk0, htn, hk2, hf2'', Frm.avs]
      refine ⟨fun hq0 => ⟨fun h17 => ⟨fun ha => ⟨hbadv (.inl (.inr ha)), hK3⟩, fun ha => hfin h17 ha hq0⟩, fun h17 => ⟨hbadv (.inl (.inl h17)), hK3⟩⟩, fun hq0 => ⟨hbadv (.inr hq0), hK3⟩⟩
  by_cases hlast : k + 1 = a.frames.length
  · have l2 : (k : Int) = (a.frames.length : Int) - 1 := by omega
    simp [zgb, l2]
    simp [hlast, l2] at key
    exact key
  · have l2 : ¬ (k : Int) = (a.frames.length : Int) - 1 := by omega
    simp [zgb, l2]
    simp [hlast] at key
    exact key
end Go.Proofs.YtpbnaaoilgohkaaGreatDoor
set_option maxRecDepth 8000
namespace Go.Proofs.YtpbnaaoilgohkaaGreatDoor
open Go Go.RowKit
set_option maxHeartbeats 4000000 in
theorem zup (a : Agt) (away : Bool) (ha : a.prog.ok) (hhl : a.heap.length ≤ 4611686018427387904) : QC Tryz.prog 7 [.agg a.avs, .bool away] (.int .i64 (VM.agent a away)) := by
  refine QC.of' fun H nx => zoc _ _ H nx _ ?_
  simp [zkd, Agt.avs]
  refine QC.call (zxu a.prog ha) ?_
  have hg : (H.put nx (some (.row 9 [.int .i64 a.id, .int .i64 a.trip, .ro (a.prog.codes.map Cod.avs), .ro (a.prog.words.map fun w => [.str w]), .ro (a.frames.map Frm.avs), .ro (a.heap.map Cl.avs), .int .i64 a.permit.fuel, .int .i64 a.permit.room, .int .i64 a.permit.hops]))) nx = some (.row 9 a.avs) := Heap.put_at _ _ _
  have hK : Keep nx (H.put nx (some (.row 9 [.int .i64 a.id, .int .i64 a.trip, .ro (a.prog.codes.map Cod.avs), .ro (a.prog.words.map fun w => [.str w]), .ro (a.frames.map Frm.avs), .ro (a.heap.map Cl.avs), .int .i64 a.permit.fuel, .int .i64 a.permit.room, .int .i64 a.permit.hops]))) H := by simp
  generalize (H.put nx (some (.row 9 [.int .i64 a.id, .int .i64 a.trip, .ro (a.prog.codes.map Cod.avs), .ro (a.prog.words.map fun w => [.str w]), .ro (a.frames.map Frm.avs), .ro (a.heap.map Cl.avs), .int .i64 a.permit.fuel, .int .i64 a.permit.room, .int .i64 a.permit.hops]))) = H1 at *
  by_cases hp : VM.program a.prog = 0
  case neg =>
    have e : VM.agent a away = VM.program a.prog := by unfold VM.agent; rw [if_pos hp]
    rw [e]
    simp [zga, hp, hK]
  simp [zga, hp, hg, Agt.avs]
  have e3 : (a.id < 0 ∨ 1073741824 < a.id ∨ a.trip < 0 ∨ 1073741824 < a.trip ∨ a.permit.fuel < 0 ∨ 2000 < a.permit.fuel ∨ a.permit.room < 0 ∨ 60 < a.permit.room ∨ a.permit.hops < 0 ∨ 12 < a.permit.hops) → VM.agent a away = 3 := fun h => by
    unfold VM.agent; rw [if_neg (by simpa using hp), if_pos h]
  refine LP.mk (fun m xs H' nx' => ∃ i : Nat, i ≤ 5 ∧ m = 5 - i ∧ xs = [.bool away, .ptr nx 0, .slc (nx + 1) 0 5, .int .i64 5, .int .i64 i] ∧ H' nx = some (.row 9 a.avs) ∧
    H' (nx + 1) = some (.row 2 [.int .i64 a.id, .int .i64 1073741824, .int .i64 a.trip, .int .i64 1073741824, .int .i64 a.permit.fuel, .int .i64 2000, .int .i64 a.permit.room, .int .i64 60, .int .i64 a.permit.hops, .int .i64 12]) ∧ Keep nx H' H ∧ nx + 1 < nx' ∧
    (1 ≤ i → 0 ≤ a.id ∧ a.id ≤ 1073741824) ∧ (2 ≤ i → 0 ≤ a.trip ∧ a.trip ≤ 1073741824) ∧ (3 ≤ i → 0 ≤ a.permit.fuel ∧ a.permit.fuel ≤ 2000) ∧ (4 ≤ i → 0 ≤ a.permit.room ∧ a.permit.room ≤ 60) ∧ (5 ≤ i → 0 ≤ a.permit.hops ∧ a.permit.hops ≤ 12)) 5
    ⟨0, by omega, by omega, by simp, by rw [Heap.put_ne _ _ (by omega)]; exact hg, by simp, by simp [hK], by omega, by omega, by omega, by omega, by omega, by omega⟩ ?_
  rintro m xs H2 n2 ⟨i, hi, rfl, rfl, hg2, hr2, hK2, hn2, i1, i2, i3, i4, i5⟩
  have z1 : nx ≠ n2 := by omega
  have z2 : nx + 1 ≠ n2 := by omega
  have hKf : ∀ o, Keep nx (H2.put n2 o) H := fun o => by rw [Keep.put (by omega)]; exact hK2
  have hic : i = 5 ∨ i = 0 ∨ i = 1 ∨ i = 2 ∨ i = 3 ∨ i = 4 := by omega
  rcases hic with rfl | hic
  · have e0 : VM.agent a away = if a.frames.length < 1 ∨ 12 < a.frames.length then 5 else if 60 - a.permit.room < a.heap.length then 4 else if VM.framesErr a away ≠ 0 then VM.framesErr a away else VM.firstErr (VM.cellErr a.heap.length) a.heap := by
      unfold VM.agent; rw [if_neg (by simpa using hp), if_neg (by have := i1 (by omega); have := i2 (by omega); have := i3 (by omega); have := i4 (by omega); have := i5 (by omega); omega)]
    have i4' := i4 (by omega)
    have w1 : IntKind.i64.wrap ((a.heap.length : Int) + a.permit.room) = (a.heap.length : Int) + a.permit.room := i64w (by omega)
    simp [zav, hg2, Agt.avs, w1]
    refine ⟨fun h => ⟨by rw [e0, if_pos (by rw [h]; simp)], hK2⟩, fun f1 => ?_⟩
    have hpos : 0 < a.frames.length := List.length_pos_iff.2 f1
    refine ⟨fun h => ⟨by rw [e0, if_pos (by omega)], hK2⟩, fun f2 => ⟨fun h => ⟨by rw [e0, if_neg (by omega), if_pos (by omega)], hK2⟩, fun f3 => ?_⟩⟩
    rw [if_neg (by omega), if_neg (by omega)] at e0
    refine LP.mk (fun m xs H' nx' => ∃ i : Nat, i ≤ a.frames.length ∧ m = a.frames.length - i ∧ xs = [.bool away, .ptr nx 0, .ro (a.frames.map Frm.avs), .int .i64 a.frames.length, .int .i64 i] ∧ H' nx = some (.row 9 a.avs) ∧ Keep nx H' H ∧ nx < nx' ∧ VM.framesErr a away = VM.firstErr (fun k => VM.frame a k away) ((List.range a.frames.length).drop i)) a.frames.length
      ⟨0, by omega, by omega, by simp, hg2, hK2, by omega, rfl⟩ ?_
    rintro m xs H3 n3 ⟨k, hk, rfl, rfl, hg3, hK3, hn3, hfe⟩
    by_cases hlt : k < a.frames.length
    · have hr : (List.range a.frames.length)[k]? = some k := by simp [hlt]
      rw [zdi _ _ _ _ hr] at hfe
      refine zye a k away H3 H n3 nx nx _ _ hg3 hn3 (by omega) hK3 hlt (by omega) hp (fun hz => ?_) fun hz H' nx' q1 q2 q3 => ?_
      · rw [if_pos hz] at hfe
        rw [e0, hfe, if_pos hz]
      · rw [if_neg (by simpa using hz)] at hfe
        exact ⟨a.frames.length - (k + 1), by omega, k + 1, by omega, rfl, rfl, q1, q2, by omega, hfe⟩
    obtain rfl : k = a.frames.length := by omega
    have hz : VM.framesErr a away = 0 := by rw [hfe, List.drop_of_length_le (by simp)]; rfl
    rw [if_neg (by simpa using hz)] at e0
    simp [zae, hg3, Agt.avs]
    refine LP.mk (fun m xs H' nx' => ∃ i : Nat, i ≤ a.heap.length ∧ m = a.heap.length - i ∧ xs = [.ptr nx 0, .ro (a.heap.map Cl.avs), .int .i64 a.heap.length, .int .i64 i] ∧ H' nx = some (.row 9 a.avs) ∧ Keep nx H' H ∧ nx < nx' ∧ VM.agent a away = VM.firstErr (VM.cellErr a.heap.length) (a.heap.drop i)) a.heap.length
      ⟨0, by omega, by omega, by simp, hg3, hK3, by omega, e0⟩ ?_
    rintro m xs H4 n4 ⟨k, hk, rfl, rfl, hg4, hK4, hn4, hfe⟩
    by_cases hlt : k < a.heap.length
    case neg =>
      obtain rfl : k = a.heap.length := by omega
      simp [zfy, hK4]
      rw [hfe]; simp [VM.firstErr]
    obtain ⟨c, hc⟩ : ∃ c, a.heap[k]? = some c := ⟨_, List.getElem?_eq_getElem hlt⟩
    obtain ⟨_, hc'⟩ := List.getElem?_eq_some_iff.1 hc
    rw [zdi _ _ _ _ hc] at hfe
    obtain ⟨l, r⟩ := c
    have m1 : nx ≠ n4 := by omega
    have hce : VM.cellErr a.heap.length ⟨l, r⟩ = if VM.wrong l a.heap.length ≠ 0 then VM.wrong l a.heap.length else VM.wrong r a.heap.length := rfl
    rw [hce] at hfe
    have hg5 : (H4.put n4 (some (.row 6 [.int .i64 l.kind, .int .i64 l.n, .str l.text, .int .i64 r.kind, .int .i64 r.n, .str r.text]))) nx = some (.row 9 a.avs) := by rw [Heap.put_ne _ _ m1]; exact hg4
    have hc5 : (H4.put n4 (some (.row 6 [.int .i64 l.kind, .int .i64 l.n, .str l.text, .int .i64 r.kind, .int .i64 r.n, .str r.text]))) n4 = some (.row 6 [.int .i64 l.kind, .int .i64 l.n, .str l.text, .int .i64 r.kind, .int .i64 r.n, .str r.text]) := Heap.put_at _ _ _
    have hK5 : Keep nx (H4.put n4 (some (.row 6 [.int .i64 l.kind, .int .i64 l.n, .str l.text, .int .i64 r.kind, .int .i64 r.n, .str r.text]))) H := by rw [Keep.put (by omega)]; exact hK4
    simp [zfy, hlt, hc', Cl.avs, Val.avs, hg4, m1, Agt.avs]
    generalize (H4.put n4 (some (.row 6 [.int .i64 l.kind, .int .i64 l.n, .str l.text, .int .i64 r.kind, .int .i64 r.n, .str r.text]))) = H5 at *
    refine QC.call (zol l _) ?_
    simp [zke, hc5, hg5, Agt.avs]
    refine ⟨fun hz => ⟨by rw [hfe, if_pos hz, if_pos hz], hK5⟩, fun hz => ?_⟩
    refine QC.call (zol r _) ?_
    rw [hz] at hfe
    simp at hfe
    simp [zkf]
    refine ⟨fun hz2 => ⟨by rw [hfe]; simp [hz2], hK5⟩, fun hz2 => ?_⟩
    rw [hz2] at hfe
    simp at hfe
    rw [i64w (by omega)]
    exact ⟨a.heap.length - (k + 1), by omega, k + 1, by omega, rfl, rfl, hg5, hK5, by omega, hfe⟩
  rcases hic with rfl | rfl | rfl | rfl | rfl
  · simp [zav, hr2, hKf]
    refine ⟨fun h => e3 (by omega), fun h => ⟨fun h' => e3 (by omega), fun h' => ?_⟩⟩
    exact ⟨5 - 1, by omega, 1, by omega, rfl, by rw [i64w (by omega)]; rfl, by simp [z1, hg2], by simp [z2], by omega, by omega, by omega, by omega, by omega, by omega⟩
  · simp [zav, hr2, hKf]
    refine ⟨fun h => e3 (by omega), fun h => ⟨fun h' => e3 (by omega), fun h' => ?_⟩⟩
    exact ⟨5 - 2, by omega, 2, by omega, rfl, by rw [i64w (by omega)]; rfl, by simp [z1, hg2], by simp [z2], by omega, by omega, by omega, by omega, by omega, by omega⟩
  · simp [zav, hr2, hKf]
    refine ⟨fun h => e3 (by omega), fun h => ⟨fun h' => e3 (by omega), fun h' => ?_⟩⟩
    exact ⟨5 - 3, by omega, 3, by omega, rfl, by rw [i64w (by omega)]; rfl, by simp [z1, hg2], by simp [z2], by omega, by omega, by omega, by omega, by omega, by omega⟩
  · simp [zav, hr2, hKf]
    refine ⟨fun h => e3 (by omega), fun h => ⟨fun h' => e3 (by omega), fun h' => ?_⟩⟩
    exact ⟨5 - 4, by omega, 4, by omega, rfl, by rw [i64w (by omega)]; rfl, by simp [z1, hg2], by simp [z2], by omega, by omega, by omega, by omega, by omega, by omega⟩
  · simp [zav, hr2, hKf]
    refine ⟨fun h => e3 (by omega), fun h => ⟨fun h' => e3 (by omega), fun h' => ?_⟩⟩
    exact ⟨5, by omega, by omega, by rw [i64w (by omega)]; rfl, by simp [z1, hg2], by simp [z2], by omega, by omega, by omega, by omega, by omega, by omega⟩
end Go.Proofs.YtpbnaaoilgohkaaGreatDoor
set_option maxRecDepth 8000
namespace Go.Proofs.YtpbnaaoilgohkaaGreatDoor
open Go Go.RowKit
abbrev XR := AV × List Nat × List Nat × zl
abbrev xp (v : AV) : Option XR := some (v, [], [], [])
abbrev xn (nx : Nat) (o : AObj) (v : AV) : Option XR := some (v, [], [nx], [(nx, some o)])
def xg (b : Bool) (r : Option XR) : Option XR := match b with | true => r | false => none
abbrev XOk (r : Option XR) (A : Kt → Prop) : Prop := ∀ v rd fr D, r = some (v, rd, fr, D) → ∀ k : Kt, k v rd fr D → A k
theorem XOk.none {A : Kt → Prop} : XOk none A := fun _ _ _ _ h => by cases h
theorem XOk.some {v : AV} {rd fr : List Nat} {D : zl} {A : Kt → Prop} (h : ∀ k : Kt, k v rd fr D → A k) : XOk (some (v, rd, fr, D)) A := fun _ _ _ _ e k hk => by cases e; exact h k hk
theorem XOk.pure {v : AV} : XOk (xp v) (PURE v) := XOk.some fun _ h => h
theorem XOk.new {nx : Nat} {o : AObj} {v : AV} : XOk (xn nx o v) (NEW nx o v) := XOk.some fun _ h => h
theorem XOk.gd {b : Bool} {r : Option XR} {A : Kt → Prop} (h : b = true → XOk r A) : XOk (xg b r) A := by
  cases b with
  | true => exact h rfl
  | false => exact XOk.none
theorem zja {b : Bool} {r : Option XR} {x : XR} : xg b r = some x ↔ b = true ∧ r = some x := by cases b <;> simp [xg]
theorem XOk.mono {r : Option XR} {A B : Kt → Prop} (h : XOk r A) (k : ∀ kt, A kt → B kt) : XOk r B := fun v rd fr D e kt hk => k kt (h v rd fr D e kt hk)
def zzn (c a b : AV) : Option XR := match c with | .bool t => xp (bif t then a else b) | _ => none
theorem zaec {c a b : AV} : XOk (zzn c a b) (PICK c a b) := by
  unfold zzn PICK; split <;> first | exact XOk.pure | exact XOk.none
def zpv (agg : Bool) (sz : Nat) (p : AV) (H : Heap) : Option XR := match rdp H p with
  | some (cells, off, rd) => match ldv agg sz cells off with | some v => some (v, rd, [], []) | none => none
  | none => none
theorem zaef {agg : Bool} {sz : Nat} {p : AV} {H : Heap} : XOk (zpv agg sz p H) (LOAD agg sz p H) := by
  intro v rd fr D e k hk
  unfold zpv at e; unfold LOAD
  repeat' split at e
  all_goals (cases e <;> simp_all [PURE, NEW])
def zvj (sz : Nat) (p v : AV) (H : Heap) : Option XR := match p with
  | .ptr g off => match H g with
    | some (.row es cells) => xg (Nat.beq v.cells.length sz && Nat.ble (off + sz) cells.length && v.cells.all AV.one && v.sure) (some (.und, [g], [], [(g, some (.row es (zaf cells off v.cells)))]))
    | _ => none
  | _ => none
theorem zaca {sz : Nat} {p v : AV} {H : Heap} : XOk (zvj sz p v H) (zbq sz p v H) := by
  intro v' rd fr D e k hk
  unfold zvj at e; unfold zbq
  repeat' split at e
  · simp only [zja, Bool.and_eq_true, Nat.beq_eq, Nat.ble_eq] at e
    obtain ⟨h, e⟩ := e
    cases e
    simp_all
  · cases e
  · cases e
def zzo (x : AV) : Option XR := match x with
  | .ptr _ _ | .rop _ _ | .clo _ _ => xp x
  | _ => none
theorem zaed {x : AV} : XOk (zzo x) (NILC x) := by
  unfold zzo NILC; split <;> first | exact XOk.pure | exact XOk.none
def zvo (off : Nat) (p : AV) : Option XR := match p with
  | .ptr g o => xp (.ptr g (o + off))
  | .rop cs o => xp (.rop cs (o + off))
  | _ => none
theorem zoi {off : Nat} {p : AV} : XOk (zvo off p) (zlg off p) := by
  unfold zvo zlg; split <;> first | exact XOk.pure | exact XOk.none
def zrp (agg : Bool) (sz off : Nat) (x : AV) : Option XR := match x with
  | .agg cs => match zpc agg sz off cs with | some v => xp v | none => none
  | _ => none
theorem zth {agg : Bool} {sz off : Nat} {x : AV} : XOk (zrp agg sz off x) (zdq agg sz off x) := by
  intro v rd fr D e k hk
  unfold zrp at e; unfold zdq
  repeat' split at e
  all_goals (cases e <;> simp_all [PURE, NEW])
def xat (i : AV) (len : Nat) (f : Nat → Option XR) : Option XR := match i with
  | .int _ n => match n with
    | .ofNat m => xg (Nat.blt m len) (f m)
    | .negSucc _ => none
  | _ => none
theorem zof {i : AV} {len : Nat} {f : Nat → Option XR} {A : Kt → Prop} (h : ∀ (k : IntKind) (m : Nat), i = .int k (m : Int) → m < len → XOk (f m) A) : XOk (xat i len f) A := by
  unfold xat
  split
  · split
    · exact XOk.gd fun hb => h _ _ rfl (by simpa using hb)
    · exact XOk.none
  · exact XOk.none
def zvn (esz : Nat) (x i : AV) : Option XR := match x with
  | .slc g off len => xat i len fun m => xp (.ptr g (off + m * esz))
  | .ro xs => xat i xs.length fun m => match xs.getD m [] with | c => xg (Nat.beq c.length esz) (xp (.rop c 0))
  | _ => none
theorem zoh {esz : Nat} {x i : AV} : XOk (zvn esz x i) (znv esz x i) := by
  unfold zvn
  split
  · refine zof fun k m e hm => ?_
    subst e
    exact XOk.pure.mono fun kt h => ⟨by omega, by omega, by simpa using h⟩
  · refine zof fun k m e hm => ?_
    subst e
    refine XOk.gd fun hb => ?_
    exact XOk.pure.mono fun kt h => ⟨by omega, by omega, by simpa using hb, by simpa using h⟩
  · exact XOk.none
def zacd (esz len : Nat) (p i : AV) : Option XR := xat i len fun m => match p with
  | .ptr g o => xp (.ptr g (o + m * esz))
  | .rop cs o => xp (.rop cs (o + m * esz))
  | _ => none
theorem zok {esz len : Nat} {p i : AV} : XOk (zacd esz len p i) (znw esz len p i) := by
  refine zof fun k m e hm => ?_
  subst e
  split
  · exact XOk.pure.mono fun kt h => ⟨by omega, by omega, by simpa using h⟩
  · exact XOk.pure.mono fun kt h => ⟨by omega, by omega, by simpa using h⟩
  · exact XOk.none
def zvl (x i : AV) : Option XR := match x with
  | .str s => xat i s.length fun m => xp (.int .u8 ((s.getD m 0).toNat : Int))
  | _ => none
theorem zacb {x i : AV} : XOk (zvl x i) (znu x i) := by
  unfold zvl
  split
  · refine zof fun k m e hm => ?_
    subst e
    exact XOk.pure.mono fun kt h => ⟨by omega, by omega, by simpa using h⟩
  · exact XOk.none
def zyq (agg : Bool) (esz len : Nat) (x i : AV) : Option XR := xat i len fun m => zrp agg esz (m * esz) x
theorem zaag {agg : Bool} {esz len : Nat} {x i : AV} : XOk (zyq agg esz len x i) (zhx agg esz len x i) := by
  refine zof fun k m e hm => ?_
  subst e
  exact zth.mono fun kt h => ⟨by omega, by omega, by simpa using h⟩
def zzt (x : AV) : Option XR := match x with
  | .str s => xp (.int .i64 (.ofNat s.length))
  | _ => none
theorem zaeg {x : AV} : XOk (zzt x) (LENS x) := by unfold zzt LENS; split <;> first | exact XOk.pure | exact XOk.none
def zzv (x : AV) : Option XR := match x with
  | .nils | .zs => xp (.int .i64 0)
  | .slc _ _ n => xp (.int .i64 (.ofNat n))
  | .ro xs => xp (.int .i64 (.ofNat xs.length))
  | _ => none
theorem zaei {x : AV} : XOk (zzv x) (LENL x) := by unfold zzv LENL; split <;> first | exact XOk.pure | exact XOk.none
def zzu (x : AV) (H : Heap) : Option XR := match x with
  | .nilm => xp (.int .i64 0)
  | .amap g => match H g with | some (.mp es) => some (.int .i64 (.ofNat es.length), [g], [], []) | _ => none
  | _ => none
theorem zaeh {x : AV} {H : Heap} : XOk (zzu x H) (LENM x H) := by
  intro v rd fr D e k hk
  unfold zzu at e; unfold LENM
  repeat' split at e
  all_goals (cases e <;> simp_all [PURE, NEW])
def zzw (x : AV) (i : Nat) : Option XR := match x with
  | .tup vs => match vs[i]? with | some v => xp v | none => none
  | _ => none
theorem zaej {x : AV} {i : Nat} : XOk (zzw x i) (EXTR x i) := by
  intro v rd fr D e k hk
  unfold zzw at e; unfold EXTR
  repeat' split at e
  all_goals (cases e <;> simp_all [PURE, NEW])
def zrq (place : Nat → Option (Nat × Nat)) (zero : List AV) (parts : List (Nat × AV)) : Option XR := match zbj place zero parts with
  | some cells => xp (.agg cells)
  | none => none
theorem zoj {place : Nat → Option (Nat × Nat)} {zero : List AV} {parts : List (Nat × AV)} : XOk (zrq place zero parts) (zfn place zero parts) := by
  intro v rd fr D e k hk
  unfold zrq at e; unfold zfn
  repeat' split at e
  all_goals (cases e <;> simp_all [PURE, NEW])
def zsr (len esz : Nat) (zero : List AV) (parts : List (Nat × AV)) (r : AV) (nx : Nat) : Option XR :=
  match zbj (fun i => some (i * esz, esz)) ((List.replicate len zero).flatten) parts with
  | some cells => xn nx (.row esz cells) r
  | none => none
theorem zmx {len esz : Nat} {zero : List AV} {parts : List (Nat × AV)} {r : AV} {nx : Nat} : XOk (zsr len esz zero parts r nx) (zpt len esz zero parts r nx) := by
  intro v rd fr D e k hk
  unfold zsr at e; unfold zpt
  repeat' split at e
  all_goals (cases e <;> simp_all [PURE, NEW])
def iLt : Int → Int → Bool
  | .ofNat a, .ofNat b => Nat.blt a b
  | .ofNat _, .negSucc _ => false
  | .negSucc _, .ofNat _ => true
  | .negSucc a, .negSucc b => Nat.blt b a
theorem zwh (a b : Int) : iLt a b = decide (a < b) := by
  rw [Bool.eq_iff_iff]
  cases a <;> cases b <;> simp [iLt] <;> omega
def iEq : Int → Int → Bool
  | .ofNat a, .ofNat b => Nat.beq a b
  | .negSucc a, .negSucc b => Nat.beq a b
  | _, _ => false
theorem zsa (a b : Int) : iEq a b = (a == b) := by
  rw [Bool.eq_iff_iff]
  cases a <;> cases b <;> simp [iEq]
  all_goals omega
def zmz (k : IntKind) (n : Int) : Int := match k, n with
  | .i64, .ofNat m => bif Nat.blt m 9223372036854775808 then .ofNat m else k.wrap n
  | .i64, .negSucc m => bif Nat.blt m 9223372036854775808 then .negSucc m else k.wrap n
  | _, _ => k.wrap n
theorem zvr (k : IntKind) (n : Int) : zmz k n = k.wrap n := by
  have key : ∀ z : Int, -9223372036854775808 ≤ z → z < 9223372036854775808 → IntKind.wrap .i64 z = z := by
    intro z h1 h2
    unfold IntKind.wrap
    have eb : IntKind.i64.bits = 64 := rfl
    have es : IntKind.i64.signed = true := rfl
    simp only [eb, es, Bool.true_and, decide_eq_true_eq]
    have e1 : (2 : Int) ^ 64 = 18446744073709551616 := by simp
    have e2 : (2 : Int) ^ (64 - 1) = 9223372036854775808 := by simp
    rw [e1, e2]
    split <;> omega
  unfold zmz
  split
  · rename_i m
    cases h : Nat.blt m 9223372036854775808 with
    | false => rw [cond_false]
    | true =>
      simp only [Nat.blt_eq] at h
      rw [cond_true, key _ (by simp only [Int.ofNat_eq_natCast]; omega) (by simp only [Int.ofNat_eq_natCast]; omega)]
  · rename_i m
    cases h : Nat.blt m 9223372036854775808 with
    | false => rw [cond_false]
    | true =>
      simp only [Nat.blt_eq] at h
      rw [cond_true, key _ (by omega) (by omega)]
  · rfl
def sEq : List UInt8 → List UInt8 → Bool
  | [], [] => true
  | a :: r, b :: s => Nat.beq a.toNat b.toNat && sEq r s
  | _, _ => false
theorem zvv : ∀ a b : List UInt8, sEq a b = (a == b)
  | [], [] => rfl
  | [], _ :: _ => rfl
  | _ :: _, [] => rfl
  | a :: r, b :: s => by
    rw [Bool.eq_iff_iff]
    simp only [sEq, zvv r s, Bool.and_eq_true, Nat.beq_eq, beq_iff_eq, List.cons.injEq]
    rw [UInt8.toNat_inj]
def zro (op : BinOp) (k : IntKind) (a b : Int) : Option XR := match op with
  | .add => xp (.int k (zmz k (a + b)))
  | .sub => xp (.int k (zmz k (a - b)))
  | .mul => xp (.int k (zmz k (a * b)))
  | .quo => xg (!iEq b 0) (xp (.int k (zmz k (a.tdiv b))))
  | .rem => xg (!iEq b 0) (xp (.int k (a.tmod b)))
  | .shl => xg (!iLt b 0) (xp (.int k (k.wrap (a * 2 ^ (min b.toNat k.bits)))))
  | .shr => xg (!iLt b 0) (xp (.int k (a.fdiv (2 ^ (min b.toNat k.bits)))))
  | .and | .or | .xor | .andNot => match zee op k a b with | some r => xp (.int k r) | none => none
  | .eql => xp (.bool (iEq a b))
  | .neq => xp (.bool (!iEq a b))
  | .lss => xp (.bool (iLt a b))
  | .leq => xp (.bool (!iLt b a))
  | .gtr => xp (.bool (iLt b a))
  | .geq => xp (.bool (!iLt a b))
theorem zvm {op : BinOp} {k : IntKind} {a b : Int} : XOk (zro op k a b) (IBIN op k a b) := by
  unfold zro IBIN
  cases op <;> simp only [zvr, zsa, zwh]
  case quo => exact XOk.gd fun h => XOk.pure.mono fun kt hk => ⟨by simpa using h, hk⟩
  case rem => exact XOk.gd fun h => XOk.pure.mono fun kt hk => ⟨by simpa using h, hk⟩
  case shl => exact XOk.gd fun h => XOk.pure.mono fun kt hk => ⟨by simpa using h, hk⟩
  case shr => exact XOk.gd fun h => XOk.pure.mono fun kt hk => ⟨by simpa using h, hk⟩
  case and =>
    generalize zee .and k a b = r
    cases r <;> first | exact XOk.none | exact XOk.pure
  case or =>
    generalize zee .or k a b = r
    cases r <;> first | exact XOk.none | exact XOk.pure
  case xor =>
    generalize zee .xor k a b = r
    cases r <;> first | exact XOk.none | exact XOk.pure
  case andNot =>
    generalize zee .andNot k a b = r
    cases r <;> first | exact XOk.none | exact XOk.pure
  case eql => exact XOk.pure
  case neq => exact XOk.pure.mono fun kt h => by simpa [icmp, bne] using h
  case lss => exact XOk.pure
  case leq =>
    have : (!decide (b < a)) = decide (a ≤ b) := by rw [Bool.eq_iff_iff]; simp
    rw [this]; exact XOk.pure
  case gtr => exact XOk.pure
  case geq =>
    have : (!decide (a < b)) = decide (a ≥ b) := by rw [Bool.eq_iff_iff]; simp
    rw [this]; exact XOk.pure
  all_goals exact XOk.pure
def zzm (op : BinOp) (a b : List UInt8) : Option XR := match op with
  | .add => xg (Nat.ble (a.length + b.length) 9223372036854775807) (xp (.str (a ++ b)))
  | .eql => xp (.bool (sEq a b))
  | .neq => xp (.bool (!sEq a b))
  | .lss => xp (.bool (Op.bytesLess a b))
  | .leq => xp (.bool (Op.bytesLess a b || a == b))
  | .gtr => xp (.bool (!(Op.bytesLess a b || a == b)))
  | .geq => xp (.bool (!Op.bytesLess a b))
  | _ => none
theorem zaeb {op : BinOp} {a b : List UInt8} : XOk (zzm op a b) (SBIN op a b) := by
  unfold zzm SBIN
  cases op <;> simp only [zvv] <;> first | exact XOk.pure | exact XOk.none | skip
  exact XOk.gd fun h => XOk.pure.mono fun kt hk => ⟨by simpa using h, hk⟩
def zaad (op : BinOp) (x y : AV) : Option XR := match x, y with
  | .int k a, .int k' b => xg (zal op || decide (k' = k)) (zro op k a b)
  | _, _ => none
theorem zaen {op : BinOp} {x y : AV} : XOk (zaad op x y) (BINI op x y) := by
  unfold zaad BINI
  split
  · exact XOk.gd fun h => zvm.mono fun kt hk => ⟨fun hs => by simpa [hs] using h, hk⟩
  · exact XOk.none
def zaaa (op : BinOp) (x y : AV) : Option XR := match x, y with
  | .str a, .str b => zzm op a b
  | _, _ => none
theorem zaek {op : BinOp} {x y : AV} : XOk (zaaa op x y) (BINS op x y) := by
  unfold zaaa BINS
  split
  · exact zaeb
  · exact XOk.none
def zaaf (op : BinOp) (x y : AV) : Option XR := match zai op with
  | some neg => match x, y with
    | .bool a, .bool b => xp (.bool (neg ^^ (a == b)))
    | _, _ => none
  | none => none
theorem zaep {op : BinOp} {x y : AV} : XOk (zaaf op x y) (BINB op x y) := by
  intro v rd fr D e k hk
  unfold zaaf at e; unfold BINB
  repeat' split at e
  all_goals (cases e <;> simp_all [PURE, NEW])
def zux (zs : List AV) (op : BinOp) (x y : AV) : Option XR := match zai op with
  | some neg => match x, y with
    | .agg a, .agg b => xg (zd zs a).isSome (match zd a b with | some t => xp (.bool (neg ^^ t)) | none => none)
    | _, _ => none
  | none => none
theorem zrb {zs : List AV} {op : BinOp} {x y : AV} : XOk (zux zs op x y) (BINA zs op x y) := by
  intro v rd fr D e k hk
  unfold zux at e; unfold BINA
  split at e
  · rename_i neg h1
    simp only [h1]
    split at e
    · rw [zja] at e
      obtain ⟨h, e⟩ := e
      refine ⟨h, ?_⟩
      split at e <;> cases e
      rename_i h3
      simp only [h3, PURE]; exact hk
    · cases e
  · cases e
def zaab (op : BinOp) (x y : AV) : Option XR := match zai op with
  | some neg => match x, y with
    | .nilp, v => match nilP v with | some t => xp (.bool (neg ^^ t)) | none => none
    | v, .nilp => match nilP v with | some t => xp (.bool (neg ^^ t)) | none => none
    | _, _ => none
  | none => none
theorem zael {op : BinOp} {x y : AV} : XOk (zaab op x y) (BINP op x y) := by
  intro v rd fr D e k hk
  unfold zaab at e; unfold BINP
  repeat' split at e
  all_goals (cases e <;> simp_all [PURE, NEW])
def zaac (op : BinOp) (x y : AV) : Option XR := match zai op, y with
  | some neg, .nils => match x with
    | .nils => xp (.bool (neg ^^ true))
    | .zs => xp .bany
    | .ro xs => match xs with | [] => xp .bany | _ :: _ => xp (.bool (neg ^^ false))
    | .slc _ _ n => match n with | 0 => xp .bany | _ + 1 => xp (.bool (neg ^^ false))
    | _ => none
  | _, _ => none
theorem zaem {op : BinOp} {x y : AV} : XOk (zaac op x y) (BINL op x y) := by
  intro v rd fr D e k hk
  unfold zaac at e; unfold BINL
  repeat' split at e
  all_goals (cases e <;> simp_all [PURE])
def zaae (op : BinOp) (x y : AV) : Option XR := match zai op, y with
  | some neg, .inil => match x with
    | .inil => xp (.bool (neg ^^ true))
    | .ifc => xp (.bool (neg ^^ false))
    | _ => none
  | _, _ => none
theorem zaeo {op : BinOp} {x y : AV} : XOk (zaae op x y) (BINF op x y) := by
  intro v rd fr D e k hk
  unfold zaae at e; unfold BINF
  repeat' split at e
  all_goals (cases e <;> simp_all [PURE])
def xUN (op : UnOp) (x : AV) : Option XR := match op, x with
  | .not, .bool b => xp (.bool (!b))
  | .neg, .int k n => zro .sub k 0 n
  | .xor, .int k n => zro .xor k (if k.signed then -1 else k.max) n
  | _, _ => none
theorem zaik {op : UnOp} {x : AV} : XOk (xUN op x) (UN op x) := by
  unfold xUN UN
  split <;> first | exact XOk.pure | exact zvm | exact XOk.none
def xlh (lo hi : Option AV) (n : Nat) (f : Nat → Nat → Option XR) : Option XR := match lohi lo hi n with
  | some (a, b) => match a, b with
    | .ofNat a, .ofNat b => xg (Nat.ble a b && Nat.ble b n) (f a b)
    | _, _ => none
  | none => none
theorem zlu {lo hi : Option AV} {n : Nat} {f : Nat → Nat → Option XR} {A : Kt → Prop} (h : ∀ a b : Nat, lohi lo hi n = some ((a : Int), (b : Int)) → a ≤ b → b ≤ n → XOk (f a b) A) : XOk (xlh lo hi n f) A := by
  unfold xlh
  split
  · rename_i a b e
    split
    · refine XOk.gd fun hb => ?_
      simp only [Bool.and_eq_true, Nat.ble_eq] at hb
      exact h _ _ e hb.1 hb.2
    · exact XOk.none
  · exact XOk.none
def zsm (x : AV) (lo hi : Option AV) : Option XR := match x with
  | .str s => xlh lo hi s.length fun a b => xp (.str ((s.take b).drop a))
  | _ => none
theorem zzl {x : AV} {lo hi : Option AV} : XOk (zsm x lo hi) (zht x lo hi) := by
  unfold zsm zht
  split
  · refine zlu fun a b e h1 h2 => XOk.pure.mono fun kt hk => ?_
    simp only [e]
    exact ⟨by omega, by omega, by omega, by simpa using hk⟩
  · exact XOk.none
def zvk (esz : Nat) (x : AV) (lo hi : Option AV) (H : Heap) : Option XR := match x with
  | .ro xs => xlh lo hi xs.length fun a b => xg (xs.all fun x => Nat.beq x.length esz) (xp (.ro ((xs.take b).drop a)))
  | .slc g off len => xlh lo hi len fun a b => match H g with
      | some (.row sz _) => xg (Nat.beq sz esz) (some (.slc g (off + a * esz) (b - a), [g], [], []))
      | _ => none
  | .nils => xlh lo hi 0 fun _ _ => xp .nils
  | .zs => xlh lo hi 0 fun _ _ => xp .zs
  | _ => none
theorem zog {esz : Nat} {x : AV} {lo hi : Option AV} {H : Heap} : XOk (zvk esz x lo hi H) (zao esz x lo hi H) := by
  unfold zvk zao
  split
  · refine zlu fun a b e h1 h2 => XOk.gd fun h3 => XOk.pure.mono fun kt hk => ?_
    simp only [e]
    exact ⟨by omega, by omega, by omega, fun x hx => by simpa using List.all_eq_true.1 h3 x hx, by simpa using hk⟩
  · refine zlu fun a b e h1 h2 => ?_
    split
    · rename_i sz cs hg
      refine XOk.gd fun h3 => XOk.some fun kt hk => ?_
      simp only [e]
      simp only [hg]
      refine ⟨by simpa using h3, by omega, by omega, by omega, ?_⟩
      have : ((b : Int) - (a : Int)).toNat = b - a := by omega
      rw [this]; simpa using hk
    · exact XOk.none
  · refine zlu fun a b e h1 h2 => XOk.pure.mono fun kt hk => ?_
    simp only [e]
    exact ⟨by omega, by omega, hk⟩
  · refine zlu fun a b e h1 h2 => XOk.pure.mono fun kt hk => ?_
    simp only [e]
    exact ⟨by omega, by omega, hk⟩
  · exact XOk.none
def zso (x : AV) (lo hi mx : AV) : Option XR := match lo, hi, mx with
  | .int _ a, .int _ b, .int _ c => xg (iEq a 0 && iEq b 0 && iEq c 0) (match x with
    | .nils => xp .nils
    | .zs | .ro _ | .slc _ _ _ => xp .zs
    | _ => none)
  | _, _, _ => none
theorem zmv {x lo hi mx : AV} : XOk (zso x lo hi mx) (zhu x lo hi mx) := by
  unfold zso zhu
  split
  · refine XOk.gd fun h => ?_
    simp only [zsa, Bool.and_eq_true, beq_iff_eq] at h
    split <;> first | exact XOk.pure.mono fun kt hk => ⟨h.1.1, h.1.2, h.2, hk⟩ | exact XOk.none
  · exact XOk.none
def zvp (k : IntKind) (x : AV) : Option XR := match x with | .int _ n => xp (.int k (zmz k n)) | _ => none
theorem zacc {k : IntKind} {x : AV} : XOk (zvp k x) (zlh k x) := by
  unfold zvp zlh
  split
  · rw [zvr]; exact XOk.pure
  · exact XOk.none
def zsn (esz n : Nat) (x : AV) (lo hi : Option AV) (H : Heap) : Option XR := match x with
  | .ptr g off => xlh lo hi n fun a b => match H g with
      | some (.row sz cells) => xg (Nat.beq sz esz && Nat.ble (off + n * esz) cells.length) (some (.slc g (off + a * esz) (b - a), [g], [], []))
      | _ => none
  | _ => none
theorem zmu {esz n : Nat} {x : AV} {lo hi : Option AV} {H : Heap} : XOk (zsn esz n x lo hi H) (zjx esz n x lo hi H) := by
  unfold zsn zjx
  split
  · refine zlu fun a b e h1 h2 => ?_
    split
    · rename_i sz cs hg
      refine XOk.gd fun h3 => XOk.some fun kt hk => ?_
      simp only [Bool.and_eq_true, Nat.beq_eq, Nat.ble_eq] at h3
      simp only [e]
      simp only [hg]
      refine ⟨h3.1, h3.2, by omega, by omega, by omega, ?_⟩
      have : ((b : Int) - (a : Int)).toNat = b - a := by omega
      rw [this]; simpa using hk
    · exact XOk.none
  · exact XOk.none
def xMM (mn : Bool) (x y : AV) : Option AV := match x, y with
  | .int ki a, .int kj b => match decide (ki = kj) with
    | true => some (.int ki (bif mn then (bif iLt b a then b else a) else (bif iLt a b then b else a)))
    | false => none
  | _, _ => none
def zjb (mn : Bool) (x y : AV) : Option XR := match xMM mn x y with | some v => xp v | none => none
theorem zmw {mn : Bool} {x y : AV} : XOk (zjb mn x y) (zbu mn x y) := by
  unfold zjb xMM zbu
  split
  · rename_i h
    split at h
    · split at h
      · rename_i hk
        cases h
        refine XOk.pure.mono fun kt hk' => ⟨by simpa using hk, ?_⟩
        simp only [zwh] at hk'
        cases mn <;> simp only [cond_true, cond_false, Bool.cond_decide] at hk' ⊢ <;> exact hk'
      · cases h
    · cases h
  · exact XOk.none
def zzq (x y z : AV) : Option XR := match xMM false x y with | some v => zjb false v z | none => none
theorem zaee {x y z : AV} : XOk (zzq x y z) (MAX3 x y z) := by
  unfold zzq MAX3
  split
  · rename_i v h
    intro v' rd fr D e k hk
    refine zmw v [] [] [] (by unfold zjb; rw [h]) _ (zmw v' rd fr D e k hk)
  · exact XOk.none
def zsq (x : AV) (H : Heap) : Option XR := match x with
  | .str _ => none
  | x => match ze 1 H x with
    | some (_, news, rd) => match bytesOf? news with
      | some s => some (.str s, rd, [], [])
      | none => none
    | none => none
theorem zzz {x : AV} {H : Heap} : XOk (zsq x H) (zhw x H) := by
  intro v rd fr D e k hk
  unfold zsq at e; unfold zhw
  repeat' split at e
  all_goals (cases e <;> simp_all [PURE, NEW])
def zsp (x : AV) (nx : Nat) : Option XR := match x with
  | .str s => xn nx (.row 1 (s.map fun b => .int .u8 (b.toNat : Int))) (.slc nx 0 s.length)
  | _ => none
theorem zzy {x : AV} {nx : Nat} : XOk (zsp x nx) (zmn x nx) := by
  unfold zsp zmn; split <;> first | exact XOk.new | exact XOk.none
def zss (esz bytes : Nat) (s x : AV) (H : Heap) (nx : Nat) : Option XR :=
  match ze esz H x with
  | some (m, news, rd) => xg (news.all AV.one) (match s with
    | .nils => match m with | 0 => some (.nils, rd, [], []) | m + 1 => xg (Nat.ble ((m + 1) * bytes) 140737488355328) (some (.slc nx 0 (m + 1), rd, [nx], [(nx, some (.row esz news))]))
    | .zs => match m with | 0 => some (.zs, rd, [], []) | m + 1 => xg (Nat.ble ((m + 1) * bytes) 140737488355328) (some (.slc nx 0 (m + 1), rd, [nx], [(nx, some (.row esz news))]))
    | .slc g off len => match H g with
      | some (.row sz cells) => xg (Nat.beq sz esz && Nat.ble (off + len * esz) cells.length && Nat.ble ((len + m) * bytes) 140737488355328)
          (some (.slc nx 0 (len + m), g :: rd, [nx], [(g, none), (nx, some (.row esz ((cells.drop off).take (len * esz) ++ news)))]))
      | _ => none
    | _ => none)
  | none => none
theorem zim {esz bytes : Nat} {s x : AV} {H : Heap} {nx : Nat} : XOk (zss esz bytes s x H nx) (zt esz bytes s x H nx) := by
  unfold zss zt
  cases hs : ze esz H x with
  | none => exact XOk.none
  | some p =>
    obtain ⟨m, news, rd⟩ := p
    refine XOk.gd fun h0 => ?_
    cases s
    case nils =>
      cases m with
      | zero => exact XOk.some fun kt hk => ⟨h0, fun _ => hk, fun h => absurd rfl h⟩
      | succ m => exact XOk.gd fun h => XOk.some fun kt hk => ⟨h0, fun h => by omega, fun _ => ⟨by simpa using h, hk⟩⟩
    case zs =>
      cases m with
      | zero => exact XOk.some fun kt hk => ⟨h0, fun _ => hk, fun h => absurd rfl h⟩
      | succ m => exact XOk.gd fun h => XOk.some fun kt hk => ⟨h0, fun h => by omega, fun _ => ⟨by simpa using h, hk⟩⟩
    case slc g off len =>
      cases hg : H g with
      | none => simp only [hg]; exact XOk.none
      | some ob =>
        cases ob with
        | row sz cells =>
          simp only [hg]
          refine XOk.gd fun h => XOk.some fun kt hk => ?_
          simp only [Bool.and_eq_true, Nat.beq_eq, Nat.ble_eq] at h
          exact ⟨h0, h.1.1, h.1.2, h.2, hk⟩
        | mp es => simp only [hg]; exact XOk.none
        | it a b c => simp only [hg]; exact XOk.none
    all_goals exact XOk.none
def zzr (esz bytes : Nat) (zero : List AV) (l c : AV) (nx : Nat) : Option XR := match l, c with
  | .int _ n, .int _ m => match n with
    | .ofNat a => xg (iEq m n && Nat.ble a 140737488355328 && Nat.ble (a * bytes) 140737488355328) (xn nx (.row esz ((List.replicate a zero).flatten)) (.slc nx 0 a))
    | .negSucc _ => none
  | _, _ => none
theorem zqy {esz bytes : Nat} {zero : List AV} {l c : AV} {nx : Nat} : XOk (zzr esz bytes zero l c nx) (MAKE esz bytes zero l c nx) := by
  unfold zzr MAKE
  split
  · split
    · refine XOk.gd fun h => XOk.new.mono fun kt hk => ?_
      simp only [zsa, Bool.and_eq_true, beq_iff_eq, Nat.ble_eq] at h
      exact ⟨h.1.1, by simp, by rw [Int.ofNat_eq_natCast]; omega, by simpa using h.2, by simpa using hk⟩
    · exact XOk.none
  · exact XOk.none
def zzx (esz : Nat) (d x : AV) (H : Heap) : Option XR :=
  match ze esz H x with
  | some (m, news, rd) => match d with
    | .nils | .zs => some (.int .i64 0, rd, [], [])
    | .slc g off len => match H g with
      | some (.row sz cells) => xg (Nat.beq sz esz && Nat.ble (off + len * esz) cells.length && news.all AV.one)
          (some (.int .i64 (min m len : Nat), g :: rd, [], [(g, some (.row sz (zaf cells off (news.take (min m len * esz)))))]))
      | _ => none
    | _ => none
  | none => none
theorem zra {esz : Nat} {d x : AV} {H : Heap} : XOk (zzx esz d x H) (COPY esz d x H) := by
  unfold zzx COPY
  cases hs : ze esz H x with
  | none => exact XOk.none
  | some p =>
    obtain ⟨m, news, rd⟩ := p
    cases d
    case nils => exact XOk.some fun _ h => h
    case zs => exact XOk.some fun _ h => h
    case slc g off len =>
      cases hg : H g with
      | none => simp only [hg]; exact XOk.none
      | some ob =>
        cases ob with
        | row sz cells =>
          simp only [hg]
          refine XOk.gd fun h => XOk.some fun kt hk => ?_
          simp only [Bool.and_eq_true, Nat.beq_eq, Nat.ble_eq] at h
          exact ⟨h.1.1, h.1.2, h.2, hk⟩
        | mp es => simp only [hg]; exact XOk.none
        | it a b c => simp only [hg]; exact XOk.none
    all_goals exact XOk.none
def zzs (zero : List AV) (agg : Bool) (m key : AV) (ok : Bool) (H : Heap) : Option XR :=
  match m with
  | .nilm => xp (bif ok then .tup [(bif agg then .agg zero else zero.getD 0 .junk), .bool false] else (bif agg then .agg zero else zero.getD 0 .junk))
  | .amap g => match H g with
    | some (.mp es) => match zad key es with
      | some (some (_, v)) => some (bif ok then .tup [v, .bool true] else v, [g], [], [])
      | some none => some (bif ok then .tup [(bif agg then .agg zero else zero.getD 0 .junk), .bool false] else (bif agg then .agg zero else zero.getD 0 .junk), [g], [], [])
      | none => none
    | _ => none
  | _ => none
theorem zqz {zero : List AV} {agg ok : Bool} {m key : AV} {H : Heap} : XOk (zzs zero agg m key ok H) (LOOK zero agg m key ok H) := by
  intro v rd fr D e k hk
  unfold zzs at e; unfold LOOK
  repeat' split at e
  all_goals (cases e <;> simp_all [PURE, NEW])
def zzp (m key v : AV) (H : Heap) : Option XR := match m with
  | .amap g => match H g with
    | some (.mp es) => match zad key es with
      | some (some (i, _)) => some (.und, [g], [], [(g, some (.mp (es.set i (key, v))))])
      | some none => some (.und, [g], [], [(g, some (.mp (es ++ [(key, v)])))])
      | none => none
    | _ => none
  | _ => none
theorem zqx {m key v : AV} {H : Heap} : XOk (zzp m key v H) (MUPD m key v H) := by
  intro v rd fr D e k hk
  unfold zzp at e; unfold MUPD
  repeat' split at e
  all_goals (cases e <;> simp_all [PURE, NEW])
section
variable (T : Nat → Option AT) (eqs : Nat → Bool)
def xaop (e : Operand → AV) (H : Heap) (nx : Nat) (o : Oper) : Option XR :=
  match o.op with
  | .move x | .assign x => xp (e x)
  | .pick c a b => zzn (e c) (e a) (e b)
  | .alloc t => match T t with | some a => xn nx (.row (zuy T a) a.zero) (.ptr nx 0) | none => none
  | .box _ v => match e v with | v => xg v.sure (xn nx (.row v.cells.length v.cells) (.ptr nx 0))
  | .build t ps => match T t with
    | some ⟨.struct fs, _, _, zero⟩ => xg (fs.all fun p => zb T p.1 != 0) (zrq (zas T fs) zero (ps.toList.map fun p => (p.1, e p.2)))
    | some ⟨.array _ el, _, _, zero⟩ => xg (zb T el != 0) (zrq (fun i => some (i * zb T el, zb T el)) zero (ps.toList.map fun p => (p.1, e p.2)))
    | _ => none
  | .buildSlice t len ps => match T t with
    | some ⟨.slice el, _, _, _⟩ => match T el with
      | some a => xg (Nat.ble (len * a.size) 16777216 && Nat.blt 0 a.size) (zsr len a.size a.zero (ps.toList.map fun p => (p.1, e p.2)) (zv eqs t len nx) nx)
      | none => none
    | _ => none
  | .load t p => match T t with | some a => zpv a.kind.isAgg a.size (e p) H | none => none
  | .store t p v => match T t with | some a => zvj a.size (e p) (e v) H | none => none
  | .nilCheck x => zzo (e x)
  | .binOp op t x y _ => match T t with
    | some ⟨.int _, _, _, _⟩ => zaad op (e x) (e y)
    | some ⟨.str, _, _, _⟩ => zaaa op (e x) (e y)
    | some ⟨.bool, _, _, _⟩ => zaaf op (e x) (e y)
    | some ⟨.struct _, _, _, zs⟩ => xg (eqs t) (zux zs op (e x) (e y))
    | some ⟨.array _ _, _, _, zs⟩ => xg (eqs t) (zux zs op (e x) (e y))
    | some ⟨.ptr _, _, _, _⟩ => zaab op (e x) (e y)
    | some ⟨.slice _, _, _, _⟩ => zaac op (e x) (e y)
    | some ⟨.iface, _, _, _⟩ => match y with | .const _ => zaae op (e x) (e y) | _ => none
    | _ => none
  | .unOp op _ x => xUN op (e x)
  | .convert s d x => match T s, T d with
    | some ⟨.int _, _, _, _⟩, some ⟨.int kd, _, _, _⟩ => zvp kd (e x)
    | some ⟨.slice el, _, _, _⟩, some ⟨.str, _, _, _⟩ => match T el with
      | some ⟨.int .u8, _, _, _⟩ => zsq (e x) H
      | _ => none
    | some ⟨.str, _, _, _⟩, some ⟨.slice el, _, _, _⟩ => match T el with
      | some ⟨.int .u8, _, _, _⟩ => zsp (e x) nx
      | _ => none
    | _, _ => none
  | .makeFunc fn first cap => match fn, first.toList with
    | .func f, [] => xp (.clo f (cap.toList.map e))
    | _, _ => none
  | .makeMap _ r => match r with
    | none => xn nx (.mp []) (.amap nx)
    | some _ => none
  | .makeSlice t l c => match T t with
    | some ⟨.slice el, _, _, _⟩ => match T el with | some a => xg (Nat.blt 0 a.size) (zzr a.size a.bytes a.zero (e l) (e c) nx) | none => none
    | _ => none
  | .slice t x lo hi mx => match mx with
    | none => match T t with
      | some ⟨.slice el, _, _, _⟩ => xg (zb T el != 0) (zvk (zb T el) (e x) (lo.map e) (hi.map e) H)
      | some ⟨.str, _, _, _⟩ => zsm (e x) (lo.map e) (hi.map e)
      | some ⟨.ptr ar, _, _, _⟩ => match T ar with
        | some ⟨.array n el, _, _, _⟩ => xg (zb T el != 0) (zsn (zb T el) n (e x) (lo.map e) (hi.map e) H)
        | _ => none
      | _ => none
    | some mx => match lo, hi with
      | some lo, some hi => match T t with
        | some ⟨.slice el, _, _, _⟩ => xg (zb T el != 0) (zso (e x) (e lo) (e hi) (e mx))
        | _ => none
      | _, _ => none
  | .fieldAddr t x f => match T t with
    | some ⟨.struct fs, _, _, _⟩ => match zas T fs f with | some (off, sz) => xg (sz != 0) (zvo off (e x)) | none => none
    | _ => none
  | .field t x f => match T t with
    | some ⟨.struct fs, _, _, _⟩ => match fs[f]? with
      | some (ft, off) => match T ft with | some a => zrp a.kind.isAgg a.size off (e x) | none => none
      | none => none
    | _ => none
  | .indexAddr t x i => match T t with
    | some ⟨.slice el, _, _, _⟩ => xg (zb T el != 0) (zvn (zb T el) (e x) (e i))
    | some ⟨.array n el, _, _, _⟩ => xg (zb T el != 0) (zacd (zb T el) n (e x) (e i))
    | _ => none
  | .index t x i => match T t with
    | some ⟨.str, _, _, _⟩ => zvl (e x) (e i)
    | some ⟨.array n el, _, _, _⟩ => match T el with | some a => zyq a.kind.isAgg a.size n (e x) (e i) | none => none
    | _ => none
  | .lookup t m key ok => match T t with
    | some ⟨.map kt el, _, _, _⟩ => match T el, T kt with | some a, some ka => xg (zq ka.kind (e key)) (zzs a.zero a.kind.isAgg (e m) (e key) ok H) | _, _ => none
    | _ => none
  | .mapUpdate t m key v | .insert t m key v => match T t with
    | some ⟨.map kt _, _, _, _⟩ => match T kt with | some ka => xg (zq ka.kind (e key)) (zzp (e m) (e key) (e v) H) | none => none
    | _ => none
  | .extract x i => zzw (e x) i
  | .call c => match c.callee, c.args.toList, c.argTypes.toList with
    | .builtin .len, [x], [t] => match T t with
      | some ⟨.str, _, _, _⟩ => zzt (e x)
      | some ⟨.slice _, _, _, _⟩ => zzv (e x)
      | some ⟨.map _ _, _, _, _⟩ => zzu (e x) H
      | _ => none
    | .builtin .min, [x, y], [_, _] => zjb true (e x) (e y)
    | .builtin .max, [x, y], [_, _] => zjb false (e x) (e y)
    | .builtin .max, [x, y, z], [_, _, _] => zzq (e x) (e y) (e z)
    | .builtin .append, [s, x], [t, t2] => match T t with
      | some ⟨.slice el, _, _, _⟩ => match T el with | some a => xg (Nat.blt 0 a.size && Nat.blt 0 a.bytes && (zhl T t2 || zkw T t2)) (zss a.size a.bytes (e s) (srcV T t2 a.zero (e x)) H nx) | none => none
      | _ => none
    | .builtin .copy, [d, x], [t, _] => match T t with
      | some ⟨.slice el, _, _, _⟩ => match T el with | some a => xg (Nat.blt 0 a.size) (zzx a.size (e d) (e x) H) | none => none
      | _ => none
    | _, _, _ => none
  | _ => none
theorem zyp {e : Operand → AV} {H : Heap} {nx : Nat} {o : Oper} : XOk (xaop T eqs e H nx o) (aop T eqs e H nx o) := by
  intro v rd fr D h k hk
  cases hop : o.op <;> simp only [xaop, hop] at h <;> simp only [aop, hop]
  all_goals (repeat' split at h)
  all_goals first
    | (cases h; done)
    | (simp only [zja, Bool.and_eq_true, Nat.blt_eq, Nat.ble_eq, bne_iff_ne] at h; simp only [*])
    | simp only [*]
    | skip
  all_goals first
    | with_reducible exact hk
    | (cases h; exact hk)
    | with_reducible exact zaec _ _ _ _ h _ hk
    | with_reducible exact zaef _ _ _ _ h _ hk
    | with_reducible exact zaca _ _ _ _ h _ hk
    | with_reducible exact zaed _ _ _ _ h _ hk
    | with_reducible exact zaen _ _ _ _ h _ hk
    | with_reducible exact zaek _ _ _ _ h _ hk
    | with_reducible exact zaep _ _ _ _ h _ hk
    | with_reducible exact zael _ _ _ _ h _ hk
    | with_reducible exact zaem _ _ _ _ h _ hk
    | with_reducible exact zaeo _ _ _ _ h _ hk
    | with_reducible exact zaik _ _ _ _ h _ hk
    | with_reducible exact zacc _ _ _ _ h _ hk
    | with_reducible exact zzz _ _ _ _ h _ hk
    | with_reducible exact zzy _ _ _ _ h _ hk
    | with_reducible exact zzl _ _ _ _ h _ hk
    | with_reducible exact zth _ _ _ _ h _ hk
    | with_reducible exact zacb _ _ _ _ h _ hk
    | with_reducible exact zaag _ _ _ _ h _ hk
    | with_reducible exact zaej _ _ _ _ h _ hk
    | with_reducible exact zaeg _ _ _ _ h _ hk
    | with_reducible exact zaei _ _ _ _ h _ hk
    | with_reducible exact zaeh _ _ _ _ h _ hk
    | with_reducible exact zmw _ _ _ _ h _ hk
    | with_reducible exact zaee _ _ _ _ h _ hk
    | (obtain ⟨hb, h⟩ := h; try simp only [true_and]
       first
        | (cases h; exact hk)
        | with_reducible exact zoj _ _ _ _ h _ hk
        | with_reducible exact ⟨hb, zoj _ _ _ _ h _ hk⟩
        | with_reducible exact ⟨hb.1, hb.2, zoj _ _ _ _ h _ hk⟩
        | with_reducible exact zrb _ _ _ _ h _ hk
        | with_reducible exact ⟨hb, zrb _ _ _ _ h _ hk⟩
        | with_reducible exact ⟨hb.1, hb.2, zrb _ _ _ _ h _ hk⟩
        | with_reducible exact zog _ _ _ _ h _ hk
        | with_reducible exact ⟨hb, zog _ _ _ _ h _ hk⟩
        | with_reducible exact ⟨hb.1, hb.2, zog _ _ _ _ h _ hk⟩
        | with_reducible exact zmu _ _ _ _ h _ hk
        | with_reducible exact ⟨hb, zmu _ _ _ _ h _ hk⟩
        | with_reducible exact ⟨hb.1, hb.2, zmu _ _ _ _ h _ hk⟩
        | with_reducible exact zmv _ _ _ _ h _ hk
        | with_reducible exact ⟨hb, zmv _ _ _ _ h _ hk⟩
        | with_reducible exact ⟨hb.1, hb.2, zmv _ _ _ _ h _ hk⟩
        | with_reducible exact zoi _ _ _ _ h _ hk
        | with_reducible exact ⟨hb, zoi _ _ _ _ h _ hk⟩
        | with_reducible exact ⟨hb.1, hb.2, zoi _ _ _ _ h _ hk⟩
        | with_reducible exact zoh _ _ _ _ h _ hk
        | with_reducible exact ⟨hb, zoh _ _ _ _ h _ hk⟩
        | with_reducible exact ⟨hb.1, hb.2, zoh _ _ _ _ h _ hk⟩
        | with_reducible exact zok _ _ _ _ h _ hk
        | with_reducible exact ⟨hb, zok _ _ _ _ h _ hk⟩
        | with_reducible exact ⟨hb.1, hb.2, zok _ _ _ _ h _ hk⟩
        | with_reducible exact zqy _ _ _ _ h _ hk
        | with_reducible exact ⟨hb, zqy _ _ _ _ h _ hk⟩
        | with_reducible exact ⟨hb.1, hb.2, zqy _ _ _ _ h _ hk⟩
        | with_reducible exact zra _ _ _ _ h _ hk
        | with_reducible exact ⟨hb, zra _ _ _ _ h _ hk⟩
        | with_reducible exact ⟨hb.1, hb.2, zra _ _ _ _ h _ hk⟩
        | with_reducible exact zqz _ _ _ _ h _ hk
        | with_reducible exact ⟨hb, zqz _ _ _ _ h _ hk⟩
        | with_reducible exact ⟨hb.1, hb.2, zqz _ _ _ _ h _ hk⟩
        | with_reducible exact zqx _ _ _ _ h _ hk
        | with_reducible exact ⟨hb, zqx _ _ _ _ h _ hk⟩
        | with_reducible exact ⟨hb.1, hb.2, zqx _ _ _ _ h _ hk⟩
        | with_reducible exact zmx _ _ _ _ h _ hk
        | with_reducible exact ⟨hb, zmx _ _ _ _ h _ hk⟩
        | with_reducible exact ⟨hb.1, hb.2, zmx _ _ _ _ h _ hk⟩
        | with_reducible exact zim _ _ _ _ h _ hk
        | with_reducible exact ⟨hb, zim _ _ _ _ h _ hk⟩
        | with_reducible exact ⟨hb.1, hb.2, zim _ _ _ _ h _ hk⟩
        | exact ⟨hb.1.1, hb.1.2, hb.2, zim _ _ _ _ h _ hk⟩)
    | skip
end
end Go.Proofs.YtpbnaaoilgohkaaGreatDoor
set_option maxRecDepth 8000
namespace Go.Proofs.YtpbnaaoilgohkaaGreatDoor
open Go Go.RowKit
/-! Trees by number. -/
inductive Tr (α : Type) where
  | nil
  | node (v : Option α) (l r : Tr α)
noncomputable def Tr.get {α : Type} (t : Tr α) : Nat → Option α :=
  Tr.rec (motive := fun _ => Nat → Option α) (fun _ => none) (fun v _ _ gl gr k => match k with
    | 0 => v
    | k + 1 => bif Nat.beq (Nat.mod k 2) 0 then gl (Nat.div k 2) else gr (Nat.div k 2)) t
def Tr.setK {α β : Type} : Nat → Tr α → Nat → Option α → (Tr α → β) → β
  | 0, t, _, _, c => c t
  | f + 1, t, k, v, c => match k with
    | 0 => match t with
      | .nil => c (.node v .nil .nil)
      | .node _ l r => c (.node v l r)
    | k + 1 => match t with
      | .nil => bif Nat.beq (Nat.mod k 2) 0 then Tr.setK f .nil (Nat.div k 2) v fun l => c (.node none l .nil) else Tr.setK f .nil (Nat.div k 2) v fun r => c (.node none .nil r)
      | .node w l r => bif Nat.beq (Nat.mod k 2) 0 then Tr.setK f l (Nat.div k 2) v fun l => c (.node w l r) else Tr.setK f r (Nat.div k 2) v fun r => c (.node w l r)
def Tr.set {α : Type} (t : Tr α) (k : Nat) (v : Option α) : Tr α := Tr.setK (k + 1) t k v id
theorem Tr.setK_eq {α β : Type} : ∀ (f : Nat) (t : Tr α) (k : Nat) (v : Option α) (c : Tr α → β), Tr.setK f t k v c = c (Tr.setK f t k v id)
  | 0, t, k, v, c => rfl
  | f + 1, t, 0, v, c => by cases t <;> rfl
  | f + 1, t, k + 1, v, c => by
    cases t with
    | nil =>
      simp only [Tr.setK]
      cases Nat.beq (Nat.mod k 2) 0 with
      | true => exact (Tr.setK_eq f _ _ _ _).trans (congrArg c (Tr.setK_eq f _ _ _ (fun l => Tr.node none l .nil)).symm)
      | false => exact (Tr.setK_eq f _ _ _ _).trans (congrArg c (Tr.setK_eq f _ _ _ (fun r => Tr.node none .nil r)).symm)
    | node w l r =>
      simp only [Tr.setK]
      cases Nat.beq (Nat.mod k 2) 0 with
      | true => exact (Tr.setK_eq f _ _ _ _).trans (congrArg c (Tr.setK_eq f _ _ _ (fun l => Tr.node w l r)).symm)
      | false => exact (Tr.setK_eq f _ _ _ _).trans (congrArg c (Tr.setK_eq f _ _ _ (fun r => Tr.node w l r)).symm)
theorem Tr.get_nil {α : Type} (j : Nat) : (Tr.nil : Tr α).get j = none := rfl
theorem Tr.get_set {α : Type} : ∀ (f : Nat) (t : Tr α) (k : Nat) (v : Option α) (j : Nat), k < f → (Tr.setK f t k v id).get j = if j = k then v else t.get j
  | 0, t, k, v, j, h => by omega
  | f + 1, t, 0, v, j, _ => by
    cases t <;> cases j <;> simp [Tr.setK, Tr.get]
  | f + 1, t, k + 1, v, j, h => by
    have hk : Nat.div k 2 < f := by have : Nat.div k 2 = k / 2 := rfl; omega
    have e2 : ∀ a : Nat, Nat.div a 2 = a / 2 := fun _ => rfl
    have m2 : ∀ a : Nat, Nat.mod a 2 = a % 2 := fun _ => rfl
    cases t with
    | nil =>
      simp only [Tr.setK]
      cases hb : Nat.beq (Nat.mod k 2) 0 with
      | true =>
        simp only [cond_true]
        rw [Tr.setK_eq]
        cases j with
        | zero => simp [Tr.get]
        | succ j =>
          show (bif Nat.beq (Nat.mod j 2) 0 then (Tr.setK f .nil (Nat.div k 2) v id).get (Nat.div j 2) else (Tr.nil : Tr α).get (Nat.div j 2)) = _
          rw [Nat.beq_eq, m2] at hb
          cases hj : Nat.beq (Nat.mod j 2) 0 with
          | true =>
            rw [Nat.beq_eq, m2] at hj
            simp only [cond_true]
            rw [Tr.get_set f _ _ _ _ hk, e2, e2]
            by_cases he : j = k
            · simp [he]
            · rw [if_neg (by omega), if_neg (by omega)]; rfl
          | false =>
            rw [← Bool.not_eq_true, Nat.beq_eq, m2] at hj
            simp only [cond_false]
            rw [if_neg (by omega)]; rfl
      | false =>
        simp only [cond_false]
        rw [Tr.setK_eq]
        cases j with
        | zero => simp [Tr.get]
        | succ j =>
          show (bif Nat.beq (Nat.mod j 2) 0 then (Tr.nil : Tr α).get (Nat.div j 2) else (Tr.setK f .nil (Nat.div k 2) v id).get (Nat.div j 2)) = _
          rw [← Bool.not_eq_true, Nat.beq_eq, m2] at hb
          cases hj : Nat.beq (Nat.mod j 2) 0 with
          | true =>
            rw [Nat.beq_eq, m2] at hj
            simp only [cond_true]
            rw [if_neg (by omega)]; rfl
          | false =>
            rw [← Bool.not_eq_true, Nat.beq_eq, m2] at hj
            simp only [cond_false]
            rw [Tr.get_set f _ _ _ _ hk, e2, e2]
            by_cases he : j = k
            · simp [he]
            · rw [if_neg (by omega), if_neg (by omega)]; rfl
    | node w l r =>
      simp only [Tr.setK]
      cases hb : Nat.beq (Nat.mod k 2) 0 with
      | true =>
        simp only [cond_true]
        rw [Tr.setK_eq]
        cases j with
        | zero => simp [Tr.get]
        | succ j =>
          show (bif Nat.beq (Nat.mod j 2) 0 then (Tr.setK f l (Nat.div k 2) v id).get (Nat.div j 2) else r.get (Nat.div j 2)) = if _ then _ else (bif Nat.beq (Nat.mod j 2) 0 then l.get (Nat.div j 2) else r.get (Nat.div j 2))
          rw [Nat.beq_eq, m2] at hb
          cases hj : Nat.beq (Nat.mod j 2) 0 with
          | true =>
            rw [Nat.beq_eq, m2] at hj
            simp only [cond_true]
            rw [Tr.get_set f _ _ _ _ hk, e2, e2]
            by_cases he : j = k
            · simp [he]
            · rw [if_neg (by omega), if_neg (by omega)]
          | false =>
            rw [← Bool.not_eq_true, Nat.beq_eq, m2] at hj
            simp only [cond_false]
            rw [if_neg (by omega)]
      | false =>
        simp only [cond_false]
        rw [Tr.setK_eq]
        cases j with
        | zero => simp [Tr.get]
        | succ j =>
          show (bif Nat.beq (Nat.mod j 2) 0 then l.get (Nat.div j 2) else (Tr.setK f r (Nat.div k 2) v id).get (Nat.div j 2)) = if _ then _ else (bif Nat.beq (Nat.mod j 2) 0 then l.get (Nat.div j 2) else r.get (Nat.div j 2))
          rw [← Bool.not_eq_true, Nat.beq_eq, m2] at hb
          cases hj : Nat.beq (Nat.mod j 2) 0 with
          | true =>
            rw [Nat.beq_eq, m2] at hj
            simp only [cond_true]
            rw [if_neg (by omega)]
          | false =>
            rw [← Bool.not_eq_true, Nat.beq_eq, m2] at hj
            simp only [cond_false]
            rw [Tr.get_set f _ _ _ _ hk, e2, e2]
            by_cases he : j = k
            · simp [he]
            · rw [if_neg (by omega), if_neg (by omega)]
/-! Values, looked at before they are laid. -/
section
variable {β : Type}
def fN (n : Nat) (c : Nat → β) : β := match n with
  | 0 => c 0
  | m + 1 => c (Nat.succ m)
theorem zva (n : Nat) (c : Nat → β) : fN n c = c n := by cases n <;> rfl
def fI (n : Int) (c : Int → β) : β := match n with
  | .ofNat a => fN a fun a => c (.ofNat a)
  | .negSucc a => fN a fun a => c (.negSucc a)
theorem zakc (n : Int) (c : Int → β) : fI n c = c n := by cases n <;> simp [fI, zva]
def fL {α : Type} : List α → (List α → β) → β
  | [], c => c []
  | x :: r, c => fL r fun r => c (x :: r)
theorem zabc {α : Type} : ∀ (l : List α) (c : List α → β), fL l c = c l
  | [], c => rfl
  | x :: r, c => by simp only [fL]; rw [zabc r]
def fV0 (v : AV) (c : AV → β) : β := match v with
  | .int k n => fI n fun n => c (.int k n)
  | .bool b => match b with | true => c (.bool true) | false => c (.bool false)
  | .str s => fL s fun s => c (.str s)
  | .ptr g o => fN g fun g => fN o fun o => c (.ptr g o)
  | .slc g o n => fN g fun g => fN o fun o => fN n fun n => c (.slc g o n)
  | .amap g => fN g fun g => c (.amap g)
  | .ro xs => fL xs fun xs => c (.ro xs)
  | .rop cs o => fL cs fun cs => fN o fun o => c (.rop cs o)
  | .clo f xs => fL xs fun xs => c (.clo f xs)
  | .junk => c .junk | .und => c .und | .bany => c .bany | .nilp => c .nilp | .nils => c .nils | .nilf => c .nilf | .nilm => c .nilm | .zs => c .zs | .inil => c .inil | .ifc => c .ifc
  | .agg xs => c (.agg xs)
  | .tup xs => c (.tup xs)
theorem zsf (v : AV) (c : AV → β) : fV0 v c = c v := by
  cases v <;> simp only [fV0, zakc, zabc, zva]
  rename_i b; cases b <;> rfl
def fCs : List AV → (List AV → β) → β
  | [], c => c []
  | x :: r, c => fV0 x fun x => fCs r fun r => c (x :: r)
theorem zwn : ∀ (l : List AV) (c : List AV → β), fCs l c = c l
  | [], c => rfl
  | x :: r, c => by simp only [fCs, zsf]; rw [zwn r]
def fV (v : AV) (c : AV → β) : β := match v with
  | .agg xs => fCs xs fun xs => c (.agg xs)
  | .tup xs => fCs xs fun xs => c (.tup xs)
  | v => fV0 v c
theorem zse (v : AV) (c : AV → β) : fV v c = c v := by
  cases v <;> simp only [fV, zsf, zwn]
def fO (o : AObj) (c : AObj → β) : β := match o with
  | .row s cs => fCs cs fun cs => c (.row s cs)
  | .mp es => fL es fun es => c (.mp es)
  | .it g n l => fL l fun l => c (.it g n l)
theorem zahd (o : AObj) (c : AObj → β) : fO o c = c o := by cases o <;> simp only [fO, zwn, zabc]
end
abbrev EB := Tr AV
abbrev HB := Tr AObj
noncomputable def toE (E : EB) : Env := fun k => match E.get k with | some v => v | none => .junk
noncomputable def toH (H : HB) : Heap := fun g => H.get g
section
variable {β : Type}
def putE (E : EB) (d : Option Nat) (v : AV) (c : EB → β) : β := match d with
  | none => c E
  | some t => Tr.setK (t + 1) E t (some v) c
def putD : zl → HB → (HB → β) → β
  | [], H, c => c H
  | (g, o) :: r, H, c => match o with
    | none => Tr.setK (g + 1) H g none fun H => putD r H c
    | some o => fO o fun o => Tr.setK (g + 1) H g (some o) fun H => putD r H c
end
def zpx (E : EB) (d : Option Nat) (v : AV) : EB := putE E d v id
def zgn (D : zl) (H : HB) : HB := putD D H id
theorem zpw {β : Type} (E : EB) (d : Option Nat) (v : AV) (c : EB → β) : putE E d v c = c (zpx E d v) := by
  cases d with
  | none => rfl
  | some t => simp only [putE, zpx]; rw [Tr.setK_eq]
theorem zpy {β : Type} : ∀ (D : zl) (H : HB) (c : HB → β), putD D H c = c (zgn D H)
  | [], H, c => rfl
  | (g, none) :: r, H, c => by
    simp only [putD, zgn]
    rw [Tr.setK_eq, Tr.setK_eq (c := fun H => putD r H id), zpy r]; rfl
  | (g, some o) :: r, H, c => by
    simp only [putD, zgn, zahd]
    rw [Tr.setK_eq, Tr.setK_eq (c := fun H => putD r H id), zpy r]; rfl
theorem zeb (E : EB) (d : Option Nat) (v : AV) : toE (zpx E d v) = (toE E).putO d v := by
  cases d with
  | none => rfl
  | some t =>
    funext u
    show (match (Tr.setK (t + 1) E t (some v) id).get u with | some v => v | none => .junk) = bif Nat.beq u t then v else toE E u
    rw [Tr.get_set _ _ _ _ _ (Nat.lt_succ_self _)]
    by_cases h : u = t
    · subst h; simp
    · have : Nat.beq u t = false := by rw [← Bool.not_eq_true, Nat.beq_eq]; exact h
      rw [if_neg h, this]; rfl
theorem zsv (H : HB) (g : Nat) (o : Option AObj) : toH (Tr.setK (g + 1) H g o id) = (toH H).put g o := by
  funext u
  show (Tr.setK (g + 1) H g o id).get u = bif Nat.beq u g then o else toH H u
  rw [Tr.get_set _ _ _ _ _ (Nat.lt_succ_self _)]
  by_cases h : u = g
  · subst h; simp
  · have : Nat.beq u g = false := by rw [← Bool.not_eq_true, Nat.beq_eq]; exact h
    rw [if_neg h, this]; rfl
theorem zlv : ∀ (D : zl) (H : HB), toH (zgn D H) = (toH H).apply D
  | [], H => rfl
  | (g, none) :: r, H => by
    simp only [zgn, putD]
    rw [Tr.setK_eq, show putD r _ id = zgn r _ from rfl, zlv r, zsv]; rfl
  | (g, some o) :: r, H => by
    simp only [zgn, putD, zahd]
    rw [Tr.setK_eq, show putD r _ id = zgn r _ from rfl, zlv r, zsv]; rfl
/-! Are two values the same? -/
def all2 {α : Type} (p : α → α → Bool) : List α → List α → Bool
  | [], [] => true
  | x :: r, y :: s => p x y && all2 p r s
  | _, _ => false
theorem zfw {α : Type} {p : α → α → Bool} (h : ∀ x y, p x y = true → x = y) : ∀ l m : List α, all2 p l m = true → l = m
  | [], [], _ => rfl
  | x :: r, y :: s, e => by
    simp only [all2, Bool.and_eq_true] at e
    rw [h x y e.1, zfw h r s e.2]
  | [], _ :: _, e => by cases e
  | _ :: _, [], e => by cases e
def avEq : Nat → AV → AV → Bool
  | 0, _, _ => false
  | n + 1, x, y => match x, y with
    | .int k a, .int j b => decide (k = j) && iEq a b
    | .bool a, .bool b => a == b
    | .str a, .str b => sEq a b
    | .nilp, .nilp | .nils, .nils | .nilf, .nilf | .nilm, .nilm | .zs, .zs | .inil, .inil => true
    | .ptr g o, .ptr h q => Nat.beq g h && Nat.beq o q
    | .slc g o n, .slc h q m => Nat.beq g h && Nat.beq o q && Nat.beq n m
    | .amap g, .amap h => Nat.beq g h
    | .ro a, .ro b => all2 (all2 (avEq n)) a b
    | .rop a o, .rop b q => all2 (avEq n) a b && Nat.beq o q
    | .agg a, .agg b => all2 (avEq n) a b
    | .tup a, .tup b => all2 (avEq n) a b
    | .clo f a, .clo g b => Nat.beq f g && all2 (avEq n) a b
    | _, _ => false
theorem zmm : ∀ (n : Nat) (x y : AV), avEq n x y = true → x = y
  | 0, x, y, h => by simp [avEq] at h
  | n + 1, x, y, h => by
    have ih := zmm n
    unfold avEq at h
    split at h <;> try simp only [Bool.and_eq_true, Nat.beq_eq, zsa, zvv, beq_iff_eq, decide_eq_true_eq, reduceCtorEq] at h
    all_goals first
      | rfl
      | (cases h; done)
      | (obtain ⟨rfl, rfl⟩ := h; rfl)
      | (obtain ⟨⟨rfl, rfl⟩, rfl⟩ := h; rfl)
      | (subst h; rfl)
      | (rw [zfw (zfw ih) _ _ h])
      | (rw [zfw ih _ _ h])
      | (rw [zfw ih _ _ h.1, h.2])
      | (rw [zfw ih _ _ h.2, h.1])
def obEq (x y : Option AObj) : Bool := match x, y with
  | some (.row s a), some (.row t b) => Nat.beq s t && all2 (avEq 40) a b
  | some (.mp a), some (.mp b) => all2 (fun p q => avEq 40 p.1 q.1 && avEq 40 p.2 q.2) a b
  | none, none => true
  | _, _ => false
theorem zahz {x y : Option AObj} (h : obEq x y = true) : x = y := by
  unfold obEq at h
  split at h
  · simp only [Bool.and_eq_true, Nat.beq_eq] at h
    rw [h.1, zfw (zmm 40) _ _ h.2]
  · rw [zfw (fun p q e => by simp only [Bool.and_eq_true] at e; exact Prod.ext (zmm 40 _ _ e.1) (zmm 40 _ _ e.2)) _ _ h]
  · rfl
  · cases h
end Go.Proofs.YtpbnaaoilgohkaaGreatDoor
