/- The reader: programs. The agent of bytes: frames. The number that bytes begin with: the document's reading. The text that bytes begin with: the document's reading. The document's readers: numbers, texts, in the machine. The document's reader: values. What a call is handed, and what names it, is read by value from then on. The document's agent of bytes: words, and codes. The document's agent of bytes: frames. The agent of bytes: its beginning. -/
import Derived.Test.YtpbnaaoilgohkaaG12
import Derived.Test.YtpbnaaoilgohkaaG11
set_option linter.unusedSimpArgs false
set_option linter.unusedVariables false
set_option maxRecDepth 8000
namespace Go.Proofs.Ytpbnaaoilgohkaa
open Go Go.RowKit
def rowW (l : List Str) : List AV := l.map AV.str
set_option maxRecDepth 20000 in
set_option maxHeartbeats 4000000 in
theorem zamd {p n : Nat} {st : VM.St} {N : Nat} {H : Heap} {Q : QT} (hpn : p < n) (hN : N ≤ 4096) (hb : st.1.length ≤ 4611686018427387904)
    (h1 : H p = some (PRd st)) (h2 : H (n + 1) = some (.row 2 [.nils, .nils])) (hx : ∃ z, H n = some (.row 2 z) ∧ z.length = 2)
    (hq : ∀ H' n' W, n + 2 ≤ n' → H' p = some (PRd (VM.rdMany (VM.rdText 12) N st).2) → H' (n + 1) = some (.row 2 [.nils, W]) → Slot H' 1 N (rowW (VM.rdMany (VM.rdText 12) N st).1) W → (∀ y ∈ own W, n + 2 ≤ y ∧ y < n') → (∃ z, H' n = some (.row 2 z) ∧ z.length = 2) → (∀ y, y < n → y ≠ p → H' y = H y) →
      za Try.prog 27 [.ptr p 0, .int .i64 5] H' n' (zdr Q [.ptr p 0, .ptr n 0, .ptr (n + 1) 0, .int .i64 N, .int .i64 N])) :
    LP (zcj Q) [.ptr p 0, .ptr n 0, .ptr (n + 1) 0, .int .i64 N, .int .i64 0] H (n + 2) := by
  refine LP.mk (fun k xs H' n' => ∃ (i : Nat) (W : AV), k = N - i ∧ i ≤ N ∧ xs = [.ptr p 0, .ptr n 0, .ptr (n + 1) 0, .int .i64 N, .int .i64 i] ∧ n + 2 ≤ n' ∧ H' p = some (PRd (VM.rdMany (VM.rdText 12) i st).2) ∧ H' (n + 1) = some (.row 2 [.nils, W]) ∧ Slot H' 1 i (rowW (VM.rdMany (VM.rdText 12) i st).1) W ∧ (∀ y ∈ own W, n + 2 ≤ y ∧ y < n') ∧ (∃ z, H' n = some (.row 2 z) ∧ z.length = 2) ∧ (∀ y, y < n → y ≠ p → H' y = H y)) N ⟨0, .nils, rfl, by omega, rfl, Nat.le_refl _, h1, h2, .inl ⟨rfl, .inl rfl⟩, by simp [own], hx, fun _ _ _ => rfl⟩ ?_
  rintro k xs H' n' ⟨i, W, rfl, hik, rfl, hn, hp, hr, sl, ow, hz, kp⟩
  have sm := VM.short_many (VM.short_text 12) i st
  by_cases hlt : i < N
  · have hadd : IntKind.i64.wrap ((i : Int) + 1) = ((i + 1 : Nat) : Int) := by rw [i64w (by omega)]; rfl
    have ll := VM.rdMany_len (VM.rdText 12) i st
    have er : VM.rdMany (VM.rdText 12) (i + 1) st = ((VM.rdMany (VM.rdText 12) i st).1 ++ [(VM.rdText 12 (VM.rdMany (VM.rdText 12) i st).2).1], (VM.rdText 12 (VM.rdMany (VM.rdText 12) i st).2).2) := rfl
    generalize VM.rdMany (VM.rdText 12) i st = q at *
    generalize hv : VM.rdText 12 q.2 = v at *
    simp [zcj, hlt, hr]
    refine zj.rd hp (fun A => .str v.1) (fun Hx nx Qx g1 g2 => zaee g1 (by omega) (by rw [hv]; exact g2)) ?_
    have s1 : Slot ((H'.put p (some (PRd v.2))).put n' (some (.row 1 [.str v.1]))) 1 i (rowW q.1) W := sl.keep fun y hy => by
      have := ow y hy
      rw [Heap.put_ne _ _ (by omega), Heap.put_ne _ _ (by omega)]
    have pn : ¬ p = n + 1 := by omega
    simp [zhq]
    refine s1.append (new := [.str v.1]) (by simp [rowW, ll]) (Heap.put_at _ _ _) rfl (by simp) (by omega) fun rd D q1 q2 q3 => ?_
    have r3 : (((H'.put p (some (PRd v.2))).put n' (some (.row 1 [.str v.1]))).apply D) (n + 1) = some (.row 2 [.nils, W]) := by
      rw [q3 (n + 1) (fun h => by have := ow _ h; omega) (by omega), Heap.put_ne _ _ (by omega), Heap.put_ne _ _ (by omega)]; exact hr
    have oth : ∀ y, y < n' → y ∉ own W → y ≠ p → (((H'.put p (some (PRd v.2))).put n' (some (.row 1 [.str v.1]))).apply D) y = H' y := fun y h1 h2 h3 => by
      rw [q3 y h2 (by omega), Heap.put_ne _ _ (by omega), Heap.put_ne _ _ h3]
    have rp : (((H'.put p (some (PRd v.2))).put n' (some (.row 1 [.str v.1]))).apply D) p = some (PRd v.2) := by
      rw [q3 p (fun h => by have := ow _ h; omega) (by omega), Heap.put_ne _ _ (by omega), Heap.put_at]
    have e1 : ((i + 1 : Nat) : Int) = (i : Int) + 1 := by omega
    simp [r3]
    refine ⟨fun h => absurd h pn, by omega, N - (i + 1), by omega, i + 1, rfl, by omega, hadd, by omega, ?_, ?_, fun y hy => ?_, ?_, fun y h3 h4 => ?_⟩
    · rw [if_neg pn, er]; exact rp
    · rw [er]
      refine Slot.full ?_ (by simp [rowW, ll])
      rw [Heap.put_ne _ _ (by omega), q2]
      simp [rowW]
    · have e : y = n' + 1 := by simpa [own] using hy
      omega
    · rw [oth n (by omega) (fun h => by have := ow _ h; omega) (by omega)]; exact hz
    · rw [if_neg (by omega), oth y (by omega) (fun h => by have := ow _ h; omega) h4]
      exact kp y h3 h4
  · obtain rfl : i = N := by omega
    simp [zcj]
    exact hq _ _ _ hn hp hr sl ow hz kp
def zcr (l : List Ins) : List AV := (l.map Ins.avs).flatten
theorem zob (l : List Ins) : (zcr l).length = l.length * 3 := by
  unfold zcr
  induction l with
  | nil => rfl
  | cons x r ih => rw [List.map_cons, List.flatten_cons, List.length_append, ih, List.length_cons]; simp [Ins.avs]; omega
theorem zzc (l : List Ins) (x : Ins) : zcr (l ++ [x]) = zcr l ++ x.avs := by simp [zcr]
set_option maxRecDepth 20000 in
set_option maxHeartbeats 4000000 in
theorem zamf {p r n : Nat} {st : VM.St} {N : Nat} {pa va : Int} {H : Heap} {K33 : J3} {x1 x2 x4 x5 : AV} (hpr : p < r) (hrn : r < n) (hN : N ≤ 4096) (hb : st.1.length ≤ 4611686018427387904)
    (h1 : H p = some (PRd st)) (h2 : H r = some (.row 3 [.int .i64 pa, .int .i64 va, .nils]))
    (hq : ∀ (K50 : J3) H' n' I, n ≤ n' → H' p = some (PRd (VM.rdMany VM.insOf N st).2) → H' r = some (.row 3 [.int .i64 pa, .int .i64 va, I]) → Slot H' 3 N (zcr (VM.rdMany VM.insOf N st).1) I → (∀ y ∈ own I, n ≤ y ∧ y < n') → (∀ y, y < n → y ≠ p → y ≠ r → H' y = H y) →
      zay K33 K50 [.ptr p 0, x1, x2, .ptr r 0, x4, x5, .int .i64 N, .int .i64 N] H' n') :
    LP (zay K33) [.ptr p 0, x1, x2, .ptr r 0, x4, x5, .int .i64 N, .int .i64 0] H n := by
  refine LP.mk (fun k xs H' n' => ∃ (i : Nat) (I : AV), k = N - i ∧ i ≤ N ∧ xs = [.ptr p 0, x1, x2, .ptr r 0, x4, x5, .int .i64 N, .int .i64 i] ∧ n ≤ n' ∧ H' p = some (PRd (VM.rdMany VM.insOf i st).2) ∧ H' r = some (.row 3 [.int .i64 pa, .int .i64 va, I]) ∧ Slot H' 3 i (zcr (VM.rdMany VM.insOf i st).1) I ∧ (∀ y ∈ own I, n ≤ y ∧ y < n') ∧ (∀ y, y < n → y ≠ p → y ≠ r → H' y = H y)) N ⟨0, .nils, rfl, by omega, rfl, Nat.le_refl _, h1, h2, .inl ⟨rfl, .inl rfl⟩, by simp [own], fun _ _ _ _ => rfl⟩ ?_
  rintro k xs H' n' ⟨i, I, rfl, hik, rfl, hn, hp, hr, sl, ow, kp⟩
  have sm := VM.short_many VM.short_ins i st
  by_cases hlt : i < N
  · have hadd : IntKind.i64.wrap ((i : Int) + 1) = ((i + 1 : Nat) : Int) := by rw [i64w (by omega)]; rfl
    have ll := VM.rdMany_len VM.insOf i st
    have er : VM.rdMany VM.insOf (i + 1) st = ((VM.rdMany VM.insOf i st).1 ++ [(VM.insOf (VM.rdMany VM.insOf i st).2).1], (VM.insOf (VM.rdMany VM.insOf i st).2).2) := rfl
    generalize VM.rdMany VM.insOf i st = q at *
    have a1 := VM.short_num q.2
    have a2 := VM.short_num (VM.rdNum q.2).2
    have hi : VM.insOf q.2 = (⟨(VM.rdNum q.2).1, (VM.rdNum (VM.rdNum q.2).2).1, (VM.rdNum (VM.rdNum (VM.rdNum q.2).2).2).1⟩, (VM.rdNum (VM.rdNum (VM.rdNum q.2).2).2).2) := rfl
    rw [hi] at er
    have pr : ¬ p = r := by omega
    simp [zay, hlt, hr]
    refine zj.rd hp (fun A => .int _ _) (fun Hx nx Qx g1 g2 => zcf g1 (by omega) g2) ?_
    generalize VM.rdNum q.2 = v1 at *
    simp [zhn]
    refine zj.rd (Heap.put_at _ _ _) (fun A => .int _ _) (fun Hx nx Qx g1 g2 => zcf g1 (by omega) g2) ?_
    generalize VM.rdNum v1.2 = v2 at *
    simp [zho]
    refine zj.rd (Heap.put_at _ _ _) (fun A => .int _ _) (fun Hx nx Qx g1 g2 => zcf g1 (by omega) g2) ?_
    generalize VM.rdNum v2.2 = v3 at *
    simp [zhp]
    have s1 : Slot ((H'.put p (some (PRd v3.2))).put n' (some (.row 3 (Ins.mk v1.1 v2.1 v3.1).avs))) 3 i (zcr q.1) I := sl.keep fun y hy => by
      have := ow y hy
      rw [Heap.put_ne _ _ (by omega), Heap.put_ne _ _ (by omega)]
    refine s1.append (new := (Ins.mk v1.1 v2.1 v3.1).avs) (by rw [zob]; omega) (Heap.put_at _ _ _) rfl (by simp [Ins.avs]) (by omega) fun rd D q1 q2 q3 => ?_
    have oth : ∀ y, y < n' → y ∉ own I → y ≠ p → (((H'.put p (some (PRd v3.2))).put n' (some (.row 3 (Ins.mk v1.1 v2.1 v3.1).avs))).apply D) y = H' y := fun y h1 h2 h3 => by
      rw [q3 y h2 (by omega), Heap.put_ne _ _ (by omega), Heap.put_ne _ _ h3]
    have rp : (((H'.put p (some (PRd v3.2))).put n' (some (.row 3 (Ins.mk v1.1 v2.1 v3.1).avs))).apply D) p = some (PRd v3.2) := by
      rw [q3 p (fun h => by have := ow _ h; omega) (by omega), Heap.put_ne _ _ (by omega), Heap.put_at]
    have rr : (((H'.put p (some (PRd v3.2))).put n' (some (.row 3 (Ins.mk v1.1 v2.1 v3.1).avs))).apply D) r = some (.row 3 [.int .i64 pa, .int .i64 va, I]) := by
      rw [oth r (by omega) (fun h => by have := ow _ h; omega) (by omega)]; exact hr
    simp only [Ins.avs] at q2 oth rp rr
    rw [rr, rowk]
    simp
    generalize Heap.apply _ D = Z at *
    refine ⟨fun h => absurd h pr, fun h => absurd h pr, fun h => absurd h pr, by omega, N - (i + 1), by omega, i + 1, rfl, by omega, hadd, by omega, ?_, ?_, fun y hy => ?_, fun y h3 h4 h5 => ?_⟩
    · rw [if_neg pr, er]; exact rp
    · rw [er, zzc]
      refine Slot.full ?_ (by simp [zob, Ins.avs, ll]; omega)
      rw [Heap.put_ne _ _ (by omega)]; exact q2
    · have e : y = n' + 1 := by simpa [own] using hy
      omega
    · rw [if_neg h5, oth y (by omega) (fun h => by have := ow _ h; omega) h4]
      exact kp y h3 h4 h5
  · obtain rfl : i = N := by omega
    exact hq _ _ _ _ hn hp hr sl ow kp
def zbu (H : Heap) (cs : List Cod) (ss : List AV) : Prop := ss.length = cs.length ∧ ∀ (k : Nat) (c : Cod) (s : AV), cs[k]? = some c → ss[k]? = some s → Slot H 3 c.ins.length (zcr c.ins) s
def crow : List Cod → List AV → List AV
  | c :: cs, s :: ss => .int .i64 c.params :: .int .i64 c.vars :: s :: crow cs ss
  | _, _ => []
theorem zaaa : ∀ {cs : List Cod} {ss : List AV}, ss.length = cs.length → (crow cs ss).length = cs.length * 3
  | [], [], _ => rfl
  | c :: cs, s :: ss, h => by simp [crow, zaaa (cs := cs) (ss := ss) (by simpa using h)]; omega
  | [], s :: ss, h => by simp at h
  | c :: cs, [], h => by simp at h
theorem zxt : ∀ {cs : List Cod} {ss : List AV} {c : Cod} {s : AV}, ss.length = cs.length → crow (cs ++ [c]) (ss ++ [s]) = crow cs ss ++ [.int .i64 c.params, .int .i64 c.vars, s]
  | [], [], c, s, _ => rfl
  | d :: cs, t :: ss, c, s, h => by simp [crow, zxt (cs := cs) (ss := ss) (c := c) (s := s) (by simpa using h)]
  | [], s :: ss, _, _, h => by simp at h
  | c :: cs, [], _, _, h => by simp at h
theorem zaca : ∀ {cs : List Cod} {ss : List AV} {i : Nat} {c : Cod} {s : AV}, cs[i]? = some c → ss[i]? = some s → (crow cs ss)[i * 3]? = some (.int .i64 c.params) ∧ (crow cs ss)[i * 3 + 1]? = some (.int .i64 c.vars) ∧ (crow cs ss)[i * 3 + 2]? = some s
  | [], _, i, c, s, h, _ => by simp at h
  | _ :: _, [], i, c, s, _, h => by simp at h
  | d :: cs, t :: ss, 0, c, s, h1, h2 => by simp at h1 h2; subst h1; subst h2; simp [crow]
  | d :: cs, t :: ss, i + 1, c, s, h1, h2 => by
    have := zaca (cs := cs) (ss := ss) (i := i) (by simpa using h1) (by simpa using h2)
    have e : ∀ j, (i + 1) * 3 + j = i * 3 + j + 1 + 1 + 1 := fun j => by omega
    have e0 : (i + 1) * 3 = i * 3 + 1 + 1 + 1 := by omega
    rw [e 1, e 2, e0]
    simpa [crow] using this
def ownc (ss : List AV) : List Nat := ss.flatMap own
theorem zacr (ss : List AV) (t : AV) : ownc (ss ++ [t]) = ownc ss ++ own t := by simp [ownc]
theorem zbu.keep {H H' : Heap} {cs : List Cod} {ss : List AV} (h : zbu H cs ss) (hk : ∀ g ∈ ownc ss, H' g = H g) : zbu H' cs ss :=
  ⟨h.1, fun k c s hc hs => (h.2 k c s hc hs).keep fun g hg => hk g (List.mem_flatMap.2 ⟨s, List.mem_of_getElem? hs, hg⟩)⟩
theorem zbu.snoc {H : Heap} {cs : List Cod} {ss : List AV} {c : Cod} {s : AV} (h : zbu H cs ss) (h1 : Slot H 3 c.ins.length (zcr c.ins) s) : zbu H (cs ++ [c]) (ss ++ [s]) := by
  refine ⟨by simp [h.1], fun k c' s' hc hs => ?_⟩
  by_cases hk : k < cs.length
  · rw [List.getElem?_append_left hk] at hc
    rw [List.getElem?_append_left (by rw [h.1]; exact hk)] at hs
    exact h.2 k c' s' hc hs
  · have hk' : k = cs.length := by have := (List.getElem?_eq_some_iff.1 hc).1; simp at this; omega
    subst hk'
    rw [List.getElem?_append_right (Nat.le_refl _)] at hc
    rw [List.getElem?_append_right (by rw [h.1]; exact Nat.le_refl _), h.1] at hs
    simp at hc hs
    subst hc; subst hs
    exact h1
theorem zamt (l : List Ins) : ∀ x ∈ l.map Ins.avs, ∀ c ∈ x, scal c = true := by
  intro x hx c hc
  obtain ⟨i, _, rfl⟩ := List.mem_map.1 hx
  simp [Ins.avs] at hc
  rcases hc with rfl | rfl | rfl <;> rfl
theorem zbu.frz {H : Heap} {nx : Nat} {cs : List Cod} {ss : List AV} {a : AV} (h : zbu H cs ss) (sl : Slot H 3 cs.length (crow cs ss) a) (hg : ∀ g ∈ own a, nx ≤ g) (ho : ∀ x ∈ ownc ss, nx ≤ x) : Frz H nx a (.ro (cs.map Cod.avs)) := by
  rcases sl with ⟨h0, rfl | rfl⟩ | ⟨g, cc, rfl, h1, h2, h3⟩
  · rw [List.eq_nil_of_length_eq_zero h0]; exact .nils
  · rw [List.eq_nil_of_length_eq_zero h0]; exact .zs
  have key : ∀ (i : Nat) (x : List AV) (j : Nat) (v : AV), (cs.map Cod.avs)[i]? = some x → x[j]? = some v → ∃ u, cc[0 + i * 3 + j]? = some u ∧ Frz H nx u v := fun i x j v hx hv => by
    rw [List.getElem?_map] at hx
    obtain ⟨c, hc, rfl⟩ := Option.map_eq_some_iff.1 hx
    have hi := (List.getElem?_eq_some_iff.1 hc).1
    have hs : ss[i]? = some (ss[i]'(by rw [h.1]; exact hi)) := List.getElem?_eq_getElem _
    have a := h.2 i c _ hc hs
    obtain ⟨q0, q1, q2⟩ := zaca hc hs
    have hm := List.mem_of_getElem? hs
    have up : ∀ (j : Nat) (u : AV), j < 3 → (crow cs ss)[i * 3 + j]? = some u → cc[0 + i * 3 + j]? = some u := fun j u hj hu => by
      rw [← h2, List.getElem?_take, if_pos (by omega)] at hu; rw [Nat.zero_add]; exact hu
    match j, hv with
    | 0, hv => cases hv; exact ⟨_, up 0 _ (by omega) q0, .same _ (.int _ _)⟩
    | 1, hv => cases hv; exact ⟨_, up 1 _ (by omega) q1, .same _ (.int _ _)⟩
    | 2, hv => cases hv; exact ⟨_, up 2 _ (by omega) q2, Slot.frzN (sz := 3) (xs := c.ins.map Ins.avs) (by simpa [zcr] using a) (fun x hx => ho x (List.mem_flatMap.2 ⟨_, hm, hx⟩)) (fun x hx => by obtain ⟨i, _, rfl⟩ := List.mem_map.1 hx; rfl) (zamt _)⟩
    | j + 3, hv => simp [Cod.avs] at hv
  refine .slc g 0 _ 3 cc _ (hg g (by simp [own])) h1 (by omega) (by simp) (fun x hx => ?_) (fun i j => (cc[0 + i * 3 + j]?).getD .junk) (fun i x j v hx hv => ?_) (fun i x j v hx hv => ?_)
  · obtain ⟨f, _, rfl⟩ := List.mem_map.1 hx; rfl
  · obtain ⟨u, q1, q2⟩ := key i x j v hx hv; rw [q1]; rfl
  · obtain ⟨u, q1, q2⟩ := key i x j v hx hv; rw [q1]; exact q2
set_option maxRecDepth 20000 in
set_option maxHeartbeats 4000000 in
theorem zame {p n m0 : Nat} {st : VM.St} {K : Nat} {W : AV} {H : Heap} {Q : QT} (hpn : p < n) (hnm : n + 1 < m0) (hK : K ≤ 4096) (hb : st.1.length ≤ 4611686018427387904)
    (h1 : H p = some (PRd st)) (h2 : H (n + 1) = some (.row 2 [.nils, W])) (hW : W.cells = [W] ∧ W.one = true ∧ W.sure = true) (hx : ∃ z, H n = some (.row 2 z) ∧ z.length = 2)
    (hq : ∀ H' n' C ss, H' p = some (PRd (VM.rdMany (VM.codOf VM.rdCount) K st).2) → Slot H' 3 K (crow (VM.rdMany (VM.codOf VM.rdCount) K st).1 ss) C → zbu H' (VM.rdMany (VM.codOf VM.rdCount) K st).1 ss → (∀ y ∈ own C, m0 ≤ y) → (∀ y ∈ ownc ss, m0 ≤ y) → (∀ y, y < m0 → y ≠ p → y ≠ n → y ≠ n + 1 → H' y = H y) → Q (.agg [C, W]) H' n') :
    LP (zax Q) [.ptr p 0, .ptr n 0, .ptr (n + 1) 0, .int .i64 K, .int .i64 0] H m0 := by
  refine LP.mk (fun k xs H' n' => ∃ (i : Nat) (C : AV) (ss : List AV), k = K - i ∧ i ≤ K ∧ xs = [.ptr p 0, .ptr n 0, .ptr (n + 1) 0, .int .i64 K, .int .i64 i] ∧ m0 ≤ n' ∧ H' p = some (PRd (VM.rdMany (VM.codOf VM.rdCount) i st).2) ∧ H' (n + 1) = some (.row 2 [C, W]) ∧ Slot H' 3 i (crow (VM.rdMany (VM.codOf VM.rdCount) i st).1 ss) C ∧ zbu H' (VM.rdMany (VM.codOf VM.rdCount) i st).1 ss ∧ (∀ y ∈ own C, m0 ≤ y ∧ y < n') ∧ (∀ y ∈ ownc ss, m0 ≤ y ∧ y < n' ∧ y ∉ own C) ∧ (∀ y, y < m0 → y ≠ p → y ≠ n + 1 → H' y = H y)) K ⟨0, .nils, [], rfl, by omega, rfl, Nat.le_refl _, h1, h2, .inl ⟨rfl, .inl rfl⟩, ⟨rfl, fun k c s hc => by simp [VM.rdMany] at hc⟩, by simp [own], by simp [ownc], fun _ _ _ _ => rfl⟩ ?_
  rintro k xs H' n' ⟨i, C, ss, rfl, hik, rfl, hn, hp, hr, sl, cm, ow, oc, kp⟩
  have sm := VM.short_many (VM.short_cod VM.counts_rd) i st
  by_cases hlt : i < K
  · suffices key : ∀ K33 : J3, (∀ H' n' C ss, i + 1 ≤ K → m0 ≤ n' → H' p = some (PRd (VM.rdMany (VM.codOf VM.rdCount) (i + 1) st).2) → H' (n + 1) = some (.row 2 [C, W]) → Slot H' 3 (i + 1) (crow (VM.rdMany (VM.codOf VM.rdCount) (i + 1) st).1 ss) C → zbu H' (VM.rdMany (VM.codOf VM.rdCount) (i + 1) st).1 ss → (∀ y ∈ own C, m0 ≤ y ∧ y < n') → (∀ y ∈ ownc ss, m0 ≤ y ∧ y < n' ∧ y ∉ own C) → (∀ y, y < m0 → y ≠ p → y ≠ n + 1 → H' y = H y) → K33 [.ptr p 0, .ptr n 0, .ptr (n + 1) 0, .int .i64 K, .int .i64 (i + 1 : Nat)] H' n') →
        zax Q K33 [.ptr p 0, .ptr n 0, .ptr (n + 1) 0, .int .i64 K, .int .i64 i] H' n' from
      key _ fun H' n' C ss g1 g2 g3 g4 g5 g6 g7 g8 g9 => ⟨K - (i + 1), by omega, i + 1, C, ss, rfl, g1, rfl, g2, g3, g4, g5, g6, g7, g8, g9⟩
    intro K33 hK33
    have hadd : IntKind.i64.wrap ((i : Int) + 1) = ((i + 1 : Nat) : Int) := by rw [i64w (by omega)]; rfl
    have ll := VM.rdMany_len (VM.codOf VM.rdCount) i st
    have er : VM.rdMany (VM.codOf VM.rdCount) (i + 1) st = ((VM.rdMany (VM.codOf VM.rdCount) i st).1 ++ [(VM.codOf VM.rdCount (VM.rdMany (VM.codOf VM.rdCount) i st).2).1], (VM.codOf VM.rdCount (VM.rdMany (VM.codOf VM.rdCount) i st).2).2) := rfl
    rw [er] at hK33
    generalize VM.rdMany (VM.codOf VM.rdCount) i st = q at *
    have a1 := VM.short_num q.2
    have a2 := VM.short_num (VM.rdNum q.2).2
    have a3 := VM.short_count 200 (VM.rdNum (VM.rdNum q.2).2).2
    have rg := VM.rdCount_range (most := 200) (by omega) (VM.rdNum (VM.rdNum q.2).2).2
    have hi : VM.codOf VM.rdCount q.2 = (⟨(VM.rdNum q.2).1, (VM.rdNum (VM.rdNum q.2).2).1, (VM.rdMany VM.insOf (VM.rdCount 200 (VM.rdNum (VM.rdNum q.2).2).2).1.toNat (VM.rdCount 200 (VM.rdNum (VM.rdNum q.2).2).2).2).1⟩, (VM.rdMany VM.insOf (VM.rdCount 200 (VM.rdNum (VM.rdNum q.2).2).2).1.toNat (VM.rdCount 200 (VM.rdNum (VM.rdNum q.2).2).2).2).2) := rfl
    rw [hi] at hK33
    simp [zax, hlt]
    refine zcf hp (by omega) ?_
    generalize VM.rdNum q.2 = v1 at *
    simp [zhk]
    refine zcf (Heap.put_at _ _ _) (by omega) ?_
    generalize VM.rdNum v1.2 = v2 at *
    rw [put_put]
    simp [zhl]
    refine zjo (st := v2.2) (by rw [Heap.put_ne _ _ (by omega), Heap.put_at]) (by omega) ?_
    generalize VM.rdCount 200 v2.2 = v3 at *
    obtain ⟨N, hN⟩ := Int.eq_ofNat_of_zero_le rg.1
    rw [hN] at hK33 ⊢
    simp only [Int.toNat_natCast] at hK33
    simp only [zhm]
    generalize hX : Heap.put _ p _ = X
    have y1 : X p = some (PRd v3.2) := by rw [← hX, Heap.put_at]
    have y2 : X n' = some (.row 3 [.int .i64 v1.1, .int .i64 v2.1, .nils]) := by rw [← hX, Heap.put_ne _ _ (by omega), Heap.put_at]
    have yk : ∀ y, y < n' → y ≠ p → X y = H' y := fun y e1 e2 => by rw [← hX, Heap.put_ne _ _ e2, Heap.put_ne _ _ (by omega), Heap.put_ne _ _ e2]
    clear hX
    have l3 := VM.rdMany_len VM.insOf N v3.2
    refine zamf (r := n') (st := v3.2) (by omega) (by omega) (by omega) (by omega) y1 y2 fun K50 H5 n5 I g1 g2 g3 g4 g5 g6 => ?_
    generalize VM.rdMany VM.insOf N v3.2 = u at *
    have r5 : H5 (n + 1) = some (.row 2 [C, W]) := by rw [g6 (n + 1) (by omega) (by omega) (by omega), yk (n + 1) (by omega) (by omega)]; exact hr
    have oI := g4.one
    simp [zay, r5, g3]
    have rc : (crow q.1 ss).length = i * 3 := by rw [zaaa cm.1, ll]
    have s1 : Slot (H5.put n5 (some (.row 3 [.int .i64 v1.1, .int .i64 v2.1, I]))) 3 i (crow q.1 ss) C := sl.keep fun y hy => by
      have := ow y hy
      rw [Heap.put_ne _ _ (by omega), g6 y (by omega) (by omega) (by omega), yk y (by omega) (by omega)]
    refine s1.app (new := [.int .i64 v1.1, .int .i64 v2.1, I]) rc (Heap.put_at _ _ _) rfl (by simp [oI.2.1]) (by omega) fun H6 q1 q2 => ?_
    have old : ∀ y, y < n' → y ≠ p → y ∉ own C → H6 y = H' y := fun y e1 e2 e3 => by
      rw [q2 y e3 (by omega), Heap.put_ne _ _ (by omega), g6 y (by omega) e2 (by omega), yk y e1 e2]
    have r6 : H6 (n + 1) = some (.row 2 [C, W]) := by rw [old (n + 1) (by omega) (by omega) fun h => (by have := ow _ h; omega)]; exact hr
    rw [r6, rowk]
    simp [hadd]
    have e1 : crow (q.1 ++ [⟨v1.1, v2.1, u.1⟩]) (ss ++ [I]) = crow q.1 ss ++ [.int .i64 v1.1, .int .i64 v2.1, I] := zxt cm.1
    refine hK33 _ _ _ (ss ++ [I]) (by omega) (by omega) ?_ (Heap.put_at _ _ _) ?_ (zbu.snoc (cm.keep fun y hy => ?_) ?_) (fun y hy => ?_) (fun y hy => ?_) fun y e2 e3 e4 => ?_
    · rw [Heap.put_ne _ _ (by omega), q2 p (fun h => by have := ow _ h; omega) (by omega), Heap.put_ne _ _ (by omega)]; exact g2
    · rw [e1]
      refine Slot.full ?_ (by simp [rc]; omega)
      rw [Heap.put_ne _ _ (by omega)]; exact q1
    · have := oc y hy
      rw [Heap.put_ne _ _ (by omega)]
      exact old y this.2.1 (by omega) this.2.2
    · show Slot _ 3 u.1.length (zcr u.1) I
      rw [l3]
      refine g4.keep fun y hy => ?_
      have := g5 y hy
      rw [Heap.put_ne _ _ (by omega), q2 y (fun h => by have := ow _ h; omega) (by omega), Heap.put_ne _ _ (by omega)]
    · have e : y = n5 + 1 := by simpa [own] using hy
      omega
    · rw [zacr] at hy
      rcases List.mem_append.1 hy with hy | hy
      · have := oc y hy
        exact ⟨this.1, by omega, by simp [own]; omega⟩
      · have := g5 y hy
        exact ⟨by omega, by omega, by simp [own]; omega⟩
    · rw [Heap.put_ne _ _ e4, old y (by omega) e3 fun h => (by have := ow _ h; omega)]
      exact kp y e2 e3 e4
  · obtain rfl : i = K := by omega
    obtain ⟨z, z1, z2⟩ := hx
    have hz : H' n = some (.row 2 z) := (kp n (by omega) (by omega) (by omega)).trans z1
    have oc1 := sl.one
    simp [zax, hr, hz, z2]
    refine ⟨⟨oc1.2.1, hW.2.1⟩, hq _ _ C ss ?_ (sl.keep fun y hy => Heap.put_ne _ _ (by have := ow y hy; omega)) (cm.keep fun y hy => Heap.put_ne _ _ (by have := oc y hy; omega)) (fun y hy => (ow y hy).1) (fun y hy => (oc y hy).1) fun y e1 e2 e3 e4 => ?_⟩
    · rw [Heap.put_ne _ _ (by omega)]; exact hp
    · rw [Heap.put_ne _ _ e3]; exact kp y e1 e2 e4
theorem zacp (l : List Str) : (l.map fun w => [AV.str w]).flatten = rowW l := by
  induction l with
  | nil => rfl
  | cons c r ih => simp [rowW] at ih ⊢; exact ih
set_option maxRecDepth 20000 in
set_option maxHeartbeats 2000000 in
theorem zaga {p n : Nat} {st : VM.St} {H : Heap} {Q : QT} (hg : H p = some (PRd st)) (hb : st.1.length ≤ 4611686018427387904) (hq : Q (.agg (VM.prgOf VM.rdCount st).1.avs) (H.put p (some (PRd (VM.prgOf VM.rdCount st).2))) n) : za Try.prog 26 [.ptr p 0] H n Q := by
  refine za.rd hg (fun hpn => ?_) hq
  refine znf _ H n _ ?_
  have sc := VM.short_count 16 st
  have rg := VM.rdCount_range (most := 16) (by omega) st
  simp [zhi]
  refine zjo (st := st) (by rw [Heap.put_ne _ _ (by omega), Heap.put_ne _ _ (by omega)]; exact hg) hb ?_
  unfold VM.prgOf VM.listOf
  generalize VM.rdCount 16 st = c at *
  obtain ⟨N, hN⟩ := Int.eq_ofNat_of_zero_le rg.1
  rw [hN]
  simp only [Int.toNat_natCast, zhj]
  generalize hX : Heap.put _ p _ = X
  have y1 : X p = some (PRd c.2) := by rw [← hX, Heap.put_at]
  have y2 : X (n + 1) = some (.row 2 [.nils, .nils]) := by rw [← hX, Heap.put_ne _ _ (by omega), Heap.put_at]
  have y3 : X n = some (.row 2 [.nils, .nils]) := by rw [← hX, Heap.put_ne _ _ (by omega), Heap.put_ne _ _ (by omega), Heap.put_at]
  have yk : ∀ y, y < n → y ≠ p → X y = H y := fun y e1 e2 => by rw [← hX, Heap.put_ne _ _ e2, Heap.put_ne _ _ (by omega), Heap.put_ne _ _ (by omega)]
  clear hX
  have sw := VM.short_many (VM.short_text 12) N c.2
  have lw := VM.rdMany_len (VM.rdText 12) N c.2
  refine zamd hpn (by omega) (by omega) y1 y2 ⟨_, y3, rfl⟩ fun H1 n1 W g0 g1 g2 g3 g4 g5 g6 => ?_
  generalize VM.rdMany (VM.rdText 12) N c.2 = u at *
  have sc2 := VM.short_count 5 u.2
  have rg2 := VM.rdCount_range (most := 5) (by omega) u.2
  refine zjo g1 (by omega) ?_
  generalize VM.rdCount 5 u.2 = d at *
  obtain ⟨K, hK⟩ := Int.eq_ofNat_of_zero_le rg2.1
  rw [hK]
  simp only [Int.toNat_natCast, zdr]
  have lk := VM.rdMany_len (VM.codOf VM.rdCount) K d.2
  obtain ⟨z, z1, z2⟩ := g5
  refine zame (m0 := n1) (st := d.2) hpn (by omega) (by omega) (by omega) (Heap.put_at _ _ _) (by rw [Heap.put_ne _ _ (by omega)]; exact g2) g3.one ⟨z, by rw [Heap.put_ne _ _ (by omega)]; exact z1, z2⟩ fun H2 n2 C ss k1 k2 k3 k4 k5 k6 => ?_
  generalize VM.rdMany (VM.codOf VM.rdCount) K d.2 = e at *
  subst lk
  refine ⟨?_, k1, fun y h1 h2 => ?_⟩
  · have fC := k3.frz k2 (nx := n) (fun y hy => by have := k4 y hy; omega) (fun y hy => by have := k5 y hy; omega)
    have fW : Frz H2 n W (.ro (u.1.map fun w => [AV.str w])) := by
      refine Slot.frzN (sz := 1) (xs := u.1.map fun w => [AV.str w]) ?_ (fun y hy => by have := g4 y hy; omega) (fun x hx => by obtain ⟨w, _, rfl⟩ := List.mem_map.1 hx; rfl) (zwy _)
      rw [zacp, List.length_map, lw]
      exact g3.keep fun y hy => by
        have := g4 y hy
        rw [k6 y (by omega) (by omega) (by omega) (by omega), Heap.put_ne _ _ (by omega)]
    refine .agg _ _ rfl fun j v w hv hw => ?_
    match j with
    | 0 => cases hv; cases hw; exact fC
    | 1 => cases hv; cases hw; exact fW
    | j + 2 => simp at hv
  · rw [k6 y (by omega) h2 (by omega) (by omega), Heap.put_ne _ _ h2, g6 y h1 h2]
    exact yk y h1 h2
end Go.Proofs.Ytpbnaaoilgohkaa
set_option maxRecDepth 8000
namespace Go.Proofs.Ytpbnaaoilgohkaa
open Go Go.RowKit
def zkx (l : List Frm) : List AV := (l.map Frm.avs).flatten
theorem zacq (l : List Frm) : (zkx l).length = l.length * 4 := by
  unfold zkx
  induction l with
  | nil => rfl
  | cons x r ih => rw [List.map_cons, List.flatten_cons, List.length_append, ih, List.length_cons]; simp [Frm.avs]; omega
theorem zaic (l : List Frm) (x : Frm) : zkx (l ++ [x]) = zkx l ++ x.avs := by simp [zkx]
set_option maxRecDepth 20000 in
set_option maxHeartbeats 4000000 in
theorem zamh {a0 : AV} {z p g n : Nat} {st : VM.St} {K : Nat} {v0 v1 v2 v3 v6 v7 v8 : AV} {H : Heap} {Q : QT} (hpg : p < g) (hgn : g < n) (hK : K ≤ 4096) (hb : st.1.length ≤ 4611686018427387904)
    (h1 : H p = some (PRd st)) (h2 : H g = some (.row 9 [v0, v1, v2, v3, .nils, .nils, v6, v7, v8]))
    (hq : ∀ H' n' F, n ≤ n' → H' p = some (PRd (VM.rdMany (VM.frmOf VM.rdCount) K st).2) → H' g = some (.row 9 [v0, v1, v2, v3, F, .nils, v6, v7, v8]) → Slot H' 4 K (zkx (VM.rdMany (VM.frmOf VM.rdCount) K st).1) F → (∀ y ∈ own F, n ≤ y ∧ y < n') → (∀ y, y < n → y ≠ p → y ≠ g → H' y = H y) →
      za Try.prog 27 [.ptr p 0, .int .i64 60] H' n' (zlb Q [a0, .ptr z 0, .ptr p 0, .ptr g 0, .int .i64 K, .int .i64 K])) :
    LP (zgx Q) [a0, .ptr z 0, .ptr p 0, .ptr g 0, .int .i64 K, .int .i64 0] H n := by
  refine LP.mk (fun k xs H' n' => ∃ (i : Nat) (F : AV), k = K - i ∧ i ≤ K ∧ xs = [a0, .ptr z 0, .ptr p 0, .ptr g 0, .int .i64 K, .int .i64 i] ∧ n ≤ n' ∧ H' p = some (PRd (VM.rdMany (VM.frmOf VM.rdCount) i st).2) ∧ H' g = some (.row 9 [v0, v1, v2, v3, F, .nils, v6, v7, v8]) ∧ Slot H' 4 i (zkx (VM.rdMany (VM.frmOf VM.rdCount) i st).1) F ∧ (∀ y ∈ own F, n ≤ y ∧ y < n') ∧ (∀ y, y < n → y ≠ p → y ≠ g → H' y = H y)) K ⟨0, .nils, rfl, by omega, rfl, Nat.le_refl _, h1, h2, .inl ⟨rfl, .inl rfl⟩, by simp [own], fun _ _ _ _ => rfl⟩ ?_
  rintro k xs H' n' ⟨i, F, rfl, hik, rfl, hn, hp, hr, sl, ow, kp⟩
  have sm := VM.short_many (VM.short_frm VM.counts_rd) i st
  by_cases hlt : i < K
  · have hadd : IntKind.i64.wrap ((i : Int) + 1) = ((i + 1 : Nat) : Int) := by rw [i64w (by omega)]; rfl
    have ll := VM.rdMany_len (VM.frmOf VM.rdCount) i st
    have er : VM.rdMany (VM.frmOf VM.rdCount) (i + 1) st = ((VM.rdMany (VM.frmOf VM.rdCount) i st).1 ++ [(VM.frmOf VM.rdCount (VM.rdMany (VM.frmOf VM.rdCount) i st).2).1], (VM.frmOf VM.rdCount (VM.rdMany (VM.frmOf VM.rdCount) i st).2).2) := rfl
    generalize VM.rdMany (VM.frmOf VM.rdCount) i st = q at *
    have a1 := VM.short_num q.2
    have a2 := VM.short_num (VM.rdNum q.2).2
    have a3 := VM.short_vals 8 (VM.rdNum (VM.rdNum q.2).2).2
    have hi : VM.frmOf VM.rdCount q.2 = (⟨(VM.rdNum q.2).1, (VM.rdNum (VM.rdNum q.2).2).1, (VM.rdVals 8 (VM.rdNum (VM.rdNum q.2).2).2).1, (VM.rdVals 16 (VM.rdVals 8 (VM.rdNum (VM.rdNum q.2).2).2).2).1⟩, (VM.rdVals 16 (VM.rdVals 8 (VM.rdNum (VM.rdNum q.2).2).2).2).2) := rfl
    rw [hi] at er
    simp [zgx, hlt]
    refine zcf hp (by omega) ?_
    generalize VM.rdNum q.2 = w1 at *
    simp [ztq]
    refine zcf (Heap.put_at _ _ _) (by omega) ?_
    generalize VM.rdNum w1.2 = w2 at *
    rw [put_put]
    simp [ztr]
    refine zaar (st := w2.2) (by omega) (by rw [Heap.put_ne _ _ (by omega), Heap.put_at]) (by omega) ?_
    generalize VM.rdVals 8 w2.2 = w3 at *
    have pn : ¬ n' = p := by omega
    simp [zts, pn]
    refine zaar (st := w3.2) (by omega) (by rw [Heap.put_ne _ _ (by omega), Heap.put_at]) (by omega) ?_
    generalize VM.rdVals 16 w3.2 = w4 at *
    generalize hX : Heap.put _ p (some (PRd w4.2)) = X
    have y1 : X p = some (PRd w4.2) := by rw [← hX, Heap.put_at]
    have y2 : X n' = some (.row 4 [.int .i64 w1.1, .int .i64 w2.1, .ro (w3.1.map Val.avs), .nils]) := by rw [← hX, Heap.put_ne _ _ (by omega), Heap.put_at]
    have yk : ∀ y, y < n' → y ≠ p → X y = H' y := fun y e1 e2 => by rw [← hX, Heap.put_ne _ _ e2, Heap.put_ne _ _ (by omega), Heap.put_ne _ _ e2, Heap.put_ne _ _ (by omega), Heap.put_ne _ _ e2]
    clear hX
    have yg : X g = some (.row 9 [v0, v1, v2, v3, F, .nils, v6, v7, v8]) := by rw [yk g (by omega) (by omega)]; exact hr
    have gn : ¬ n' = g := by omega
    have gn' : ¬ g = n' := by omega
    simp [ztt, y2, yg, gn, gn']
    generalize hY : Heap.put _ (n' + 1) _ = Y
    have s1 : Slot Y 4 i (zkx q.1) F := sl.keep fun y hy => by
      have := ow y hy
      rw [← hY, Heap.put_ne _ _ (by omega), Heap.put_ne _ _ (by omega), yk y (by omega) (by omega)]
    have t1 : Y (n' + 1) = some (.row 4 (Frm.mk w1.1 w2.1 w3.1 w4.1).avs) := by rw [← hY, Heap.put_at]; rfl
    have t2 : Y p = some (PRd w4.2) := by rw [← hY, Heap.put_ne _ _ (by omega), Heap.put_ne _ _ (by omega)]; exact y1
    have t3 : ∀ y, y < n' → y ≠ p → Y y = H' y := fun y e1 e2 => by rw [← hY, Heap.put_ne _ _ (by omega), Heap.put_ne _ _ (by omega)]; exact yk y e1 e2
    clear hY
    refine s1.app (new := (Frm.mk w1.1 w2.1 w3.1 w4.1).avs) (by rw [zacq]; omega) t1 rfl (by simp [Frm.avs]) (by omega) fun H6 q1 q2 => ?_
    have r6 : H6 g = some (.row 9 [v0, v1, v2, v3, F, .nils, v6, v7, v8]) := by
      rw [q2 g (fun h => by have := ow _ h; omega) (by omega), t3 g (by omega) (by omega)]; exact hr
    rw [r6, rowk]
    simp [hadd]
    have pg : ¬ p = g := by omega
    refine ⟨K - (i + 1), by omega, i + 1, rfl, by omega, by omega, by omega, ?_, ?_, fun y hy => ?_, fun y h3 h4 h5 => ?_⟩
    · rw [if_neg pg, er, q2 p (fun h => by have := ow _ h; omega) (by omega)]; exact t2
    · rw [er, zaic]
      refine Slot.full ?_ (by simp [zacq, Frm.avs, ll]; omega)
      rw [Heap.put_ne _ _ (by omega)]; exact q1
    · have e : y = n' + 1 + 1 := by simpa [own] using hy
      omega
    · rw [if_neg h5, q2 y (fun h => by have := ow _ h; omega) (by omega), t3 y (by omega) h4]
      exact kp y h3 h4 h5
  · obtain rfl : i = K := by omega
    simp [zgx]
    exact hq _ _ _ hn hp hr sl ow kp
def zgi (l : List Cl) : List AV := (l.map Cl.avs).flatten
theorem zrv (l : List Cl) : (zgi l).length = l.length * 6 := by
  unfold zgi
  induction l with
  | nil => rfl
  | cons x r ih => rw [List.map_cons, List.flatten_cons, List.length_append, ih, List.length_cons]; simp [Cl.avs, Val.avs]; omega
theorem zaat (l : List Cl) (x : Cl) : zgi (l ++ [x]) = zgi l ++ x.avs := by simp [zgi]
set_option maxRecDepth 20000 in
set_option maxHeartbeats 4000000 in
theorem zami {a0 : AV} {z p g n : Nat} {st : VM.St} {K : Nat} {v0 v1 v2 v3 v4 v6 v7 v8 : AV} {H : Heap} {Q : QT} (hpg : p < g) (hgn : g < n) (hK : K ≤ 4096) (hb : st.1.length ≤ 4611686018427387904)
    (h1 : H p = some (PRd st)) (h2 : H g = some (.row 9 [v0, v1, v2, v3, v4, .nils, v6, v7, v8]))
    (hq : ∀ H' n' F, n ≤ n' → H' p = some (PRd (VM.rdMany VM.clOf K st).2) → H' g = some (.row 9 [v0, v1, v2, v3, v4, F, v6, v7, v8]) → Slot H' 6 K (zgi (VM.rdMany VM.clOf K st).1) F → (∀ y ∈ own F, n ≤ y ∧ y < n') → (∀ y, y < n → y ≠ p → y ≠ g → H' y = H y) →
      za Try.prog 25 [.ptr p 0] H' n' (zec Q [a0, .ptr z 0, .ptr p 0, .ptr g 0, .int .i64 K, .int .i64 K])) :
    LP (zgy Q) [a0, .ptr z 0, .ptr p 0, .ptr g 0, .int .i64 K, .int .i64 0] H n := by
  refine LP.mk (fun k xs H' n' => ∃ (i : Nat) (F : AV), k = K - i ∧ i ≤ K ∧ xs = [a0, .ptr z 0, .ptr p 0, .ptr g 0, .int .i64 K, .int .i64 i] ∧ n ≤ n' ∧ H' p = some (PRd (VM.rdMany VM.clOf i st).2) ∧ H' g = some (.row 9 [v0, v1, v2, v3, v4, F, v6, v7, v8]) ∧ Slot H' 6 i (zgi (VM.rdMany VM.clOf i st).1) F ∧ (∀ y ∈ own F, n ≤ y ∧ y < n') ∧ (∀ y, y < n → y ≠ p → y ≠ g → H' y = H y)) K ⟨0, .nils, rfl, by omega, rfl, Nat.le_refl _, h1, h2, .inl ⟨rfl, .inl rfl⟩, by simp [own], fun _ _ _ _ => rfl⟩ ?_
  rintro k xs H' n' ⟨i, F, rfl, hik, rfl, hn, hp, hr, sl, ow, kp⟩
  have sm := VM.short_many VM.short_cl i st
  by_cases hlt : i < K
  · have hadd : IntKind.i64.wrap ((i : Int) + 1) = ((i + 1 : Nat) : Int) := by rw [i64w (by omega)]; rfl
    have ll := VM.rdMany_len VM.clOf i st
    have er : VM.rdMany VM.clOf (i + 1) st = ((VM.rdMany VM.clOf i st).1 ++ [(VM.clOf (VM.rdMany VM.clOf i st).2).1], (VM.clOf (VM.rdMany VM.clOf i st).2).2) := rfl
    generalize VM.rdMany VM.clOf i st = q at *
    have a1 := VM.short_val q.2
    have hi : VM.clOf q.2 = (⟨(VM.rdVal q.2).1, (VM.rdVal (VM.rdVal q.2).2).1⟩, (VM.rdVal (VM.rdVal q.2).2).2) := rfl
    rw [hi] at er
    simp [zgy, hlt]
    refine zxa hp (by omega) ?_
    generalize VM.rdVal q.2 = w1 at *
    have gn : ¬ n' = g ∧ ¬ g = n' ∧ ¬ g = p ∧ ¬ p = g ∧ ¬ n' = p := by omega
    simp [zto, Val.avs, hr, gn]
    refine zj.rd (st := w1.2) (by rw [Heap.put_ne _ _ (by omega), Heap.put_at]) (fun A => zmq _) (fun Hx nx Qx g1 g2 => zxa g1 (by omega) g2) ?_
    generalize VM.rdVal w1.2 = w2 at *
    simp [ztp, Val.avs]
    generalize hY : Heap.put _ (n' + 1) _ = Y
    have t1 : Y (n' + 1) = some (.row 6 (Cl.mk w1.1 w2.1).avs) := by rw [← hY, Heap.put_at]; rfl
    have t2 : Y p = some (PRd w2.2) := by rw [← hY, Heap.put_ne _ _ (by omega), Heap.put_at]
    have t3 : ∀ y, y < n' → y ≠ p → Y y = H' y := fun y e1 e2 => by rw [← hY, Heap.put_ne _ _ (by omega), Heap.put_ne _ _ e2, Heap.put_ne _ _ (by omega), Heap.put_ne _ _ e2]
    clear hY
    have s1 : Slot Y 6 i (zgi q.1) F := sl.keep fun y hy => by
      have := ow y hy
      rw [t3 y (by omega) (by omega)]
    refine s1.append (new := (Cl.mk w1.1 w2.1).avs) (by rw [zrv]; omega) t1 rfl (by simp [Cl.avs, Val.avs]) (by omega) fun rd D q1 q2 q3 => ?_
    have r6 : (Y.apply D) g = some (.row 9 [v0, v1, v2, v3, v4, F, v6, v7, v8]) := by
      rw [q3 g (fun h => by have := ow _ h; omega) (by omega), t3 g (by omega) (by omega)]; exact hr
    have rp : (Y.apply D) p = some (PRd w2.2) := by rw [q3 p (fun h => by have := ow _ h; omega) (by omega)]; exact t2
    have rk : ∀ y, y < n → y ≠ p → (Y.apply D) y = H' y := fun y e1 e2 => by
      rw [q3 y (fun h => by have := ow _ h; omega) (by omega), t3 y (by omega) e2]
    rw [r6, rowk]
    simp [hadd]
    generalize Y.apply D = Z at *
    have pg : ¬ p = g := by omega
    refine ⟨fun h => absurd h pg, by omega, by omega, K - (i + 1), by omega, i + 1, rfl, by omega, by omega, by omega, ?_, ?_, fun y hy => ?_, fun y h3 h4 h5 => ?_⟩
    · rw [if_neg pg, er]; exact rp
    · rw [er, zaat]
      refine Slot.full ?_ (by simp [zrv, Cl.avs, Val.avs, ll]; omega)
      rw [Heap.put_ne _ _ (by omega)]; exact q2
    · have e : y = n' + 1 + 1 := by simpa [own] using hy
      omega
    · rw [if_neg h5, rk y h3 h4]
      exact kp y h3 h4 h5
  · obtain rfl : i = K := by omega
    simp [zgy]
    exact hq _ _ _ hn hp hr sl ow kp
end Go.Proofs.Ytpbnaaoilgohkaa
set_option maxRecDepth 8000
namespace Go.Proofs.Ytpbnaaoilgohkaa
open Go Go.RowKit
theorem zuj {b : Str} {i : Nat} (h : i < (bsR b).length) : (bsR b)[i] = [.int .u8 ((b[i]'(by rw [zad] at h; exact h)).toNat : Int)] := by simp [bsR]
def lowv (b : Str) : Nat → Nat
  | 0 => 0
  | j + 1 => lowv b j + (b.getD j 0).toNat % 128 * 2 ^ (7 * j)
theorem zahf (b : Str) : ∀ j, lowv b j < 2 ^ (7 * j)
  | 0 => by simp [lowv]
  | j + 1 => zvs j _ _ (zahf b j)
theorem zaob {A : Nat → Prop} (a b c : Int) : Bel A (.tup [.int .i64 a, .int .i64 b, .int .i64 c]) := .tup _ fun j v hv => by
  match j, hv with
  | 0, hv => cases hv; exact .int _ _
  | 1, hv => cases hv; exact .int _ _
  | 2, hv => cases hv; exact .int _ _
  | j + 3, hv => simp at hv
set_option maxRecDepth 20000 in
set_option maxHeartbeats 2000000 in
theorem zajw {b : Str} {k : Nat} {H H0 : Heap} {n nx : Nat} {Q : AV → Heap → Nat → Prop} (hk : k < b.length) (h9 : k ≤ 9) (hs : lowv b (k + 1) < 18446744073709551616) (keep : Keep nx H H0)
    (hQ : ∀ H' n', Keep nx H' H0 → Q (.tup [.int .i64 (WM.zag (lowv b (k + 1))), .int .i64 ((k : Int) + 1), .int .i64 0]) H' n') : LP (zdh Q) [.ro (bsR b), .int .i64 k, .int .u64 0, .int .i64 k] H n := by
  generalize hT : lowv b (k + 1) = T at *
  refine LP.mk (fun m xs H' n' => ∃ (u : Nat), m ≤ k + 1 ∧ xs = [.ro (bsR b), .int .i64 k, .int .u64 u, .int .i64 ((m : Int) - 1)] ∧ u * 2 ^ (7 * m) + lowv b m = T ∧ Keep nx H' H0) (k + 1) ⟨0, Nat.le_refl _, by simp, by simpa using hT, keep⟩ ?_
  rintro m xs H' n' ⟨u, hm, rfl, hu, hk'⟩
  cases m with
  | zero =>
    simp only [lowv, Nat.mul_zero, Nat.pow_zero, Nat.mul_one, Nat.add_zero] at hu
    have fin := hQ H' n' hk'
    subst hu
    have hadd : IntKind.i64.wrap ((k : Int) + 1) = (k : Int) + 1 := i64w (by omega)
    have t2 : ((u : Nat) : Int).tmod 2 = (u : Int) % 2 := by rw [Int.tmod_eq_emod_of_nonneg (by omega)]
    have d2 : ((u : Nat) : Int).tdiv 2 = (u : Int) / 2 := by rw [Int.tdiv_eq_ediv_of_nonneg (by omega)]
    have w2 : IntKind.u64.wrap ((u : Int) / 2) = (u : Int) / 2 := by rw [IntKind.wrap_u64]; omega
    have w3 : IntKind.i64.wrap ((u : Int) / 2) = (u : Int) / 2 := i64w (by omega)
    by_cases hodd : u % 2 = 1
    · have o : (u : Int) % 2 = 1 := by omega
      have e : WM.zag u = -((u : Int) / 2) - 1 := by unfold WM.zag; rw [if_pos hodd]; omega
      have w4 : IntKind.i64.wrap (-((u : Int) / 2)) = -((u : Int) / 2) := i64w (by omega)
      have w5 : IntKind.i64.wrap (-((u : Int) / 2) - 1) = -((u : Int) / 2) - 1 := i64w (by omega)
      rw [e] at fin
      simp [zdh, t2, d2, w2, w3, w4, w5, o, hadd]
      exact fin
    · have o : ¬ (u : Int) % 2 = 1 := by omega
      have e : WM.zag u = (u : Int) / 2 := by unfold WM.zag; rw [if_neg hodd]; omega
      rw [e] at fin
      simp [zdh, t2, d2, w2, w3, o, hadd]
      exact fin
  | succ m =>
    have hlt : m < b.length := by omega
    have hcell := zafj hlt
    have hin : m < (bsR b).length := by rw [zad]; exact hlt
    have eg : b.getD m 0 = b[m] := by rw [List.getD_eq_getElem?_getD, List.getElem?_eq_getElem hlt]; rfl
    have hc := b[m].toNat_lt
    simp only [lowv, eg] at hu
    generalize b[m] = c at *
    have e7 : (2 : Nat) ^ (7 * (m + 1)) = 128 * 2 ^ (7 * m) := by rw [show 7 * (m + 1) = 7 + 7 * m by omega, Nat.pow_add]
    have hu2 : (u * 128 + c.toNat % 128) * 2 ^ (7 * m) + lowv b m = T := by
      rw [← hu, e7, Nat.add_mul, Nat.mul_assoc]; omega
    have hub : u * 128 + c.toNat % 128 ≤ T := by
      rw [← hu2]
      have : u * 128 + c.toNat % 128 ≤ (u * 128 + c.toNat % 128) * 2 ^ (7 * m) := Nat.le_mul_of_pos_right _ (Nat.pow_pos (by omega))
      omega
    have m1 : ((m + 1 : Nat) : Int) - 1 = m := by omega
    have wm : IntKind.i64.wrap ((m : Int) - 1) = (m : Int) - 1 := i64w (by omega)
    have t1 : ((c.toNat : Nat) : Int).tmod 128 = (c.toNat : Int) % 128 := by rw [Int.tmod_eq_emod_of_nonneg (by omega)]
    have w1 : IntKind.u64.wrap ((u : Int) * 128) = (u : Int) * 128 := by rw [IntKind.wrap_u64]; omega
    have w2 : IntKind.u64.wrap ((c.toNat : Int) % 128) = (c.toNat : Int) % 128 := by rw [IntKind.wrap_u64]; omega
    have w3 : IntKind.u64.wrap ((u : Int) * 128 + (c.toNat : Int) % 128) = ((u * 128 + c.toNat % 128 : Nat) : Int) := by rw [IntKind.wrap_u64]; omega
    rw [m1]
    simp [zdh, hcell, t1, w1, w2, w3, wm]
    exact ⟨hin, m, by omega, by omega, u * 128 + c.toNat % 128, ⟨by omega, rfl⟩, hu2, hk'⟩
theorem bel3 {n nx : Nat} {a b c : Int} {H' H : Heap} (h : Keep nx H' H) : Frz H' n (.tup [.int .i64 a, .int .i64 b, .int .i64 c]) (.tup [.int .i64 a, .int .i64 b, .int .i64 c]) ∧ Keep nx H' H := ⟨.same _ (zaob a b c), h⟩
set_option maxRecDepth 20000 in
set_option maxHeartbeats 4000000 in
theorem zaau (b : Str) (hb : b.length ≤ 4611686018427387904) : QC Try.prog 52 [.ro (bsR b)] (.tup [.int .i64 (WM.getNum b).1, .int .i64 (WM.getNum b).2.1, .int .i64 (WM.getNum b).2.2]) := by
  refine QC.of' fun H nx => ?_
  suffices main : ∀ Q : AV → Heap → Nat → Prop, (∀ H' n', Keep nx H' H → Q (.tup [.int .i64 (WM.getNum b).1, .int .i64 (WM.getNum b).2.1, .int .i64 (WM.getNum b).2.2]) H' n') → za Try.prog 52 [.ro (bsR b)] H nx Q from
    main _ fun H' n' h => bel3 h
  intro Q hQ
  refine zwd _ H nx _ ?_
  simp [zpb]
  refine LP.mk (fun k xs H' n' => ∃ i : Nat, k = b.length - i ∧ i ≤ b.length ∧ i ≤ 9 ∧ xs = [.ro (bsR b), .int .i64 i] ∧ WM.getFrom i (lowv b i) (b.drop i) = WM.getNum b ∧ Keep nx H' H) b.length ⟨0, rfl, by omega, by omega, rfl, rfl, fun _ _ => rfl⟩ ?_
  rintro k xs H' n' ⟨i, rfl, hil, hi9, rfl, hf, hk⟩
  suffices key : ∀ K : J3, (i + 1 ≤ b.length → i + 1 ≤ 9 → WM.getFrom (i + 1) (lowv b (i + 1)) (b.drop (i + 1)) = WM.getNum b → K [.ro (bsR b), .int .i64 (i + 1 : Nat)] H' n') →
      zji Q K [.ro (bsR b), .int .i64 i] H' n' from
    key _ fun h1 h2 h4 => ⟨b.length - (i + 1), by omega, i + 1, rfl, h1, h2, rfl, h4, hk⟩
  intro K hK
  have fin := hQ H' n' hk
  rw [← hf] at fin
  have hadd : IntKind.i64.wrap ((i : Int) + 1) = ((i + 1 : Nat) : Int) := by rw [i64w (by omega)]; rfl
  have i10 : (i : Int) < 10 := by omega
  have n10 : ¬ (i : Int) = 10 := by omega
  have hlw := zahf b i
  unfold zji
  refine JN.same ?_
  by_cases hlt : i < b.length
  · have hcell := zafj hlt
    have hin : i < (bsR b).length := by rw [zad]; exact hlt
    have hcd : b.drop i = b[i] :: b.drop (i + 1) := List.drop_eq_getElem_cons hlt
    have eg : b.getD i 0 = b[i] := by rw [List.getD_eq_getElem?_getD, List.getElem?_eq_getElem hlt]; rfl
    have hlow : lowv b (i + 1) = lowv b i + b[i].toNat % 128 * 2 ^ (7 * i) := by simp only [lowv, eg]
    rw [hcd] at hf fin
    have hc := b[i].toNat_lt
    generalize hbi : b[i] = cc at *
    have hi0 : ¬ 9 < i := by omega
    by_cases h128 : 128 ≤ cc.toNat
    · have h128' : (128 : Int) ≤ cc.toNat := by omega
      by_cases i9 : i = 9
      · have e : WM.getFrom i (lowv b i) (cc :: b.drop (i + 1)) = (0, 0, 3) := by unfold WM.getFrom; rw [if_pos (.inr ⟨i9, by omega⟩)]
        rw [e] at fin
        have i9' : (i : Int) = 9 := by omega
        simp [zdk, hin, zuj, hbi, h128', i10, zdi]
        exact ⟨fun _ => fin, fun h => absurd i9' h⟩
      · have e : WM.getFrom i (lowv b i) (cc :: b.drop (i + 1)) = WM.getFrom (i + 1) (lowv b (i + 1)) (b.drop (i + 1)) := by
          conv => lhs; unfold WM.getFrom
          rw [if_neg (fun h => h.elim hi0 fun h2 => i9 h2.1), if_pos h128, hlow]
        have hk2 := hK (by omega) (by omega) (by rw [← e]; exact hf)
        have i9' : ¬ (i : Int) = 9 := by omega
        simp [zdk, hin, zuj, hbi, h128', i10, zdi, i9', hadd]
        exact hk2
    · have h128' : ¬ (128 : Int) ≤ cc.toNat := by omega
      simp [zdk, hin, zuj, hbi, h128', zdi]
      refine JN.same ?_
      have go : (i = 9 → cc.toNat ≤ 1) → zdj Q [.ro (bsR b), .int .i64 i, .bool false] H' n' := fun h9 => by
        have e : WM.getFrom i (lowv b i) (cc :: b.drop (i + 1)) = if cc.toNat = 0 ∧ 0 < i then (0, 0, 2) else (WM.zag (lowv b (i + 1)), (i : Int) + 1, 0) := by
          conv => lhs; unfold WM.getFrom
          rw [if_neg (fun h => h.elim hi0 fun h2 => (by have := h9 h2.1; omega)), if_neg h128, hlow]
        rw [e] at fin hf
        have hnge : ¬ (bsR b).length ≤ i := by omega
        simp [zdj, hnge]
        refine JN.same ?_
        simp [zpd, zpc, hin, zuj, hbi]
        have sl : lowv b (i + 1) < 18446744073709551616 := by rw [hlow]; exact zzf i _ _ hi9 hlw (by omega) h9
        by_cases hz : cc.toNat = 0 ∧ 0 < i
        · rw [if_pos hz] at fin
          exact ⟨fun _ => ⟨fun _ => fin, fun h => absurd h (by omega)⟩, fun h => absurd hz.1 h⟩
        · rw [if_neg hz] at hf
          rw [← hf] at hQ
          have bk := zajw (nx := nx) (n := n') hlt hi9 sl hk hQ
          exact ⟨fun h => ⟨fun h2 => absurd ⟨h, h2⟩ hz, fun _ => bk⟩, fun _ => bk⟩
      by_cases i9 : i = 9
      · obtain rfl := i9
        have hin' : (9 : Int) < (bsR b).length := by omega
        simp [zfb, hin, zuj, hbi]
        refine ⟨fun _ => ⟨hin', ?_⟩, fun h => absurd h (by omega)⟩
        by_cases h1 : 1 < cc.toNat
        · have e : WM.getFrom 9 (lowv b 9) (cc :: b.drop (9 + 1)) = (0, 0, 3) := by unfold WM.getFrom; rw [if_pos (.inr ⟨rfl, h1⟩)]
          rw [e] at fin
          have h1' : (1 : Int) < cc.toNat := by omega
          simp [zdj, h1']
          exact fin
        · have h1' : ¬ (1 : Int) < cc.toNat := by omega
          rw [decide_eq_false h1']
          exact go fun _ => by omega
      · have i9' : ¬ (i : Int) = 9 := by omega
        simp [zfb, n10, hin, i9']
        exact go fun h => absurd h i9
  · obtain rfl : i = b.length := by omega
    rw [List.drop_length] at fin
    have hnl : ¬ b.length < (bsR b).length := by rw [zad]; omega
    have hge : (bsR b).length ≤ b.length := by rw [zad]; omega
    simp [zdk, hnl, zdi]
    refine JN.same ?_
    simp [zfb, n10, hnl, hge, zdj]
    exact fin
end Go.Proofs.Ytpbnaaoilgohkaa
set_option maxRecDepth 8000
namespace Go.Proofs.Ytpbnaaoilgohkaa
open Go Go.RowKit
set_option maxRecDepth 20000 in
set_option maxHeartbeats 2000000 in
theorem zagb (b : Str) (most : Int) (hb : b.length ≤ 4611686018427387904) : QC Try.prog 53 [.ro (bsR b), .int .i64 most] (.tup [.str (WM.getText b most).1, .int .i64 (WM.getText b most).2.1, .int .i64 (WM.getText b most).2.2]) := by
  refine QC.of' fun H nx => ?_
  suffices main : ∀ Q : AV → Heap → Nat → Prop, (∀ H' n', Keep nx H' H → Q (.tup [.str (WM.getText b most).1, .int .i64 (WM.getText b most).2.1, .int .i64 (WM.getText b most).2.2]) H' n') → za Try.prog 53 [.ro (bsR b), .int .i64 most] H nx Q from
    main _ fun H' n' h => zahh h
  intro Q hQ
  refine zuq _ _ H nx _ ?_
  unfold zns
  refine QC.call (zaau b hb) ?_
  have fin := hQ H nx fun _ _ => rfl
  unfold WM.getText at fin
  by_cases h1 : (WM.getNum b).2.2 = 0
  case neg =>
    rw [if_pos h1] at fin
    simp [zbv, h1]
    exact fin
  rw [if_neg (fun h => h h1)] at fin
  obtain ⟨k, hk, hk1, hn, _⟩ := WM.getNum_ok b h1
  by_cases h2 : (WM.getNum b).1 < 0
  · rw [if_pos (.inl h2)] at fin
    simp [zbv, h1, h2]
    exact fin
  by_cases h3 : most < (WM.getNum b).1
  · rw [if_pos (.inr h3)] at fin
    simp [zbv, h1, h2, h3]
    exact fin
  rw [if_neg (fun h => h.elim h2 h3)] at fin
  rw [hn] at fin
  generalize (WM.getNum b).1 = n at *
  have hw : IntKind.i64.wrap ((b.length : Int) - k) = (b.length : Int) - k := i64w (by omega)
  by_cases h4 : (b.length : Int) - k < n
  · rw [if_pos h4] at fin
    simp [zbv, h1, hn, h2, h3, zad, hw, h4]
    exact fin
  · rw [if_neg h4] at fin
    have hw2 : IntKind.i64.wrap ((k : Int) + n) = (k : Int) + n := i64w (by omega)
    simp [zbv, h1, hn, h2, h3, zad, hw, h4, hw2]
    refine zaaq (zmi b) (by omega) (by omega) (by rw [zad]; omega) ?_
    rw [zahq]
    refine zabm ?_
    have e : (b.take ((k : Int) + n).toNat).drop ((k : Int)).toNat = (b.drop ((k : Int)).toNat).take n.toNat := by
      rw [List.drop_take]; congr 1; omega
    rw [e]
    exact fin
end Go.Proofs.Ytpbnaaoilgohkaa
set_option maxRecDepth 8000
namespace Go.Proofs.Ytpbnaaoilgohkaa
open Go Go.RowKit
section
variable {p n : Nat} {st : VM.St} {H : Heap} {Q : AV → Heap → Nat → Prop}
set_option maxHeartbeats 1000000 in
theorem zahc {most : Int} (hg : H p = some (PRd st)) (hb : st.1.length ≤ 4611686018427387904) (hq : Q (.str (VM.rdText most st).1) (H.put p (some (PRd (VM.rdText most st).2))) n) : za Try.prog 34 [.ptr p 0, .int .i64 most] H n Q := by
  refine zyp _ _ H n _ ?_
  have hg' := hg
  unfold PRd at hg'
  unfold VM.rdText at hq
  by_cases h : st.2 = 0
  case neg =>
    rw [if_pos h, zfk hg] at hq
    simp [zlo, hg', h]
    exact hq
  rw [if_neg (fun h2 => h2 h)] at hq
  simp [zlo, hg', h]
  refine QC.call (zagb st.1 most hb) ?_
  by_cases h1 : (WM.getText st.1 most).2.2 = 0
  case neg =>
    rw [if_pos h1] at hq
    simp [zlp, h1, hg']
    simpa [PRd] using hq
  rw [if_neg (fun h2 => h2 h1)] at hq
  obtain ⟨k, hk, hn⟩ := zabg h1
  rw [hn, Int.toNat_natCast] at hq
  simp [zlp, h1, hg', hn]
  refine zww hk ?_
  simpa [PRd, h] using hq
set_option maxHeartbeats 2000000 in
theorem zfm {most : Int} (hg : H p = some (PRd st)) (hb : st.1.length ≤ 4611686018427387904) (hq : Q (.int .i64 (VM.refN most st).1) (H.put p (some (PRd (VM.refN most st).2))) n) : za Try.prog 33 [.ptr p 0, .int .i64 most] H n Q := by
  refine zyq _ _ H n _ ?_
  have hg' := hg
  unfold PRd at hg'
  unfold VM.refN at hq
  by_cases h : st.2 = 0
  case neg =>
    rw [if_pos h, zfk hg] at hq
    simp [zlq, hg', h]
    exact hq
  rw [if_neg (fun h2 => h2 h)] at hq
  simp [zlq, hg', h]
  refine QC.call (zaau st.1 hb) ?_
  by_cases h1 : (WM.getNum st.1).2.2 = 0
  case neg =>
    rw [if_pos h1] at hq
    simp [zdf, h1, hg']
    simpa [PRd] using hq
  rw [if_neg (fun h2 => h2 h1)] at hq
  obtain ⟨k, hk, hk1, hn, _⟩ := WM.getNum_ok st.1 h1
  rw [hn, Int.toNat_natCast] at hq
  by_cases h2 : 0 ≤ most
  · by_cases h3 : (WM.getNum st.1).1 < 0
    · rw [if_pos ⟨h2, .inl h3⟩] at hq
      simp [zdf, h1, h2, h3, hg']
      simpa [PRd] using hq
    · by_cases h4 : most < (WM.getNum st.1).1
      · rw [if_pos ⟨h2, .inr h4⟩] at hq
        simp [zdf, h1, h2, h3, h4, hg']
        simpa [PRd] using hq
      · rw [if_neg (fun h => h.2.elim h3 h4)] at hq
        simp [zdf, h1, h2, h3, h4, hg', hn]
        refine zww hk ?_
        simpa [PRd, h] using hq
  · rw [if_neg (fun h => h2 h.1)] at hq
    simp [zdf, h1, h2, hg', hn]
    refine zww hk ?_
    simpa [PRd, h] using hq
end
end Go.Proofs.Ytpbnaaoilgohkaa
set_option maxRecDepth 8000
namespace Go.Proofs.Ytpbnaaoilgohkaa
open Go Go.RowKit
set_option maxRecDepth 20000 in
set_option maxHeartbeats 2000000 in
theorem zyd {p n : Nat} {st : VM.St} {H : Heap} {Q : QT} (hg : H p = some (PRd st)) (hb : st.1.length ≤ 4611686018427387904) (hq : Q (.agg (VM.rdVal st).1.avs) (H.put p (some (PRd (VM.rdVal st).2))) n) : za Try.prog 35 [.ptr p 0] H n Q := by
  refine za.rd hg (fun hpn => ?_) hq
  refine zyo _ H n _ ?_
  have sn := VM.short_num st
  unfold VM.rdVal
  have ne_0 : p ≠ n ∧ n ≠ p ∧ p ≠ n + 1 ∧ n + 1 ≠ p := ⟨by omega, by omega, by omega, by omega⟩
  simp [ztb]
  refine zfm (st := st) (by rw [Heap.put_ne _ _ (by omega)]; exact hg) hb ?_
  rw [VM.refN_num]
  generalize VM.rdNum st = r at *
  generalize hX : Heap.put _ p _ = X
  have x0 : X p = some (PRd r.2) := by rw [← hX, Heap.put_at]
  have x1 : X n = some (.row 3 [.int .i64 0, .int .i64 0, .str []]) := by rw [← hX, Heap.put_ne _ _ (by omega), Heap.put_at]
  have xk : ∀ y, y < n → y ≠ p → X y = H y := fun y h1 h2 => by rw [← hX, Heap.put_ne _ _ h2, Heap.put_ne _ _ (by omega)]
  clear hX
  by_cases h1 : r.1 = 1
  · have s2 := Nat.le_trans (VM.short_text 60 r.2) sn
    simp [zln, h1]
    refine zahc x0 (by omega) ?_
    generalize VM.rdText 60 r.2 = q at *
    simp [ztd, x1, ne_0]
    refine ⟨(by rintro x ((rfl | rfl) | rfl) <;> rfl), rfl, fun y h2 h3 => ?_⟩
    rw [if_neg (by omega), if_neg h3]
    exact xk y h2 h3
  · have s2 := Nat.le_trans (VM.short_num r.2) sn
    simp [zln, h1]
    refine zfm x0 (by omega) ?_
    rw [VM.refN_num]
    generalize VM.rdNum r.2 = q at *
    simp [ztc, x1, ne_0]
    refine ⟨rfl, fun y h2 h3 => ?_⟩
    rw [if_neg (by omega), if_neg h3]
    exact xk y h2 h3
end Go.Proofs.Ytpbnaaoilgohkaa
set_option maxRecDepth 8000
namespace Go.Proofs.Ytpbnaaoilgohkaa
open Go Go.RowKit
def FrzO (H : Heap) (G : Nat → Prop) (g : Nat) (o : AObj) : Prop := H g = some o ∨ ∃ sz cs cs', H g = some (.row sz cs) ∧ o = .row sz cs' ∧ zav H G cs cs'
theorem FrzO.some {H : Heap} {G : Nat → Prop} {g : Nat} {o : AObj} (h : FrzO H G g o) : ∃ o1, H g = some o1 := by
  rcases h with h | ⟨sz, cs, _, h, _⟩
  · exact ⟨_, h⟩
  · exact ⟨_, h⟩
theorem Sim.freeze {A : Nat → Prop} {ρ : Nat → Loc} {H H0 : Heap} {w : World} {G : Nat → Prop} (s : Sim A ρ H w) (h0 : ∀ g o, H0 g = some o → ¬ G g ∧ FrzO H G g o) :
    Sim A ρ H0 w ∧ Fr A ρ H w A ρ H0 w ∧ ∀ (v u : AV) (c : Value), FrzP H G v u → VRel (Kof ρ H w) ρ A v c → VRel (Kof ρ H0 w) ρ A u c := by
  let H1 : Heap := fun g => if (H0 g).isSome then H g else none
  have h1 : ∀ g o, H1 g = some o → ¬ G g ∧ H g = some o := fun g o hg => by
    by_cases h : (H0 g).isSome = true
    · obtain ⟨o', ho'⟩ := Option.isSome_iff_exists.1 h
      simp only [H1, if_pos h] at hg
      exact ⟨(h0 g o' ho').1, hg⟩
    · simp only [H1, if_neg h] at hg; cases hg
  have hdom : ∀ g, (H1 g).isSome = (H0 g).isSome := fun g => by
    by_cases h : (H0 g).isSome = true
    · obtain ⟨o', ho'⟩ := Option.isSome_iff_exists.1 h
      obtain ⟨o1, ho1⟩ := (h0 g o' ho').2.some
      simp only [H1, if_pos h, ho1, ho', Option.isSome_some]
    · simp only [H1, if_neg h]
      cases h2 : H0 g with
      | none => rfl
      | some x => rw [h2] at h; exact absurd rfl h
  have hK : Kof ρ H1 w = Kof ρ H0 w := by
    funext b
    refine Option.ext fun o => ?_
    rw [zu, zu]
    simp only [hdom]
  obtain ⟨s1, f1⟩ := s.drop (H' := H1) fun g o ho => (h1 g o ho).2
  have rel : ∀ (v u : AV) (c : Value), FrzP H G v u → VRel (Kof ρ H w) ρ A v c → VRel (Kof ρ H0 w) ρ A u c := fun v u c hf hc => by
    have := hf.rel s h1 c hc
    rw [hK] at this
    exact this
  have some1 : ∀ g o, H0 g = some o → ∃ o1, H1 g = some o1 := fun g o hg => by
    have := hdom g
    rw [hg] at this
    exact Option.isSome_iff_exists.1 this
  refine ⟨⟨fun g o hg => ?_, fun g o hg => ?_, fun x y hx hy => s1.inj x y (by rw [hdom]; exact hx) (by rw [hdom]; exact hy), by rw [← hK]; exact s1.lay⟩, ?_, rel⟩
  · obtain ⟨o1, ho1⟩ := some1 g o hg
    exact s1.live g o1 ho1
  · rcases (h0 g o hg).2 with h | ⟨sz, cs, cs', h, rfl, hf⟩
    · have : H1 g = some o := by simp only [H1, hg, Option.isSome_some, if_true]; exact h
      have := s1.obj g o this
      rw [hK] at this
      exact this
    · obtain ⟨c, e, lo, hi, q1, q2, q3, q4, q5, q6⟩ := s.obj g _ h
      refine ⟨c, e, lo, hi, q1, q2, q3, q4, by rw [hf.1]; exact q5, fun j v hv => ?_⟩
      have hlt := (List.getElem?_eq_some_iff.1 hv).1
      rw [hf.1] at hlt
      have hx : cs[j]? = some cs[j] := List.getElem?_eq_getElem hlt
      obtain ⟨cv, r1, r2⟩ := q6 j _ hx
      exact ⟨cv, r1, rel _ _ _ (hf.2 j _ v hx hv) r2⟩
  · have e : Fr A ρ H w A ρ H0 w = Fr A ρ H w A ρ H0 w := rfl
    obtain ⟨a1, a2, a3, a4, a5, a6⟩ := f1
    exact ⟨a1, by rw [← hK]; exact a2, a3, a4, a5, a6⟩
theorem za.thawR {P : Program} {f : FuncId} {args args' : List AV} {H H0 : Heap} {nx : Nat} {G : Nat → Prop} {Q : AV → Heap → Nat → Prop} (h : za P f args H0 nx Q) (hf : zav H G args' args) (h0 : ∀ g o, H0 g = some o → ¬ G g ∧ FrzO H G g o) : za P f args' H nx Q := by
  intro ρ w cargs s ha
  obtain ⟨s0, f0, rel⟩ := s.freeze h0
  refine zw (h ρ w cargs s0 ⟨ha.1.trans hf.1.symm, fun j u c hu hc => ?_⟩) fun cv w' ⟨r', H', nx', ρ', q1, q3, q4, q5⟩ => ⟨r', H', nx', ρ', q1, q3, q4, f0.trans q5⟩
  have hj : j < args'.length := by have := (List.getElem?_eq_some_iff.1 hu).1; rw [hf.1] at this; exact this
  have hv : args'[j]? = some args'[j] := List.getElem?_eq_getElem hj
  exact rel _ u c (hf.2 j _ u hv hu) (ha.2 j _ c hv hc)
end Go.Proofs.Ytpbnaaoilgohkaa
set_option maxRecDepth 8000
namespace Go.Proofs.Ytpbnaaoilgohkaa
open Go Go.RowKit
theorem zcm {p n : Nat} {st : VM.St} {H : Heap} {Q : QT} (hg : H p = some (PRd st)) (hb : st.1.length ≤ 4611686018427387904) (hq : Q (.int .i64 (VM.rdNum st).1) (H.put p (some (PRd (VM.rdNum st).2))) n) : za Try.prog 33 [.ptr p 0, .int .i64 (-1)] H n Q :=
  zfm hg hb (by rw [VM.refN_num]; exact hq)
theorem zbu.frzP {H : Heap} {G : Nat → Prop} {cs : List Cod} {ss : List AV} {a : AV} (h : zbu H cs ss) (sl : Slot H 3 cs.length (crow cs ss) a) (hg : ∀ g ∈ own a, G g) (ho : ∀ x ∈ ownc ss, G x) : FrzP H G a (.ro (cs.map Cod.avs)) := by
  rcases sl with ⟨h0, rfl | rfl⟩ | ⟨g, cc, rfl, h1, h2, h3⟩
  · rw [List.eq_nil_of_length_eq_zero h0]; exact .nils
  · rw [List.eq_nil_of_length_eq_zero h0]; exact .zs
  have key : ∀ (i : Nat) (x : List AV) (j : Nat) (v : AV), (cs.map Cod.avs)[i]? = some x → x[j]? = some v → ∃ u, cc[i * 3 + j]? = some u ∧ FrzP H G u v := fun i x j v hx hv => by
    rw [List.getElem?_map] at hx
    obtain ⟨c, hc, rfl⟩ := Option.map_eq_some_iff.1 hx
    have hi := (List.getElem?_eq_some_iff.1 hc).1
    have hs : ss[i]? = some (ss[i]'(by rw [h.1]; exact hi)) := List.getElem?_eq_getElem _
    have a := h.2 i c _ hc hs
    obtain ⟨q0, q1, q2⟩ := zaca hc hs
    have hm := List.mem_of_getElem? hs
    have up : ∀ (j : Nat) (u : AV), j < 3 → (crow cs ss)[i * 3 + j]? = some u → cc[i * 3 + j]? = some u := fun j u hj hu => by
      rw [← h2, List.getElem?_take, if_pos (by omega)] at hu; exact hu
    match j, hv with
    | 0, hv => cases hv; exact ⟨_, up 0 _ (by omega) q0, .same _⟩
    | 1, hv => cases hv; exact ⟨_, up 1 _ (by omega) q1, .same _⟩
    | 2, hv => cases hv; exact ⟨_, up 2 _ (by omega) q2, Slot.frzP (sz := 3) (xs := c.ins.map Ins.avs) (by simpa [zcr] using a) (fun x hx => ho x (List.mem_flatMap.2 ⟨_, hm, hx⟩)) (fun x hx => by obtain ⟨i, _, rfl⟩ := List.mem_map.1 hx; rfl)⟩
    | j + 3, hv => simp [Cod.avs] at hv
  exact FrzP.row (hg g (by simp [own])) h1 (by simp) (fun x hx => by obtain ⟨c, _, rfl⟩ := List.mem_map.1 hx; rfl) key (by omega)
theorem zaet : ∀ {fs : List Frm} {ss : List (AV × AV)} {i : Nat} {f : Frm} {s : AV × AV}, fs[i]? = some f → ss[i]? = some s → (frow fs ss)[i * 4]? = some (.int .i64 f.fn) ∧ (frow fs ss)[i * 4 + 1]? = some (.int .i64 f.at_) ∧ (frow fs ss)[i * 4 + 2]? = some s.1 ∧ (frow fs ss)[i * 4 + 3]? = some s.2
  | [], _, i, c, s, h, _ => by simp at h
  | _ :: _, [], i, c, s, _, h => by simp at h
  | f :: fs, t :: ss, 0, c, s, h1, h2 => by simp at h1 h2; subst h1; subst h2; simp [frow]
  | d :: cs, t :: ss, i + 1, c, s, h1, h2 => by
    have := zaet (fs := cs) (ss := ss) (i := i) (by simpa using h1) (by simpa using h2)
    have e : ∀ j, (i + 1) * 4 + j = i * 4 + j + 1 + 1 + 1 + 1 := fun j => by omega
    have e0 : (i + 1) * 4 = i * 4 + 1 + 1 + 1 + 1 := by omega
    rw [e 1, e 2, e 3, e0]
    simpa [frow] using this
theorem zx.frzP {H : Heap} {G : Nat → Prop} {fs : List Frm} {ss : List (AV × AV)} {a : AV} (h : zx H fs ss) (sl : Slot H 4 fs.length (frow fs ss) a) (hg : ∀ g ∈ own a, G g) (ho : ∀ x ∈ owns ss, G x) : FrzP H G a (.ro (fs.map Frm.avs)) := by
  rcases sl with ⟨h0, rfl | rfl⟩ | ⟨g, cc, rfl, h1, h2, h3⟩
  · rw [List.eq_nil_of_length_eq_zero h0]; exact .nils
  · rw [List.eq_nil_of_length_eq_zero h0]; exact .zs
  have key : ∀ (i : Nat) (x : List AV) (j : Nat) (v : AV), (fs.map Frm.avs)[i]? = some x → x[j]? = some v → ∃ u, cc[i * 4 + j]? = some u ∧ FrzP H G u v := fun i x j v hx hv => by
    rw [List.getElem?_map] at hx
    obtain ⟨c, hc, rfl⟩ := Option.map_eq_some_iff.1 hx
    have hi := (List.getElem?_eq_some_iff.1 hc).1
    have hs : ss[i]? = some (ss[i]'(by rw [h.1]; exact hi)) := List.getElem?_eq_getElem _
    obtain ⟨a1, a2⟩ := h.2 i c _ hc hs
    obtain ⟨q0, q1, q2, q3⟩ := zaet hc hs
    have hm := List.mem_of_getElem? hs
    have up : ∀ (j : Nat) (u : AV), j < 4 → (frow fs ss)[i * 4 + j]? = some u → cc[i * 4 + j]? = some u := fun j u hj hu => by
      rw [← h2, List.getElem?_take, if_pos (by omega)] at hu; exact hu
    match j, hv with
    | 0, hv => cases hv; exact ⟨_, up 0 _ (by omega) q0, .same _⟩
    | 1, hv => cases hv; exact ⟨_, up 1 _ (by omega) q1, .same _⟩
    | 2, hv => cases hv; exact ⟨_, up 2 _ (by omega) q2, Slot.frzP (sz := 3) (xs := c.vars.map Val.avs) (by simpa [rowV] using a1) (fun x hx => ho x (List.mem_flatMap.2 ⟨_, hm, List.mem_append_left _ hx⟩)) (zda _)⟩
    | 3, hv => cases hv; exact ⟨_, up 3 _ (by omega) q3, Slot.frzP (sz := 3) (xs := c.stack.map Val.avs) (by simpa [rowV] using a2) (fun x hx => ho x (List.mem_flatMap.2 ⟨_, hm, List.mem_append_right _ hx⟩)) (zda _)⟩
    | j + 4, hv => simp [Frm.avs] at hv
  exact FrzP.row (hg g (by simp [own])) h1 (by simp) (fun x hx => by obtain ⟨c, _, rfl⟩ := List.mem_map.1 hx; rfl) key (by omega)
set_option maxRecDepth 20000 in
set_option maxHeartbeats 4000000 in
theorem zajn {a0 : AV} {z p g n : Nat} {st : VM.St} {K : Nat} {v0 v1 v4 v5 v6 v7 v8 : AV} {H : Heap} {Q : QT} (hpg : p < g) (hgn : g < n) (hK : K ≤ 4096) (hb : st.1.length ≤ 4611686018427387904)
    (h1 : H p = some (PRd st)) (h2 : H g = some (.row 9 [v0, v1, .nils, .nils, v4, v5, v6, v7, v8]))
    (hq : ∀ H' n' W, n ≤ n' → H' p = some (PRd (VM.rdMany (VM.rdText 12) K st).2) → H' g = some (.row 9 [v0, v1, .nils, W, v4, v5, v6, v7, v8]) → Slot H' 1 K (rowW (VM.rdMany (VM.rdText 12) K st).1) W → (∀ y ∈ own W, n ≤ y ∧ y < n') → (∀ y, y < n → y ≠ p → y ≠ g → H' y = H y) →
      za Try.prog 33 [.ptr p 0, .int .i64 5] H' n' (zjb Q [a0, .ptr z 0, .ptr p 0, .ptr g 0, .int .i64 K, .int .i64 K])) :
    LP (zfw Q) [a0, .ptr z 0, .ptr p 0, .ptr g 0, .int .i64 K, .int .i64 0] H n := by
  refine LP.mk (fun k xs H' n' => ∃ (i : Nat) (W : AV), k = K - i ∧ i ≤ K ∧ xs = [a0, .ptr z 0, .ptr p 0, .ptr g 0, .int .i64 K, .int .i64 i] ∧ n ≤ n' ∧ H' p = some (PRd (VM.rdMany (VM.rdText 12) i st).2) ∧ H' g = some (.row 9 [v0, v1, .nils, W, v4, v5, v6, v7, v8]) ∧ Slot H' 1 i (rowW (VM.rdMany (VM.rdText 12) i st).1) W ∧ (∀ y ∈ own W, n ≤ y ∧ y < n') ∧ (∀ y, y < n → y ≠ p → y ≠ g → H' y = H y)) K ⟨0, .nils, rfl, by omega, rfl, Nat.le_refl _, h1, h2, .inl ⟨rfl, .inl rfl⟩, by simp [own], fun _ _ _ _ => rfl⟩ ?_
  rintro k xs H' n' ⟨i, W, rfl, hik, rfl, hn, hp, hr, sl, ow, kp⟩
  have sm := VM.short_many (VM.short_text 12) i st
  by_cases hlt : i < K
  · have hadd : IntKind.i64.wrap ((i : Int) + 1) = ((i + 1 : Nat) : Int) := by rw [i64w (by omega)]; rfl
    have ll := VM.rdMany_len (VM.rdText 12) i st
    have er : VM.rdMany (VM.rdText 12) (i + 1) st = ((VM.rdMany (VM.rdText 12) i st).1 ++ [(VM.rdText 12 (VM.rdMany (VM.rdText 12) i st).2).1], (VM.rdText 12 (VM.rdMany (VM.rdText 12) i st).2).2) := rfl
    generalize VM.rdMany (VM.rdText 12) i st = q at *
    generalize hv : VM.rdText 12 q.2 = v at *
    have gp : ¬ p = g := by omega
    simp [zfw, hlt, hr]
    refine zj.rd hp (fun A => .str v.1) (fun Hx nx Qx g1 g2 => zahc g1 (by omega) (by rw [hv]; exact g2)) ?_
    simp [zql]
    generalize hY : Heap.put _ n' _ = Y
    have t1 : Y n' = some (.row 1 [.str v.1]) := by rw [← hY, Heap.put_at]
    have t2 : Y p = some (PRd v.2) := by rw [← hY, Heap.put_ne _ _ (by omega), Heap.put_at]
    have t3 : ∀ y, y < n' → y ≠ p → Y y = H' y := fun y e1 e2 => by rw [← hY, Heap.put_ne _ _ (by omega), Heap.put_ne _ _ e2]
    clear hY
    have s1 : Slot Y 1 i (rowW q.1) W := sl.keep fun y hy => by
      have := ow y hy
      rw [t3 y (by omega) (by omega)]
    refine s1.append (new := [.str v.1]) (by simp [rowW, ll]) t1 rfl (by simp) (by omega) fun rd D q1 q2 q3 => ?_
    have r6 : (Y.apply D) g = some (.row 9 [v0, v1, .nils, W, v4, v5, v6, v7, v8]) := by
      rw [q3 g (fun h => by have := ow _ h; omega) (by omega), t3 g (by omega) (by omega)]; exact hr
    have rp : (Y.apply D) p = some (PRd v.2) := by rw [q3 p (fun h => by have := ow _ h; omega) (by omega)]; exact t2
    have rk : ∀ y, y < n → y ≠ p → (Y.apply D) y = H' y := fun y e1 e2 => by
      rw [q3 y (fun h => by have := ow _ h; omega) (by omega), t3 y (by omega) e2]
    rw [r6, rowk]
    simp [hadd]
    generalize Y.apply D = Z at *
    refine ⟨fun h => absurd h gp, by omega, K - (i + 1), by omega, i + 1, rfl, by omega, by omega, by omega, ?_, ?_, fun y hy => ?_, fun y h3 h4 h5 => ?_⟩
    · rw [if_neg gp, er]; exact rp
    · rw [er]
      refine Slot.full ?_ (by simp [rowW, ll])
      rw [Heap.put_ne _ _ (by omega), q2]
      simp [rowW]
    · have e : y = n' + 1 := by simpa [own] using hy
      omega
    · rw [if_neg h5, rk y h3 h4]
      exact kp y h3 h4 h5
  · obtain rfl : i = K := by omega
    simp [zfw]
    exact hq _ _ _ hn hp hr sl ow kp
set_option maxRecDepth 20000 in
set_option maxHeartbeats 4000000 in
theorem zajt {p r n : Nat} {st : VM.St} {N : Nat} {pa va : Int} {H : Heap} {K57 : J3} {x0 x1 x3 x5 x6 : AV} (hpr : p < r) (hrn : r < n) (hN : N ≤ 4096) (hb : st.1.length ≤ 4611686018427387904)
    (h1 : H p = some (PRd st)) (h2 : H r = some (.row 3 [.int .i64 pa, .int .i64 va, .nils]))
    (hq : ∀ (K74 : J3) H' n' I, n ≤ n' → H' p = some (PRd (VM.rdMany VM.insOf N st).2) → H' r = some (.row 3 [.int .i64 pa, .int .i64 va, I]) → Slot H' 3 N (zcr (VM.rdMany VM.insOf N st).1) I → (∀ y ∈ own I, n ≤ y ∧ y < n') → (∀ y, y < n → y ≠ p → y ≠ r → H' y = H y) →
      zdv K57 K74 [x0, x1, .ptr p 0, x3, .ptr r 0, x5, x6, .int .i64 N, .int .i64 N] H' n') :
    LP (zdv K57) [x0, x1, .ptr p 0, x3, .ptr r 0, x5, x6, .int .i64 N, .int .i64 0] H n := by
  refine LP.mk (fun k xs H' n' => ∃ (i : Nat) (I : AV), k = N - i ∧ i ≤ N ∧ xs = [x0, x1, .ptr p 0, x3, .ptr r 0, x5, x6, .int .i64 N, .int .i64 i] ∧ n ≤ n' ∧ H' p = some (PRd (VM.rdMany VM.insOf i st).2) ∧ H' r = some (.row 3 [.int .i64 pa, .int .i64 va, I]) ∧ Slot H' 3 i (zcr (VM.rdMany VM.insOf i st).1) I ∧ (∀ y ∈ own I, n ≤ y ∧ y < n') ∧ (∀ y, y < n → y ≠ p → y ≠ r → H' y = H y)) N ⟨0, .nils, rfl, by omega, rfl, Nat.le_refl _, h1, h2, .inl ⟨rfl, .inl rfl⟩, by simp [own], fun _ _ _ _ => rfl⟩ ?_
  rintro k xs H' n' ⟨i, I, rfl, hik, rfl, hn, hp, hr, sl, ow, kp⟩
  have sm := VM.short_many VM.short_ins i st
  by_cases hlt : i < N
  · have hadd : IntKind.i64.wrap ((i : Int) + 1) = ((i + 1 : Nat) : Int) := by rw [i64w (by omega)]; rfl
    have ll := VM.rdMany_len VM.insOf i st
    have er : VM.rdMany VM.insOf (i + 1) st = ((VM.rdMany VM.insOf i st).1 ++ [(VM.insOf (VM.rdMany VM.insOf i st).2).1], (VM.insOf (VM.rdMany VM.insOf i st).2).2) := rfl
    generalize VM.rdMany VM.insOf i st = q at *
    have a1 := VM.short_num q.2
    have a2 := VM.short_num (VM.rdNum q.2).2
    have hi : VM.insOf q.2 = (⟨(VM.rdNum q.2).1, (VM.rdNum (VM.rdNum q.2).2).1, (VM.rdNum (VM.rdNum (VM.rdNum q.2).2).2).1⟩, (VM.rdNum (VM.rdNum (VM.rdNum q.2).2).2).2) := rfl
    rw [hi] at er
    simp [zdv, hlt]
    refine zcm hp (by omega) ?_
    generalize VM.rdNum q.2 = w1 at *
    simp [zqi]
    refine zcm (st := w1.2) (by rw [Heap.put_ne _ _ (by omega), Heap.put_at]) (by omega) ?_
    generalize VM.rdNum w1.2 = w2 at *
    have pn : ¬ n' = p ∧ ¬ p = n' := by omega
    simp [zqj, pn]
    refine zcm (st := w2.2) (by rw [Heap.put_ne _ _ (by omega), Heap.put_at]) (by omega) ?_
    generalize VM.rdNum w2.2 = w3 at *
    generalize hX : Heap.put _ p (some (PRd w3.2)) = X
    have y1 : X p = some (PRd w3.2) := by rw [← hX, Heap.put_at]
    have y2 : X n' = some (.row 3 [.int .i64 w1.1, .int .i64 w2.1, .int .i64 0]) := by rw [← hX, Heap.put_ne _ _ (by omega), Heap.put_at]
    have yk : ∀ y, y < n' → y ≠ p → X y = H' y := fun y e1 e2 => by rw [← hX]; repeat' first | rw [Heap.put_ne _ _ (by omega)] | rfl
    clear hX
    have yr : X r = some (.row 3 [.int .i64 pa, .int .i64 va, I]) := by rw [yk r (by omega) (by omega)]; exact hr
    have rn : ¬ n' = r ∧ ¬ r = n' := by omega
    simp [zqk, y2, yr, rn]
    generalize hY : Heap.put _ (n' + 1) _ = Y
    have s1 : Slot Y 3 i (zcr q.1) I := sl.keep fun y hy => by
      have := ow y hy
      rw [← hY, Heap.put_ne _ _ (by omega), Heap.put_ne _ _ (by omega), yk y (by omega) (by omega)]
    have t1 : Y (n' + 1) = some (.row 3 (Ins.mk w1.1 w2.1 w3.1).avs) := by rw [← hY, Heap.put_at]; rfl
    have t2 : Y p = some (PRd w3.2) := by rw [← hY, Heap.put_ne _ _ (by omega), Heap.put_ne _ _ (by omega)]; exact y1
    have t3 : ∀ y, y < n' → y ≠ p → Y y = H' y := fun y e1 e2 => by rw [← hY, Heap.put_ne _ _ (by omega), Heap.put_ne _ _ (by omega)]; exact yk y e1 e2
    clear hY
    refine s1.app (new := (Ins.mk w1.1 w2.1 w3.1).avs) (by rw [zob]; omega) t1 rfl (by simp [Ins.avs]) (by omega) fun H6 q1 q2 => ?_
    have r6 : H6 r = some (.row 3 [.int .i64 pa, .int .i64 va, I]) := by
      rw [q2 r (fun h => by have := ow _ h; omega) (by omega), t3 r (by omega) (by omega)]; exact hr
    rw [r6, rowk]
    simp [hadd]
    have pr : ¬ p = r := by omega
    refine ⟨N - (i + 1), by omega, i + 1, rfl, by omega, by omega, by omega, ?_, ?_, fun y hy => ?_, fun y h3 h4 h5 => ?_⟩
    · rw [if_neg pr, er, q2 p (fun h => by have := ow _ h; omega) (by omega)]; exact t2
    · rw [er, zzc]
      refine Slot.full ?_ (by simp [zob, Ins.avs, ll]; omega)
      rw [Heap.put_ne _ _ (by omega)]; exact q1
    · have e : y = n' + 1 + 1 := by simpa [own] using hy
      omega
    · rw [if_neg h5, q2 y (fun h => by have := ow _ h; omega) (by omega), t3 y (by omega) h4]
      exact kp y h3 h4 h5
  · obtain rfl : i = N := by omega
    exact hq _ _ _ _ hn hp hr sl ow kp
set_option maxRecDepth 20000 in
set_option maxHeartbeats 4000000 in
theorem zajo {a0 : AV} {z p g n : Nat} {st : VM.St} {K : Nat} {v0 v1 W v4 v5 v6 v7 v8 : AV} {H : Heap} {Q : QT} (hpg : p < g) (hgn : g < n) (hK : K ≤ 4096) (hb : st.1.length ≤ 4611686018427387904)
    (h1 : H p = some (PRd st)) (h2 : H g = some (.row 9 [v0, v1, .nils, W, v4, v5, v6, v7, v8]))
    (hq : ∀ H' n' C ss, n ≤ n' → H' p = some (PRd (VM.rdMany (VM.codOf VM.refN) K st).2) → H' g = some (.row 9 [v0, v1, C, W, v4, v5, v6, v7, v8]) → Slot H' 3 K (crow (VM.rdMany (VM.codOf VM.refN) K st).1 ss) C → zbu H' (VM.rdMany (VM.codOf VM.refN) K st).1 ss → (∀ y ∈ own C, n ≤ y ∧ y < n') → (∀ y ∈ ownc ss, n ≤ y ∧ y < n') → (∀ y, y < n → y ≠ p → y ≠ g → H' y = H y) →
      za Try.prog 33 [.ptr p 0, .int .i64 12] H' n' (zjc Q [a0, .ptr z 0, .ptr p 0, .ptr g 0, .int .i64 K, .int .i64 K])) :
    LP (zds Q) [a0, .ptr z 0, .ptr p 0, .ptr g 0, .int .i64 K, .int .i64 0] H n := by
  refine LP.mk (fun k xs H' n' => ∃ (i : Nat) (C : AV) (ss : List AV), k = K - i ∧ i ≤ K ∧ xs = [a0, .ptr z 0, .ptr p 0, .ptr g 0, .int .i64 K, .int .i64 i] ∧ n ≤ n' ∧ H' p = some (PRd (VM.rdMany (VM.codOf VM.refN) i st).2) ∧ H' g = some (.row 9 [v0, v1, C, W, v4, v5, v6, v7, v8]) ∧ Slot H' 3 i (crow (VM.rdMany (VM.codOf VM.refN) i st).1 ss) C ∧ zbu H' (VM.rdMany (VM.codOf VM.refN) i st).1 ss ∧ (∀ y ∈ own C, n ≤ y ∧ y < n') ∧ (∀ y ∈ ownc ss, n ≤ y ∧ y < n' ∧ y ∉ own C) ∧ (∀ y, y < n → y ≠ p → y ≠ g → H' y = H y)) K ⟨0, .nils, [], rfl, by omega, rfl, Nat.le_refl _, h1, h2, .inl ⟨rfl, .inl rfl⟩, ⟨rfl, fun k c s hc => by simp [VM.rdMany] at hc⟩, by simp [own], by simp [ownc], fun _ _ _ _ => rfl⟩ ?_
  rintro k xs H' n' ⟨i, C, ss, rfl, hik, rfl, hn, hp, hr, sl, cm, ow, oc, kp⟩
  have sm := VM.short_many (VM.short_cod VM.counts_ref) i st
  by_cases hlt : i < K
  · suffices key : ∀ K33 : J3, (∀ H' n' C ss, i + 1 ≤ K → n ≤ n' → H' p = some (PRd (VM.rdMany (VM.codOf VM.refN) (i + 1) st).2) → H' g = some (.row 9 [v0, v1, C, W, v4, v5, v6, v7, v8]) → Slot H' 3 (i + 1) (crow (VM.rdMany (VM.codOf VM.refN) (i + 1) st).1 ss) C → zbu H' (VM.rdMany (VM.codOf VM.refN) (i + 1) st).1 ss → (∀ y ∈ own C, n ≤ y ∧ y < n') → (∀ y ∈ ownc ss, n ≤ y ∧ y < n' ∧ y ∉ own C) → (∀ y, y < n → y ≠ p → y ≠ g → H' y = H y) → K33 [a0, .ptr z 0, .ptr p 0, .ptr g 0, .int .i64 K, .int .i64 (i + 1 : Nat)] H' n') →
        zds Q K33 [a0, .ptr z 0, .ptr p 0, .ptr g 0, .int .i64 K, .int .i64 i] H' n' from
      key _ fun H' n' C ss g1 g2 g3 g4 g5 g6 g7 g8 g9 => ⟨K - (i + 1), by omega, i + 1, C, ss, rfl, g1, rfl, g2, g3, g4, g5, g6, g7, g8, g9⟩
    intro K33 hK33
    have hadd : IntKind.i64.wrap ((i : Int) + 1) = ((i + 1 : Nat) : Int) := by rw [i64w (by omega)]; rfl
    have ll := VM.rdMany_len (VM.codOf VM.refN) i st
    have er : VM.rdMany (VM.codOf VM.refN) (i + 1) st = ((VM.rdMany (VM.codOf VM.refN) i st).1 ++ [(VM.codOf VM.refN (VM.rdMany (VM.codOf VM.refN) i st).2).1], (VM.codOf VM.refN (VM.rdMany (VM.codOf VM.refN) i st).2).2) := rfl
    rw [er] at hK33
    generalize VM.rdMany (VM.codOf VM.refN) i st = q at *
    have a1 := VM.short_num q.2
    have a2 := VM.short_num (VM.rdNum q.2).2
    have a3 := VM.short_refN 200 (VM.rdNum (VM.rdNum q.2).2).2
    have rg := VM.counts_ref.range 200 (by omega) (VM.rdNum (VM.rdNum q.2).2).2
    have hi : VM.codOf VM.refN q.2 = (⟨(VM.rdNum q.2).1, (VM.rdNum (VM.rdNum q.2).2).1, (VM.rdMany VM.insOf (VM.refN 200 (VM.rdNum (VM.rdNum q.2).2).2).1.toNat (VM.refN 200 (VM.rdNum (VM.rdNum q.2).2).2).2).1⟩, (VM.rdMany VM.insOf (VM.refN 200 (VM.rdNum (VM.rdNum q.2).2).2).1.toNat (VM.refN 200 (VM.rdNum (VM.rdNum q.2).2).2).2).2) := rfl
    rw [hi] at hK33
    simp [zds, hlt]
    refine zcm hp (by omega) ?_
    generalize VM.rdNum q.2 = v1' at *
    simp [zqf]
    refine zcm (Heap.put_at _ _ _) (by omega) ?_
    generalize VM.rdNum v1'.2 = v2' at *
    rw [put_put]
    simp [zqg]
    refine zfm (st := v2'.2) (by rw [Heap.put_ne _ _ (by omega), Heap.put_at]) (by omega) ?_
    generalize VM.refN 200 v2'.2 = v3 at *
    obtain ⟨N, hN⟩ := Int.eq_ofNat_of_zero_le rg.1
    rw [hN] at hK33 ⊢
    simp only [Int.toNat_natCast] at hK33
    simp [zqh]
    generalize hX : Heap.put _ p _ = X
    have y1 : X p = some (PRd v3.2) := by rw [← hX, Heap.put_at]
    have y2 : X n' = some (.row 3 [.int .i64 v1'.1, .int .i64 v2'.1, .nils]) := by rw [← hX, Heap.put_ne _ _ (by omega), Heap.put_at]
    have yk : ∀ y, y < n' → y ≠ p → X y = H' y := fun y e1 e2 => by rw [← hX]; repeat' first | rw [Heap.put_ne _ _ (by omega)] | rfl
    clear hX
    have l3 := VM.rdMany_len VM.insOf N v3.2
    refine zajt (r := n') (st := v3.2) (by omega) (by omega) (by omega) (by omega) y1 y2 fun K74 H5 n5 I g1 g2 g3 g4 g5 g6 => ?_
    generalize VM.rdMany VM.insOf N v3.2 = u at *
    have r5 : H5 g = some (.row 9 [v0, v1, C, W, v4, v5, v6, v7, v8]) := by rw [g6 g (by omega) (by omega) (by omega), yk g (by omega) (by omega)]; exact hr
    have oI := g4.one
    simp [zdv, r5, g3]
    have rc : (crow q.1 ss).length = i * 3 := by rw [zaaa cm.1, ll]
    have s1 : Slot (H5.put n5 (some (.row 3 [.int .i64 v1'.1, .int .i64 v2'.1, I]))) 3 i (crow q.1 ss) C := sl.keep fun y hy => by
      have := ow y hy
      rw [Heap.put_ne _ _ (by omega), g6 y (by omega) (by omega) (by omega), yk y (by omega) (by omega)]
    refine s1.app (new := [.int .i64 v1'.1, .int .i64 v2'.1, I]) rc (Heap.put_at _ _ _) rfl (by simp [oI.2.1]) (by omega) fun H6 q1 q2 => ?_
    have old : ∀ y, y < n' → y ≠ p → y ∉ own C → H6 y = H' y := fun y e1 e2 e3 => by
      rw [q2 y e3 (by omega), Heap.put_ne _ _ (by omega), g6 y (by omega) e2 (by omega), yk y e1 e2]
    have r6 : H6 g = some (.row 9 [v0, v1, C, W, v4, v5, v6, v7, v8]) := by rw [old g (by omega) (by omega) fun h => (by have := ow _ h; omega)]; exact hr
    rw [r6, rowk]
    simp [hadd]
    have e1 : crow (q.1 ++ [⟨v1'.1, v2'.1, u.1⟩]) (ss ++ [I]) = crow q.1 ss ++ [.int .i64 v1'.1, .int .i64 v2'.1, I] := zxt cm.1
    refine hK33 _ _ _ (ss ++ [I]) (by omega) (by omega) ?_ (Heap.put_at _ _ _) ?_ (zbu.snoc (cm.keep fun y hy => ?_) ?_) (fun y hy => ?_) (fun y hy => ?_) fun y e2 e3 e4 => ?_
    · rw [Heap.put_ne _ _ (by omega), q2 p (fun h => by have := ow _ h; omega) (by omega), Heap.put_ne _ _ (by omega)]; exact g2
    · rw [e1]
      refine Slot.full ?_ (by simp [rc]; omega)
      rw [Heap.put_ne _ _ (by omega)]; exact q1
    · have := oc y hy
      rw [Heap.put_ne _ _ (by omega)]
      exact old y this.2.1 (by omega) this.2.2
    · show Slot _ 3 u.1.length (zcr u.1) I
      rw [l3]
      refine g4.keep fun y hy => ?_
      have := g5 y hy
      rw [Heap.put_ne _ _ (by omega), q2 y (fun h => by have := ow _ h; omega) (by omega), Heap.put_ne _ _ (by omega)]
    · have e : y = n5 + 1 := by simpa [own] using hy
      omega
    · rw [zacr] at hy
      rcases List.mem_append.1 hy with hy | hy
      · have := oc y hy
        exact ⟨this.1, by omega, by simp [own]; omega⟩
      · have := g5 y hy
        exact ⟨by omega, by omega, by simp [own]; omega⟩
    · rw [Heap.put_ne _ _ e4, old y (by omega) e3 fun h => (by have := ow _ h; omega)]
      exact kp y e2 e3 e4
  · obtain rfl : i = K := by omega
    simp [zds]
    exact hq _ _ _ ss hn hp hr sl cm ow (fun y hy => by have := oc y hy; omega) kp
end Go.Proofs.Ytpbnaaoilgohkaa
set_option maxRecDepth 8000
namespace Go.Proofs.Ytpbnaaoilgohkaa
open Go Go.RowKit
set_option maxRecDepth 20000 in
set_option maxHeartbeats 4000000 in
theorem zajr {p r n : Nat} {st : VM.St} {N : Nat} {c0 c1 : AV} {H : Heap} {K120 : J3} {x0 x1 x3 x5 x6 : AV} (hpr : p < r) (hrn : r < n) (hN : N ≤ 4096) (hb : st.1.length ≤ 4611686018427387904)
    (h1 : H p = some (PRd st)) (h2 : H r = some (.row 4 [c0, c1, .nils, .nils]))
    (hq : ∀ H' n' I, n ≤ n' → H' p = some (PRd (VM.rdMany VM.rdVal N st).2) → H' r = some (.row 4 [c0, c1, I, .nils]) → Slot H' 3 N (rowV (VM.rdMany VM.rdVal N st).1) I → (∀ y ∈ own I, n ≤ y ∧ y < n') → (∀ y, y < n → y ≠ p → y ≠ r → H' y = H y) →
      za Try.prog 33 [.ptr p 0, .int .i64 16] H' n' (zje K120 [x0, x1, .ptr p 0, x3, .ptr r 0, x5, x6, .int .i64 N, .int .i64 N])) :
    LP (zfy K120) [x0, x1, .ptr p 0, x3, .ptr r 0, x5, x6, .int .i64 N, .int .i64 0] H n := by
  refine LP.mk (fun k xs H' n' => ∃ (i : Nat) (I : AV), k = N - i ∧ i ≤ N ∧ xs = [x0, x1, .ptr p 0, x3, .ptr r 0, x5, x6, .int .i64 N, .int .i64 i] ∧ n ≤ n' ∧ H' p = some (PRd (VM.rdMany VM.rdVal i st).2) ∧ H' r = some (.row 4 [c0, c1, I, .nils]) ∧ Slot H' 3 i (rowV (VM.rdMany VM.rdVal i st).1) I ∧ (∀ y ∈ own I, n ≤ y ∧ y < n') ∧ (∀ y, y < n → y ≠ p → y ≠ r → H' y = H y)) N ⟨0, .nils, rfl, by omega, rfl, Nat.le_refl _, h1, h2, .inl ⟨rfl, .inl rfl⟩, by simp [own], fun _ _ _ _ => rfl⟩ ?_
  rintro k xs H' n' ⟨i, W, rfl, hik, rfl, hn, hp, hr, sl, ow, kp⟩
  have sm := VM.short_many VM.short_val i st
  by_cases hlt : i < N
  · have hadd : IntKind.i64.wrap ((i : Int) + 1) = ((i + 1 : Nat) : Int) := by rw [i64w (by omega)]; rfl
    have ll := VM.rdMany_len VM.rdVal i st
    have er : VM.rdMany VM.rdVal (i + 1) st = ((VM.rdMany VM.rdVal i st).1 ++ [(VM.rdVal (VM.rdMany VM.rdVal i st).2).1], (VM.rdVal (VM.rdMany VM.rdVal i st).2).2) := rfl
    generalize VM.rdMany VM.rdVal i st = q at *
    generalize hv : VM.rdVal q.2 = v at *
    have gp : ¬ p = r := by omega
    simp [zfy, hlt, hr]
    refine zj.rd hp (fun A => zmq v.1) (fun Hx nx Qx g1 g2 => zyd g1 (by omega) (by rw [hv]; exact g2)) ?_
    simp [zqe, Val.avs]
    generalize hY : Heap.put _ n' _ = Y
    have t1 : Y n' = some (.row 3 v.1.avs) := by rw [← hY, Heap.put_at]; rfl
    have t2 : Y p = some (PRd v.2) := by rw [← hY, Heap.put_ne _ _ (by omega), Heap.put_at]
    have t3 : ∀ y, y < n' → y ≠ p → Y y = H' y := fun y e1 e2 => by rw [← hY, Heap.put_ne _ _ (by omega), Heap.put_ne _ _ e2]
    clear hY
    have s1 : Slot Y 3 i (rowV q.1) W := sl.keep fun y hy => by
      have := ow y hy
      rw [t3 y (by omega) (by omega)]
    refine s1.append (new := v.1.avs) (by rw [zlt]; omega) t1 rfl (by simp [Val.avs]) (by omega) fun rd D q1 q2 q3 => ?_
    have r6 : (Y.apply D) r = some (.row 4 [c0, c1, W, .nils]) := by
      rw [q3 r (fun h => by have := ow _ h; omega) (by omega), t3 r (by omega) (by omega)]; exact hr
    have rp : (Y.apply D) p = some (PRd v.2) := by rw [q3 p (fun h => by have := ow _ h; omega) (by omega)]; exact t2
    have rk : ∀ y, y < n → y ≠ p → (Y.apply D) y = H' y := fun y e1 e2 => by
      rw [q3 y (fun h => by have := ow _ h; omega) (by omega), t3 y (by omega) e2]
    rw [r6, rowk]
    simp [hadd]
    generalize Y.apply D = Z at *
    refine ⟨fun h => absurd h gp, by omega, N - (i + 1), by omega, i + 1, rfl, by omega, by omega, by omega, ?_, ?_, fun y hy => ?_, fun y h3 h4 h5 => ?_⟩
    · rw [if_neg gp, er]; exact rp
    · rw [er]
      refine Slot.full ?_ (by rw [zlt]; simp [ll])
      rw [Heap.put_ne _ _ (by omega), q2]
      simp [rowV]
    · have e : y = n' + 1 := by simpa [own] using hy
      omega
    · rw [if_neg h5, rk y h3 h4]
      exact kp y h3 h4 h5
  · obtain rfl : i = N := by omega
    simp [zfy]
    exact hq _ _ _ hn hp hr sl ow kp
set_option maxRecDepth 20000 in
set_option maxHeartbeats 4000000 in
theorem zajs {p r n : Nat} {st : VM.St} {N : Nat} {c0 c1 V : AV} {H : Heap} {K120 : J3} {x0 x1 x3 x5 x6 : AV} (hpr : p < r) (hrn : r < n) (hN : N ≤ 4096) (hb : st.1.length ≤ 4611686018427387904)
    (h1 : H p = some (PRd st)) (h2 : H r = some (.row 4 [c0, c1, V, .nils]))
    (hq : ∀ (K164 : J3) H' n' I, n ≤ n' → H' p = some (PRd (VM.rdMany VM.rdVal N st).2) → H' r = some (.row 4 [c0, c1, V, I]) → Slot H' 3 N (rowV (VM.rdMany VM.rdVal N st).1) I → (∀ y ∈ own I, n ≤ y ∧ y < n') → (∀ y, y < n → y ≠ p → y ≠ r → H' y = H y) →
      zdu K120 K164 [x0, x1, .ptr p 0, x3, .ptr r 0, x5, x6, .int .i64 N, .int .i64 N] H' n') :
    LP (zdu K120) [x0, x1, .ptr p 0, x3, .ptr r 0, x5, x6, .int .i64 N, .int .i64 0] H n := by
  refine LP.mk (fun k xs H' n' => ∃ (i : Nat) (I : AV), k = N - i ∧ i ≤ N ∧ xs = [x0, x1, .ptr p 0, x3, .ptr r 0, x5, x6, .int .i64 N, .int .i64 i] ∧ n ≤ n' ∧ H' p = some (PRd (VM.rdMany VM.rdVal i st).2) ∧ H' r = some (.row 4 [c0, c1, V, I]) ∧ Slot H' 3 i (rowV (VM.rdMany VM.rdVal i st).1) I ∧ (∀ y ∈ own I, n ≤ y ∧ y < n') ∧ (∀ y, y < n → y ≠ p → y ≠ r → H' y = H y)) N ⟨0, .nils, rfl, by omega, rfl, Nat.le_refl _, h1, h2, .inl ⟨rfl, .inl rfl⟩, by simp [own], fun _ _ _ _ => rfl⟩ ?_
  rintro k xs H' n' ⟨i, W, rfl, hik, rfl, hn, hp, hr, sl, ow, kp⟩
  have sm := VM.short_many VM.short_val i st
  by_cases hlt : i < N
  · have hadd : IntKind.i64.wrap ((i : Int) + 1) = ((i + 1 : Nat) : Int) := by rw [i64w (by omega)]; rfl
    have ll := VM.rdMany_len VM.rdVal i st
    have er : VM.rdMany VM.rdVal (i + 1) st = ((VM.rdMany VM.rdVal i st).1 ++ [(VM.rdVal (VM.rdMany VM.rdVal i st).2).1], (VM.rdVal (VM.rdMany VM.rdVal i st).2).2) := rfl
    generalize VM.rdMany VM.rdVal i st = q at *
    generalize hv : VM.rdVal q.2 = v at *
    have gp : ¬ p = r := by omega
    simp [zdu, hlt, hr]
    refine zj.rd hp (fun A => zmq v.1) (fun Hx nx Qx g1 g2 => zyd g1 (by omega) (by rw [hv]; exact g2)) ?_
    simp [zqd, Val.avs]
    generalize hY : Heap.put _ n' _ = Y
    have t1 : Y n' = some (.row 3 v.1.avs) := by rw [← hY, Heap.put_at]; rfl
    have t2 : Y p = some (PRd v.2) := by rw [← hY, Heap.put_ne _ _ (by omega), Heap.put_at]
    have t3 : ∀ y, y < n' → y ≠ p → Y y = H' y := fun y e1 e2 => by rw [← hY, Heap.put_ne _ _ (by omega), Heap.put_ne _ _ e2]
    clear hY
    have s1 : Slot Y 3 i (rowV q.1) W := sl.keep fun y hy => by
      have := ow y hy
      rw [t3 y (by omega) (by omega)]
    refine s1.append (new := v.1.avs) (by rw [zlt]; omega) t1 rfl (by simp [Val.avs]) (by omega) fun rd D q1 q2 q3 => ?_
    have r6 : (Y.apply D) r = some (.row 4 [c0, c1, V, W]) := by
      rw [q3 r (fun h => by have := ow _ h; omega) (by omega), t3 r (by omega) (by omega)]; exact hr
    have rp : (Y.apply D) p = some (PRd v.2) := by rw [q3 p (fun h => by have := ow _ h; omega) (by omega)]; exact t2
    have rk : ∀ y, y < n → y ≠ p → (Y.apply D) y = H' y := fun y e1 e2 => by
      rw [q3 y (fun h => by have := ow _ h; omega) (by omega), t3 y (by omega) e2]
    rw [r6, rowk]
    simp [hadd]
    generalize Y.apply D = Z at *
    refine ⟨fun h => absurd h gp, by omega, N - (i + 1), by omega, i + 1, rfl, by omega, by omega, by omega, ?_, ?_, fun y hy => ?_, fun y h3 h4 h5 => ?_⟩
    · rw [if_neg gp, er]; exact rp
    · rw [er]
      refine Slot.full ?_ (by rw [zlt]; simp [ll])
      rw [Heap.put_ne _ _ (by omega), q2]
      simp [rowV]
    · have e : y = n' + 1 := by simpa [own] using hy
      omega
    · rw [if_neg h5, rk y h3 h4]
      exact kp y h3 h4 h5
  · obtain rfl : i = N := by omega
    exact hq _ _ _ _ hn hp hr sl ow kp
set_option maxRecDepth 20000 in
set_option maxHeartbeats 4000000 in
theorem zajp {a0 : AV} {z p g n : Nat} {st : VM.St} {K : Nat} {v0 v1 v2 v3 v5 v6 v7 v8 : AV} {H : Heap} {Q : QT} (hpg : p < g) (hgn : g < n) (hK : K ≤ 4096) (hb : st.1.length ≤ 4611686018427387904)
    (h1 : H p = some (PRd st)) (h2 : H g = some (.row 9 [v0, v1, v2, v3, .nils, v5, v6, v7, v8]))
    (hq : ∀ H' n' C ss, n ≤ n' → H' p = some (PRd (VM.rdMany (VM.frmOf VM.refN) K st).2) → H' g = some (.row 9 [v0, v1, v2, v3, C, v5, v6, v7, v8]) → Slot H' 4 K (frow (VM.rdMany (VM.frmOf VM.refN) K st).1 ss) C → zx H' (VM.rdMany (VM.frmOf VM.refN) K st).1 ss → (∀ y ∈ own C, n ≤ y ∧ y < n') → (∀ y ∈ owns ss, n ≤ y ∧ y < n') → (∀ y, y < n → y ≠ p → y ≠ g → H' y = H y) →
      za Try.prog 33 [.ptr p 0, .int .i64 60] H' n' (zjd Q [a0, .ptr z 0, .ptr p 0, .ptr g 0, .int .i64 K, .int .i64 K])) :
    LP (zdt Q) [a0, .ptr z 0, .ptr p 0, .ptr g 0, .int .i64 K, .int .i64 0] H n := by
  refine LP.mk (fun k xs H' n' => ∃ (i : Nat) (C : AV) (ss : List (AV × AV)), k = K - i ∧ i ≤ K ∧ xs = [a0, .ptr z 0, .ptr p 0, .ptr g 0, .int .i64 K, .int .i64 i] ∧ n ≤ n' ∧ H' p = some (PRd (VM.rdMany (VM.frmOf VM.refN) i st).2) ∧ H' g = some (.row 9 [v0, v1, v2, v3, C, v5, v6, v7, v8]) ∧ Slot H' 4 i (frow (VM.rdMany (VM.frmOf VM.refN) i st).1 ss) C ∧ zx H' (VM.rdMany (VM.frmOf VM.refN) i st).1 ss ∧ (∀ y ∈ own C, n ≤ y ∧ y < n') ∧ (∀ y ∈ owns ss, n ≤ y ∧ y < n' ∧ y ∉ own C) ∧ (∀ y, y < n → y ≠ p → y ≠ g → H' y = H y)) K ⟨0, .nils, [], rfl, by omega, rfl, Nat.le_refl _, h1, h2, .inl ⟨rfl, .inl rfl⟩, ⟨rfl, fun k c s hc => by simp [VM.rdMany] at hc⟩, by simp [own], by simp [owns], fun _ _ _ _ => rfl⟩ ?_
  rintro k xs H' n' ⟨i, C, ss, rfl, hik, rfl, hn, hp, hr, sl, cm, ow, oc, kp⟩
  have sm := VM.short_many (VM.short_frm VM.counts_ref) i st
  by_cases hlt : i < K
  · suffices key : ∀ K33 : J3, (∀ H' n' C ss, i + 1 ≤ K → n ≤ n' → H' p = some (PRd (VM.rdMany (VM.frmOf VM.refN) (i + 1) st).2) → H' g = some (.row 9 [v0, v1, v2, v3, C, v5, v6, v7, v8]) → Slot H' 4 (i + 1) (frow (VM.rdMany (VM.frmOf VM.refN) (i + 1) st).1 ss) C → zx H' (VM.rdMany (VM.frmOf VM.refN) (i + 1) st).1 ss → (∀ y ∈ own C, n ≤ y ∧ y < n') → (∀ y ∈ owns ss, n ≤ y ∧ y < n' ∧ y ∉ own C) → (∀ y, y < n → y ≠ p → y ≠ g → H' y = H y) → K33 [a0, .ptr z 0, .ptr p 0, .ptr g 0, .int .i64 K, .int .i64 (i + 1 : Nat)] H' n') →
        zdt Q K33 [a0, .ptr z 0, .ptr p 0, .ptr g 0, .int .i64 K, .int .i64 i] H' n' from
      key _ fun H' n' C ss g1 g2 g3 g4 g5 g6 g7 g8 g9 => ⟨K - (i + 1), by omega, i + 1, C, ss, rfl, g1, rfl, g2, g3, g4, g5, g6, g7, g8, g9⟩
    intro K33 hK33
    have hadd : IntKind.i64.wrap ((i : Int) + 1) = ((i + 1 : Nat) : Int) := by rw [i64w (by omega)]; rfl
    have ll := VM.rdMany_len (VM.frmOf VM.refN) i st
    have er : VM.rdMany (VM.frmOf VM.refN) (i + 1) st = ((VM.rdMany (VM.frmOf VM.refN) i st).1 ++ [(VM.frmOf VM.refN (VM.rdMany (VM.frmOf VM.refN) i st).2).1], (VM.frmOf VM.refN (VM.rdMany (VM.frmOf VM.refN) i st).2).2) := rfl
    rw [er] at hK33
    generalize VM.rdMany (VM.frmOf VM.refN) i st = q at *
    unfold VM.frmOf VM.listOf at hK33
    simp only at hK33
    have a1 := VM.short_num q.2
    simp [zdt, hlt]
    refine zcm hp (by omega) ?_
    generalize VM.rdNum q.2 = w1 at *
    have a2 := VM.short_num w1.2
    simp [zou]
    refine zcm (Heap.put_at _ _ _) (by omega) ?_
    generalize VM.rdNum w1.2 = w2 at *
    rw [put_put]
    have a3 := VM.short_refN 8 w2.2
    have rg := VM.counts_ref.range 8 (by omega) w2.2
    simp [zov]
    refine zfm (st := w2.2) (by rw [Heap.put_ne _ _ (by omega), Heap.put_at]) (by omega) ?_
    generalize VM.refN 8 w2.2 = w3 at *
    obtain ⟨N, hN⟩ := Int.eq_ofNat_of_zero_le rg.1
    rw [hN] at hK33 ⊢
    simp only [Int.toNat_natCast] at hK33
    simp [zow]
    generalize hX : Heap.put _ p _ = X
    have y1 : X p = some (PRd w3.2) := by rw [← hX, Heap.put_at]
    have y2 : X n' = some (.row 4 [.int .i64 w1.1, .int .i64 w2.1, .nils, .nils]) := by rw [← hX, Heap.put_ne _ _ (by omega), Heap.put_at]
    have yk : ∀ y, y < n' → y ≠ p → X y = H' y := fun y e1 e2 => by rw [← hX]; repeat' first | rw [Heap.put_ne _ _ (by omega)] | rfl
    clear hX
    have l3 := VM.rdMany_len VM.rdVal N w3.2
    have a4 := VM.short_many VM.short_val N w3.2
    refine zajr (r := n') (st := w3.2) (by omega) (by omega) (by omega) (by omega) y1 y2 fun H4 n4 V f1 f2 f3 f4 f5 f6 => ?_
    generalize VM.rdMany VM.rdVal N w3.2 = w4 at *
    have a5 := VM.short_refN 16 w4.2
    have rg2 := VM.counts_ref.range 16 (by omega) w4.2
    refine zfm (st := w4.2) f2 (by omega) ?_
    generalize VM.refN 16 w4.2 = w5 at *
    obtain ⟨M, hM⟩ := Int.eq_ofNat_of_zero_le rg2.1
    rw [hM] at hK33 ⊢
    simp only [Int.toNat_natCast] at hK33
    simp [zje]
    have l5 := VM.rdMany_len VM.rdVal M w5.2
    refine zajs (n := n4) (r := n') (st := w5.2) (by omega) (by omega) (by omega) (by omega) (Heap.put_at _ _ _) (by rw [Heap.put_ne _ _ (by omega)]; exact f3) fun K164 H5 n5 I g1 g2 g3 g4 g5 g6 => ?_
    generalize VM.rdMany VM.rdVal M w5.2 = u at *
    have h54 : ∀ y, y < n4 → y ≠ p → y ≠ n' → H5 y = H4 y := fun y e1 e2 e3 => by rw [g6 y e1 e2 e3, Heap.put_ne _ _ e2]
    have r5 : H5 g = some (.row 9 [v0, v1, v2, v3, C, v5, v6, v7, v8]) := by rw [h54 g (by omega) (by omega) (by omega), f6 g (by omega) (by omega) (by omega), yk g (by omega) (by omega)]; exact hr
    have oI := g4.one
    have oV := f4.one
    simp [zdu, r5, g3]
    have rc : (frow q.1 ss).length = i * 4 := by rw [zmd cm.1, ll]
    have h5' : ∀ y, y < n' → y ≠ p → H5 y = H' y := fun y e1 e2 => by rw [h54 y (by omega) e2 (by omega), f6 y (by omega) e2 (by omega), yk y e1 e2]
    have s1 : Slot (H5.put n5 (some (.row 4 [.int .i64 w1.1, .int .i64 w2.1, V, I]))) 4 i (frow q.1 ss) C := sl.keep fun y hy => by
      have := ow y hy
      rw [Heap.put_ne _ _ (by omega), h5' y (by omega) (by omega)]
    refine s1.app (new := [.int .i64 w1.1, .int .i64 w2.1, V, I]) rc (Heap.put_at _ _ _) rfl (by simp [oI.2.1, oV.2.1]) (by omega) fun H6 q1 q2 => ?_
    have old : ∀ y, y < n' → y ≠ p → y ∉ own C → H6 y = H' y := fun y e1 e2 e3 => by
      rw [q2 y e3 (by omega), Heap.put_ne _ _ (by omega), h5' y e1 e2]
    have r6 : H6 g = some (.row 9 [v0, v1, v2, v3, C, v5, v6, v7, v8]) := by rw [old g (by omega) (by omega) fun h => (by have := ow _ h; omega)]; exact hr
    rw [r6, rowk]
    simp [hadd]
    have e1 : frow (q.1 ++ [⟨w1.1, w2.1, w4.1, u.1⟩]) (ss ++ [(V, I)]) = frow q.1 ss ++ [.int .i64 w1.1, .int .i64 w2.1, V, I] := zxm cm.1
    have new : ∀ y, n' < y → y < n5 → (H6.put g (some (.row 9 [v0, v1, v2, v3, .slc (n5 + 1) 0 (i + 1), v5, v6, v7, v8]))) y = H5 y := fun y e1 e2 => by
      rw [Heap.put_ne _ _ (by omega), q2 y (fun h => by have := ow _ h; omega) (by omega), Heap.put_ne _ _ (by omega)]
    refine hK33 _ _ _ (ss ++ [(V, I)]) (by omega) (by omega) ?_ (Heap.put_at _ _ _) ?_ (zx.snoc (cm.keep fun y hy => ?_) ?_ ?_) (fun y hy => ?_) (fun y hy => ?_) fun y e2 e3 e4 => ?_
    · rw [Heap.put_ne _ _ (by omega), q2 p (fun h => by have := ow _ h; omega) (by omega), Heap.put_ne _ _ (by omega)]; exact g2
    · rw [e1]
      refine Slot.full ?_ (by simp [rc]; omega)
      rw [Heap.put_ne _ _ (by omega)]; exact q1
    · have := oc y hy
      rw [Heap.put_ne _ _ (by omega)]
      exact old y this.2.1 (by omega) this.2.2
    · show Slot _ 3 w4.1.length (rowV w4.1) V
      rw [l3]
      refine f4.keep fun y hy => ?_
      have := f5 y hy
      rw [new y (by omega) (by omega), h54 y (by omega) (by omega) (by omega)]
    · show Slot _ 3 u.1.length (rowV u.1) I
      rw [l5]
      refine g4.keep fun y hy => ?_
      have := g5 y hy
      rw [new y (by omega) (by omega)]
    · have e : y = n5 + 1 := by simpa [own] using hy
      omega
    · rw [zxh] at hy
      rcases List.mem_append.1 hy with hy | hy
      · have := oc y hy
        exact ⟨this.1, by omega, by simp [own]; omega⟩
      · rcases List.mem_append.1 hy with hy | hy
        · have := f5 y hy
          exact ⟨by omega, by omega, by simp [own]; omega⟩
        · have := g5 y hy
          exact ⟨by omega, by omega, by simp [own]; omega⟩
    · rw [Heap.put_ne _ _ e4, old y (by omega) e3 fun h => (by have := ow _ h; omega)]
      exact kp y e2 e3 e4
  · obtain rfl : i = K := by omega
    simp [zdt]
    exact hq _ _ _ ss hn hp hr sl cm ow (fun y hy => by have := oc y hy; omega) kp
end Go.Proofs.Ytpbnaaoilgohkaa
set_option maxRecDepth 8000
namespace Go.Proofs.Ytpbnaaoilgohkaa
open Go Go.RowKit
def zagt : List AV := [.int .i64 0, .int .i64 0, .nils, .nils, .nils, .nils, .int .i64 0, .int .i64 0, .int .i64 0]
set_option maxRecDepth 20000 in
set_option maxHeartbeats 4000000 in
theorem zagh {b : Str} {H : Heap} {nx : Nat} {Q : QT} (hb : b.length ≤ 4611686018427387904)
    (hq : ∀ H' n' F C v r, r = VM.agtOf VM.rdCount (b, 0) → nx + 3 ≤ n' → H' (nx + 1) = some (PRd r.2) → H' (nx + 2) = some (.row 9 (zaj r.1.id r.1.trip r.1.prog F C r.1.permit)) → Slot H' 4 r.1.frames.length (zkx r.1.frames) F → Slot H' 6 r.1.heap.length (zgi r.1.heap) C → (∀ y ∈ own F, nx + 3 ≤ y ∧ y < n') → (∀ y ∈ own C, nx + 3 ≤ y ∧ y < n') → H' nx = some (.row 9 zagt) → Keep nx H' H →
      zec Q [.ro (bsR b), .ptr nx 0, .ptr (nx + 1) 0, .ptr (nx + 2) 0, .int .i64 r.1.heap.length, .int .i64 r.1.heap.length] v H' n') :
    zly (.ro (bsR b)) H nx Q := by
  have hq := fun H' n' F C v => hq H' n' F C v _ rfl
  unfold zly
  simp
  unfold VM.agtOf VM.listOf at hq
  simp only at hq
  refine zcf (st := (b, 0)) (Heap.put_at _ _ _) hb ?_
  have a1 := VM.short_num (b, 0)
  generalize VM.rdNum (b, 0) = i at *
  simp only at a1
  simp [zrx]
  refine zcf (st := i.2) (Heap.put_at _ _ _) (by omega) ?_
  have a2 := VM.short_num i.2
  generalize VM.rdNum i.2 = t at *
  rw [put_put]
  simp [zry]
  refine zcf (st := t.2) (by rw [Heap.put_ne _ _ (by omega), Heap.put_at]) (by omega) ?_
  have a3 := VM.short_num t.2
  generalize VM.rdNum t.2 = u at *
  simp [zrz]
  refine zcf (st := u.2) (Heap.put_at _ _ _) (by omega) ?_
  have a4 := VM.short_num u.2
  generalize VM.rdNum u.2 = c at *
  rw [put_put]
  simp [zsa]
  refine zcf (st := c.2) (Heap.put_at _ _ _) (by omega) ?_
  have a5 := VM.short_num c.2
  generalize VM.rdNum c.2 = h at *
  rw [put_put]
  simp [zsb]
  refine ⟨by rintro x ((rfl | rfl) | rfl) <;> rfl, ?_⟩
  refine zaga (st := h.2) (by rw [Heap.put_ne _ _ (by omega), Heap.put_at]) (by omega) ?_
  have a6 := VM.short_prg VM.counts_rd h.2
  generalize VM.prgOf VM.rdCount h.2 = p at *
  simp [zsc, Prg.avs]
  refine zjo (st := p.2) (by rw [Heap.put_ne _ _ (by omega), Heap.put_at]) (by omega) ?_
  have a7 := VM.short_count 12 p.2
  have rg := VM.rdCount_range (most := 12) (by omega) p.2
  generalize VM.rdCount 12 p.2 = d at *
  obtain ⟨K, hK⟩ := Int.eq_ofNat_of_zero_le rg.1
  rw [hK] at hq ⊢
  simp only [Int.toNat_natCast, zsd] at hq ⊢
  generalize hX : Heap.put _ (nx + 1) _ = X
  have x1 : X (nx + 1) = some (PRd d.2) := by rw [← hX, Heap.put_at]
  have x2 : X (nx + 2) = some (.row 9 (zaj i.1 t.1 p.1 .nils .nils ⟨u.1, c.1, h.1⟩)) := by rw [← hX, Heap.put_ne _ _ (by omega), Heap.put_at]; rfl
  have x0 : X nx = some (.row 9 zagt) := by rw [← hX]; repeat' first | rw [Heap.put_ne _ _ (by omega)] | exact Heap.put_at _ _ _
  have xk : Keep nx X H := fun y hy => by rw [← hX]; repeat' first | rw [Heap.put_ne _ _ (by omega)] | rfl
  clear hX
  have lf := VM.rdMany_len (VM.frmOf VM.rdCount) K d.2
  have a8 := VM.short_many (VM.short_frm VM.counts_rd) K d.2
  refine zamh (n := nx + 3) (st := d.2) (by omega) (by omega) (by omega) (by omega) x1 x2 fun H1 n1 F g0 g1 g2 g3 g4 g5 => ?_
  generalize VM.rdMany (VM.frmOf VM.rdCount) K d.2 = f at *
  refine zjo g1 (by omega) ?_
  have a9 := VM.short_count 60 f.2
  have rg2 := VM.rdCount_range (most := 60) (by omega) f.2
  generalize VM.rdCount 60 f.2 = e at *
  obtain ⟨M, hM⟩ := Int.eq_ofNat_of_zero_le rg2.1
  rw [hM] at hq ⊢
  simp only [Int.toNat_natCast] at hq ⊢
  simp [zlb]
  have lk := VM.rdMany_len VM.clOf M e.2
  have a10 := VM.short_many VM.short_cl M e.2
  refine zami (n := n1) (st := e.2) (by omega) (by omega) (by omega) (by omega) (Heap.put_at _ _ _) (by rw [Heap.put_ne _ _ (by omega)]; exact g2) fun H2 n2 C k0 k1 k2 k3 k4 k5 => ?_
  generalize VM.rdMany VM.clOf M e.2 = k at *
  refine zcf k1 (by omega) ?_
  have old : ∀ y, y < n1 → y ≠ nx + 1 → y ≠ nx + 2 → (H2.put (nx + 1) (some (PRd (VM.rdNum k.2).2))) y = H1 y := fun y h1 h2 h3 => by rw [Heap.put_ne _ _ h2, k5 y h1 h2 h3, Heap.put_ne _ _ h2]
  subst lk
  refine hq _ n2 F C _ (by omega) (Heap.put_at _ _ _) (by rw [Heap.put_ne _ _ (by omega)]; exact k2) (by rw [lf]; exact g3.keep fun y hy => old y (g4 y hy).2 (by have := g4 y hy; omega) (by have := g4 y hy; omega)) (k3.keep fun y hy => by have := k4 y hy; rw [Heap.put_ne _ _ (by omega)]) (fun y hy => by have := g4 y hy; omega) (fun y hy => by have := k4 y hy; omega) (by rw [old nx (by omega) (by omega) (by omega), g5 nx (by omega) (by omega) (by omega)]; exact x0) fun y hy => ?_
  rw [old y (by omega) (by omega) (by omega), g5 y (by omega) (by omega) (by omega)]; exact xk y hy
end Go.Proofs.Ytpbnaaoilgohkaa
