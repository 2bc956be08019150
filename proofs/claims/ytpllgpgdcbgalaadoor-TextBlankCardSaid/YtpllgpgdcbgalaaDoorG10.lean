/- The program's parser: statements, as a whole. The program's parser: texts as a whole. Functions that are the same are told so; TextTells. TextJoined. TextBlank. The library's laid variables, where a row lists five of them: three tables, two errors. The wrap of a law's row that lists variables, the world's shape kept. -/
import Derived.Test.YtpllgpgdcbgalaaDoorG9
import Derived.Test.YtpllgpgdcbgalaaDoorG7
import Derived.Test.YtpllgpgdcbgalaaDoorG1
import Derived.Stop.LaidErr
import Derived.Handed
import Derived.HandedShaped
import Derived.Shelf.Vars
set_option linter.unusedSimpArgs false
set_option linter.unusedVariables false
set_option maxRecDepth 8000
namespace Go.Proofs.YtpllgpgdcbgalaaDoor
open Go Go.RowKit
structure TxB (s : Str) (H0 : Heap) (n g : Nat) (dz : Int) (st : VM.St) (H : Heap) : Prop where
  r0 : H n = some (.row 1 [.ptr g 0])
  r1 : H (n + 1) = some (.row 1 [.int .i64 dz])
  r2 : ∃ cs, H (n + 2) = some (.row 5 cs) ∧ cs.length = 5
  rg : H g = some (PT s st)
  suf : st.1 <:+ s
  gn : g < n
  keep : ∀ y, y < n → y ≠ g → H y = H0 y
section
variable {s : Str} {d : Nat} {H0 H : Heap} {n g m : Nat} {dz : Int} {st st' : VM.St} {Q : QT}
theorem TxB.put (h : TxB s H0 n g dz st H) (hs : st'.1 <:+ s) : TxB s H0 n g dz st' (H.put g (some (PT s st'))) := by
  have hb := h.gn
  obtain ⟨cs, h2, h3⟩ := h.r2
  exact ⟨by rw [Heap.put_ne _ _ (by omega)]; exact h.r0, by rw [Heap.put_ne _ _ (by omega)]; exact h.r1, ⟨cs, by rw [Heap.put_ne _ _ (by omega)]; exact h2, h3⟩, Heap.put_at _ _ _, hs, hb, fun y hy hne => by rw [Heap.put_ne _ _ hne]; exact h.keep y hy hne⟩
theorem TxB.cell {k : Int} (h : TxB s H0 n g dz st H) (hm : n + 3 ≤ m) : TxS s H0 n g m dz k [] [] .nils .nils st (H.put m (some (.row 5 [.int .i64 k, .str [], .nils, .nils, .nils]))) (m + 1) := by
  have hb := h.gn
  obtain ⟨cs, h2, h3⟩ := h.r2
  exact ⟨by rw [Heap.put_ne _ _ (by omega)]; exact h.r0, by rw [Heap.put_ne _ _ (by omega)]; exact h.r1, ⟨cs, by rw [Heap.put_ne _ _ (by omega)]; exact h2, h3⟩, ⟨.nils, Heap.put_at _ _ _, .nil⟩, by rw [Heap.put_ne _ _ (by omega)]; exact h.rg, h.suf, hb, hm, by omega, fun y hy hne => by rw [Heap.put_ne _ _ (by omega)]; exact h.keep y hy hne⟩
theorem zsq (hE : zbm s d) (hl : s.length ≤ 1500) (hd : d ≤ 11) {k : Int} (h : TxB s H0 n g (10 - (d : Int)) st H) (hm : n + 3 ≤ m) (hq : TsQ s H0 n g (.mk k (VM.nF st).1 [(VM.exprF d (VM.nF st).2).1] [] []) (VM.mustF 41 (VM.exprF d (VM.nF st).2).2) Q) :
    za Tryd.prog 44 [.ptr g 0] (H.put m (some (.row 5 [.int .i64 k, .str [], .nils, .nils, .nils]))) (m + 1) (zab m n Q) := by
  have h1 := h.cell (k := k) hm
  generalize H.put m _ = H1 at h1 ⊢
  refine zmp hl h1.suf h1.rg ?_
  have h2 := h1.put (zpc h1.suf)
  generalize H1.put g _ = H2 at h2 ⊢
  generalize VM.nF st = r at *
  obtain ⟨A, rx, ra⟩ := h2.rx
  have h3 := h2.set (k' := k) (nm' := r.1) (T' := .nils) (E' := .nils) rx
  simp [zab, rx]
  exact zrd hE hl hd h3 hq
set_option maxHeartbeats 2000000 in
theorem ztr (hE : zbm s d) (hS : zie s d) (hl : s.length ≤ 1500) (hd : d ≤ 11) {w : Str} (h : TxB s H0 n g (10 - (d : Int)) st H) (hm : n + 3 ≤ m) (hq : TsQ s H0 n g (VM.stF d w st).1 (VM.stF d w st).2 Q) : zh n Q (.str w) H m := by
  have r0 := h.r0
  have c := fun k => h.cell (k := k) hm
  have ne_0 : n ≠ m ∧ m ≠ n := ⟨by omega, by omega⟩
  by_cases h1 : w = [108, 101, 116]
  · subst h1
    rw [VM.stF_nm (.inl (by decide))] at hq
    have := zsq hE hl hd h hm hq
    simp [zh, r0, ne_0]
    exact this
  by_cases h2 : w = [115, 101, 116]
  · subst h2
    rw [VM.stF_nm (.inr (by decide))] at hq
    have := zsq hE hl hd h hm hq
    simp [zh, r0, ne_0]
    exact this
  by_cases h3 : w = [105, 102]
  · subst h3
    rw [VM.stF_if (by decide)] at hq
    have := zwd hE hS hl hd (c 3) hq
    simp [zh]
    exact this
  by_cases h4 : w = [119, 104, 105, 108, 101]
  · subst h4
    rw [VM.stF_while (by decide)] at hq
    have := zso hE hS hl hd (c 4) hq
    simp [zh]
    exact this
  have one : ∀ k H', TxS s H0 n g m (10 - (d : Int)) k [] [] .nils .nils st H' (m + 2) → (VM.stKind w = 5 ∨ VM.stKind w = 6 ∨ VM.stKind w = 9) → VM.stKind w = k → za Tryd.prog 75 [.ptr m 0, .ptr n 0, .ptr (n + 1) 0] H' (m + 2) (zl n m Q) := by
    rintro k H' hc hk rfl
    rw [VM.stF_one hk] at hq
    exact zrd hE hl hd hc hq
  have mp : ∀ k (o : Option AObj), TxS s H0 n g m (10 - (d : Int)) k [] [] .nils .nils st ((((H.put m (some (.row 5 [.int .i64 0, .str [], .nils, .nils, .nils]))).put (m + 1) o)).put m (some (.row 5 [.int .i64 k, .str [], .nils, .nils, .nils]))) (m + 2) := fun k o =>
    ((c 0).new (o := o) (y := m + 1) (m' := m + 2) (by omega) (by omega)).set (by rw [Heap.put_ne _ _ (by omega), Heap.put_at])
  have ne_1 : n ≠ m ∧ m ≠ n ∧ n ≠ m + 1 ∧ m + 1 ≠ n ∧ m ≠ m + 1 ∧ m + 1 ≠ m := ⟨by omega, by omega, by omega, by omega, by omega, by omega⟩
  by_cases h5 : w = [115, 97, 121]
  · subst h5
    have := one 5 _ (mp 5 (some (.mp [(.str [115, 97, 121], .int .i64 5), (.str [114, 101, 116, 117, 114, 110], .int .i64 6), (.str [100, 111], .int .i64 9)]))) (.inl (by decide)) (by decide)
    simp [zh, ne_1]
    exact this
  by_cases h6 : w = [114, 101, 116, 117, 114, 110]
  · subst h6
    have := one 6 _ (mp 6 (some (.mp [(.str [115, 97, 121], .int .i64 5), (.str [114, 101, 116, 117, 114, 110], .int .i64 6), (.str [100, 111], .int .i64 9)]))) (.inr (.inl (by decide))) (by decide)
    simp [zh, ne_1]
    exact this
  by_cases h9 : w = [100, 111]
  · subst h9
    have := one 9 _ (mp 9 (some (.mp [(.str [115, 97, 121], .int .i64 5), (.str [114, 101, 116, 117, 114, 110], .int .i64 6), (.str [100, 111], .int .i64 9)]))) (.inr (.inr (by decide))) (by decide)
    simp [zh, ne_1]
    exact this
  by_cases h7 : w = [112, 117, 116, 108]
  · subst h7
    rw [VM.stF_two (.inl (by decide))] at hq
    have := zrc hE hl hd (c 7) hq
    simp [zh]
    exact this
  by_cases h8 : w = [112, 117, 116, 114]
  · subst h8
    rw [VM.stF_two (.inr (by decide))] at hq
    have := zrc hE hl hd (c 8) hq
    simp [zh]
    exact this
  · have hk : VM.stKind w = 0 := by simp [VM.stKind, h1, h2, h3, h4, h5, h6, h7, h8, h9]
    rw [VM.stF_bad hk] at hq
    have c0 := c 0
    simp [zh, h1, h2, h3, h4, h5, h6, h7, h8, h9, r0, ne_1]
    refine zaq c0.rg ?_
    exact tk2 hl _ (c0.put (st' := VM.badF 1 st) c0.suf) hq
end
set_option maxHeartbeats 1000000 in
theorem ztq {s : Str} (hl : s.length ≤ 1500) : ∀ d, d ≤ 11 → zie s d := by
  intro d
  induction d with
  | zero =>
    intro _ st g H n Q hs hg hq
    refine za.tparser (st' := (VM.stmtF 0 st).2) hg (fun hgn => ?_) hq
    suffices main : ∀ Q : QT, TsQ s H n g (VM.stmtF 0 st).1 (VM.stmtF 0 st).2 Q → za Tryd.prog 65 [.ptr g 0, .int .i64 (11 - ((0 : Nat) : Int))] H n Q from main _ fun v H' n' a b c => ⟨a, b, c⟩
    intro Q hq
    refine zdm _ _ _ _ _ ?_
    simp [zcr]
    have h0 : TxB s H n g 11 st (((H.put n (some (.row 1 [.ptr g 0]))).put (n + 1) (some (.row 1 [.int .i64 11]))).put (n + 2) (some (.row 5 [.int .i64 0, .str [], .nils, .nils, .nils]))) :=
      ⟨by rw [Heap.put_ne _ _ (by omega), Heap.put_ne _ _ (by omega), Heap.put_at], by rw [Heap.put_ne _ _ (by omega), Heap.put_at], ⟨_, Heap.put_at _ _ _, rfl⟩, by rw [Heap.put_ne _ _ (by omega), Heap.put_ne _ _ (by omega), Heap.put_ne _ _ (by omega)]; exact hg, hs, hgn, fun y hy _ => by rw [Heap.put_ne _ _ (by omega), Heap.put_ne _ _ (by omega), Heap.put_ne _ _ (by omega)]⟩
    generalize Heap.put (Heap.put (Heap.put H n _) (n + 1) _) (n + 2) _ = H3 at h0 ⊢
    refine zkc h0.rg ?_
    rw [if_neg (by omega)]
    have h1 := h0.put (st' := VM.badF 9 st) h0.suf
    obtain ⟨cs, r2, r2l⟩ := h1.r2
    generalize H3.put g _ = H4 at h1 r2 ⊢
    simp [zbb, r2, r2l]
    have := h1.cell (k := 0) (m := n + 3) (by omega)
    refine hq _ _ _ ?_ (by rw [Heap.put_ne _ _ (by omega)]; exact h1.rg) fun y hy hne => by rw [Heap.put_ne _ _ (by omega)]; exact h1.keep y hy hne
    show Frz _ _ _ (.agg (Sm.avs (.mk 0 [] [] [] [])))
    rw [zgm]
    exact FL.agg (.cons (.same _ (.int _ _)) (.cons (.same _ (.str _)) (.cons .nils (.cons .nils (.cons .nils .nil)))))
  | succ d ih =>
    intro hd st g H n Q hs hg hq
    have hS := ih (by omega)
    have hE := ztu hl d (by omega)
    refine za.tparser (st' := (VM.stmtF (d + 1) st).2) hg (fun hgn => ?_) hq
    suffices main : ∀ Q : QT, TsQ s H n g (VM.stmtF (d + 1) st).1 (VM.stmtF (d + 1) st).2 Q → za Tryd.prog 65 [.ptr g 0, .int .i64 (11 - ((d + 1 : Nat) : Int))] H n Q from main _ fun v H' n' a b c => ⟨a, b, c⟩
    intro Q hq
    have hz : (11 : Int) - ((d + 1 : Nat) : Int) = 10 - (d : Int) := by omega
    rw [hz]
    refine zdm _ _ _ _ _ ?_
    simp [zcr]
    have h0 : TxB s H n g (10 - (d : Int)) st (((H.put n (some (.row 1 [.ptr g 0]))).put (n + 1) (some (.row 1 [.int .i64 (10 - (d : Int))]))).put (n + 2) (some (.row 5 [.int .i64 0, .str [], .nils, .nils, .nils]))) :=
      ⟨by rw [Heap.put_ne _ _ (by omega), Heap.put_ne _ _ (by omega), Heap.put_at], by rw [Heap.put_ne _ _ (by omega), Heap.put_at], ⟨_, Heap.put_at _ _ _, rfl⟩, by rw [Heap.put_ne _ _ (by omega), Heap.put_ne _ _ (by omega), Heap.put_ne _ _ (by omega)]; exact hg, hs, hgn, fun y hy _ => by rw [Heap.put_ne _ _ (by omega), Heap.put_ne _ _ (by omega), Heap.put_ne _ _ (by omega)]⟩
    generalize Heap.put (Heap.put (Heap.put H n _) (n + 1) _) (n + 2) _ = H3 at h0 ⊢
    have hd10 : (10 : Int) - (d : Int) ≤ 10 := by omega
    refine zkc h0.rg ?_
    rw [if_pos hd10, Heap.put_same h0.rg]
    have r0 := h0.r0
    by_cases he : st.2 = 0
    · rw [VM.stmtF_succ he] at hq
      simp [zbb, he, hd10, r0]
      refine zda (by decide) hl h0.suf h0.rg ?_
      have h1 := h0.put (zy (c := 40) h0.suf)
      generalize H3.put g _ = H4 at h1 ⊢
      have r0 := h1.r0
      simp [zef, r0]
      refine zka hl h1.suf h1.rg ?_
      have h2 := h1.put (zke h1.suf)
      generalize H4.put g _ = H5 at h2 ⊢
      exact ztr hE hS hl (by omega) h2 (by omega) hq
    · have hz : VM.stmtF (d + 1) st = (VM.sm0, st) := by unfold VM.stmtF; rw [if_pos he]
      rw [hz] at hq
      obtain ⟨cs, r2, r2l⟩ := h0.r2
      simp [zbb, he, r2, r2l]
      refine hq _ _ _ ?_ (by rw [Heap.put_ne _ _ (by omega)]; exact h0.rg) fun y hy hne => by rw [Heap.put_ne _ _ (by omega)]; exact h0.keep y hy hne
      show Frz _ _ _ (.agg (Sm.avs (.mk 0 [] [] [] [])))
      rw [zgm]
      exact FL.agg (.cons (.same _ (.int _ _)) (.cons (.same _ (.str _)) (.cons .nils (.cons .nils (.cons .nils .nil)))))
end Go.Proofs.YtpllgpgdcbgalaaDoor
set_option maxRecDepth 8000
namespace Go.Proofs.YtpllgpgdcbgalaaDoor
open Go Go.RowKit
structure TPaL (s : Str) (H0 : Heap) (n : Nat) (l : List (Fnc × AV)) (A : AV) (st : VM.St) (H : Heap) (m : Nat) : Prop where
  rg : H n = some (PT s st)
  out : OutS H (n + 1) m l A
  bm : n + 1 ≤ m
  keep : ∀ y, y < n → H y = H0 y
  few : l.length + VM.left st ≤ 1502
  suf : st.1 <:+ s
theorem TPaL.put {s : Str} {H0 H : Heap} {n m : Nat} {l : List (Fnc × AV)} {A : AV} {st st' : VM.St} (h : TPaL s H0 n l A st H m) (hf : VM.Flow st st') (hs : st'.1 <:+ s) : TPaL s H0 n l A st' (H.put n (some (PT s st'))) m := by
  have hb := h.bm
  exact ⟨Heap.put_at _ _ _, h.out.keep (Nat.le_refl _) fun y hy _ => Heap.put_ne _ _ (by omega), hb, fun y hy => by rw [Heap.put_ne _ _ (by omega)]; exact h.keep y hy, by have := hf.left; have := h.few; omega, hs⟩
structure TPmL (s : Str) (H0 : Heap) (n m : Nat) (nm : Str) (ps : List Str) (st : VM.St) (H : Heap) (m' : Nat) : Prop where
  rf : ∃ B, H m = some (.row 3 [.str nm, B, .nils]) ∧ RowS strC 1 H (m + 1) m' ps B
  rg : H n = some (PT s st)
  nm' : n < m
  fm : m + 1 ≤ m'
  keep : ∀ y, y < m → y ≠ n → H y = H0 y
  few : ps.length + VM.left st ≤ 1502
  suf : st.1 <:+ s
theorem TPmL.put {s : Str} {H0 H : Heap} {n m m' : Nat} {nm : Str} {ps : List Str} {st st' : VM.St} (h : TPmL s H0 n m nm ps st H m') (hf : VM.Flow st st') (hs : st'.1 <:+ s) : TPmL s H0 n m nm ps st' (H.put n (some (PT s st'))) m' := by
  have hb := h.nm'
  obtain ⟨B, h1, h2⟩ := h.rf
  exact ⟨⟨B, by rw [Heap.put_ne _ _ (by omega)]; exact h1, h2.keep (Nat.le_refl _) fun y hy _ => Heap.put_ne _ _ (by omega)⟩, Heap.put_at _ _ _, hb, h.fm, fun y hy hne => by rw [Heap.put_ne _ _ hne]; exact h.keep y hy hne, by have := hf.left; have := h.few; omega, hs⟩
theorem zm.tname {s : Str} (hl : s.length ≤ 1500) {st : VM.St} {g n : Nat} {H : Heap} {kt : Kt} (hs : st.1 <:+ s) (hg : H g = some (PT s st)) (hk : kt (.str (VM.nF st).1) [g] [] [(g, some (PT s (VM.nF st).2))]) : zm Tryd.prog (.clo 44 []) [.ptr g 0] H n kt :=
  ⟨_, [g], [], _, .inl rfl, LC.tparser hg (fun _ => .str _) fun _ _ _ h1 h2 => zmp hl hs h1 h2, hk⟩
set_option maxHeartbeats 1000000 in
theorem zro {s : Str} (hl : s.length ≤ 1500) {H0 H : Heap} {n m m' : Nat} {nm : Str} {A : AV} {st : VM.St} {K : J3} (h : TPmL s H0 n m nm [] st H m')
    (hq : ∀ H' n', TPmL s H0 n m nm (VM.manyF VM.nF st).1 (VM.manyF VM.nF st).2 H' n' → ∀ v, zcm [.ptr n 0, A, .ptr m 0] K v H' n') : LP (zdv K) [.ptr n 0, A, .ptr m 0] H m' := by
  refine LP.mk (fun k xs H' n' => ∃ ps st1, xs = [.ptr n 0, A, .ptr m 0] ∧ TPmL s H0 n m nm ps st1 H' n' ∧ VM.left st1 < k ∧ VM.manyF VM.nF st = (ps ++ (VM.untilF VM.nF k st1).1, (VM.untilF VM.nF k st1).2)) (st.1.length + 2) ⟨[], st, rfl, h, VM.left_le st, rfl⟩ ?_
  rintro k xs H' n' ⟨ps, st1, rfl, h, hle, hgo⟩
  generalize hJ : (fun (xs : List AV) (H' : Heap) (n' : Nat) => ∃ j, j < k ∧ ∃ ps st1, xs = [.ptr n 0, A, .ptr m 0] ∧ TPmL s H0 n m nm ps st1 H' n' ∧ VM.left st1 < j ∧ VM.manyF VM.nF st = (ps ++ (VM.untilF VM.nF j st1).1, (VM.untilF VM.nF j st1).2)) = J
  obtain ⟨k, rfl⟩ : ∃ j, k = j + 1 := ⟨k - 1, by omega⟩
  have hg' : H' n = some (.row 3 [.str s, .int .i64 ((s.length - st1.1.length : Nat) : Int), .int .i64 st1.2]) := h.rg
  have stop : VM.manyF VM.nF st = (ps, VM.mustF 41 st1) → ∀ st2, VM.mustF 41 st2 = VM.mustF 41 st1 → ∀ H2 n2, TPmL s H0 n m nm ps st2 H2 n2 → za Tryd.prog 43 [.ptr n 0, .int .u8 41] H2 n2 (zcm [.ptr n 0, A, .ptr m 0] K) := by
    intro e st2 e2 H2 n2 h2
    refine zda (by decide) hl h2.suf h2.rg ?_
    have h3 := h2.put (VM.flow_must 41 st2) (zy h2.suf)
    rw [e2] at h3 ⊢
    rw [e] at hq
    exact hq _ _ h3 _
  by_cases he : st1.2 = 0
  · simp [zdv, hg', he]
    refine zfx hl h.suf h.rg ?_
    have h1 := h.put (st' := (VM.trim st1.1, st1.2)) ⟨VM.trim_le _, id⟩ (zaw h.suf)
    generalize H'.put n _ = HX at h1 ⊢
    by_cases hn : VM.nxt st1.1 = 41
    · simp [zgy, hn]
      refine stop ?_ (VM.trim st1.1, st1.2) (VM.must_trim _ _ _) _ _ h1
      rw [hgo]
      simp only [VM.untilF, hn, ne_eq, not_true_eq_false, and_false, if_false, List.append_nil]
    · rw [he] at h1
      obtain ⟨B, rf, rb⟩ := h1.rf
      simp [zgy, hn, rf]
      refine zm.tname hl h1.suf h1.rg ?_
      have hl1 := VM.left_lt' VM.nice_n (st := (VM.trim st1.1, 0)) rfl
      have hl2 := VM.left_lt VM.nice_n (st := st1) he
      have h2 := h1.put (VM.nice_n.flow _) (zpc h1.suf)
      have hfew := h1.few
      have hgo2 : VM.manyF VM.nF st = (ps ++ [(VM.nF (VM.trim st1.1, 0)).1] ++ (VM.untilF VM.nF k (VM.nF (VM.trim st1.1, 0)).2).1, (VM.untilF VM.nF k (VM.nF (VM.trim st1.1, 0)).2).2) := by
        rw [hgo]
        simp only [VM.untilF, he, hn, ne_eq, not_false_eq_true, and_true, if_true, List.append_assoc, List.singleton_append]
      generalize VM.nF (VM.trim st1.1, 0) = xr at *
      obtain ⟨w, st2⟩ := xr
      simp only at *
      have hnm := h1.nm'
      have hfm := h1.fm
      have snoc := zis (f := strC) ps w
      have fin : ∀ HZ, HZ (n' + 1) = some (.row 1 ((ps ++ [w]).map strC).flatten) → HZ m = some (.row 3 [.str nm, .slc (n' + 1) 0 (ps.length + 1), .nils]) → HZ n = some (PT s st2) → (∀ y, y < m → y ≠ n → HZ y = HX y) → J [.ptr n 0, A, .ptr m 0] HZ (n' + 2) := by
        intro HZ z1 z2 z3 z4
        rw [← hJ]
        refine ⟨k, by omega, ps ++ [w], st2, rfl, ⟨⟨_, z2, ?_⟩, z3, hnm, by omega, fun y hy hne => ?_, by rw [List.length_append]; simp only [List.length_cons, List.length_nil]; omega, h2.suf⟩, by omega, hgo2⟩
        · have := RowS.row (f := strC) (sz := 1) (H := HZ) (lo := m + 1) (hi := n' + 2) (l := ps ++ [w]) (ga := n' + 1) (by omega) (by omega) z1
          rw [List.length_append] at this
          exact this
        · rw [z4 y hy hne]; exact h1.keep y hy hne
      cases rb with
      | nil =>
        have ne_0 : n ≠ m ∧ m ≠ n ∧ n ≠ n' ∧ n' ≠ n ∧ n ≠ n' + 1 ∧ n' + 1 ≠ n ∧ m ≠ n' ∧ n' ≠ m ∧ m ≠ n' + 1 ∧ n' + 1 ≠ m := ⟨by omega, by omega, by omega, by omega, by omega, by omega, by omega, by omega, by omega, by omega⟩
        simp [zha, rf, ne_0]
        refine fin _ ?_ ?_ ?_ fun y hy hne => ?_
        · rw [Heap.put_ne _ _ (by omega), Heap.put_at]; rfl
        · rw [Heap.put_at]; rfl
        · rw [Heap.put_ne _ _ (by omega), Heap.put_ne _ _ (by omega), Heap.put_ne _ _ (by omega), Heap.put_at]
        · rw [Heap.put_ne _ _ (by omega), Heap.put_ne _ _ (by omega), Heap.put_ne _ _ (by omega), Heap.put_ne _ _ hne]
      | @row ps ga q1 q2 q3 =>
        have rl := zki (f := strC) (sz := 1) (fun _ => rfl) ps
        have hb1 : (ps.length + 1) * 16 ≤ 140737488355328 := by omega
        generalize hrr : (ps.map strC).flatten = rr at *
        have h3 : rr.take ps.length = rr := List.take_of_length_le (by omega)
        have ne_1 : n ≠ m ∧ m ≠ n ∧ n ≠ ga ∧ ga ≠ n ∧ m ≠ ga ∧ ga ≠ m ∧ n ≠ n' ∧ n' ≠ n ∧ n ≠ n' + 1 ∧ n' + 1 ≠ n ∧ m ≠ n' ∧ n' ≠ m ∧ m ≠ n' + 1 ∧ n' + 1 ≠ m ∧ ga ≠ n' ∧ n' ≠ ga ∧ ga ≠ n' + 1 ∧ n' + 1 ≠ ga := ⟨by omega, by omega, by omega, by omega, by omega, by omega, by omega, by omega, by omega, by omega, by omega, by omega, by omega, by omega, by omega, by omega, by omega, by omega⟩
        simp [zha, rf, q3, rl, hb1, h3, ne_1]
        refine fin _ ?_ ?_ ?_ fun y hy hne => ?_
        · rw [Heap.put_ne _ _ (by omega), Heap.put_at, snoc]; rfl
        · rw [Heap.put_at]
        · rw [Heap.put_ne _ _ (by omega), Heap.put_ne _ _ (by omega), Heap.put_ne _ _ (by omega), Heap.put_ne _ _ (by omega), Heap.put_at]
        · rw [Heap.put_ne _ _ (by omega), Heap.put_ne _ _ (by omega), Heap.put_ne _ _ (by omega), Heap.put_ne _ _ (by omega), Heap.put_ne _ _ hne]
  · simp [zdv, hg', he]
    refine stop ?_ st1 rfl _ _ h
    rw [hgo]
    simp only [VM.untilF, he, false_and, if_false, List.append_nil]
set_option maxHeartbeats 2000000 in
theorem zql {s : Str} (hl : s.length ≤ 1500) {H0 H : Heap} {n m : Nat} {l : List (Fnc × AV)} {A : AV} {st : VM.St} {K : J3} (h : TPaL s H0 n l A st H m) (he : st.2 = 0)
    (hk : ∀ B H' m', TPaL s H0 n (l ++ [((VM.fnF st).1, B)]) (.slc m' 0 (l.length + 1)) (VM.fnF st).2 H' (m' + 1) → K [.ptr n 0, .slc m' 0 (l.length + 1)] H' (m' + 1)) : za Tryd.prog 43 [.ptr n 0, .int .u8 40] H m (zgx [.ptr n 0, A] K) := by
  have hb := h.bm
  refine zda (by decide) hl h.suf h.rg ?_
  have h1 := h.put (VM.flow_must 40 st) (zy h.suf)
  have hfn : VM.fnF st = (⟨(VM.nF (VM.mustF 40 st)).1, (VM.manyF VM.nF (VM.mustF 40 (VM.nF (VM.mustF 40 st)).2)).1, (VM.manyF (VM.stmtF 11) (VM.manyF VM.nF (VM.mustF 40 (VM.nF (VM.mustF 40 st)).2)).2).1⟩, (VM.manyF (VM.stmtF 11) (VM.manyF VM.nF (VM.mustF 40 (VM.nF (VM.mustF 40 st)).2)).2).2) := rfl
  have hleft := VM.left_lt' VM.nice_fn he
  rw [hfn] at hk hleft
  generalize H.put n _ = H1 at h1 ⊢
  generalize VM.mustF 40 st = s1 at *
  unfold zgx
  refine zmp hl h1.suf h1.rg ?_
  have h2 := h1.put (VM.nice_n.flow s1) (zpc h1.suf)
  generalize H1.put n _ = H2 at h2 ⊢
  generalize VM.nF s1 = nm at *
  simp [zkw]
  have hsl := h2.suf.length_le
  have p0 : TPmL s H2 n m nm.1 [] nm.2 (H2.put m (some (.row 3 [.str nm.1, .nils, .nils]))) (m + 1) :=
    ⟨⟨_, Heap.put_at _ _ _, .nil⟩, by rw [Heap.put_ne _ _ (by omega)]; exact h2.rg, by omega, by omega, fun y hy _ => Heap.put_ne _ _ (by omega), by have := VM.left_le nm.2; simp only [List.length_nil]; omega, h2.suf⟩
  generalize H2.put m _ = H3 at p0 ⊢
  refine zda (by decide) hl p0.suf p0.rg ?_
  have p1 := p0.put (VM.flow_must 40 nm.2) (zy p0.suf)
  generalize H3.put n _ = H4 at p1 ⊢
  simp [zkx]
  refine zro hl p1 fun H5 m5 p2 v => ?_
  generalize VM.manyF VM.nF (VM.mustF 40 nm.2) = ps at *
  simp [zcm]
  refine zlc (d := 11) (ztq hl 11 (by omega)) hl p2.suf p2.rg ?_
  have p3 := p2.put ((VM.nice_many (VM.nice_stmt 11)).flow ps.2) (zdb (zht 11) ps.2 p2.suf)
  generalize H5.put n _ = H6 at p3 ⊢
  generalize VM.manyF (VM.stmtF 11) ps.2 = b at *
  obtain ⟨B, rf, rb⟩ := p3.rf
  have hfm := p3.fm
  have hB1 := rb.one
  have out := h2.out
  have hfew := h.few
  have hsuf := p3.suf
  cases out with
  | nil =>
    have ne_2 : n ≠ m ∧ m ≠ n ∧ n ≠ m5 ∧ m5 ≠ n ∧ n ≠ m5 + 1 ∧ m5 + 1 ≠ n ∧ m ≠ m5 ∧ m5 ≠ m ∧ m ≠ m5 + 1 ∧ m5 + 1 ≠ m := ⟨by omega, by omega, by omega, by omega, by omega, by omega, by omega, by omega, by omega, by omega⟩
    simp [zgz, rf, hB1]
    refine hk B _ (m5 + 1) ⟨?_, ?_, by omega, fun y hy => ?_, ?_, hsuf⟩
    · rw [Heap.put_ne _ _ (by omega), Heap.put_ne _ _ (by omega), Heap.put_ne _ _ (by omega)]; exact p3.rg
    · refine OutS.row (l := [(_, B)]) (by omega) (by omega) (Heap.put_at _ _ _) fun p hp => ?_
      rw [List.mem_singleton.1 hp]
      exact rb.ps (by omega) (by omega) (by omega) fun y h1 h2 => by rw [Heap.put_ne _ _ (by omega), Heap.put_ne _ _ (by omega), Heap.put_ne _ _ (by omega)]
    · rw [Heap.put_ne _ _ (by omega), Heap.put_ne _ _ (by omega), Heap.put_ne _ _ (by omega), p3.keep y (by omega) (by omega)]; exact h2.keep y hy
    · have := h.few; simp only [List.length_append, List.length_cons, List.length_nil] at *; omega
  | @row l ga a1 a2 a4 a5 =>
    have hg6 : H6 ga = some (.row 3 (l.map rawF).flatten) := by rw [p3.keep ga a2 (by omega)]; exact a4
    have rl := zki zua l
    have h1 : (l.length + 1) * 64 ≤ 140737488355328 := by omega
    generalize hrr : (l.map rawF).flatten = rr at rl hg6
    have h3 : rr.take (l.length * 3) = rr := List.take_of_length_le (by omega)
    have ne_3 : n ≠ m ∧ m ≠ n ∧ n ≠ ga ∧ ga ≠ n ∧ m ≠ ga ∧ ga ≠ m ∧ n ≠ m5 ∧ m5 ≠ n ∧ n ≠ m5 + 1 ∧ m5 + 1 ≠ n ∧ m ≠ m5 ∧ m5 ≠ m ∧ m ≠ m5 + 1 ∧ m5 + 1 ≠ m ∧ ga ≠ m5 ∧ m5 ≠ ga ∧ ga ≠ m5 + 1 ∧ m5 + 1 ≠ ga := ⟨by omega, by omega, by omega, by omega, by omega, by omega, by omega, by omega, by omega, by omega, by omega, by omega, by omega, by omega, by omega, by omega, by omega, by omega⟩
    simp [zgz, rf, hB1, hg6, rl, h1, h3, ne_3]
    refine hk B _ (m5 + 1) ⟨?_, ?_, by omega, fun y hy => ?_, ?_, hsuf⟩
    · rw [Heap.put_ne _ _ (by omega), Heap.put_ne _ _ (by omega), Heap.put_ne _ _ (by omega), Heap.put_ne _ _ (by omega)]; exact p3.rg
    · have := OutS.row (H := (((H6.put m (some (.row 3 [.str nm.1, B, .ro (b.1.map Sm.avs)]))).put m5 (some (.row 3 [.str nm.1, B, .ro (b.1.map Sm.avs)]))).put ga none).put (m5 + 1) (some (.row 3 (rr ++ [.str nm.1, B, .ro (b.1.map Sm.avs)])))) (lo := n + 1) (hi := m5 + 1 + 1) (l := l ++ [((⟨nm.1, ps.1, b.1⟩ : Fnc), B)]) (ga := m5 + 1) (by omega) (by omega) (by rw [Heap.put_at, zis, hrr]; rfl) fun p hp => ?_
      · rw [List.length_append] at this
        exact this
      · rcases List.mem_append.1 hp with hp | hp
        · exact (a5 p hp).keep (by omega) (.inr (by omega)) fun y h1 h2 h3 => by rw [Heap.put_ne _ _ (by omega), Heap.put_ne _ _ h3, Heap.put_ne _ _ (by omega), Heap.put_ne _ _ (by omega), p3.keep y h2 (by omega)]
        · rw [List.mem_singleton.1 hp]
          exact rb.ps (by omega) (by omega) (by omega) fun y h1 h2 => by rw [Heap.put_ne _ _ (by omega), Heap.put_ne _ _ (by omega), Heap.put_ne _ _ (by omega), Heap.put_ne _ _ (by omega)]
    · rw [Heap.put_ne _ _ (by omega), Heap.put_ne _ _ (by omega), Heap.put_ne _ _ (by omega), Heap.put_ne _ _ (by omega), p3.keep y (by omega) (by omega)]; exact h2.keep y hy
    · have := h.few; simp only [List.length_append, List.length_cons, List.length_nil] at *; omega
set_option maxHeartbeats 2000000 in
theorem zld (s : Str) : QC Tryd.prog 21 [.str s] (.tup [.ro ((VM.parseF s).1.map Fnc.avs), .int .i64 (VM.parseF s).2]) := by
  refine QC.of' fun H n => ?_
  suffices main : ∀ Q : QT, (∀ v H' n', Frz H' n v (.tup [.ro ((VM.parseF s).1.map Fnc.avs), .int .i64 (VM.parseF s).2]) → Keep n H' H → Q v H' n') → za Tryd.prog 21 [.str s] H n Q from main _ fun v H' n' a b => ⟨a, b⟩
  intro Q hq
  refine zmr _ _ _ _ ?_
  have none_ : ∀ (e : Int), VM.parseF s = ([], e) → ∀ H' n', Keep n H' H → Q (.tup [.nils, .int .i64 e]) H' n' := by
    intro e he H' n' hK
    rw [he] at hq
    exact hq _ _ _ (.tup2 .nils (.same _ (.int _ _))) hK
  by_cases hs : 1500 < s.length
  · have hs' : (1500 : Int) < s.length := by omega
    have e : VM.parseF s = ([], 4) := by unfold VM.parseF; rw [if_pos hs]
    simp [zgu, hs']
    exact none_ 4 e H n (by simp)
  · have hs' : ¬ (1500 : Int) < s.length := by omega
    have hl : s.length ≤ 1500 := by omega
    have hpf : VM.parseF s = if (VM.fnsF (s.length + 2) (s, 0)).2.2 ≠ 0 then ([], (VM.fnsF (s.length + 2) (s, 0)).2.2) else ((VM.fnsF (s.length + 2) (s, 0)).1, 0) := by unfold VM.parseF; rw [if_neg hs]
    simp [zgu, hs']
    have h0 : TPaL s H n [] .nils (s, 0) (H.put n (some (.row 3 [.str s, .int .i64 0, .int .i64 0]))) (n + 1) :=
      ⟨by rw [Heap.put_at]; simp [PT], .nil, by omega, fun y hy => by rw [Heap.put_ne _ _ (by omega)], by have := VM.left_le (s, 0); simp only [List.length_nil] at *; omega, List.suffix_refl _⟩
    generalize Heap.put H n _ = H1 at h0 ⊢
    refine LP.mk (fun k xs H' n' => ∃ l A st, xs = [.ptr n 0, A] ∧ TPaL s H n l A st H' n' ∧ VM.left st < k ∧ VM.fnsF (s.length + 2) (s, 0) = (l.map (·.1) ++ (VM.fnsF k st).1, (VM.fnsF k st).2)) (s.length + 2) ⟨[], _, _, rfl, h0, VM.left_le (s, 0), rfl⟩ ?_
    rintro k xs H' n' ⟨l, A, st, rfl, h, hle, hgo⟩
    generalize hJ : (fun (xs : List AV) (H' : Heap) (n' : Nat) => ∃ j, j < k ∧ ∃ l A st, xs = [.ptr n 0, A] ∧ TPaL s H n l A st H' n' ∧ VM.left st < j ∧ VM.fnsF (s.length + 2) (s, 0) = (l.map (·.1) ++ (VM.fnsF j st).1, (VM.fnsF j st).2)) = J
    obtain ⟨k, rfl⟩ : ∃ j, k = j + 1 := ⟨k - 1, by omega⟩
    have rg : H' n = some (.row 3 [.str s, .int .i64 ((s.length - st.1.length : Nat) : Int), .int .i64 st.2]) := h.rg
    by_cases he : st.2 = 0
    · simp [zgv, rg, he]
      refine zfx hl h.suf h.rg ?_
      have h1 := h.put (st' := (VM.trim st.1, st.2)) ⟨VM.trim_le _, id⟩ (zaw h.suf)
      generalize H'.put n _ = H2 at h1 ⊢
      have qg : H2 n = some (.row 3 [.str s, .int .i64 ((s.length - (VM.trim st.1).length : Nat) : Int), .int .i64 st.2]) := h1.rg
      by_cases hn : VM.nxt st.1 = 0
      · have e : VM.parseF s = (l.map (·.1), 0) := by
          rw [hpf, hgo]
          simp only [VM.fnsF, he, hn, ne_eq, not_true_eq_false, and_false, if_false, if_true, List.append_nil]
        simp [zgw, hn, qg, he]
        refine hq _ _ _ ?_ fun y hy => h1.keep y hy
        rw [e]
        refine .tup2 ?_ (.same _ (.int _ _))
        have := h1.out.frz (N := n) (by omega)
        rw [List.map_map]
        exact this
      · simp [zgw, hn]
        refine zql hl h1 he fun B H3 m3 h3 => ?_
        rw [← hJ]
        have hl := VM.left_lt VM.nice_fn (st := st) he
        rw [he] at h3
        refine ⟨k, by omega, _, _, _, rfl, h3, by omega, ?_⟩
        rw [hgo]
        simp only [VM.fnsF, he, hn, ne_eq, not_false_eq_true, and_true, if_true, List.map_append, List.map_cons, List.map_nil, List.append_assoc, List.singleton_append]
    · have e : VM.parseF s = ([], st.2) := by
        have e2 : VM.fnsF (k + 1) st = ([], st) := by
          unfold VM.fnsF
          rw [if_neg (by simp [he]), if_neg he]
        rw [hpf, hgo, e2]
        simp only
        rw [if_pos he]
      simp [zgv, rg, he]
      exact none_ _ e H' n' fun y hy => h.keep y hy
end Go.Proofs.YtpllgpgdcbgalaaDoor
set_option maxRecDepth 8000
namespace Go.Proofs.YtpllgpgdcbgalaaDoor
open Go Go.RowKit
def znq (x : Ex) : Prop := QC Tryd.prog 66 [.agg x.avs, .agg x.avs] (.bool true)
set_option maxHeartbeats 1000000 in
theorem zrr {k z : Int} {t : Str} {ar : List Ex} (hl : ar.length ≤ 4294967296) (hs : ∀ x ∈ ar, znq x) : znq (.mk k z t ar) := by
  refine QC.of' fun H n => ?_
  suffices main : ∀ Q : QT, (∀ H' n', Keep n H' H → Q (.bool true) H' n') → za Tryd.prog 66 [.agg (Ex.mk k z t ar).avs, .agg (Ex.mk k z t ar).avs] H n Q from main _ fun H' n' b => ⟨by simp, b⟩
  intro Q hq
  refine zjk _ _ _ _ _ ?_
  rw [zdq]
  simp [zgj]
  have h1 : ((H.put n (some (.row 4 [.int .i64 k, .int .i64 z, .str t, .ro (ar.map Ex.avs)]))).put (n + 1) (some (.row 4 [.int .i64 k, .int .i64 z, .str t, .ro (ar.map Ex.avs)]))) n = some (.row 4 [.int .i64 k, .int .i64 z, .str t, .ro (ar.map Ex.avs)]) := by rw [Heap.put_ne _ _ (by omega), Heap.put_at]
  have h2 : ((H.put n (some (.row 4 [.int .i64 k, .int .i64 z, .str t, .ro (ar.map Ex.avs)]))).put (n + 1) (some (.row 4 [.int .i64 k, .int .i64 z, .str t, .ro (ar.map Ex.avs)]))) (n + 1) = some (.row 4 [.int .i64 k, .int .i64 z, .str t, .ro (ar.map Ex.avs)]) := Heap.put_at _ _ _
  have hK : Keep n ((H.put n (some (.row 4 [.int .i64 k, .int .i64 z, .str t, .ro (ar.map Ex.avs)]))).put (n + 1) (some (.row 4 [.int .i64 k, .int .i64 z, .str t, .ro (ar.map Ex.avs)]))) H := by simp
  generalize Heap.put (Heap.put H n _) (n + 1) _ = H1 at *
  refine LP.mk (fun j xs H' n' => ∃ i : Nat, i + j = ar.length ∧ xs = [.ptr n 0, .ptr (n + 1) 0, .int .i64 ar.length, .int .i64 i] ∧ H' = H1 ∧ n' = n + 2) ar.length ⟨0, by omega, rfl, rfl, rfl⟩ ?_
  rintro j xs H' n' ⟨i, hi, rfl, rfl, rfl⟩
  cases j with
  | zero =>
    obtain rfl : i = ar.length := by omega
    simp [zcz]
    exact hq _ _ hK
  | succ j =>
    have hlt : i < ar.length := by omega
    have hxl := zcn ar[i]
    have hxt : ar[i].avs.take 4 = ar[i].avs := List.take_of_length_le (by omega)
    have hwi : IntKind.i64.wrap ((i : Int) + 1) = (i : Int) + 1 := i64w (by omega)
    simp [zcz, hlt, h1, h2, hxl, hxt]
    refine zm.of_qc (hs ar[i] (List.getElem_mem hlt)) (.bool _) ?_
    simp [zgk, hwi, Heap.apply]
    exact ⟨j, by omega, i + 1, by omega, by simp⟩
mutual
theorem zwf : ∀ x : Ex, VM.exW x ≤ 4294967296 → znq x
  | .mk k z t ar, h => zrr (by unfold VM.exW at h; have := VM.len_exWL ar; omega) (znu ar (by unfold VM.exW at h; omega))
theorem znu : ∀ l : List Ex, VM.exWL l ≤ 4294967296 → ∀ x ∈ l, znq x
  | [], _, x, hx => absurd hx (by simp)
  | y :: r, h, x, hx => (List.mem_cons.1 hx).elim (fun e => e ▸ zwf y (by unfold VM.exWL at h; omega)) fun hx => znu r (by unfold VM.exWL at h; omega) x hx
end
def zif (l : List Sm) : Prop := QC Tryd.prog 46 [.ro (l.map Sm.avs), .ro (l.map Sm.avs)] (.bool true)
set_option maxHeartbeats 2000000 in
theorem zrq {l : List Sm} (hl : VM.smWL l ≤ 4294967296) (hs : ∀ x ∈ l, ∀ k nm ar t e, x = .mk k nm ar t e → zif t ∧ zif e) : zif l := by
  refine QC.of' fun H n => ?_
  suffices main : ∀ Q : QT, (∀ H' n', Keep n H' H → Q (.bool true) H' n') → za Tryd.prog 46 [.ro (l.map Sm.avs), .ro (l.map Sm.avs)] H n Q from main _ fun H' n' b => ⟨by simp, b⟩
  intro Q hq
  refine zix _ _ _ _ _ ?_
  have hlen := zpq l
  simp [zev]
  refine LP.mk (fun j xs H' n' => ∃ i : Nat, i + j = l.length ∧ xs = [.ro (l.map Sm.avs), .ro (l.map Sm.avs), .int .i64 l.length, .int .i64 i] ∧ Keep n H' H ∧ n ≤ n' ∧ VM.smWL (l.drop i) ≤ 4294967296) l.length ⟨0, by omega, rfl, by simp, by omega, by simpa using hl⟩ ?_
  rintro j xs H' n' ⟨i, hi, rfl, hK, hn, hw⟩
  generalize hJ : (fun (xs : List AV) (H' : Heap) (n' : Nat) => ∃ j', j' < j ∧ ∃ i : Nat, i + j' = l.length ∧ xs = [.ro (l.map Sm.avs), .ro (l.map Sm.avs), .int .i64 l.length, .int .i64 i] ∧ Keep n H' H ∧ n ≤ n' ∧ VM.smWL (l.drop i) ≤ 4294967296) = J
  cases j with
  | zero =>
    obtain rfl : i = l.length := by omega
    simp [zco]
    exact hq _ _ hK
  | succ j =>
    have hlt : i < l.length := by omega
    have hdr : l.drop i = l[i] :: l.drop (i + 1) := List.drop_eq_getElem_cons hlt
    rw [hdr] at hw
    unfold VM.smWL at hw
    have hxl := zne l[i]
    have hxo := zst l[i]
    have hwi : IntKind.i64.wrap ((i : Int) + 1) = (i : Int) + 1 := i64w (by omega)
    have hs' := hs l[i] (List.getElem_mem hlt)
    have hxt : l[i].avs.take 5 = l[i].avs := List.take_of_length_le (by omega)
    simp [zco, hlt, hxl, hxt]
    generalize l[i] = x at *
    obtain ⟨k, nm, ar, t, e⟩ := x
    obtain ⟨hT, hE⟩ := hs' k nm ar t e rfl
    have hav := zgm k nm ar t e
    unfold VM.smW at hw
    refine ⟨hxo, ?_⟩
    have hla := VM.len_exWL ar
    have h1 : ((H'.put n' (some (.row 5 (Sm.mk k nm ar t e).avs))).put (n' + 1) (some (.row 5 (Sm.mk k nm ar t e).avs))) n' = some (.row 5 [.int .i64 k, .str nm, .ro (ar.map Ex.avs), .ro (t.map Sm.avs), .ro (e.map Sm.avs)]) := by rw [Heap.put_ne _ _ (by omega), Heap.put_at, hav]
    have h2 : ((H'.put n' (some (.row 5 (Sm.mk k nm ar t e).avs))).put (n' + 1) (some (.row 5 (Sm.mk k nm ar t e).avs))) (n' + 1) = some (.row 5 [.int .i64 k, .str nm, .ro (ar.map Ex.avs), .ro (t.map Sm.avs), .ro (e.map Sm.avs)]) := by rw [Heap.put_at, hav]
    have hK2 : Keep n ((H'.put n' (some (.row 5 (Sm.mk k nm ar t e).avs))).put (n' + 1) (some (.row 5 (Sm.mk k nm ar t e).avs))) H := fun y hy => by rw [Heap.put_ne _ _ (by omega), Heap.put_ne _ _ (by omega)]; exact hK y hy
    generalize Heap.put (Heap.put H' n' _) (n' + 1) _ = H1 at *
    simp [hav]
    refine hT.call ?_
    simp [zew, h1, h2]
    refine hE.call ?_
    simp [zex, h1]
    refine LP.mk (fun q xs H2 n2 => ∃ p : Nat, p + q = ar.length ∧ xs = [.ro (l.map Sm.avs), .ptr n' 0, .ptr (n' + 1) 0, .ro (l.map Sm.avs), .int .i64 l.length, .int .i64 i, .int .i64 ar.length, .int .i64 p] ∧ H2 = H1 ∧ n2 = n' + 2) ar.length ⟨0, by omega, rfl, rfl, rfl⟩ ?_
    rintro q xs H2 n2 ⟨p, hp, rfl, rfl, rfl⟩
    cases q with
    | zero =>
      obtain rfl : p = ar.length := by omega
      simp [zcp, hwi]
      rw [← hJ]
      exact ⟨j, by omega, i + 1, by omega, rfl, hK2, by omega, by omega⟩
    | succ q =>
      have hlt : p < ar.length := by omega
      have hxl := zcn ar[p]
      have hxt : ar[p].avs.take 4 = ar[p].avs := List.take_of_length_le (by omega)
      have hwp : IntKind.i64.wrap ((p : Int) + 1) = (p : Int) + 1 := i64w (by omega)
      simp [zcp, hlt, h1, h2, hxl, hxt]
      refine zm.of_qc (znu ar (by omega) ar[p] (List.getElem_mem hlt)) (.bool _) ?_
      simp [zey, hwp, Heap.apply]
      exact ⟨q, by omega, p + 1, by omega, by simp⟩
def zoa : Sm → Prop
  | .mk _ _ _ t e => zif t ∧ zif e
theorem zlg {l : List Sm} (hl : VM.smWL l ≤ 4294967296) (h : ∀ x ∈ l, zoa x) : zif l :=
  zrq hl fun x hx k nm ar t e hh => by have := h x hx; rw [hh] at this; exact this
mutual
theorem zvo : ∀ x : Sm, VM.smW x ≤ 4294967296 → zoa x
  | .mk _ _ _ t e, h => ⟨zlg (by unfold VM.smW at h; omega) (zkg t (by unfold VM.smW at h; omega)), zlg (by unfold VM.smW at h; omega) (zkg e (by unfold VM.smW at h; omega))⟩
theorem zkg : ∀ l : List Sm, VM.smWL l ≤ 4294967296 → ∀ x ∈ l, zoa x
  | [], _, x, hx => absurd hx (by simp)
  | y :: r, h, x, hx => (List.mem_cons.1 hx).elim (fun e => e ▸ zvo y (by unfold VM.smWL at h; omega)) fun hx => zkg r (by unfold VM.smWL at h; omega) x hx
end
theorem zwe (l : List Sm) (h : VM.smWL l ≤ 4294967296) : zif l := zlg h (zkg l h)
set_option maxHeartbeats 1000000 in
theorem znf (l : List Fnc) (hl : l.length ≤ 4294967296) (hw : zeq l ≤ 4294967296) : QC Tryd.prog 22 [.ro (l.map Fnc.avs), .ro (l.map Fnc.avs)] (.bool true) := by
  intro H n
  refine zjx _ _ _ _ _ ?_
  simp [zhe]
  refine LP.mk (fun j xs H' n' => ∃ i : Nat, i + j = l.length ∧ xs = [.ro (l.map Fnc.avs), .ro (l.map Fnc.avs), .int .i64 l.length, .int .i64 i] ∧ H' = H ∧ n' = n ∧ zeq (l.drop i) ≤ 4294967296) l.length ⟨0, by omega, rfl, rfl, rfl, by simpa using hw⟩ ?_
  rintro j xs H' n' ⟨i, hi, rfl, rfl, rfl, hw'⟩
  generalize hJ : (fun (xs : List AV) (H2 : Heap) (n2 : Nat) => ∃ j', j' < j ∧ ∃ i : Nat, i + j' = l.length ∧ xs = [.ro (l.map Fnc.avs), .ro (l.map Fnc.avs), .int .i64 l.length, .int .i64 i] ∧ H2 = H' ∧ n2 = n' ∧ zeq (l.drop i) ≤ 4294967296) = J
  cases j with
  | zero =>
    obtain rfl : i = l.length := by omega
    simp [zdj]
  | succ j =>
    have hlt : i < l.length := by omega
    have hdr : l.drop i = l[i] :: l.drop (i + 1) := List.drop_eq_getElem_cons hlt
    rw [hdr] at hw'
    unfold zeq at hw'
    have hwi : IntKind.i64.wrap ((i : Int) + 1) = (i : Int) + 1 := i64w (by omega)
    have hav : l[i].avs = [.str l[i].name, .ro (l[i].params.map strC), .ro (l[i].body.map Sm.avs)] := rfl
    simp [zdj, hlt, hav]
    refine zm.of_qc (zwe l[i].body (by omega)) (.bool _) ?_
    simp [zhf, hlt, hav, Heap.apply]
    generalize hps : l[i].params = ps at *
    refine LP.mk (fun q xs H2 n2 => ∃ p : Nat, p + q = ps.length ∧ xs = [.ro (l.map Fnc.avs), .ro (l.map Fnc.avs), .int .i64 i, .int .i64 l.length, .int .i64 i, .int .i64 ps.length, .int .i64 p] ∧ H2 = H' ∧ n2 = n') ps.length ⟨0, by omega, rfl, rfl, rfl⟩ ?_
    rintro q xs H2 n2 ⟨p, hp, rfl, rfl, rfl⟩
    cases q with
    | zero =>
      obtain rfl : p = ps.length := by omega
      simp [zdk, hwi]
      rw [← hJ]
      exact ⟨j, by omega, i + 1, by omega, rfl, rfl, rfl, by omega⟩
    | succ q =>
      have hpl : p < ps.length := by omega
      have hwp : IntKind.i64.wrap ((p : Int) + 1) = (p : Int) + 1 := i64w (by omega)
      simp [zdk, hlt, hav, hpl, strC, hwp]
      exact ⟨q, by omega, p + 1, by omega, by simp⟩
theorem zsx (s : Str) (h : (VM.parseF s).2 = 0) : (VM.parseF s).1.length ≤ 1500 := by
  have key : ∀ (k : Nat) (st : VM.St), (VM.fnsF k st).2.2 = 0 → (VM.fnsF k st).1.length + (VM.fnsF k st).2.1.length ≤ st.1.length := by
    intro k
    induction k with
    | zero => intro st _; simp [VM.fnsF]
    | succ k ih =>
      intro st h
      unfold VM.fnsF at h ⊢
      split
      · rename_i hc
        rw [if_pos hc] at h
        have h1 := ih _ h
        have hz : ∀ (k : Nat) (st : VM.St), (VM.fnsF k st).2.2 = 0 → st.2 = 0 := fun k st h => by
          cases k with
          | zero => exact h
          | succ k =>
            unfold VM.fnsF at h
            split at h
            · rename_i hc; exact hc.1
            · exact h
        have h2 := VM.nice_fn.eats (VM.trim st.1, 0) rfl (hz k _ h)
        have h3 := VM.trim_le st.1
        simp only [List.length_cons] at *
        omega
      · have h3 := VM.trim_le st.1
        simp only [List.length_nil]
        split <;> (try simp only) <;> omega
  unfold VM.parseF at *
  split at h
  · cases h
  · rename_i h1
    rw [if_neg h1] at *
    split at h
    · rename_i h2; exact absurd h h2
    · rename_i h2
      rw [if_neg h2]
      have := key (s.length + 2) (s, 0) (by simpa using h2)
      simp only at *
      omega
theorem zsw (s : Str) (h : (VM.parseF s).2 ≠ 0) : (VM.parseF s).1 = [] := by
  unfold VM.parseF at *
  split
  · rfl
  · rename_i h1
    rw [if_neg h1] at h
    split
    · rfl
    · rename_i h2
      rw [if_neg h2] at h
      exact absurd rfl h
theorem zpk (s : Str) : QC Tryd.prog 22 [.ro ((VM.parseF s).1.map Fnc.avs), .ro ((VM.parseF s).1.map Fnc.avs)] (.bool true) := by
  by_cases h : (VM.parseF s).2 = 0
  · have h1 := zsx s h
    have h2 := VM.parse_fits s h
    exact znf _ (by omega) (by omega)
  · rw [zsw s h]
    exact znf [] (by simp) (by unfold zeq; omega)
end Go.Proofs.YtpllgpgdcbgalaaDoor
set_option maxRecDepth 8000
namespace Go.Proofs.YtpllgpgdcbgalaaDoor
open Go Go.RowKit
theorem zpj : QC Tryd.prog 26 [] (.bool true) := by
  intro H n
  refine zla _ _ _ ?_
  have hp : VM.parseF [40, 109, 97, 105, 110, 32, 40, 41, 32, 40, 108, 101, 116, 32, 120, 32, 40, 43, 32, 49, 32, 50, 41, 41, 32, 40, 115, 97, 121, 32, 120, 41, 41] = ([⟨[109, 97, 105, 110], [], [.mk 1 [120] [.mk 4 1 [] [.mk 1 1 [] [], .mk 1 2 [] []]] [] [], .mk 5 [] [.mk 3 0 [120] []] [] []]⟩], 0) := by kernel_rfl
  unfold zim
  refine (zld _).call ?_
  rw [hp]
  simp [zin, Fnc.avs, zgm]
  refine (zhx [97, 98] (by decide)).call ?_
  have n1 : VM.name [97, 98] = true := by decide
  have n2 : VM.name [103, 111] = false := by decide
  have n3 : VM.word [97, 32, 98] = true := by decide
  rw [n1]
  simp [zio]
  refine (zhx [103, 111] (by decide)).call ?_
  rw [n2]
  simp [zip]
  refine (zoc [97, 32, 98] (by decide)).call ?_
  rw [n3]
  simp [ziq]
end Go.Proofs.YtpllgpgdcbgalaaDoor
set_option maxRecDepth 8000
namespace Go.Proofs.YtpllgpgdcbgalaaDoor
open Go Go.RowKit
namespace VM
theorem phi_app (a b : Str) : phi (a ++ b) = phi a ++ phi b := by
  induction a with
  | nil => rfl
  | cons c r ih =>
    simp only [List.cons_append, phi]
    rw [ih]
    split <;> rfl
theorem phi_len (a : Str) : (phi a).length ≤ 3 * a.length ∧ a.length ≤ (phi a).length := by
  induction a with
  | nil => simp [phi]
  | cons c r ih =>
    simp only [phi]
    split <;> simp only [List.length_cons] <;> omega
theorem phi_snoc {s : Str} {i : Nat} (h : i < s.length) : phi (s.take (i + 1)) = phi (s.take i) ++ phi [s[i]] := by
  rw [← phi_app, List.take_append_getElem h]
end VM
set_option maxHeartbeats 1000000 in
theorem zpi (s : Str) (hs : s.length ≤ 140737488351232) : QC Tryd.prog 8 [.str s] (.bool true) := by
  intro H n
  refine ziy _ _ _ _ ?_
  unfold zez
  refine zpj.call ?_
  simp [zfa]
  refine LP.mk (fun m xs H' n' => ∃ i : Nat, i + m = s.length ∧ xs = [.str s, .str (VM.phi (s.take i)), .int .i64 s.length, .int .i64 i] ∧ H' = H ∧ n' = n ∧ 39 ∉ s.take i) s.length ⟨0, by omega, rfl, rfl, rfl, by simp⟩ ?_
  rintro m xs H' n' ⟨i, hi, rfl, rfl, rfl, h39⟩
  obtain ⟨l1, l2⟩ := VM.phi_len (s.take i)
  have lt := List.length_take_le i s
  cases m with
  | zero =>
    obtain rfl : i = s.length := by omega
    rw [List.take_length] at *
    simp [zcq]
    intro h
    have hp := VM.parse_phi h39 (by omega) (by omega)
    refine (zld s).call ?_
    simp [zfb]
    refine (zld (VM.phi s)).call ?_
    rw [hp]
    simp [zfc]
    refine (zpk s).call ?_
    simp [zfd]
  | succ m =>
    have hlt : i < s.length := by omega
    have hw : IntKind.i64.wrap ((i : Int) + 1) = (i : Int) + 1 := i64w (by omega)
    have hph := VM.phi_snoc hlt
    have hn : s[i] ≠ 39 → 39 ∉ s.take (i + 1) := fun hc => by
      rw [← List.take_append_getElem hlt]
      simp only [List.mem_append, List.mem_singleton]
      rintro (h | h)
      · exact h39 h
      · exact hc h.symm
    simp [zcq, hlt, hw]
    have hone : List.drop i (List.take (i + 1) s) = [s[i]] := by
      rw [List.drop_take, show i + 1 - i = 1 from by omega, List.drop_eq_getElem_cons hlt]
      rfl
    have c40 : (s[i].toNat : Int) = 40 → s[i] = 40 := fun h => UInt8.toNat.inj (by simpa using Int.ofNat.inj h)
    have c41 : (s[i].toNat : Int) = 41 → s[i] = 41 := fun h => UInt8.toNat.inj (by simpa using Int.ofNat.inj h)
    have hmn : min (i + 1) s.length = i + 1 := by omega
    intro q
    have q' : s[i] ≠ 39 := fun h => q (by rw [h]; rfl)
    refine ⟨fun h => ?_, fun h => ⟨fun h2 => ?_, fun h2 => ?_⟩⟩
    · refine ⟨by omega, by omega, by omega, by omega, by omega, m, by omega, i + 1, by omega, ⟨?_, by omega⟩, hn q'⟩
      rw [hph, hone, c40 h]
      rfl
    · refine ⟨by omega, by omega, by omega, by omega, by omega, m, by omega, i + 1, by omega, ⟨?_, by omega⟩, hn q'⟩
      rw [hph, hone, c41 h2]
      rfl
    · refine ⟨by omega, by omega, by omega, m, by omega, i + 1, by omega, ⟨?_, by omega⟩, hn q'⟩
      rw [hph, hone]
      have n1 : ¬ (s[i] = 40 ∨ s[i] = 41) := by
        rintro (e | e)
        · exact h (by rw [e]; rfl)
        · exact h2 (by rw [e]; rfl)
      simp only [VM.phi]
      rw [if_neg n1]
end Go.Proofs.YtpllgpgdcbgalaaDoor
namespace Go.Proofs.YtpllgpgdcbgalaaDoor
open Go Go.RowKit
theorem LayE.of_var {n : String} {w : World} {t : TypeId} {p : Value} (h : w.var? Tryd.prog n = some #[.iface t p]) : LayE n (fun b => w.heap[b]?) := fun g hg => by
  unfold World.var? at h
  rw [hg, Option.bind_some] at h
  split at h
  · rename_i cs e m hc
    cases h
    exact ⟨_, _, e, m, hc⟩
  · cases h
theorem zpt : "*" ++ "errors.errorString" = "*errors.errorString" := by decide
theorem zri (u : TypeId) (h : Tryd.prog.typeName? 3 u = some "*errors.errorString") : u = 160 :=
  typeName_ptr_named (nm := "errors.errorString") (by rw [zpt]; kernel_rfl) (by kernel_rfl) (by decide) u (by rw [zpt]; exact h)
theorem zrz {r : List (String × DataW Unit)} {text : List UInt8} {W : World} (h : laidMet Tryd.prog (("strconv.ErrRange", .iface "*errors.errorString" (.ptr (.agg [.lit (.string text)]))) :: r) W) : LayE "strconv.ErrRange" (fun b => W.heap[b]?) := by
  obtain ⟨a, s, h1, _⟩ := laid_sentinel (g := 2) (ti := 120) (tp := 160) (te := 162) (ts := 9) h (by kernel_rfl) (by kernel_rfl) Tryd.underlying120 zri Tryd.underlying160 Tryd.underlying162 rfl rfl Tryd.underlying9 (by kernel_rfl) (by kernel_rfl)
  exact .of_var h1
theorem zqv {r : List (String × DataW Unit)} {text : List UInt8} {W : World} (h : laidMet Tryd.prog (("strconv.ErrSyntax", .iface "*errors.errorString" (.ptr (.agg [.lit (.string text)]))) :: r) W) : LayE "strconv.ErrSyntax" (fun b => W.heap[b]?) := by
  obtain ⟨a, s, h1, _⟩ := laid_sentinel (g := 1) (ti := 120) (tp := 160) (te := 162) (ts := 9) h (by kernel_rfl) (by kernel_rfl) Tryd.underlying120 zri Tryd.underlying160 Tryd.underlying162 rfl rfl Tryd.underlying9 (by kernel_rfl) (by kernel_rfl)
  exact .of_var h1
end Go.Proofs.YtpllgpgdcbgalaaDoor
namespace Go.Proofs.YtpllgpgdcbgalaaDoor
open Go Go.RowKit Go.ChangeShapes
theorem zoz {H : Type} {enc : TypeId × Value → H} {a : Assume} {C : Checked} {os : Os} {f : FuncId} {fn : Func} {s : ChangeSpec} {zdy : List PathCond} {apart fresh handsOn again : Bool} {X : World → Array Value → Prop}
    (hX : ∀ (w w' : World) (args : Array Value), w.heap = w'.heap → X w args → X w' args)
    (own : ownKnob C.prog.godebug = none) (started : os.Started) (noInit : C.prog.inits.idxOf? f = none) (hfn : C.prog.funcs[f]? = some fn)
    (witness : ∃ (w : World) (tape : Tape) (i : Input), w.os = os ∧ (w.forCall tape i).Shaped C.prog ∧ i.vars = [] ∧ Input.okWide C.prog (w.forCall tape i) .any w.heap.size f i ∧
      ((s.pre enc C.prog fn zdy apart (w.forCall tape i).memory i.args ∧ X (w.forCall tape i).memory i.args) ∧ sizedMet enc C.prog fn (OpenSpec.ofChange s) apart (w.forCall tape i).memory i.args) ∧ a.holds C.prog (lone (Frame.enter C.prog f i.args .normal) [] (w.forCall tape i)))
    (contract : ∀ (W : World) (base : Nat) (args : Array Value) (ds gs : List (DataW H)) (before : List MemPlace), W.ShapedOpen C.prog →
      (∀ (j : Nat) t v, fn.params[j]? = some t → args[j]? = some v → Value.okWide C.prog W .any base t v) →
      DataW.Whole enc C.prog fn.params.toList s.vars apart W args.toList ds gs before →
      zdy.all (PathCond.test C.prog ⟨fn.params.toList, ds, s.plain.varTypes C.prog, gs⟩) = true →
      (DataW.weightsEach C.prog (fn.params.toList ++ s.plain.varTypes C.prog) (ds ++ gs)).all (· ≤ reachBytes) = true → X W args →
      a.holds C.prog (lone (Frame.enter C.prog f args .normal) [] W) →
      Calls C.prog f args W fun e W' => ∃ v, e = .returned v ∧ s.post enc C.prog fn apart fresh handsOn again W args v W') :
    ReturnsInHanded a C os f .any (fun w args => (s.pre enc C.prog fn zdy apart w args ∧ X w args) ∧ sizedMet enc C.prog fn (OpenSpec.ofChange s) apart w args) (s.post enc C.prog fn apart fresh handsOn again) := by
  refine returnsInHanded_of_calls own started noInit witness ?_
  intro w tape i _ shape _ hok hpre hholds
  obtain ⟨_, _, _, fn', hfn', _, _, _, _, hval⟩ := hok
  obtain rfl : fn' = fn := Option.some.inj (hfn'.symm.trans hfn)
  obtain ⟨⟨⟨ds, gs, before, hw, hc⟩, hx⟩, hz⟩ := hpre
  have whole := DataW.Whole.of_heap (w' := w.forCall tape i) (by rfl) hw
  have calls := contract (w.forCall tape i) w.heap.size i.args ds gs before shape hval whole hc (hz.weights hw) (hX _ _ _ (by rfl) hx) hholds
  refine calls.mono ?_
  rintro e W' ⟨v, rfl, hp⟩
  exact ChangeSpec.post_blind hp
theorem zqu {W : World} (h : W.ShapedOpen Tryd.prog) : LayM "internal/bytealg.MaxLen" (fun b => W.heap[b]?) :=
  .of_cell (g := 0) (by kernel_rfl) (cell_of_shapedOpen_int (t := 3) (zero := #[.int .i64 0]) h (of_decide_eq_true (by kernel_rfl)) (by kernel_rfl) rfl (by kernel_rfl) (by kernel_rfl) Tryd.underlying3)
end Go.Proofs.YtpllgpgdcbgalaaDoor
