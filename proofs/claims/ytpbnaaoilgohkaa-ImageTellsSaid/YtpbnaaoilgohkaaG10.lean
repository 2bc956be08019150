/- Cells numbered anew: what stays. Cells numbered as they are come to: the program's function. Cells numbered as they are come to: the program's function, all of it. Values that name no memory; cells that may be. Rows that are built by appending. What a call has made is read by value from now on, in part. The machine in memory: who owns what. The machine in memory: what changes, and what stays. A call that changes what it is handed by address, where the order is drawn: what it leaves names no more than what was there named. Cutting and copying rows. Agents as bytes, and back: the plain functions. Numbers and texts as bytes, behind an owned row. A copy of an agent: the program's part. -/
import Derived.Test.YtpbnaaoilgohkaaG9
import Derived.Test.YtpbnaaoilgohkaaG6
import Derived.Test.YtpbnaaoilgohkaaG8
set_option linter.unusedSimpArgs false
set_option linter.unusedVariables false
set_option maxRecDepth 8000
namespace Go.Proofs.Ytpbnaaoilgohkaa
namespace VM
theorem fm_congr {α β : Type} {f g : α → Option β} : ∀ {l : List α}, (∀ x ∈ l, f x = g x) → l.filterMap f = l.filterMap g
  | [], _ => rfl
  | a :: r, h => by rw [List.filterMap_cons, List.filterMap_cons, h a (by simp), fm_congr fun x hx => h x (by simp [hx])]
theorem vshow_int {h : List Cl} {d : Nat} {v : Val} (k : v.kind = 0) : vshow h d v = Lib.itoa v.n := by cases d <;> simp [vshow, k]
theorem vshow_text {h : List Cl} {d : Nat} {v : Val} (k : v.kind = 1) : vshow h d v = v.text := by cases d <;> simp [vshow, k]
theorem vshow_dots {h : List Cl} {v : Val} (k : v.kind = 2) : vshow h 0 v = [46, 46] := by simp [vshow, k]
theorem vshow_cell {h : List Cl} {d : Nat} {v : Val} {c : Cl} (k : v.kind = 2) (hn : 0 ≤ v.n) (hc : h[v.n.toNat]? = some c) : vshow h (d + 1) v = [40] ++ vshow h d c.left ++ [32] ++ vshow h d c.right ++ [41] := by simp [vshow, k, hn, hc]
theorem idx_map {π : Nat → Nat} {D : Nat → Prop} (inj : ∀ a b, D a → D b → π a = π b → a = b) : ∀ {o : List Nat} {x : Nat}, (∀ n ∈ o, D n) → D x → (o.map π).idxOf (π x) = o.idxOf x
  | [], x, _, _ => rfl
  | a :: r, x, ho, hx => by
    rw [List.map_cons, List.idxOf_cons, List.idxOf_cons]
    by_cases e : a = x
    · subst e; simp
    · have e' : π a ≠ π x := fun h => e (inj a x (ho a (by simp)) hx h)
      have e1 : (a == x) = false := by simp [e]
      have e2 : (π a == π x) = false := by simp [e']
      rw [e1, e2]
      simp only [cond_false]
      rw [idx_map inj (fun n hn => ho n (by simp [hn])) hx]
theorem put_turn {h g : List Cl} {π : Nat → Nat} {D : Nat → Prop} (t : Turn h g π D) {F : List Nat} (hF : ∀ n ∈ F, D n) {v : Val} (hv : v.kind = 2 → D v.n.toNat) : put (F.map π) (ren π v) = put F v := by
  by_cases hk : v.kind = 2
  · unfold put
    rw [ren_kind, if_pos hk, if_pos hk]
    unfold ren
    rw [if_pos hk]
    simp only [Int.toNat_natCast]
    rw [idx_map t.inj hF (hv hk)]
  · unfold put
    rw [ren_kind, if_neg hk, if_neg hk]
    unfold ren
    rw [if_neg hk]
theorem canon_turn {h g : List Cl} {π : Nat → Nat} {D : Nat → Prop} (t : Turn h g π D) (hh : OkH h) (hg : OkH g) {l : List Val} (hl : ∀ v ∈ l, OkV h.length v) (hd : ∀ v ∈ l, v.kind = 2 → D v.n.toNat) (hl' : ∀ v ∈ l, OkV g.length (ren π v)) :
    canonV g (l.map (ren π)) = canonV h l ∧ canonC g (l.map (ren π)) = canonC h l := by
  obtain ⟨e, hF⟩ := orderGo_turn t hh hg l [] hl hd hl' Good.nil Good.nil (fun n hn => by simp at hn)
  have e' : order g (l.map (ren π)) = (order h l).map π := e
  unfold canonV canonC
  rw [e']
  have hF' : ∀ n ∈ order h l, D n := hF
  generalize order h l = F at *
  refine ⟨?_, ?_⟩
  · rw [List.map_map]
    exact List.map_congr_left fun v hv => put_turn t hF' (hd v hv)
  · rw [List.filterMap_map]
    refine fm_congr fun n hn => ?_
    obtain ⟨c, hc, hgc, dl, dr⟩ := t.cell n (hF' n hn)
    simp only [Function.comp, hc, hgc, Option.map_some]
    unfold putC
    rw [put_turn t hF' dl, put_turn t hF' dr]
theorem right_okV {h : List Cl} {l : List Val} (hr : right h l = true) : ∀ v ∈ l, WrongOk v h.length := by
  unfold right at hr
  simp only [Bool.and_eq_true, List.all_eq_true, decide_eq_true_eq] at hr
  exact fun v hv => wrong_ok (hr.1 v hv)
theorem right_okC {h : List Cl} {l : List Val} (hr : right h l = true) : ∀ c ∈ h, WrongOk c.left h.length ∧ WrongOk c.right h.length := by
  unfold right at hr
  simp only [Bool.and_eq_true, List.all_eq_true, decide_eq_true_eq] at hr
  exact fun c hc => ⟨wrong_ok (hr.2 c hc).1, wrong_ok (hr.2 c hc).2⟩
theorem ok_right {h : List Cl} {l : List Val} (h1 : ∀ v ∈ l, WrongOk v h.length) (h2 : ∀ c ∈ h, WrongOk c.left h.length ∧ WrongOk c.right h.length) : right h l = true := by
  unfold right
  simp only [Bool.and_eq_true, List.all_eq_true, decide_eq_true_eq]
  exact ⟨fun v hv => ok_wrong (h1 v hv), fun c hc => ⟨ok_wrong (h2 c hc).1, ok_wrong (h2 c hc).2⟩⟩
theorem WrongOk.okV {v : Val} {N : Nat} (h : WrongOk v N) : OkV N v := fun hk => by have := h.cell hk; omega
theorem okH {h : List Cl} (hc : ∀ c ∈ h, WrongOk c.left h.length ∧ WrongOk c.right h.length) : OkH h := fun n c hn => by
  obtain ⟨a, b⟩ := hc c (List.mem_of_getElem? hn)
  exact ⟨a.okV, b.okV⟩
theorem WrongOk.ren {v : Val} {N M : Nat} {π : Nat → Nat} (h : WrongOk v N) (hp : v.kind = 2 → π v.n.toNat < M) : WrongOk (ren π v) M := by
  unfold VM.ren
  by_cases hk : v.kind = 2
  · rw [if_pos hk]
    exact ⟨h.kind, fun h0 => by simp only at h0; omega, h.len, fun _ => ⟨by simp, by have := hp hk; simp only; omega⟩, fun h1 => by simp only at h1; omega, h.non⟩
  · rw [if_neg hk]
    exact ⟨h.kind, h.int, h.len, fun h2 => absurd h2 hk, h.txt, h.non⟩
theorem order_turn {h : List Cl} {l : List Val} (hr : right h l = true) : Turn h (canonC h l) (order h l).idxOf (· ∈ order h l) ∧ (∀ v ∈ l, In (order h l) v) ∧ (∀ n ∈ order h l, n < h.length) ∧ (order h l).Nodup ∧ (canonC h l).length = (order h l).length := by
  have hh := okH (right_okC hr)
  have hl : ∀ v ∈ l, OkV h.length v := fun v hv => (right_okV hr v hv).okV
  have g : Good h.length (order h l) := orderGo_good hh l [] hl Good.nil
  obtain ⟨s, hin⟩ := orderGo_shut hh l [] hl Good.nil (fun j n c hj => by simp at hj)
  have s' : Shut h (order h l) (order h l).length := s
  have hin' : ∀ v ∈ l, In (order h l) v := hin
  have fm : ∀ (F o : List Nat), (∀ n ∈ o, n < h.length) → (o.filterMap fun n => (h[n]?).map (putC F)) = o.map fun n => putC F ((h[n]?).getD ⟨vzero, vzero⟩) := by
    intro F o
    induction o with
    | nil => intro _; rfl
    | cons n r ih =>
      intro ho
      have hn := ho n (by simp)
      rw [List.filterMap_cons, List.getElem?_eq_getElem hn]
      simp only [Option.map_some, List.map_cons]
      rw [ih fun x hx => ho x (by simp [hx])]
      simp [hn]
  have ck : canonC h l = (order h l).map fun n => putC (order h l) ((h[n]?).getD ⟨vzero, vzero⟩) := fm _ _ g.lt
  refine ⟨⟨fun a b ha hb e => ?_, fun n hn => ?_⟩, hin', g.lt, g.nd, by rw [ck, List.length_map]⟩
  · have e1 := List.getElem_idxOf (List.idxOf_lt_length_iff.2 ha)
    have e2 := List.getElem_idxOf (List.idxOf_lt_length_iff.2 hb)
    rw [← e1, ← e2]
    simp only [e]
  · have hlt := g.lt n hn
    refine ⟨h[n], List.getElem?_eq_getElem hlt, ?_, ?_⟩
    · rw [ck, List.getElem?_map, List.getElem?_eq_getElem (List.idxOf_lt_length_iff.2 hn), List.getElem_idxOf]
      simp [hlt]; rfl
    · have hi : (order h l)[(order h l).idxOf n]? = some n := by rw [List.getElem?_eq_getElem (List.idxOf_lt_length_iff.2 hn), List.getElem_idxOf]
      exact s' _ n h[n] (List.idxOf_lt_length_iff.2 hn) hi (List.getElem?_eq_getElem hlt)
theorem canonV_eq (h : List Cl) (l : List Val) : canonV h l = l.map (ren (order h l).idxOf) := rfl
theorem vshow_turn {h g : List Cl} {π : Nat → Nat} {D : Nat → Prop} (t : Turn h g π D) : ∀ (d : Nat) {v : Val}, (v.kind = 0 ∨ v.kind = 1 ∨ (v.kind = 2 ∧ 0 ≤ v.n ∧ D v.n.toNat)) → (∀ (n : Nat) (c : Cl), h[n]? = some c → (c.left.kind = 0 ∨ c.left.kind = 1 ∨ (c.left.kind = 2 ∧ 0 ≤ c.left.n)) ∧ (c.right.kind = 0 ∨ c.right.kind = 1 ∨ (c.right.kind = 2 ∧ 0 ≤ c.right.n))) → vshow g d (ren π v) = vshow h d v
  | d, v, hv, hh => by
    rcases hv with hk | hk | ⟨hk, hn, hD⟩
    · have e : ren π v = v := by unfold ren; rw [if_neg (by omega)]
      rw [e, vshow_int hk, vshow_int hk]
    · have e : ren π v = v := by unfold ren; rw [if_neg (by omega)]
      rw [e, vshow_text hk, vshow_text hk]
    · obtain ⟨c, hc, hgc, dl, dr⟩ := t.cell _ hD
      obtain ⟨k1, k2⟩ := hh _ _ hc
      have hk' : (ren π v).kind = 2 := by rw [ren_kind]; exact hk
      cases d with
      | zero => rw [vshow_dots hk', vshow_dots hk]
      | succ d =>
        have i1 := vshow_turn t d (v := c.left) (by rcases k1 with a | a | ⟨a, b⟩; exact .inl a; exact .inr (.inl a); exact .inr (.inr ⟨a, b, dl a⟩)) hh
        have i2 := vshow_turn t d (v := c.right) (by rcases k2 with a | a | ⟨a, b⟩; exact .inl a; exact .inr (.inl a); exact .inr (.inr ⟨a, b, dr a⟩)) hh
        have en : (ren π v).n = (π v.n.toNat : Nat) := by unfold ren; rw [if_pos hk]
        rw [vshow_cell hk hn hc, vshow_cell hk' (by rw [en]; omega) (by rw [en, Int.toNat_natCast]; exact hgc), i1, i2]
theorem canon_law {h : List Cl} {l : List Val} (hr : right h l = true) : (canonV h l).length = l.length ∧ (canonC h l).length ≤ h.length ∧ right (canonC h l) (canonV h l) = true ∧
    (∀ (d i : Nat) (v : Val), l[i]? = some v → ∃ u, (canonV h l)[i]? = some u ∧ vshow (canonC h l) d u = vshow h d v) ∧ canonV (canonC h l) (canonV h l) = canonV h l ∧ canonC (canonC h l) (canonV h l) = canonC h l := by
  obtain ⟨t, hin, hlt, hnd, hlen⟩ := order_turn hr
  have hv := right_okV hr
  have hc := right_okC hr
  have hle : (order h l).length ≤ h.length := (show Good h.length (order h l) from ⟨hnd, hlt⟩).len
  have hV : ∀ v ∈ l, WrongOk (ren (order h l).idxOf v) (canonC h l).length := fun v hx => (hv v hx).ren fun hk => by rw [hlen]; exact List.idxOf_lt_length_iff.2 (hin v hx hk)
  have hC : ∀ c ∈ canonC h l, WrongOk c.left (canonC h l).length ∧ WrongOk c.right (canonC h l).length := by
    intro c hx
    unfold canonC at hx
    obtain ⟨n, hn, he⟩ := List.mem_filterMap.1 hx
    obtain ⟨c0, h0, _, dl, dr⟩ := t.cell n hn
    rw [h0] at he
    simp only [Option.map_some, Option.some.injEq] at he
    subst he
    obtain ⟨w1, w2⟩ := hc c0 (List.mem_of_getElem? h0)
    refine ⟨show WrongOk (ren (order h l).idxOf c0.left) _ from w1.ren (M := (canonC h l).length) fun hk => ?_, show WrongOk (ren (order h l).idxOf c0.right) _ from w2.ren (M := (canonC h l).length) fun hk => ?_⟩
    · rw [hlen]; exact List.idxOf_lt_length_iff.2 (dl hk)
    · rw [hlen]; exact List.idxOf_lt_length_iff.2 (dr hk)
  have hR : right (canonC h l) (canonV h l) = true := ok_right (fun v hx => by
    rw [canonV_eq] at hx
    obtain ⟨u, hu, rfl⟩ := List.mem_map.1 hx
    exact hV u hu) hC
  obtain ⟨q1, q2⟩ := canon_turn t (okH hc) (okH hC) (fun v hx => (hv v hx).okV) (fun v hx hk => hin v hx hk) (fun v hx => (hV v hx).okV)
  refine ⟨by rw [canonV_eq, List.length_map], by omega, hR, fun d i v hi => ⟨ren (order h l).idxOf v, by rw [canonV_eq, List.getElem?_map, hi]; rfl, ?_⟩, q1, q2⟩
  have hvl := List.mem_of_getElem? hi
  refine vshow_turn t d ?_ fun n c hn => ?_
  · have w := hv v hvl
    rcases w.kind with a | a | a
    · exact .inl a
    · exact .inr (.inl a)
    · exact .inr (.inr ⟨a, (w.cell a).1, hin v hvl a⟩)
  · obtain ⟨w1, w2⟩ := hc c (List.mem_of_getElem? hn)
    refine ⟨?_, ?_⟩
    · rcases w1.kind with a | a | a
      · exact .inl a
      · exact .inr (.inl a)
      · exact .inr (.inr ⟨a, (w1.cell a).1⟩)
    · rcases w2.kind with a | a | a
      · exact .inl a
      · exact .inr (.inl a)
      · exact .inr (.inr ⟨a, (w2.cell a).1⟩)
end VM
end Go.Proofs.Ytpbnaaoilgohkaa
set_option maxRecDepth 8000
namespace Go.Proofs.Ytpbnaaoilgohkaa
open Go Go.RowKit
set_option maxRecDepth 20000 in
theorem zaff {h : List Cl} {l : List Val} {F : List Nat} {H0 : Heap} {nx i j d : Nat} {o : List Nat} {a0 a2 a3 a4 a5 : AV} {H37 : Heap} {nx36 gr go gv c0 : Nat} {rd fr : List Nat} {D : zl} (S4 : zcp h l F H0 nx j d o a2 (H37.apply D) (nx36 + 1 + fr.length) gr go gv) (hs : h.length * 64 ≤ 140737488355328)
    (hd : o[d]? = some c0) {p q : Val} (hcell : (⟨p, q⟩ : Cl) = zbt F h c0) (hdis : nx36 ∉ domD D) {K18 : J3} (hK18 : ∀ a2 H n gr go, zcp h l F H0 nx j (d + 1) o a2 H n gr go gv → K18 [a0, .ptr (nx + 2) 0, a2, a3, a4, a5, .int .i64 i] H n) :
    ziy (.agg p.avs) [a0, .ptr (nx + 2) 0, a2, a3, a4, a5, .int .i64 i] nx36 H37 [nx36] K18 (.agg q.avs) rd fr D := by
  have hlt := (List.getElem?_eq_some_iff.1 hd).1
  have hol := S4.good.len
  have hrow : (o.take (d + 1)).map (zbt F h) = (o.take d).map (zbt F h) ++ [⟨p, q⟩] := by rw [zvr _ hd, hcell]
  have S5 := S4.out
  rcases S5 with ⟨e0, e2⟩ | ⟨h0, e2, h1, h2, h3, h4⟩
  · subst e2
    simp [ziy, Val.avs]
    subst e0
    refine zbs (by simp) (zbs (by rintro g hg; simp; rintro rfl; exact hdis hg) (hK18 _ _ _ _ _ (S4.outs hlt (gn := nx36 + 1 + fr.length + 1) (by omega) (by omega) ?_ fun g hg _ => ?_)))
    · rw [Heap.put_at, hrow]
      simp [rowC, Cl.avs, Val.avs]
    · rw [Heap.put_ne _ _ (by omega), Heap.put_ne _ _ (by omega)]
  · subst e2
    simp [ziy, Val.avs, h1]
    rw [if_neg (by omega)]
    simp
    rw [List.take_of_length_le (by simp; omega)]
    refine ⟨by rw [Nat.min_eq_left (by omega)]; exact Nat.le_refl _, by omega, zbs (by simp) (zbs (by rintro g hg; simp; rintro rfl; exact hdis hg) (hK18 _ _ _ _ _ (S4.outs hlt (gn := nx36 + 1 + fr.length + 1) (by omega) (by omega) ?_ fun g hg hg2 => ?_)))⟩
    · rw [Heap.put_at, hrow]
      simp [rowC, Cl.avs, Val.avs]
    · rw [Heap.put_ne _ _ (by omega), Heap.put_ne _ _ (hg2 h0), Heap.put_ne _ _ (by omega)]
set_option maxHeartbeats 2000000 in
set_option maxRecDepth 20000 in
theorem zags (h : List Cl) (l : List Val) (hr : VM.right h l = true) (hs : h.length * 64 ≤ 140737488355328) {a0 : AV} {H0 : Heap} {nx i : Nat} (hi : i < l.length) (hl : l.length * 32 ≤ 140737488355328) (ha0 : zak H0 nx 6 (h.map Cl.avs) a0) (K6 : J3) (gv : Nat)
    (hK : ∀ a2 H n gr go o, zcp h l (VM.order h l) H0 nx (i + 1) o.length o a2 H n gr go gv → VM.orderGo h (l.drop (i + 1)) o = VM.order h l →
      K6 [a0, .ptr (nx + 2) 0, a2, .clo 58 [.ptr (nx + 1) 0, .ptr (nx + 2) 0], .slc gv 0 l.length, .int .i64 l.length, .int .i64 (i + 1 : Nat)] H n)
    (a2 : AV) (H : Heap) (n gr go : Nat) (o : List Nat) (d : Nat) (st : zcp h l (VM.order h l) H0 nx (i + 1) d o a2 H n gr go gv) (hF : VM.orderGo h (l.drop (i + 1)) (VM.drain h (h.length - d) o d) = VM.order h l) :
    LP (zfl K6) [a0, .ptr (nx + 2) 0, a2, .clo 58 [.ptr (nx + 1) 0, .ptr (nx + 2) 0], .slc gv 0 l.length, .int .i64 l.length, .int .i64 i] H n := by
  refine LP.mk (fun m xs H n => ∃ d a2 gr go o, m = h.length - d ∧ xs = [a0, .ptr (nx + 2) 0, a2, .clo 58 [.ptr (nx + 1) 0, .ptr (nx + 2) 0], .slc gv 0 l.length, .int .i64 l.length, .int .i64 i] ∧ zcp h l (VM.order h l) H0 nx (i + 1) d o a2 H n gr go gv ∧
    VM.orderGo h (l.drop (i + 1)) (VM.drain h (h.length - d) o d) = VM.order h l) (h.length - d) ⟨d, a2, gr, go, o, rfl, rfl, st, hF⟩ ?_
  clear st hF
  rintro m xs H n ⟨d, a2, gr, go, o, rfl, rfl, st, hF⟩
  have hlenA : ∀ k : AV → Prop, LNL a2 k = k (.int .i64 d) := by
    intro k
    rcases st.out with ⟨rfl, rfl⟩ | ⟨_, rfl, _⟩ <;> simp
  have hOrd : (AV.int .i64 (o.length : Nat) : AV) = .int .i64 o.length := rfl
  by_cases hd : d < o.length
  case neg =>
    obtain rfl : d = o.length := by have := st.dle; omega
    simp [zfl, hlenA, st.num.m2, zyf]
    rw [i64w (by omega)]
    rw [VM.drain_end (Nat.le_refl _)] at hF
    exact hK a2 H n gr go o st hF
  obtain ⟨c0, hc0⟩ : ∃ n0, o[d]? = some n0 := ⟨_, List.getElem?_eq_getElem hd⟩
  have hc0l : c0 < h.length := st.good.lt c0 (List.mem_of_getElem? hc0)
  obtain ⟨c, hc⟩ : ∃ c, h[c0]? = some c := ⟨_, List.getElem?_eq_getElem hc0l⟩
  have ho : o ≠ [] := by intro e; subst e; simp at hd
  have hok := VM.okH (VM.right_okC hr) c0 c hc
  obtain ⟨r1, r2, r3⟩ := st.lr ho
  have hol := st.good.len
  have m2 := st.num.m2
  rw [if_neg ho] at m2
  have hrow : (zao o)[d]? = some (.int .i64 c0) := zrw hc0
  obtain ⟨hdr, hrow'⟩ := List.getElem?_eq_some_iff.1 hrow
  suffices key : ∀ K18 : J3, (∀ a2 H n gr go o, zcp h l (VM.order h l) H0 nx (i + 1) (d + 1) o a2 H n gr go gv → VM.orderGo h (l.drop (i + 1)) (VM.drain h (h.length - (d + 1)) o (d + 1)) = VM.order h l →
      K18 [a0, .ptr (nx + 2) 0, a2, .clo 58 [.ptr (nx + 1) 0, .ptr (nx + 2) 0], .slc gv 0 l.length, .int .i64 l.length, .int .i64 i] H n) →
      zfl K6 K18 [a0, .ptr (nx + 2) 0, a2, .clo 58 [.ptr (nx + 1) 0, .ptr (nx + 2) 0], .slc gv 0 l.length, .int .i64 l.length, .int .i64 i] H n from
    key _ fun a2 H n gr go o st' hF' => ⟨_, by omega, d + 1, a2, gr, go, o, rfl, rfl, st', hF'⟩
  intro K18 hK18
  have hdr0 : VM.drain h (h.length - d) o d = VM.drain h (h.length - (d + 1)) (VM.meet (VM.meet o c.left) c.right) (d + 1) := by
    rw [show h.length - d = (h.length - (d + 1)) + 1 by omega]; exact VM.drain_step hc0 hc
  rw [hdr0] at hF
  have g1 := st.good.meet hok.1
  have pre : VM.meet (VM.meet o c.left) c.right <+: VM.order h l := by
    rw [← hF]; exact (VM.drain_pre h _ _ _).trans (VM.orderGo_pre h _ _)
  have cput := zanw hc pre
  simp [zfl, hlenA, m2, hd, st.num.mr ho, hrow']
  refine (ha0.keep (H' := H) (nx' := n) st.keep (by have := st.lv; omega)).ld (zfh h) (x := c.avs) (by rw [List.getElem?_map, hc]; rfl) ?_
  obtain ⟨cl, cr⟩ := c
  simp [Cl.avs, Val.avs, CALL]
  have st1 := st.more (H1 := H.put n (some (AObj.row 6 (cl.avs ++ cr.avs)))) (n1 := n + 1) (by omega) (fun g hg => Heap.put_ne _ _ (by omega))
  have lv := st.lv
  have wl := VM.right_okC hr _ (List.mem_of_getElem? hc)
  refine (zaaz cl o (fun hk => (wl.1.cell hk).1) (by omega) st1.num (by omega) (by omega) (by omega) (fun _ => by omega)).mono ?_
  rintro r H2 n2 ⟨rfl, hn2, gr2, st2, q2, q3⟩
  have S2 := st1.meet hok.1 hn2 st2 q2 q3
  have hcell : H2 n = some (AObj.row 6 (cl.avs ++ cr.avs)) := by
    rw [q3 n (by omega) (by omega) (by omega) fun _ => by omega]; exact Heap.put_at _ _ _
  have ho1 : VM.meet o cl ≠ [] := by
    intro e; have := (VM.meet_pre o cl).length_le; rw [e] at this; simp at this; exact ho this
  have ol2 : (VM.meet o cl).length ≤ h.length := S2.good.len
  have hlt0 : 0 < (VM.meet o cl).length := List.length_pos_iff.2 ho1
  obtain ⟨lr1, lr2, lr3⟩ := S2.lr ho1
  have lv2 := S2.lv
  simp [zwc, hcell, Cl.avs, Val.avs]
  have S3 := S2.more (H1 := H2.put n2 (some (AObj.row 3 (VM.put (VM.meet o cl) cl).avs))) (n1 := n2 + 1) (by omega) (fun g hg => Heap.put_ne _ _ (by omega))
  have hn0 : n ≠ n2 := by omega
  simp only [hn0, if_false, hcell, Cl.avs, Val.avs]
  simp
  have hd2 : (VM.meet (VM.meet o cl) cr)[d]? = some c0 := by
    obtain ⟨t, ht⟩ := (VM.meet_pre o cl).trans (VM.meet_pre (VM.meet o cl) cr)
    rw [← ht, List.getElem?_append_left hd]; exact hc0
  refine zaeo cr (VM.meet o cl) (fun hk => (wl.2.cell hk).1) (by omega) ho1 S3.num (by omega) (by omega) (by omega) (by omega) (fun hno => ?_) (fun hnew => ?_)
  · have S4 : zcp h l (VM.order h l) H0 nx (i + 1) d (VM.meet (VM.meet o cl) cr) a2 (Heap.apply (H2.put n2 (some (AObj.row 3 (VM.put (VM.meet o cl) cl).avs))) []) (n2 + 1 + ([] : List Nat).length) gr2 go gv := by
      rw [zpm hno]; exact S3
    exact zaff S4 hs hd2 cput (by simp) fun a2 H n gr go st' => hK18 a2 H n gr go _ st' hF
  · have n1 : nx ≠ gr2 := by omega
    have ne_0 : nx ≠ nx + 1 ∧ nx + 1 ≠ nx ∧ nx ≠ nx + 2 ∧ nx + 2 ≠ nx ∧ nx ≠ gr2 ∧ gr2 ≠ nx ∧ nx + 1 ≠ nx + 2 ∧ nx + 2 ≠ nx + 1 ∧ nx + 1 ≠ gr2 ∧ gr2 ≠ nx + 1 ∧ nx + 2 ≠ gr2 ∧ gr2 ≠ nx + 2 ∧ nx ≠ n2 ∧ n2 ≠ nx ∧ nx ≠ n2 + 1 ∧ n2 + 1 ≠ nx ∧ nx + 1 ≠ n2 ∧ n2 ≠ nx + 1 ∧ nx + 1 ≠ n2 + 1 ∧ n2 + 1 ≠ nx + 1 ∧ nx + 2 ≠ n2 ∧ n2 ≠ nx + 2 ∧ nx + 2 ≠ n2 + 1 ∧ n2 + 1 ≠ nx + 2 ∧ gr2 ≠ n2 ∧ n2 ≠ gr2 ∧ gr2 ≠ n2 + 1 ∧ n2 + 1 ≠ gr2 := ⟨by omega, by omega, by omega, by omega, by omega, by omega, by omega, by omega, by omega, by omega, by omega, by omega, by omega, by omega, by omega, by omega, by omega, by omega, by omega, by omega, by omega, by omega, by omega, by omega, by omega, by omega, by omega, by omega⟩
    have st4 : zgm (Heap.apply (H2.put n2 (some (AObj.row 3 (VM.put (VM.meet o cl) cl).avs))) [(nx, some (.mp (zgr (VM.meet o cl ++ [cr.n.toNat])))), (gr2, none), (nx + 2, some (.row 1 [.slc (n2 + 1) 0 ((VM.meet o cl).length + 1)])), (n2 + 1, some (.row 1 (zao (VM.meet o cl ++ [cr.n.toNat]))))]) (nx + 1) (nx + 2) nx (n2 + 1) (VM.meet o cl ++ [cr.n.toNat]) := by
      refine S3.num.next (nx := n2 + 1) (by omega) (by omega) (by omega) (fun _ => by omega) (Nat.le_refl _) ?_ ?_ ?_ ?_
      · simp [ne_0]
      · simp [ne_0]
      · simp [ne_0]
      · simp [ne_0]
    rw [← zlv hnew] at st4
    have S4 := S3.meet (v := cr) hok.2 (n' := n2 + 1 + [n2 + 1].length) (by omega) st4 (fun _ => ⟨by simp, .inr (Nat.le_refl _)⟩) fun g hg a1 a2 a3 => by
      have a4 := a3 ho1
      have a5 : g ≠ n2 + 1 := by omega
      simp only [Heap.apply]
      rw [Heap.put_ne _ _ a5, Heap.put_ne _ _ a2, Heap.put_ne _ _ a4, Heap.put_ne _ _ a1]
    rw [zlv hnew] at S4 ⊢
    rw [zlv hnew] at hd2 cput hF
    exact zaff S4 hs hd2 cput (by simp; omega) fun a2 H n gr go st' => hK18 a2 H n gr go _ st' hF
end Go.Proofs.Ytpbnaaoilgohkaa
set_option maxRecDepth 8000
namespace Go.Proofs.Ytpbnaaoilgohkaa
open Go Go.RowKit
theorem zcp.setv {h : List Cl} {l : List Val} {F : List Nat} {H0 : Heap} {nx i d : Nat} {o : List Nat} {a2 : AV} {H : Heap} {n gr go gv : Nat} (st : zcp h l F H0 nx i d o a2 H n gr go gv) (c : Option AObj) (hc : c = some (.row 3 (rowV ((l.take (i + 1)).map (VM.put F) ++ l.drop (i + 1))))) : zcp h l F H0 nx (i + 1) d o a2 (H.put gv c) n gr go gv := by
  have l1 := st.lv
  have hk : ∀ g, g ≠ gv → (H.put gv c) g = H g := fun g hg => Heap.put_ne _ _ hg
  refine ⟨⟨?_, ?_, ?_, fun ho => ?_, st.num.d12, st.num.d1m, st.num.d2m, st.num.dr⟩, st.lr, ?_, by rw [Heap.put_at, hc], l1, fun g hg => by rw [hk g (by omega)]; exact st.keep g hg, st.good, st.dle⟩
  · rw [hk _ (by omega)]; exact st.num.m1
  · rw [hk _ (by omega)]; exact st.num.mm
  · rw [hk _ (by omega)]; exact st.num.m2
  · rw [hk _ (fun e => (st.lr ho).2.2 e.symm)]; exact st.num.mr ho
  · rcases st.out with h | ⟨p1, p2, p3, p4, p5, p6, p7⟩
    · exact .inl h
    · exact .inr ⟨p1, p2, by rw [hk _ p6]; exact p3, p4, p5, p6, p7⟩
set_option maxHeartbeats 2000000 in
set_option maxRecDepth 20000 in
theorem zany (h : List Cl) (l : List Val) (hr : VM.right h l = true) (hs : h.length * 64 ≤ 140737488355328) (hl : l.length * 32 ≤ 140737488355328) {a0 a1 : AV} {H : Heap} {nx : Nat} (ha0 : zak H nx 6 (h.map Cl.avs) a0) (ha1 : zak H nx 3 (l.map Val.avs) a1) :
    za Try.prog 42 [a0, a1] H nx fun v H' _ => Frz H' nx v (.tup [.ro ((VM.canonV h l).map Val.avs), .ro ((VM.canonC h l).map Cl.avs)]) ∧ Keep nx H' H := by
  refine zaad _ _ H nx _ ?_
  simp [zwa]
  generalize hH1 : ((H.put nx (some (AObj.mp []))).put (nx + 1) (some (AObj.row 1 [AV.amap nx]))).put (nx + 2) (some (AObj.row 1 [AV.nils])) = H1
  have k1 : ∀ g, g < nx → H1 g = H g := fun g hg => by
    subst hH1; rw [Heap.put_ne _ _ (by omega), Heap.put_ne _ _ (by omega), Heap.put_ne _ _ (by omega)]
  refine (zadb l hl (ha1.keep (nx' := nx + 3) k1 (by omega))).mono ?_
  rintro v H2 n2 ⟨hn2, hk2, hv⟩
  have k2 : Keep nx H2 H := fun g hg => (hk2 g (by omega)).trans (k1 g hg)
  rcases hv with ⟨rfl, rfl⟩ | ⟨gv, v1, v2, rfl, v3⟩
  · simp [zni]
    refine LP.mk (fun _ xs H' n' => H' = H2 ∧ xs = [a0, .ptr (nx + 2) 0, .nils, .clo 58 [.ptr (nx + 1) 0, .ptr (nx + 2) 0], .nils, .int .i64 0, .int .i64 0]) 0 ⟨rfl, rfl⟩ ?_
    rintro m xs H' n' ⟨rfl, rfl⟩
    simp [zix]
    exact ⟨⟨.nils, .nils⟩, k2⟩
  have st0 : zcp h l (VM.order h l) H nx 0 0 [] .nils H2 n2 0 0 gv := by
    refine ⟨⟨?_, ?_, ?_, fun ho => absurd rfl ho, by omega, by omega, by omega, fun ho => absurd rfl ho⟩, fun ho => absurd rfl ho, .inl ⟨rfl, rfl⟩, by simpa using v3, by omega, k2, VM.Good.nil, Nat.le_refl _⟩
    · rw [hk2 _ (by omega), ← hH1, Heap.put_ne _ _ (by omega), Heap.put_at]
    · rw [hk2 _ (by omega), ← hH1, Heap.put_ne _ _ (by omega), Heap.put_ne _ _ (by omega), Heap.put_at]; rfl
    · rw [hk2 _ (by omega), ← hH1, Heap.put_at]; rfl
  simp [zni]
  refine LP.mk (fun m xs H' n' => ∃ i a2 gr go o, m = l.length - i ∧ i ≤ l.length ∧ xs = [a0, .ptr (nx + 2) 0, a2, .clo 58 [.ptr (nx + 1) 0, .ptr (nx + 2) 0], .slc gv 0 l.length, .int .i64 l.length, .int .i64 i] ∧
    zcp h l (VM.order h l) H nx i o.length o a2 H' n' gr go gv ∧ VM.orderGo h (l.drop i) o = VM.order h l) l.length ⟨0, .nils, 0, 0, [], by omega, by omega, rfl, st0, rfl⟩ ?_
  rintro m xs H' n' ⟨i, a2, gr, go, o, rfl, hi, rfl, st, hF⟩
  have hll : l.length < 4611686018427387904 := by omega
  by_cases hil : i < l.length
  case neg =>
    obtain rfl : i = l.length := by omega
    simp [zix]
    have hFo : VM.order h l = o := by rw [← hF, List.drop_length]; rfl
    have hFlt : ∀ n ∈ VM.order h l, n < h.length := by rw [hFo]; exact st.good.lt
    refine ⟨⟨?_, ?_⟩, st.keep⟩
    · refine Frz.row (sz := 3) (g := gv) (cells := rowV (VM.canonV h l)) (by have := st.lv; omega) (by rw [st.vs]; simp [VM.canonV]) (by simp [VM.canonV]) (zda _) rfl fun c hc => zbq (zgo _ c hc)
    · rw [zadd hFlt]
      rcases st.out with ⟨h0, rfl⟩ | ⟨h0, rfl, h1, h2, h3, h4⟩
      · have : VM.order h l = [] := by rw [hFo]; exact List.eq_nil_of_length_eq_zero h0
        rw [this]; exact .nils
      · refine Frz.row (sz := 6) (g := go) (cells := rowC ((VM.order h l).map (zbt (VM.order h l) h))) (by omega) (by rw [h1, List.take_length, hFo]) (by simp [hFo]) (zfh _) rfl fun c hc => zbq (zwx _ c hc)
  obtain ⟨v, hv⟩ : ∃ v, l[i]? = some v := ⟨_, List.getElem?_eq_getElem hil⟩
  have wv := VM.right_okV hr v (List.mem_of_getElem? hv)
  have hol := st.good.len
  have lv := st.lv
  have hdrop : l.drop i = v :: l.drop (i + 1) := by
    obtain ⟨hi', hv'⟩ := List.getElem?_eq_some_iff.1 hv
    rw [← hv']; exact List.drop_eq_getElem_cons hi'
  rw [hdrop] at hF
  have hF' : VM.orderGo h (l.drop (i + 1)) (VM.drain h (h.length - o.length) (VM.meet o v) o.length) = VM.order h l := hF
  have pre : VM.meet o v <+: VM.order h l := by
    rw [← hF']; exact (VM.drain_pre h _ _ _).trans (VM.orderGo_pre h _ _)
  have hput : VM.put (VM.meet o v) v = VM.put (VM.order h l) v := VM.put_pre pre (VM.mem_meet o v)
  have hmix := zaox (zamv (F := VM.order h l) hv)
  have hset := zaeg (L := (l.take i).map (VM.put (VM.order h l)) ++ l.drop i) (i := i) (v := VM.put (VM.order h l) v) (by simp; omega)
  rw [zaoy hv] at hset
  simp only [List.map_take] at hmix hset
  simp [zix, hil, st.vs, CALL]
  refine ⟨by rw [Nat.min_eq_left (by omega)]; omega, ?_⟩
  rw [hmix]
  refine (zaaz v o (fun hk => (wv.cell hk).1) (by omega) st.num (by omega) (by omega) (by omega) (fun ho => (st.lr ho).2.1)).mono ?_
  rintro r H3 n3 ⟨rfl, hn3, gr3, st3, q2, q3⟩
  have S3 := st.meet wv.okV hn3 st3 q2 q3
  have hvs := S3.vs
  simp only [List.map_take] at hvs
  simp [zwb, hvs, hput]
  refine ⟨hil, by rw [Nat.min_eq_left (by omega)]; omega, fun x hx => zck (zbp _ x hx), ?_⟩
  refine zags h l hr hs hil hl ha0 _ gv (fun a2' H4 n4 gr4 go4 o4 st4 hF4 => ?_) a2 _ _ gr3 go (VM.meet o v) o.length (S3.setv _ ?_) hF'
  · exact ⟨l.length - (i + 1), by omega, i + 1, rfl, by omega, a2', rfl, gr4, go4, o4, st4, hF4⟩
  · rw [List.append_assoc] at hset
    simp only [List.map_take]
    rw [hset]
end Go.Proofs.Ytpbnaaoilgohkaa
set_option maxRecDepth 8000
namespace Go.Proofs.Ytpbnaaoilgohkaa
open Go Go.RowKit
theorem zmq (v : Val) {A : Nat → Prop} : Bel A (.agg v.avs) := .agg _ fun j x hx => zbq (zbp _ x (List.mem_of_getElem? hx))
def zace (h : List Cl) : Prop := ∀ c ∈ h, VM.WrongOk c.left h.length ∧ VM.WrongOk c.right h.length
end Go.Proofs.Ytpbnaaoilgohkaa
set_option maxRecDepth 8000
namespace Go.Proofs.Ytpbnaaoilgohkaa
open Go Go.RowKit
def Grow (H : Heap) (lo n sz k : Nat) (cells : List AV) (a : AV) : Prop := (k = 0 ∧ a = .nils) ∨ (0 < k ∧ ∃ g, lo ≤ g ∧ g < n ∧ a = .slc g 0 k ∧ H g = some (.row sz cells))
theorem Grow.zero {H : Heap} {lo n sz : Nat} {cells : List AV} : Grow H lo n sz 0 cells .nils := .inl ⟨rfl, rfl⟩
theorem Grow.more {H H' : Heap} {lo n n' sz k : Nat} {cells : List AV} {a : AV} (h : Grow H lo n sz k cells a) (hn : n ≤ n') (hk : ∀ g, lo ≤ g → g < n → H' g = H g) : Grow H' lo n' sz k cells a := by
  rcases h with h | ⟨h0, g, h1, h2, h3, h4⟩
  · exact .inl h
  · exact .inr ⟨h0, g, h1, by omega, h3, by rw [hk g h1 h2]; exact h4⟩
theorem Grow.len {H : Heap} {lo n sz k : Nat} {cells : List AV} {a : AV} (h : Grow H lo n sz k cells a) {q : AV → Prop} : LNL a q = q (.int .i64 k) := by
  rcases h with ⟨rfl, rfl⟩ | ⟨h0, g, h1, h2, rfl, h4⟩ <;> simp
theorem Grow.app {H : Heap} {lo n sz k bytes t nx : Nat} {cells new : List AV} {a : AV} {kk : AV → Heap → Nat → Prop} (hg : Grow H lo n sz k cells a) (hlen : cells.length = k * sz) (ht : H t = some (.row sz new)) (hnl : new.length = sz) (hone : new.all AV.one = true)
    (hb : (k + 1) * bytes ≤ 140737488355328) (hn : n ≤ nx) (hlo : lo ≤ nx) (hk : ∀ H', Keep lo H' H → Grow H' lo (nx + 1) sz (k + 1) (cells ++ new) (.slc nx 0 (k + 1)) → kk (.slc nx 0 (k + 1)) H' (nx + 1)) : APP sz bytes a (.slc t 0 1) H nx kk := by
  have hs : zg sz H (.slc t 0 1) = some (1, new, [t]) := by
    simp only [zg, ht]
    rw [if_pos (by omega)]
    simp [← hnl]
  rcases hg with ⟨rfl, rfl⟩ | ⟨h0, g, h1, h2, rfl, h4⟩
  · rw [zaod, hs, optk]
    have hc : cells = [] := List.eq_nil_of_length_eq_zero (by omega)
    subst hc
    refine ⟨hone, fun h => absurd h Nat.one_ne_zero, fun _ => ?_⟩
    exact ⟨by simpa using hb, hk _ (fun x hx => Heap.put_ne _ _ (by omega)) (.inr ⟨by omega, nx, hlo, by omega, rfl, by rw [Heap.put_at]; rfl⟩)⟩
  · rw [zjx, hs, optk, h4, rowk]
    refine ⟨rfl, hone, by omega, hb, hk _ (fun x hx => ?_) (.inr ⟨by omega, nx, hlo, by omega, rfl, ?_⟩)⟩
    · rw [Heap.put_ne _ _ (by omega), Heap.put_ne _ _ (by omega)]
    · rw [Heap.put_at, List.drop_zero, List.take_of_length_le (by omega)]
theorem Grow.append {H : Heap} {lo n sz k bytes t nx : Nat} {cells new : List AV} {a : AV} {kt : Kt} (hg : Grow H lo n sz k cells a) (hlen : cells.length = k * sz) (ht : H t = some (.row sz new)) (hnl : new.length = sz) (hone : new.all AV.one = true)
    (hb : (k + 1) * bytes ≤ 140737488355328) (hn : n ≤ nx) (hlo : lo ≤ nx) (hk : ∀ rd D, (∀ g ∈ domD D, lo ≤ g) → Keep lo (H.apply D) H → Grow (H.apply D) lo (nx + 1) sz (k + 1) (cells ++ new) (.slc nx 0 (k + 1)) → kt (.slc nx 0 (k + 1)) rd [nx] D) : zy sz bytes a (.slc t 0 1) H nx kt := by
  have hs : zg sz H (.slc t 0 1) = some (1, new, [t]) := by
    simp only [zg, ht]
    rw [if_pos (by omega)]
    simp [← hnl]
  rcases hg with ⟨rfl, rfl⟩ | ⟨h0, g, h1, h2, rfl, h4⟩
  · rw [zml, hs, optk]
    have hc : cells = [] := List.eq_nil_of_length_eq_zero (by omega)
    subst hc
    refine ⟨hone, fun h => absurd h Nat.one_ne_zero, fun _ => ?_⟩
    exact ⟨by simpa using hb, hk _ _ (by simpa using hlo) (fun x hx => Heap.put_ne _ _ (by omega)) (.inr ⟨by omega, nx, hlo, by omega, rfl, by simp only [zac, zah, Heap.put_at]; rfl⟩)⟩
  · rw [zle, hs, optk, h4, rowk]
    refine ⟨rfl, hone, by omega, hb, hk _ _ (by simp; omega) (fun x hx => ?_) (.inr ⟨by omega, nx, hlo, by omega, rfl, ?_⟩)⟩
    · simp only [zac, zah]; rw [Heap.put_ne _ _ (by omega), Heap.put_ne _ _ (by omega)]
    · simp only [zac, zah]; rw [Heap.put_at, List.drop_zero, List.take_of_length_le (by omega)]
theorem Grow.frz {H : Heap} {lo n sz k nx : Nat} {cells : List AV} {a : AV} {xs : List (List AV)} (h : Grow H lo n sz k cells a) (hnx : nx ≤ lo) (hl : xs.length = k) (hs : ∀ x ∈ xs, x.length = sz) (hc : xs.flatten = cells) (hb : ∀ c ∈ cells, Bel (· < nx) c) : Frz H nx a (.ro xs) := by
  rcases h with ⟨rfl, rfl⟩ | ⟨h0, g, h1, h2, rfl, h4⟩
  · rw [List.eq_nil_of_length_eq_zero hl]; exact .nils
  · exact Frz.row (by omega) h4 hl hs hc hb
end Go.Proofs.Ytpbnaaoilgohkaa
set_option maxRecDepth 8000
namespace Go.Proofs.Ytpbnaaoilgohkaa
open Go Go.RowKit
inductive FrzP (H : Heap) (G : Nat → Prop) : AV → AV → Prop
  | same (v : AV) : FrzP H G v v
  | nils : FrzP H G .nils (.ro [])
  | zs : FrzP H G .zs (.ro [])
  | slc (g off len sz : Nat) (cells : List AV) (xs : List (List AV)) : G g → H g = some (.row sz cells) → off + len * sz ≤ cells.length → xs.length = len → (∀ x ∈ xs, x.length = sz) →
      (U : Nat → Nat → AV) → (∀ (i : Nat) (x : List AV) (j : Nat) (v : AV), xs[i]? = some x → x[j]? = some v → cells[off + i * sz + j]? = some (U i j)) →
      (∀ (i : Nat) (x : List AV) (j : Nat) (v : AV), xs[i]? = some x → x[j]? = some v → FrzP H G (U i j) v) → FrzP H G (.slc g off len) (.ro xs)
  | agg (xs ys : List AV) : ys.length = xs.length → (∀ (j : Nat) (v u : AV), xs[j]? = some v → ys[j]? = some u → FrzP H G v u) → FrzP H G (.agg xs) (.agg ys)
theorem FrzP.rel {A : Nat → Prop} {ρ : Nat → Loc} {H H0 : Heap} {w : World} {G : Nat → Prop} (s : Sim A ρ H w) (h0 : ∀ g o, H0 g = some o → ¬ G g ∧ H g = some o) {v u : AV} (h : FrzP H G v u) :
    ∀ (c : Value), VRel (Kof ρ H w) ρ A v c → VRel (Kof ρ H0 w) ρ A u c := by
  have hK : ∀ b o, Kof ρ H w b = some o → Kof ρ H0 w b = some o := fun b o hb => by
    obtain ⟨h1, h2⟩ := zu.1 hb
    refine zu.2 ⟨fun g hg => ?_, h2⟩
    obtain ⟨o', ho'⟩ := Option.isSome_iff_exists.1 hg
    exact h1 g (by rw [(h0 g o' ho').2]; rfl)
  induction h with
  | same v => exact fun c hc => hc.mono hK (fun _ h => ⟨rfl, h⟩)
  | nils =>
    intro c hc
    cases hc
    exact .ro [] none 0 0 0 0 0 (fun _ _ => undef) rfl (Nat.le_refl _) (fun h => absurd rfl h) (fun x hx => by cases hx) (fun i x j v hx => by simp at hx) (fun i x j v hx => by simp at hx)
  | zs =>
    intro c hc
    cases hc with
    | zs a => exact .ro [] a 0 0 0 0 0 (fun _ _ => undef) rfl (Nat.le_refl _) (fun h => absurd rfl h) (fun x hx => by cases hx) (fun i x j v hx => by simp at hx) (fun i x j v hx => by simp at hx)
  | slc g off len sz cells xs hg hH hle hl hsz U hU _ ih =>
    intro c hc
    cases hc with
    | slc _ _ _ cap a hA hcl hcap =>
      obtain ⟨cc, el, lo, hi, q1, q2, q3, q4, q5, q6⟩ := s.obj g _ hH
      have hKb : Kof ρ H0 w (ρ g).block = some (.cells cc el (lo, hi)) := by
        refine zu.2 ⟨fun x hx e => ?_, q1⟩
        obtain ⟨o', ho'⟩ := Option.isSome_iff_exists.1 hx
        obtain ⟨h1, h2⟩ := h0 x o' ho'
        have := s.inj x g (by rw [h2]; rfl) (by rw [hH]; rfl) e
        subst this
        exact h1 hg
      have hex : ∀ (i : Nat) (x : List AV) (j : Nat) (v : AV), xs[i]? = some x → x[j]? = some v → ∃ cv, cc[(ρ g).base + (off + i * sz + j)]? = some cv ∧ VRel (Kof ρ H w) ρ A (U i j) cv := fun i x j v hx hv => q6 _ _ (hU i x j v hx hv)
      refine .ro xs a len cap sz (ρ g).block ((ρ g).base + off) (fun i j => (cc[(ρ g).base + (off + i * sz + j)]?).getD undef) hl.symm hcl (fun hne => ?_) hsz (fun i x j v hx hv => ?_) (fun i x j v hx hv => ?_)
      · have hpos : 0 < xs.length := List.length_pos_iff.2 hne
        exact (hcap (by omega)).2
      · obtain ⟨cv, h1, h2⟩ := hex i x j v hx hv
        unfold ziv
        rw [hKb]
        simp only [h1, Option.getD_some]
        rw [← h1]; congr 1; omega
      · obtain ⟨cv, h1, h2⟩ := hex i x j v hx hv
        rw [h1]
        exact ih i x j v hx hv cv h2
  | agg xs ys hl _ ih =>
    intro c hc
    cases hc with
    | agg _ cs h1 h2 =>
    exact .agg ys cs (by omega) fun j v c hv hc => by
        have hlt := (List.getElem?_eq_some_iff.1 hv).1
        have hx : xs[j]? = some (xs[j]'(by omega)) := List.getElem?_eq_getElem (by omega)
        exact ih j _ v hx hv c (h2 j _ c hx hc)
theorem za.freeze {P : Program} {f : FuncId} {args : List AV} {H : Heap} {nx : Nat} {Q R : AV → Heap → Nat → Prop} (h : za P f args H nx Q)
    (hq : ∀ v H' nx', Q v H' nx' → ∃ (r : AV) (H0 : Heap) (G : Nat → Prop), R r H0 nx' ∧ FrzP H' G v r ∧ (∀ g o, H0 g = some o → ¬ G g ∧ H' g = some o)) : za P f args H nx R := by
  intro ρ w cargs s ha
  refine zw (h ρ w cargs s ha) fun cv w' ⟨v, H', nx', ρ', q1, q2, q3, q4⟩ => ?_
  obtain ⟨r, H0, G, hR, hF, h0⟩ := hq v H' nx' q1
  obtain ⟨s0, f0⟩ := q2.drop (H' := H0) fun g o ho => (h0 g o ho).2
  exact ⟨r, H0, nx', ρ', hR, s0, hF.rel q2 h0 cv q3, q4.trans f0⟩
theorem FrzP.row {H : Heap} {G : Nat → Prop} {g sz len : Nat} {cells : List AV} {xs : List (List AV)} (hg : G g) (hH : H g = some (.row sz cells)) (hl : xs.length = len) (hs : ∀ x ∈ xs, x.length = sz) (hc : ∀ (i : Nat) (x : List AV) (j : Nat) (v : AV), xs[i]? = some x → x[j]? = some v → ∃ u, cells[i * sz + j]? = some u ∧ FrzP H G u v) (hle : len * sz ≤ cells.length) : FrzP H G (.slc g 0 len) (.ro xs) := by
  refine .slc g 0 len sz cells xs hg hH (by omega) hl hs (fun i j => (cells[i * sz + j]?).getD .junk) (fun i x j v hx hv => ?_) fun i x j v hx hv => ?_
  · obtain ⟨u, h1, h2⟩ := hc i x j v hx hv
    rw [Nat.zero_add, h1]; rfl
  · obtain ⟨u, h1, h2⟩ := hc i x j v hx hv
    rw [h1]; exact h2
end Go.Proofs.Ytpbnaaoilgohkaa
set_option maxRecDepth 8000
namespace Go.Proofs.Ytpbnaaoilgohkaa
open Go Go.RowKit
@[simp] theorem zaud : AV.zs.cells = [AV.zs] := rfl
@[simp] theorem zauh : AV.zs.sure = true := rfl
@[simp] theorem zavy : AV.zs.one = true := rfl
@[simp ↓] theorem zxz {esz bytes nx : Nat} {x : AV} {H : Heap} {kt : Kt} : zy esz bytes .zs x H nx kt = OPTK (zg esz H x) fun p => p.2.1.all AV.one = true ∧
    (p.1 = 0 → kt .zs p.2.2 [] []) ∧ (p.1 ≠ 0 → p.1 * bytes ≤ 140737488355328 ∧ kt (.slc nx 0 p.1) p.2.2 [nx] [(nx, some (.row esz p.2.1))]) := by
  simp only [zy, OPTK]
  cases hs : zg esz H x with
  | none => simp
  | some p => obtain ⟨m, news, rd⟩ := p; simp
def Slot (H : Heap) (sz k : Nat) (cells : List AV) (a : AV) : Prop := (k = 0 ∧ (a = .nils ∨ a = .zs)) ∨ ∃ g cs, a = .slc g 0 k ∧ H g = some (.row sz cs) ∧ cs.take (k * sz) = cells ∧ k * sz ≤ cs.length
def own : AV → List Nat
  | .slc g _ _ => [g]
  | _ => []
theorem Slot.keep {H H' : Heap} {sz k : Nat} {cells : List AV} {a : AV} (h : Slot H sz k cells a) (hk : ∀ g ∈ own a, H' g = H g) : Slot H' sz k cells a := by
  rcases h with h | ⟨g, cs, rfl, h1, h2, h3⟩
  · exact .inl h
  · exact .inr ⟨g, cs, rfl, by rw [hk g (by simp [own])]; exact h1, h2, h3⟩
theorem Slot.len {H : Heap} {sz k : Nat} {cells : List AV} {a : AV} (h : Slot H sz k cells a) {q : AV → Prop} : LNL a q = q (.int .i64 k) := by
  rcases h with ⟨rfl, rfl | rfl⟩ | ⟨g, cs, rfl, _⟩ <;> simp
theorem Slot.cut {H : Heap} {sz k j : Nat} {cells : List AV} {g off : Nat} (h : Slot H sz k cells (.slc g off k)) (hj : j ≤ k) : Slot H sz j (cells.take (j * sz)) (.slc g off j) := by
  rcases h with ⟨_, h | h⟩ | ⟨g', cs, h0, h1, h2, h3⟩
  · cases h
  · cases h
  · cases h0
    have : j * sz ≤ k * sz := Nat.mul_le_mul_right _ hj
    exact .inr ⟨g, cs, rfl, h1, by rw [← h2, List.take_take, Nat.min_eq_left this], by omega⟩
theorem Slot.src {H : Heap} {sz k : Nat} {cells : List AV} {a : AV} (h : Slot H sz k cells a) (h0 : k = 0 → cells = []) : ∃ rd, zg sz H a = some (k, cells, rd) := by
  rcases h with ⟨rfl, rfl | rfl⟩ | ⟨g, cs, rfl, h1, h2, h3⟩
  · exact ⟨[], by rw [h0 rfl]; rfl⟩
  · exact ⟨[], by rw [h0 rfl]; rfl⟩
  · refine ⟨[g], ?_⟩
    simp only [zg, h1, Nat.zero_add, List.drop_zero]
    rw [if_pos h3, h2]
theorem Slot.append {H : Heap} {sz k bytes t nx : Nat} {cells new : List AV} {a : AV} {kt : Kt} (hg : Slot H sz k cells a) (hlen : cells.length = k * sz) (ht : H t = some (.row sz new)) (hnl : new.length = sz) (hone : new.all AV.one = true)
    (hb : (k + 1) * bytes ≤ 140737488355328) (hk : ∀ rd D, (∀ g ∈ domD D, g ∈ own a ∨ g = nx) → (H.apply D) nx = some (.row sz (cells ++ new)) → (∀ g, g ∉ own a → g ≠ nx → (H.apply D) g = H g) → kt (.slc nx 0 (k + 1)) rd [nx] D) : zy sz bytes a (.slc t 0 1) H nx kt := by
  have hs : zg sz H (.slc t 0 1) = some (1, new, [t]) := by
    simp only [zg, ht]
    rw [if_pos (by omega)]
    simp [← hnl]
  rcases hg with ⟨rfl, rfl | rfl⟩ | ⟨g, cs, rfl, h1, h2, h3⟩
  · rw [zml, hs, optk]
    have hc : cells = [] := List.eq_nil_of_length_eq_zero (by omega)
    subst hc
    refine ⟨hone, fun h => absurd h Nat.one_ne_zero, fun _ => ?_⟩
    exact ⟨by simpa using hb, hk _ _ (by simp) (by simp only [zac, zah, Heap.put_at]; rfl) (fun x _ hx => by simp only [zac, zah]; exact Heap.put_ne _ _ hx)⟩
  · rw [zxz, hs, optk]
    have hc : cells = [] := List.eq_nil_of_length_eq_zero (by omega)
    subst hc
    refine ⟨hone, fun h => absurd h Nat.one_ne_zero, fun _ => ?_⟩
    exact ⟨by simpa using hb, hk _ _ (by simp) (by simp only [zac, zah, Heap.put_at]; rfl) (fun x _ hx => by simp only [zac, zah]; exact Heap.put_ne _ _ hx)⟩
  · rw [zle, hs, optk, h1, rowk]
    refine ⟨rfl, hone, by omega, hb, hk _ _ (by simp [own]) ?_ (fun x hx1 hx => ?_)⟩
    · simp only [zac, zah]; rw [Heap.put_at, List.drop_zero, h2]
    · simp only [zac, zah]; rw [Heap.put_ne _ _ hx, Heap.put_ne _ _ (by simpa [own] using hx1)]
theorem Slot.app {H : Heap} {sz k bytes t nx : Nat} {cells new : List AV} {a : AV} {kk : AV → Heap → Nat → Prop} (hg : Slot H sz k cells a) (hlen : cells.length = k * sz) (ht : H t = some (.row sz new)) (hnl : new.length = sz) (hone : new.all AV.one = true)
    (hb : (k + 1) * bytes ≤ 140737488355328) (hk : ∀ H', H' nx = some (.row sz (cells ++ new)) → (∀ g, g ∉ own a → g ≠ nx → H' g = H g) → kk (.slc nx 0 (k + 1)) H' (nx + 1)) : APP sz bytes a (.slc t 0 1) H nx kk := by
  have := hg.append (bytes := bytes) (t := t) (nx := nx) (new := new) (kt := fun v _ fr D => kk v (H.apply D) (nx + fr.length)) hlen ht hnl hone hb fun rd D _ h1 h2 => hk _ h1 h2
  exact this
def frow : List Frm → List (AV × AV) → List AV
  | f :: fs, s :: ss => .int .i64 f.fn :: .int .i64 f.at_ :: s.1 :: s.2 :: frow fs ss
  | _, _ => []
theorem zmd : ∀ {fs : List Frm} {ss : List (AV × AV)}, ss.length = fs.length → (frow fs ss).length = fs.length * 4
  | [], [], _ => rfl
  | f :: fs, s :: ss, h => by simp [frow, zmd (fs := fs) (ss := ss) (by simpa using h)]; omega
  | [], s :: ss, h => by simp at h
  | f :: fs, [], h => by simp at h
theorem zxm : ∀ {fs : List Frm} {ss : List (AV × AV)} {f : Frm} {s : AV × AV}, ss.length = fs.length → frow (fs ++ [f]) (ss ++ [s]) = frow fs ss ++ [.int .i64 f.fn, .int .i64 f.at_, s.1, s.2]
  | [], [], f, s, _ => rfl
  | g :: fs, t :: ss, f, s, h => by simp [frow, zxm (fs := fs) (ss := ss) (f := f) (s := s) (by simpa using h)]
  | [], s :: ss, _, _, h => by simp at h
  | f :: fs, [], _, _, h => by simp at h
def owns (ss : List (AV × AV)) : List Nat := ss.flatMap fun s => own s.1 ++ own s.2
def Spt.avs (s : Spt) : List AV := [.str s.name, .ro (s.facts.map fun x => .str x.key :: x.val.avs), .int .i64 s.fuel, .int .i64 s.cells]
def Evt.avs (e : Evt) : List AV := [.int .i64 e.kind, .str e.text, .int .i64 e.err]
def zaed (id trip : Int) (p : Prg) (fa ha : AV) (m : Pmt) (gs : Nat) (e : Evt) : List AV :=
  [.int .i64 id, .int .i64 trip, .ro (p.codes.map Cod.avs), .ro (p.words.map fun w => [.str w]), fa, ha, .int .i64 m.fuel, .int .i64 m.room, .int .i64 m.hops, .ptr gs 0, .int .i64 e.kind, .str e.text, .int .i64 e.err]
def zx (H : Heap) (fs : List Frm) (ss : List (AV × AV)) : Prop := ss.length = fs.length ∧ ∀ (k : Nat) (f : Frm) (s : AV × AV), fs[k]? = some f → ss[k]? = some s → Slot H 3 f.vars.length (rowV f.vars) s.1 ∧ Slot H 3 f.stack.length (rowV f.stack) s.2
theorem zx.keep {H H' : Heap} {fs : List Frm} {ss : List (AV × AV)} (h : zx H fs ss) (hk : ∀ g ∈ owns ss, H' g = H g) : zx H' fs ss := by
  refine ⟨h.1, fun k f s hf hs => ?_⟩
  obtain ⟨a, b⟩ := h.2 k f s hf hs
  have hm := List.mem_of_getElem? hs
  exact ⟨a.keep fun g hg => hk g (List.mem_flatMap.2 ⟨s, hm, List.mem_append_left _ hg⟩), b.keep fun g hg => hk g (List.mem_flatMap.2 ⟨s, hm, List.mem_append_right _ hg⟩)⟩
theorem zx.snoc {H : Heap} {fs : List Frm} {ss : List (AV × AV)} {f : Frm} {s : AV × AV} (h : zx H fs ss) (h1 : Slot H 3 f.vars.length (rowV f.vars) s.1) (h2 : Slot H 3 f.stack.length (rowV f.stack) s.2) : zx H (fs ++ [f]) (ss ++ [s]) := by
  refine ⟨by simp [h.1], fun k f' s' hf hs => ?_⟩
  by_cases hk : k < fs.length
  · rw [List.getElem?_append_left hk] at hf
    rw [List.getElem?_append_left (by rw [h.1]; exact hk)] at hs
    exact h.2 k f' s' hf hs
  · have hk' : k = fs.length := by have := (List.getElem?_eq_some_iff.1 hf).1; simp at this; omega
    subst hk'
    rw [List.getElem?_append_right (Nat.le_refl _)] at hf
    rw [List.getElem?_append_right (by rw [h.1]; exact Nat.le_refl _), h.1] at hs
    simp at hf hs
    subst hf; subst hs
    exact ⟨h1, h2⟩
theorem zx.last {H : Heap} {fs : List Frm} {ss : List (AV × AV)} {f : Frm} {s : AV × AV} (h : zx H (fs ++ [f]) (ss ++ [s])) : zx H fs ss ∧ Slot H 3 f.vars.length (rowV f.vars) s.1 ∧ Slot H 3 f.stack.length (rowV f.stack) s.2 := by
  have hl : ss.length = fs.length := by simpa using h.1
  refine ⟨⟨hl, fun k f' s' hf hs => ?_⟩, h.2 fs.length f s (by simp) (by rw [← hl]; simp)⟩
  have h1 := (List.getElem?_eq_some_iff.1 hf).1
  exact h.2 k f' s' (by rw [List.getElem?_append_left h1]; exact hf) (by rw [List.getElem?_append_left (by omega)]; exact hs)
structure RL (H0 H : Heap) (lo n gr gs gf : Nat) (id trip : Int) (p : Prg) (s : Spt) (fs : List Frm) (ss : List (AV × AV)) (f : Frm) (va sa : AV) (h : List Cl) (ha : AV) (m : Pmt) (e : Evt) : Prop where
  run : H gr = some (.row 13 (zaed id trip p (.slc gf 0 (fs.length + 1)) ha m gs e))
  fr : ∃ cs, H gf = some (.row 4 cs) ∧ cs.take ((fs.length + 1) * 4) = frow fs ss ++ [.int .i64 f.fn, .int .i64 f.at_, va, sa] ∧ (fs.length + 1) * 4 ≤ cs.length
  frs : zx H fs ss
  sv : Slot H 3 f.vars.length (rowV f.vars) va
  st : Slot H 3 f.stack.length (rowV f.stack) sa
  hp : Slot H 6 h.length (rowC h) ha
  spot : H gs = some (.row 4 s.avs)
  nd : (gr :: gs :: gf :: (own ha ++ (owns ss ++ (own va ++ own sa)))).Nodup
  gsn : gs < n
  bd : ∀ g ∈ gr :: gf :: (own ha ++ (owns ss ++ (own va ++ own sa))), lo ≤ g ∧ g < n
  keep : Keep lo H H0
  le : lo ≤ n
end Go.Proofs.Ytpbnaaoilgohkaa
set_option maxRecDepth 8000
namespace Go.Proofs.Ytpbnaaoilgohkaa
open Go Go.RowKit
structure zaop (n gr gs gf : Nat) (ha : AV) (ss : List (AV × AV)) (va sa : AV) : Prop where
  rs : gr ≠ gs
  rf : gr ≠ gf
  sf : gs ≠ gf
  r : gr < n
  s : gs < n
  f : gf < n
  h : ∀ g ∈ own ha, g < n ∧ g ≠ gr ∧ g ≠ gs ∧ g ≠ gf ∧ g ∉ owns ss ∧ g ∉ own va ∧ g ∉ own sa
  w : ∀ g ∈ owns ss, g < n ∧ g ≠ gr ∧ g ≠ gs ∧ g ≠ gf ∧ g ∉ own ha ∧ g ∉ own va ∧ g ∉ own sa
  v : ∀ g ∈ own va, g < n ∧ g ≠ gr ∧ g ≠ gs ∧ g ≠ gf ∧ g ∉ own ha ∧ g ∉ owns ss ∧ g ∉ own sa
  t : ∀ g ∈ own sa, g < n ∧ g ≠ gr ∧ g ≠ gs ∧ g ≠ gf ∧ g ∉ own ha ∧ g ∉ owns ss ∧ g ∉ own va
theorem zall {lo n gr gs gf : Nat} {ha va sa : AV} {ss : List (AV × AV)} (nd : (gr :: gs :: gf :: (own ha ++ (owns ss ++ (own va ++ own sa)))).Nodup) (gsn : gs < n) (bd : ∀ g ∈ gr :: gf :: (own ha ++ (owns ss ++ (own va ++ own sa))), lo ≤ g ∧ g < n) : zaop n gr gs gf ha ss va sa := by
  simp only [List.nodup_cons, List.nodup_append, List.mem_cons, List.mem_append, not_or] at nd
  simp only [List.mem_cons, List.mem_append] at bd
  obtain ⟨⟨a1, a2, a3, a4, a5, a6⟩, ⟨b1, b2, b3, b4, b5⟩, ⟨c1, c2, c3, c4⟩, n1, ⟨n2, ⟨n3, n4, n5⟩, n6⟩, n7⟩ := nd
  refine ⟨a1, a2, b1, (bd gr (by simp)).2, gsn, (bd gf (by simp)).2, fun g hg => ⟨(bd g (by simp [hg])).2, fun e => a3 (e ▸ hg), fun e => b2 (e ▸ hg), fun e => c1 (e ▸ hg), fun h => n7 g hg g (.inl h) rfl, fun h => n7 g hg g (.inr (.inl h)) rfl, fun h => n7 g hg g (.inr (.inr h)) rfl⟩,
    fun g hg => ⟨(bd g (by simp [hg])).2, fun e => a4 (e ▸ hg), fun e => b3 (e ▸ hg), fun e => c2 (e ▸ hg), fun h => n7 g h g (.inl hg) rfl, fun h => n6 g hg g (.inl h) rfl, fun h => n6 g hg g (.inr h) rfl⟩,
    fun g hg => ⟨(bd g (by simp [hg])).2, fun e => a5 (e ▸ hg), fun e => b4 (e ▸ hg), fun e => c3 (e ▸ hg), fun h => n7 g h g (.inr (.inl hg)) rfl, fun h => n6 g h g (.inl hg) rfl, fun h => n5 g hg g h rfl⟩,
    fun g hg => ⟨(bd g (by simp [hg])).2, fun e => a6 (e ▸ hg), fun e => b5 (e ▸ hg), fun e => c4 (e ▸ hg), fun h => n7 g h g (.inr (.inr hg)) rfl, fun h => n6 g h g (.inr hg) rfl, fun h => n5 g h g hg rfl⟩⟩
theorem zakc (a : AV) : (own a).Nodup := by cases a <;> simp [own]
section
variable {H0 H : Heap} {lo n gr gs gf : Nat} {id trip : Int} {p : Prg} {s : Spt} {fs : List Frm} {ss : List (AV × AV)} {f : Frm} {va sa : AV} {h : List Cl} {ha : AV} {m : Pmt} {e : Evt}
theorem RL.apart (st : RL H0 H lo n gr gs gf id trip p s fs ss f va sa h ha m e) : zaop n gr gs gf ha ss va sa := zall st.nd st.gsn st.bd
theorem RL.upd (st : RL H0 H lo n gr gs gf id trip p s fs ss f va sa h ha m e) {H' : Heap} {n' : Nat} {f' : Frm} {va' sa' : AV} {h' : List Cl} {ha' : AV} {m' : Pmt} {e' : Evt} (hn : n ≤ n')
    (run' : H' gr = some (.row 13 (zaed id trip p (.slc gf 0 (fs.length + 1)) ha' m' gs e'))) (fr' : ∃ cs, H' gf = some (.row 4 cs) ∧ cs.take ((fs.length + 1) * 4) = frow fs ss ++ [.int .i64 f'.fn, .int .i64 f'.at_, va', sa'] ∧ (fs.length + 1) * 4 ≤ cs.length)
    (sv' : Slot H' 3 f'.vars.length (rowV f'.vars) va') (st' : Slot H' 3 f'.stack.length (rowV f'.stack) sa') (hp' : Slot H' 6 h'.length (rowC h') ha')
    (hk : ∀ g, g < n → g ≠ gr → g ≠ gf → g ∉ own ha → g ∉ own va → g ∉ own sa → H' g = H g)
    (oh : ∀ g ∈ own ha', g ∈ own ha ∨ (n ≤ g ∧ g < n')) (ov : ∀ g ∈ own va', g ∈ own va ∨ (n ≤ g ∧ g < n')) (ot : ∀ g ∈ own sa', g ∈ own sa ∨ (n ≤ g ∧ g < n'))
    (nd3 : (own ha' ++ (own va' ++ own sa')).Nodup) : RL H0 H' lo n' gr gs gf id trip p s fs ss f' va' sa' h' ha' m' e' := by
  have ap := st.apart
  have b := st.bd
  simp only [List.mem_cons, List.mem_append] at b
  refine ⟨run', fr', st.frs.keep fun g hg => ?_, sv', st', hp', by rw [hk gs ap.s ap.rs.symm ap.sf (fun h => (ap.h _ h).2.2.1 rfl) (fun h => (ap.v _ h).2.2.1 rfl) (fun h => (ap.t _ h).2.2.1 rfl)]; exact st.spot, ?_, by have := st.gsn; omega, ?_, ?_, by have := st.le; omega⟩
  · obtain ⟨w1, w2, w3, w4, w5, w6, w7⟩ := ap.w g hg
    exact hk g w1 w2 w4 w5 w6 w7
  · have mh : ∀ g ∈ own ha', g ≠ gr ∧ g ≠ gs ∧ g ≠ gf ∧ g ∉ owns ss := fun g hg => by
      rcases oh g hg with h | h
      · obtain ⟨w1, w2, w3, w4, w5, w6, w7⟩ := ap.h g h; exact ⟨w2, w3, w4, w5⟩
      · have := ap.r; have := ap.s; have := ap.f
        exact ⟨by omega, by omega, by omega, fun hx => by have := (ap.w g hx).1; omega⟩
    have mv : ∀ g ∈ own va', g ≠ gr ∧ g ≠ gs ∧ g ≠ gf ∧ g ∉ owns ss := fun g hg => by
      rcases ov g hg with h | h
      · obtain ⟨w1, w2, w3, w4, w5, w6, w7⟩ := ap.v g h; exact ⟨w2, w3, w4, w6⟩
      · have := ap.r; have := ap.s; have := ap.f
        exact ⟨by omega, by omega, by omega, fun hx => by have := (ap.w g hx).1; omega⟩
    have mt : ∀ g ∈ own sa', g ≠ gr ∧ g ≠ gs ∧ g ≠ gf ∧ g ∉ owns ss := fun g hg => by
      rcases ot g hg with h | h
      · obtain ⟨w1, w2, w3, w4, w5, w6, w7⟩ := ap.t g h; exact ⟨w2, w3, w4, w6⟩
      · have := ap.r; have := ap.s; have := ap.f
        exact ⟨by omega, by omega, by omega, fun hx => by have := (ap.w g hx).1; omega⟩
    have ndw : (owns ss).Nodup := by
      have := st.nd
      simp only [List.nodup_cons, List.nodup_append] at this
      exact this.2.2.2.2.1.1
    simp only [List.nodup_append] at nd3
    obtain ⟨z1, ⟨z2, z3, z4⟩, z5⟩ := nd3
    simp only [List.nodup_cons, List.nodup_append, List.mem_cons, List.mem_append, not_or]
    refine ⟨⟨ap.rs, ap.rf, fun h => (mh _ h).1 rfl, fun h => (ap.w _ h).2.1 rfl, fun h => (mv _ h).1 rfl, fun h => (mt _ h).1 rfl⟩, ⟨ap.sf, fun h => (mh _ h).2.1 rfl, fun h => (ap.w _ h).2.2.1 rfl, fun h => (mv _ h).2.1 rfl, fun h => (mt _ h).2.1 rfl⟩, ⟨fun h => (mh _ h).2.2.1 rfl, fun h => (ap.w _ h).2.2.2.1 rfl, fun h => (mv _ h).2.2.1 rfl, fun h => (mt _ h).2.2.1 rfl⟩, z1, ⟨ndw, ⟨z2, z3, z4⟩, ?_⟩, ?_⟩
    · rintro x hx y (hy | hy) rfl
      · exact (mv _ hy).2.2.2 hx
      · exact (mt _ hy).2.2.2 hx
    · rintro x hx y (hy | hy | hy) rfl
      · exact (mh _ hx).2.2.2 hy
      · exact z5 _ hx _ (List.mem_append_left _ hy) rfl
      · exact z5 _ hx _ (List.mem_append_right _ hy) rfl
  · intro g hg
    have hl := st.le
    simp only [List.mem_cons, List.mem_append] at hg
    have old : (lo ≤ g ∧ g < n) → lo ≤ g ∧ g < n' := fun h => by omega
    have new : (n ≤ g ∧ g < n') → lo ≤ g ∧ g < n' := fun h => by omega
    rcases hg with hg | hg | hg | hg | hg | hg
    · exact old (b g (.inl hg))
    · exact old (b g (.inr (.inl hg)))
    · rcases oh g hg with h | h
      · exact old (b g (.inr (.inr (.inl h))))
      · exact new h
    · exact old (b g (.inr (.inr (.inr (.inl hg)))))
    · rcases ov g hg with h | h
      · exact old (b g (.inr (.inr (.inr (.inr (.inl h))))))
      · exact new h
    · rcases ot g hg with h | h
      · exact old (b g (.inr (.inr (.inr (.inr (.inr h))))))
      · exact new h
  · intro g hg
    have lb : ∀ x, (x = gr ∨ x = gf ∨ x ∈ own ha ∨ x ∈ owns ss ∨ x ∈ own va ∨ x ∈ own sa) → lo ≤ x := fun x hx => (b x hx).1
    have hl := st.le
    rw [hk g (by omega) (fun e => by have := lb gr (.inl rfl); omega) (fun e => by have := lb gf (.inr (.inl rfl)); omega) (fun h => by have := lb g (.inr (.inr (.inl h))); omega) (fun h => by have := lb g (.inr (.inr (.inr (.inr (.inl h))))); omega) (fun h => by have := lb g (.inr (.inr (.inr (.inr (.inr h))))); omega)]
    exact st.keep g hg
theorem RL.nd3 (st : RL H0 H lo n gr gs gf id trip p s fs ss f va sa h ha m e) : (own ha ++ (own va ++ own sa)).Nodup := by
  have := st.nd
  simp only [List.nodup_cons, List.nodup_append, List.mem_append] at this
  obtain ⟨_, _, _, n1, ⟨n2, ⟨n3, n4, n5⟩, n6⟩, n7⟩ := this
  simp only [List.nodup_append, List.mem_append]
  exact ⟨n1, ⟨n3, n4, n5⟩, fun a ha b hb => n7 a ha b (.inr hb)⟩
theorem RL.more (st : RL H0 H lo n gr gs gf id trip p s fs ss f va sa h ha m e) {H' : Heap} {n' : Nat} (hn : n ≤ n') (hk : ∀ g, g < n → H' g = H g) : RL H0 H' lo n' gr gs gf id trip p s fs ss f va sa h ha m e := by
  have ap := st.apart
  obtain ⟨cs, c1, c2⟩ := st.fr
  exact st.upd hn (by rw [hk _ ap.r]; exact st.run) ⟨cs, by rw [hk _ ap.f]; exact c1, c2⟩ (st.sv.keep fun g hg => hk g (ap.v g hg).1) (st.st.keep fun g hg => hk g (ap.t g hg).1) (st.hp.keep fun g hg => hk g (ap.h g hg).1) (fun g hg _ _ _ _ _ => hk g hg) (fun g hg => .inl hg) (fun g hg => .inl hg) (fun g hg => .inl hg) st.nd3
end
end Go.Proofs.Ytpbnaaoilgohkaa
set_option maxRecDepth 8000
namespace Go.Proofs.Ytpbnaaoilgohkaa
open Go Go.RowKit
theorem zalk {D : zl} : ∀ {H H' : Heap} {g : Nat}, g ∈ domD D → (H.apply D) g = (H'.apply D) g := by
  induction D with
  | nil => intro H H' g hg; simp at hg
  | cons d r ih =>
    obtain ⟨g', o⟩ := d
    intro H H' g hg
    show ((H.put g' o).apply r) g = ((H'.put g' o).apply r) g
    by_cases hr : g ∈ domD r
    · exact ih hr
    · rw [zmy hr, zmy hr]
      have : g = g' := by simpa [hr] using hg
      subst this
      rw [Heap.put_at, Heap.put_at]
theorem LC.of_calls {P : Program} {f : FuncId} {args : List AV} {r : AV} {H0 : Heap} {rd : List Nat} {D : zl} (hrd : ∀ g ∈ rd, (H0 g).isSome = true) (hdom : ∀ g ∈ domD D, g ∈ rd) (hr : ∀ A : Nat → Prop, (∀ g ∈ rd, A g) → (∀ g ∈ rd, ∀ o, H0 g = some o → BelO A o) → Bel A r)
    (hb : ∀ A : Nat → Prop, (∀ g ∈ rd, A g) → (∀ g ∈ rd, ∀ o, H0 g = some o → BelO A o) → ∀ g o, g ∈ domD D → (H0.apply D) g = some o → BelO A o)
    (h : ∀ H nx, (∀ g ∈ rd, H g = H0 g ∧ g < nx) → za P f args H nx fun v H' nx' => v = r ∧ nx ≤ nx' ∧ (∀ g, g < nx → g ∉ domD D → H' g = H g) ∧ (∀ g o, g ∈ domD D → (H0.apply D) g = some o → H' g = some o)) : LC P f args H0 rd [] D r := by
  intro A ρ H w cargs ⟨N, hN⟩ s ha hag _
  have sN : Sim (· < N) ρ H w := ⟨fun g o ho => hN g (s.live g o ho), fun g o ho => (s.obj g o ho).mono rfl (fun _ _ h => h) (fun g hg => ⟨rfl, hN g hg⟩), s.inj, s.lay⟩
  have aN : LRel (Kof ρ H w) ρ (· < N) args cargs.toList := ⟨ha.1, fun j v c hv hc => (ha.2 j v c hv hc).mono (fun _ _ h => h) (fun g hg => ⟨rfl, hN g hg⟩)⟩
  have hrdA : ∀ g ∈ rd, A g := fun g hg => by
    obtain ⟨o, ho⟩ := Option.isSome_iff_exists.1 (hrd g hg)
    exact s.live g o ((hag g hg).trans ho)
  have hrdB : ∀ g ∈ rd, ∀ o, H0 g = some o → BelO A o := fun g hg o ho => (s.obj g o ((hag g hg).trans ho)).bel
  refine zw (h H N (fun g hg => ⟨hag g hg, hN g (hrdA g hg)⟩) ρ w cargs sN aN) fun cv w' ⟨v, H', nx', ρ', ⟨hv, hnx, hsame, hchg⟩, q3, q4, q5⟩ => ?_
  subst hv
  have hρ : ∀ g, g < N → ρ' g = ρ g := fun g hg => (q5.agree g hg).1
  have hAe : (fun x => A x ∨ x ∈ ([] : List Nat)) = A := by funext x; simp
  have lv : ∀ g o, (H.apply D) g = some o → A g ∧ H' g = some o ∧ BelO A o := fun g o ho => by
    by_cases hg : g ∈ domD D
    · rw [zalk (H' := H0) hg] at ho
      exact ⟨hrdA g (hdom g hg), hchg g o hg ho, hb A hrdA hrdB g o hg ho⟩
    · rw [zmy hg] at ho
      have hA := s.live g o ho
      exact ⟨hA, by rw [hsame g (hN g hA) hg]; exact ho, (s.obj g o ho).bel⟩
  have hK : ∀ b o, Kof ρ' H' w' b = some o → Kof ρ' (H.apply D) w' b = some o := fun b o hb => by
    obtain ⟨h1, h2⟩ := zu.1 hb
    refine zu.2 ⟨fun g hg => ?_, h2⟩
    obtain ⟨o1, ho1⟩ := Option.isSome_iff_exists.1 hg
    exact h1 g (by rw [(lv g o1 ho1).2.1]; rfl)
  refine ⟨ρ', ?_, ?_, ?_⟩
  · rw [hAe]
    refine ⟨fun g o ho => (lv g o ho).1, fun g o ho => ?_, fun x y hx hy hxy => ?_, q3.lay.mono hK⟩
    · obtain ⟨_, h1, h2⟩ := lv g o ho
      exact ((q3.obj g o h1).restrict h2).mono rfl hK (fun _ h => ⟨rfl, h⟩)
    · obtain ⟨o1, ho1⟩ := Option.isSome_iff_exists.1 hx
      obtain ⟨o2, ho2⟩ := Option.isSome_iff_exists.1 hy
      exact q3.inj x y (by rw [(lv x o1 ho1).2.1]; rfl) (by rw [(lv y o2 ho2).2.1]; rfl) hxy
  · rw [hAe]
    exact (q4.restrict (hr A hrdA hrdB)).mono hK (fun g hg => ⟨rfl, hg⟩)
  · rw [hAe]
    exact ⟨fun g hg => ⟨hρ g (hN g hg), hg⟩, fun b o hb => hK b o (q5.k b o hb), q5.os, q5.tape, q5.output, q5.size⟩
theorem LC.of_callsN {P : Program} {f : FuncId} {args : List AV} {r : AV} {H0 : Heap} {rd : List Nat} {D : zl} {g0 : Nat} (hrd : ∀ g ∈ rd, (H0 g).isSome = true) (hdom : ∀ g ∈ domD D, g ∈ rd ∨ g = g0)
    (h : ∀ A : Nat → Prop, (∀ g ∈ rd, A g) → (∀ g ∈ rd, ∀ o, H0 g = some o → BelO A o) → ∀ H nx, (∀ g ∈ rd, H g = H0 g ∧ g < nx) → za P f args H nx fun v H' nx' => ∃ gn, nx ≤ gn ∧ gn < nx' ∧ Rn A gn g0 v r ∧ (∀ g, g < nx → g ∉ domD D → H' g = H g) ∧
      (∀ g o, g ∈ domD D → g ≠ g0 → (H.apply D) g = some o → ∃ o', H' g = some o' ∧ RnO A gn g0 o' o) ∧ (∃ o o', (H.apply D) g0 = some o ∧ H' gn = some o' ∧ RnO A gn g0 o' o)) : LC P f args H0 rd [g0] D r := by
  intro A ρ H w cargs ⟨N0, hN0⟩ s ha hag hfresh
  obtain ⟨N, hN, hg0N⟩ : ∃ N, (∀ g, A g → g < N) ∧ g0 < N := ⟨max N0 (g0 + 1), fun g hg => by have := hN0 g hg; omega, by omega⟩
  have hg0 : ¬ A g0 := hfresh g0 (by simp)
  have sN : Sim (· < N) ρ H w := ⟨fun g o ho => hN g (s.live g o ho), fun g o ho => (s.obj g o ho).mono rfl (fun _ _ h => h) (fun g hg => ⟨rfl, hN g hg⟩), s.inj, s.lay⟩
  have aN : LRel (Kof ρ H w) ρ (· < N) args cargs.toList := ⟨ha.1, fun j v c hv hc => (ha.2 j v c hv hc).mono (fun _ _ h => h) (fun g hg => ⟨rfl, hN g hg⟩)⟩
  have hrdA : ∀ g ∈ rd, A g := fun g hg => by
    obtain ⟨o, ho⟩ := Option.isSome_iff_exists.1 (hrd g hg)
    exact s.live g o ((hag g hg).trans ho)
  have hrdB : ∀ g ∈ rd, ∀ o, H0 g = some o → BelO A o := fun g hg o ho => (s.obj g o ((hag g hg).trans ho)).bel
  refine zw (h A hrdA hrdB H N (fun g hg => ⟨hag g hg, hN g (hrdA g hg)⟩) ρ w cargs sN aN) fun cv w' ⟨v, H', nx', ρ', ⟨gn, hgN, hgn, hv, hsame, hchg, onew, onew', hn1, hn2, hn3⟩, q3, q4, q5⟩ => ?_
  have hρ : ∀ g, g < N → ρ' g = ρ g := fun g hg => (q5.agree g hg).1
  let ρ2 : Nat → Loc := fun g => if g = g0 then ρ' gn else ρ' g
  have h20 : ρ2 g0 = ρ' gn := if_pos rfl
  have h2 : ∀ g, g ≠ g0 → ρ2 g = ρ' g := fun g hg => if_neg hg
  have hAne : ∀ g, A g → g ≠ g0 := fun g hg e => hg0 (e ▸ hg)
  have hR : ∀ g, A g → g < nx' → ρ2 g = ρ' g ∧ (A g ∨ g ∈ [g0]) := fun g hg _ => ⟨h2 g (hAne g hg), .inl hg⟩
  have hRA : ∀ g, A g → g < nx' := fun g hg => by have := hN g hg; omega
  have hG : ρ2 g0 = ρ' gn ∧ (A g0 ∨ g0 ∈ [g0]) := ⟨h20, .inr (by simp)⟩
  -- who stands for whom
  have lv : ∀ g o, (H.apply D) g = some o → (A g ∨ g ∈ [g0]) ∧ ∃ g' o', H' g' = some o' ∧ ρ2 g = ρ' g' ∧ (g = g0 → g' = gn) ∧ (g ≠ g0 → g' = g ∧ A g) ∧
      (∀ K, zal K ρ' (· < nx') w' (ρ' g') o' → zal K ρ2 (fun x => A x ∨ x ∈ [g0]) w' (ρ2 g) o) := fun g o ho => by
    by_cases hgg : g = g0
    · subst hgg
      rw [hn1] at ho
      obtain rfl := Option.some.inj ho
      exact ⟨.inr (by simp), gn, onew', hn2, h20, fun _ => rfl, fun h => absurd rfl h, fun K hk => by rw [h20]; exact hk.rn hn3 hR hRA hG⟩
    · by_cases hg : g ∈ domD D
      · obtain ⟨o', h1, h3⟩ := hchg g o hg hgg ho
        have hA : A g := by
          rcases hdom g hg with h | h
          · exact hrdA g h
          · exact absurd h hgg
        exact ⟨.inl hA, g, o', h1, h2 g hgg, fun h => absurd h hgg, fun _ => ⟨rfl, hA⟩, fun K hk => by rw [h2 g hgg]; exact hk.rn h3 hR hRA hG⟩
      · rw [zmy hg] at ho
        have hA := s.live g o ho
        refine ⟨.inl hA, g, o, by rw [hsame g (hN g hA) hg]; exact ho, h2 g hgg, fun h => absurd h hgg, fun _ => ⟨rfl, hA⟩, fun K hk => ?_⟩
        rw [h2 g hgg]
        exact (hk.restrict (s.obj g o ho).bel).mono rfl (fun _ _ h => h) (fun x hx => ⟨h2 x (hAne x hx), .inl hx⟩)
  have hK : ∀ b o, Kof ρ' H' w' b = some o → Kof ρ2 (H.apply D) w' b = some o := fun b o hb => by
    obtain ⟨k1, k2⟩ := zu.1 hb
    refine zu.2 ⟨fun g hg => ?_, k2⟩
    obtain ⟨o1, ho1⟩ := Option.isSome_iff_exists.1 hg
    obtain ⟨_, g', o', e1, e2, _⟩ := lv g o1 ho1
    rw [e2]
    exact k1 g' (by rw [e1]; rfl)
  refine ⟨ρ2, ⟨fun g o ho => (lv g o ho).1, fun g o ho => ?_, fun x y hx hy hxy => ?_, q3.lay.mono hK⟩, ?_, ⟨fun g hg => ⟨(h2 g (hAne g hg)).trans (hρ g (hN g hg)), .inl hg⟩, fun b o hb => hK b o (q5.k b o hb), q5.os, q5.tape, q5.output, q5.size⟩⟩
  · obtain ⟨_, g', o', e1, _, _, _, e4⟩ := lv g o ho
    exact (e4 _ (q3.obj g' o' e1)).mono rfl hK (fun _ h => ⟨rfl, h⟩)
  · obtain ⟨o1, ho1⟩ := Option.isSome_iff_exists.1 hx
    obtain ⟨o2, ho2⟩ := Option.isSome_iff_exists.1 hy
    obtain ⟨_, x', p1, e1, e2, e3, e4, _⟩ := lv x o1 ho1
    obtain ⟨_, y', p2, f1, f2, f3, f4, _⟩ := lv y o2 ho2
    rw [e2, f2] at hxy
    have hxy' := q3.inj x' y' (by rw [e1]; rfl) (by rw [f1]; rfl) hxy
    by_cases hx0 : x = g0
    · by_cases hy0 : y = g0
      · rw [hx0, hy0]
      · have := (f4 hy0).1
        have hAy := hN y (f4 hy0).2
        have := e3 hx0
        omega
    · by_cases hy0 : y = g0
      · have := (e4 hx0).1
        have hAx := hN x (e4 hx0).2
        have := f3 hy0
        omega
      · rw [← (e4 hx0).1, ← (f4 hy0).1]; exact hxy'
  · exact (q4.rn hv hR hRA hG).mono hK (fun g hg => ⟨rfl, hg⟩)
end Go.Proofs.Ytpbnaaoilgohkaa
set_option maxRecDepth 8000
namespace Go.Proofs.Ytpbnaaoilgohkaa
open Go Go.RowKit
section
variable {ki : IntKind}
@[simp ↓] theorem zalw {s g off len : Nat} {a : Int} {H : Heap} {kt : Kt} : zbb s (.slc g off len) none (some (.int ki a)) H kt = ROWK (H g) fun sz _ => sz = s ∧ 0 ≤ a ∧ a ≤ len ∧ kt (.slc g off a.toNat) [g] [] [] := by
  simp only [zbb, lohi]
  refine zgv (fun sz cs h => ?_) fun h => ?_
  · simp [h]
  · intro ha
    split at ha
    · rename_i sz cs he; exact h _ _ he
    · exact ha
@[simp ↓] theorem zahw {s g off len : Nat} {a : Int} {H : Heap} {kt : Kt} : zbb s (.slc g off len) (some (.int ki a)) none H kt = ROWK (H g) fun sz _ => sz = s ∧ 0 ≤ a ∧ a ≤ len ∧ kt (.slc g (off + a.toNat * s) ((len : Int) - a).toNat) [g] [] [] := by
  simp only [zbb, lohi]
  refine zgv (fun sz cs h => ?_) fun h => ?_
  · simp [h]
  · intro ha
    split at ha
    · rename_i sz cs he; exact h _ _ he
    · exact ha
end
section
variable {ki : IntKind}
theorem zapk {e g off len mm : Nat} {x : AV} {H : Heap} {cells news : List AV} {rd : List Nat} {kh : AV → Heap → Prop} (hs : zg e H x = some (mm, news, rd)) (hg : H g = some (.row e cells)) (hle : off + len * e ≤ cells.length) (hone : news.all AV.one = true)
    (hk : kh (.int .i64 (min mm len : Nat)) (H.put g (some (.row e (zaw cells off (news.take (min mm len * e))))))) : CP e (.slc g off len) x H kh := by
  unfold CP COPY
  rw [hs]
  simp only [hg]
  exact ⟨trivial, hle, hone, hk⟩
@[simp ↓] theorem zayp {s g off len : Nat} {a : Int} {H : Heap} {k : AV → Prop} : SL s (.slc g off len) (some (.int ki a)) none H k = ROWK (H g) fun sz _ => sz = s ∧ 0 ≤ a ∧ a ≤ len ∧ k (.slc g (off + a.toNat * s) ((len : Int) - a).toNat) := by
  unfold SL
  rw [zahw]; rfl
@[simp ↓] theorem zayq {s g off len : Nat} {a : Int} {H : Heap} {k : AV → Prop} : SL s (.slc g off len) none (some (.int ki a)) H k = ROWK (H g) fun sz _ => sz = s ∧ 0 ≤ a ∧ a ≤ len ∧ k (.slc g off a.toNat) := by
  unfold SL
  rw [zalw]; rfl
@[simp ↓] theorem zavu {s : Nat} {a : Int} {H : Heap} {k : AV → Prop} : SL s .nils (some (.int ki a)) none H k = (a = 0 ∧ k .nils) := by
  simp [SL, zbb, lohi, PURE, qk]
@[simp ↓] theorem zavs {s : Nat} {a : Int} {H : Heap} {k : AV → Prop} : SL s .zs (some (.int ki a)) none H k = (a = 0 ∧ k .zs) := by
  simp [SL, zbb, lohi, PURE, qk]
@[simp ↓] theorem zavt {s : Nat} {a : Int} {H : Heap} {k : AV → Prop} : SL s .zs none (some (.int ki a)) H k = (a = 0 ∧ k .zs) := by
  simp [SL, zbb, lohi, PURE, qk]
@[simp ↓] theorem zavv {s : Nat} {a : Int} {H : Heap} {k : AV → Prop} : SL s .nils none (some (.int ki a)) H k = (a = 0 ∧ k .nils) := by
  simp [SL, zbb, lohi, PURE, qk]
end
theorem zxh (ss : List (AV × AV)) (t : AV × AV) : owns (ss ++ [t]) = owns ss ++ (own t.1 ++ own t.2) := by simp [owns]
theorem zpk (a b : List Val) : rowV (a ++ b) = rowV a ++ rowV b := by simp [rowV]
end Go.Proofs.Ytpbnaaoilgohkaa
set_option maxRecDepth 8000
namespace Go.Proofs.Ytpbnaaoilgohkaa
namespace VM
def textB (s : Str) : Str := WM.num s.length ++ s
def valB (v : Val) : Str := WM.num v.kind ++ (if v.kind = 1 then textB v.text else WM.num v.n)
def insB (i : Ins) : Str := WM.num i.op ++ WM.num i.a ++ WM.num i.b
def codB (c : Cod) : Str := WM.num c.params ++ WM.num c.vars ++ WM.num c.ins.length ++ c.ins.flatMap insB
def prgB (p : Prg) : Str := WM.num p.words.length ++ p.words.flatMap textB ++ WM.num p.codes.length ++ p.codes.flatMap codB
def valsB (l : List Val) : Str := WM.num l.length ++ l.flatMap valB
def frmB (f : Frm) : Str := WM.num f.fn ++ WM.num f.at_ ++ valsB f.vars ++ valsB f.stack
def clB (c : Cl) : Str := valB c.left ++ valB c.right
def agtB (a : Agt) : Str := WM.num a.id ++ WM.num a.trip ++ WM.num a.permit.fuel ++ WM.num a.permit.room ++ WM.num a.permit.hops ++ prgB a.prog ++ WM.num a.frames.length ++ a.frames.flatMap frmB ++ WM.num a.heap.length ++ a.heap.flatMap clB
def withSum (b : Str) : Str := b ++ WM.num (WM.sum b)
def image (a : Agt) : Str := withSum (agtB (pack a))
inductive R (α : Type) where
  | ok (a : α) (r : Str)
  | no (e : Int)
def Rd (α : Type) : Type := Str → R α
def Rd.pure {α : Type} (a : α) : Rd α := fun b => .ok a b
def Rd.bind {α β : Type} (m : Rd α) (f : α → Rd β) : Rd β := fun b => match m b with
  | .ok a r => f a r
  | .no e => .no e
def rNum : Rd Int := fun b => if (WM.getNum b).2.2 ≠ 0 then .no (WM.getNum b).2.2 else .ok (WM.getNum b).1 (b.drop (WM.getNum b).2.1.toNat)
def rCount (most : Int) : Rd Int := fun b => match rNum b with
  | .ok n r => if n < 0 ∨ most < n then .no 4 else .ok n r
  | .no e => .no e
def rText (most : Int) : Rd Str := fun b => if (WM.getText b most).2.2 ≠ 0 then .no (WM.getText b most).2.2 else .ok (WM.getText b most).1 (b.drop (WM.getText b most).2.1.toNat)
def rMany {α : Type} (m : Rd α) : Nat → Rd (List α)
  | 0 => .pure []
  | n + 1 => m.bind fun a => (rMany m n).bind fun l => .pure (a :: l)
def rVal : Rd Val := rNum.bind fun k => if k = 1 then (rText 60).bind fun s => .pure ⟨k, 0, s⟩ else rNum.bind fun n => .pure ⟨k, n, []⟩
def rVals (most : Int) : Rd (List Val) := (rCount most).bind fun n => rMany rVal n.toNat
def rIns : Rd Ins := rNum.bind fun o => rNum.bind fun a => rNum.bind fun b => .pure ⟨o, a, b⟩
def rCod : Rd Cod := rNum.bind fun p => rNum.bind fun v => (rCount 200).bind fun n => (rMany rIns n.toNat).bind fun l => .pure ⟨p, v, l⟩
def rPrg : Rd Prg := (rCount 16).bind fun n => (rMany (rText 12) n.toNat).bind fun ws => (rCount 5).bind fun k => (rMany rCod k.toNat).bind fun cs => .pure ⟨cs, ws⟩
def rFrm : Rd Frm := rNum.bind fun f => rNum.bind fun a => (rVals 8).bind fun vs => (rVals 16).bind fun st => .pure ⟨f, a, vs, st⟩
def rCl : Rd Cl := rVal.bind fun l => rVal.bind fun r => .pure ⟨l, r⟩
def rAgt : Rd Agt := rNum.bind fun id => rNum.bind fun trip => rNum.bind fun fuel => rNum.bind fun room => rNum.bind fun hops => rPrg.bind fun p => (rCount 12).bind fun n => (rMany rFrm n.toNat).bind fun fs => (rCount 60).bind fun k => (rMany rCl k.toNat).bind fun h => rNum.bind fun _ => .pure ⟨id, trip, p, fs, h, ⟨fuel, room, hops⟩⟩
def agt0 : Agt := ⟨0, 0, ⟨[], []⟩, [], [], ⟨0, 0, 0⟩⟩
def parse (b : Str) : Agt × Int := match rAgt b with
  | .no e => (agt0, e)
  | .ok a r => if r ≠ [] then (agt0, 2) else if agent a true ≠ 0 then (agt0, agent a true) else if image a ≠ b then (agt0, 2) else (a, 0)
abbrev St := Str × Int
structure Goes {α : Type} (m : Rd α) (st : St) (a : α) (st' : St) : Prop where
  stuck : st.2 ≠ 0 → st'.2 = st.2
  good : st.2 = 0 → ∀ x r, m st.1 = .ok x r → a = x ∧ st' = (r, 0)
  bad : st.2 = 0 → ∀ e, m st.1 = .no e → e ≠ 0 ∧ st'.2 = e
theorem Goes.pure {α : Type} (a : α) (st : St) : Goes (Rd.pure a) st a st :=
  ⟨fun _ => rfl, fun h x r hr => by cases hr; exact ⟨rfl, Prod.ext rfl h⟩, fun _ e h => by cases h⟩
theorem Goes.bind {α β : Type} {m : Rd α} {k : α → Rd β} {st st1 st2 : St} {a : α} {b : β} (h : Goes m st a st1) (h2 : Goes (k a) st1 b st2) : Goes (m.bind k) st b st2 := by
  refine ⟨fun he => ?_, fun he x r hr => ?_, fun he e hr => ?_⟩
  · have h1 := h.stuck he
    rw [← h1]
    exact h2.stuck (by rw [h1]; exact he)
  · unfold Rd.bind at hr
    split at hr
    · rename_i a' r' hm
      obtain ⟨rfl, rfl⟩ := h.good he _ _ hm
      exact h2.good rfl x r hr
    · cases hr
  · unfold Rd.bind at hr
    split at hr
    · rename_i a' r' hm
      obtain ⟨rfl, rfl⟩ := h.good he _ _ hm
      exact h2.bad rfl e hr
    · rename_i e' hm
      cases hr
      obtain ⟨h1, h3⟩ := h.bad he _ hm
      refine ⟨h1, ?_⟩
      rw [← h3]
      exact h2.stuck (by rw [h3]; exact h1)
theorem Goes.more {α : Type} {m : Rd α} {st st1 st2 : St} {a : α} {l : List α} {n : Nat} (h : Goes m st a st1) (h2 : Goes (rMany m n) st1 l st2) : Goes (rMany m (n + 1)) st (a :: l) st2 :=
  h.bind (h2.bind (Goes.pure _ _))
end VM
end Go.Proofs.Ytpbnaaoilgohkaa
set_option maxRecDepth 8000
namespace Go.Proofs.Ytpbnaaoilgohkaa
open Go Go.RowKit
@[simp ↓] theorem zavo {ki : IntKind} {n : Int} {k : AV → Prop} : UO .xor (.int ki n) k = k (.int ki (bits .xor ki (if ki.signed then -1 else ki.max) n)) := by
  cases h : ki.signed <;> simp [UO, UN, h, IBIN, zsi, PURE, qk] <;> rfl
@[simp ↓ 2000] theorem zaxw {ki : IntKind} {a b : Int} {k : AV → Prop} : BI .or (.int ki a) (.int ki b) k = k (.int ki (bits .or ki a b)) := zart
@[simp ↓ 2000] theorem zavl {ki : IntKind} {a b : Int} {k : AV → Prop} : BI .and (.int ki a) (.int ki b) k = k (.int ki (bits .and ki a b)) := zaqk
@[simp ↓ 2000] theorem zavk {ki : IntKind} {a b : Int} {k : AV → Prop} : BI .xor (.int ki a) (.int ki b) k = k (.int ki (bits .xor ki a b)) := zaqi
theorem zaoq (n : Int) (h0 : -9223372036854775808 ≤ n) (h : n < 0) :
    bits .xor .u64 IntKind.u64.max (IntKind.u64.wrap (IntKind.u64.wrap n * 2)) = ((WM.zig n : Nat) : Int) := by
  have e0 : IntKind.u64.wrap (IntKind.u64.wrap n * 2) = ((2 * n + 18446744073709551616).toNat : Int) := by
    rw [IntKind.wrap_u64, IntKind.wrap_u64]; omega
  rw [e0]
  have hlt : (2 * n + 18446744073709551616).toNat < 18446744073709551616 := by omega
  have hz : WM.zig n = 18446744073709551616 - 1 - (2 * n + 18446744073709551616).toNat := by unfold WM.zig; rw [if_pos h]; omega
  rw [hz]
  generalize (2 * n + 18446744073709551616).toNat = m at *
  have e1 : bits .xor .u64 IntKind.u64.max (m : Int) = IntKind.u64.wrap ((BitVec.ofInt 64 IntKind.u64.max ^^^ BitVec.ofInt 64 (m : Int)).toNat : Int) := rfl
  have e2 : (BitVec.ofInt 64 IntKind.u64.max) = BitVec.allOnes 64 := by decide
  rw [e1, e2, BitVec.ofInt_natCast, BitVec.allOnes_xor, BitVec.toNat_not, BitVec.toNat_ofNat, IntKind.wrap_u64]
  omega
theorem zagx (n : Int) (h0 : n ≤ 9223372036854775807) (h : ¬ n < 0) : IntKind.u64.wrap (IntKind.u64.wrap n * 2) = ((WM.zig n : Nat) : Int) := by
  rw [IntKind.wrap_u64, IntKind.wrap_u64]
  unfold WM.zig; rw [if_neg h]; omega
def bsV (b : Str) : List AV := b.map fun c => .int .u8 (c.toNat : Int)
theorem zui (a b : Str) : bsV (a ++ b) = bsV a ++ bsV b := by simp [bsV]
theorem zcz (a : Str) : (bsV a).length = a.length := by simp [bsV]
theorem zuh (a : Str) : (bsV a).all AV.one = true := by simp [bsV]
theorem zalf {m : Nat} (h : m < 256) : bsV [UInt8.ofNat m] = [.int .u8 (m : Int)] := by
  simp [bsV, UInt8.toNat_ofNat']; omega
theorem Slot.full {H : Heap} {g sz k : Nat} {cs : List AV} (h : H g = some (.row sz cs)) (hl : cs.length = k * sz) : Slot H sz k cs (.slc g 0 k) :=
  .inr ⟨g, cs, rfl, h, by rw [← hl, List.take_length], by omega⟩
structure BExt (H : Heap) (n : Nat) (l : AV) (H' : Heap) (n' : Nat) (l' : AV) (bs : Str) : Prop where
  le : n ≤ n'
  slot : Slot H' 1 bs.length (bsV bs) l'
  ow : ∀ y ∈ own l', y ∈ own l ∨ (n ≤ y ∧ y < n')
  keep : ∀ y, y < n → y ∉ own l → H' y = H y
theorem BExt.refl {H : Heap} {n : Nat} {l : AV} {bs : Str} (h : Slot H 1 bs.length (bsV bs) l) : BExt H n l H n l bs := ⟨Nat.le_refl _, h, fun _ hy => .inl hy, fun _ _ _ => rfl⟩
theorem BExt.trans {H H' H2 : Heap} {n n' n2 : Nat} {l l' l2 : AV} {bs bs2 : Str} (h : BExt H n l H' n' l' bs) (k : BExt H' n' l' H2 n2 l2 bs2) : BExt H n l H2 n2 l2 bs2 :=
  ⟨Nat.le_trans h.le k.le, k.slot, fun y hy => by
    rcases k.ow y hy with h1 | h1
    · rcases h.ow y h1 with h2 | h2
      · exact .inl h2
      · exact .inr ⟨h2.1, by have := k.le; omega⟩
    · exact .inr ⟨by have := h.le; omega, h1.2⟩, fun y hy hn => by
    rw [k.keep y (by have := h.le; omega) fun h1 => ?_, h.keep y hy hn]
    rcases h.ow y h1 with h2 | h2
    · exact hn h2
    · omega⟩
theorem BExt.byte {H H1 : Heap} {n n1 : Nat} {l l1 : AV} {bs : Str} {m : Nat} (h : BExt H n l H1 n1 l1 bs) (hm : m < 256) (hl : ∀ y ∈ own l, y < n) (hb : bs.length + 1 ≤ 140737488355328) {kk : AV → Heap → Nat → Prop}
    (hk : ∀ H', BExt H n l H' (n1 + 2) (.slc (n1 + 1) 0 (bs.length + 1)) (bs ++ [UInt8.ofNat m]) → H' (n1 + 1) = some (.row 1 (bsV (bs ++ [UInt8.ofNat m]))) → kk (.slc (n1 + 1) 0 (bs.length + 1)) H' (n1 + 2)) : APP 1 1 l1 (.slc n1 0 1) (H1.put n1 (some (.row 1 [.int .u8 (m : Int)]))) (n1 + 1) kk := by
  have hlt : ∀ y ∈ own l1, y < n1 := fun y hy => by
    have := h.le
    rcases h.ow y hy with h1 | h1
    · have := hl y h1; omega
    · omega
  have s1 : Slot (H1.put n1 (some (.row 1 [.int .u8 (m : Int)]))) 1 bs.length (bsV bs) l1 := h.slot.keep fun g hg => Heap.put_ne _ _ (by have := hlt g hg; omega)
  refine s1.app (new := bsV [UInt8.ofNat m]) (by simp [zcz]) (by rw [Heap.put_at, zalf hm]) (by simp [bsV]) (zuh _) (by omega) fun H' h1 h2 => ?_
  rw [← zui] at h1
  refine hk H' ⟨by have := h.le; omega, ?_, fun y hy => ?_, fun y hy hn => ?_⟩ h1
  · have := Slot.full (k := (bs ++ [UInt8.ofNat m]).length) h1 (by rw [zcz]; omega)
    simpa using this
  · have e : y = n1 + 1 := by simpa [own] using hy
    have := h.le
    exact .inr ⟨by omega, by omega⟩
  · have h3 := h.le
    rw [h2 y (fun h4 => ?_) (by omega), Heap.put_ne _ _ (by omega), h.keep y hy hn]
    rcases h.ow y h4 with h5 | h5
    · exact hn h5
    · omega
structure BNew (H : Heap) (n : Nat) (l : AV) (H' : Heap) (n' g : Nat) (bs : Str) : Prop where
  lo : n ≤ g
  hi : g < n'
  row : H' g = some (.row 1 (bsV bs))
  keep : ∀ y, y < n → y ∉ own l → H' y = H y
theorem zark (q : Nat) : ((q : Int)).fdiv (2 ^ (min (7 : Int).toNat IntKind.u64.bits)) = ((q / 128 : Nat) : Int) := by
  have : (2 : Int) ^ (min (7 : Int).toNat IntKind.u64.bits) = 128 := rfl
  rw [this, Int.fdiv_eq_ediv_of_nonneg _ (by omega)]
  rfl
set_option maxRecDepth 20000 in
set_option maxHeartbeats 1000000 in
theorem zagz {l : AV} {bs : Str} {n : Int} {H : Heap} {nx : Nat} {Q : AV → Heap → Nat → Prop} (hs : Slot H 1 bs.length (bsV bs) l) (hb : bs.length ≤ 100000000000000) (hn : -9223372036854775808 ≤ n ∧ n ≤ 9223372036854775807) (hl : ∀ y ∈ own l, y < nx)
    (hq : ∀ H' n' g, BNew H nx l H' n' g (bs ++ WM.num n) → Q (.slc g 0 (bs ++ WM.num n).length) H' n') : za Try.prog 43 [l, .int .i64 n] H nx Q := by
  refine zabt _ _ H nx _ ?_
  have main : ∀ u : Nat, u = WM.zig n → LP (zie Q) [l, .int .u64 (u : Int)] H nx := by
    intro u hu
    refine LP.mk (fun k xs H' n' => ∃ (q : Nat) (ys : Str) (l' : AV), xs = [l', .int .u64 (q : Int)] ∧ q < 2 ^ (1 + 7 * k) ∧ ys ++ WM.enc k q = WM.num n ∧ ys.length + k = 9 ∧ BExt H nx l H' n' l' (bs ++ ys)) 9 ⟨u, [], l, rfl, ?_, by rw [hu]; rfl, rfl, by simpa using BExt.refl hs⟩ ?_
    · have := WM.zig_lt n hn.1 hn.2
      rw [hu]; exact this
    rintro k xs H' n' ⟨q, ys, l', rfl, hq1, hq2, hq3, ext⟩
    have hw : IntKind.u8.wrap (q : Int) = (q : Int) % 256 := by rw [IntKind.wrap_u8]
    by_cases h : 128 ≤ q
    · have h' : (128 : Int) ≤ q := by omega
      have h8 : bits .or .u8 ((q : Int) % 256) 128 = ((q % 128 + 128 : Nat) : Int) := by
        have h8 := zalt (q % 256) (by omega)
        have e8 : q % 256 % 128 + 128 = q % 128 + 128 := by omega
        rw [e8] at h8
        exact h8
      cases k with
      | zero => simp at hq1; omega
      | succ k =>
        simp only [WM.enc, if_pos h] at hq2
        simp [zie, h', hw]
        rw [h8]
        refine ext.byte (m := q % 128 + 128) (by omega) hl (by rw [List.length_append]; omega) fun H2 e2 _ => ?_
        refine ⟨k, by omega, q / 128, ys ++ [UInt8.ofNat (q % 128 + 128)], _, ⟨rfl, zark q⟩, ?_, ?_, ?_, ?_⟩
        · have e : (2 : Nat) ^ (1 + 7 * (k + 1)) = 2 ^ (1 + 7 * k) * 128 := by rw [show 1 + 7 * (k + 1) = (1 + 7 * k) + 7 by omega, Nat.pow_add]
          rw [e] at hq1
          omega
        · rw [List.append_assoc]; exact hq2
        · simp; omega
        · rw [← List.append_assoc]; exact e2
    · have h' : ¬ (128 : Int) ≤ q := by omega
      have e0 : WM.enc k q = [UInt8.ofNat q] := by cases k <;> simp [WM.enc, h]
      have hw' : IntKind.u8.wrap (q : Int) = (q : Int) := by rw [IntKind.wrap_u8]; omega
      rw [e0] at hq2
      simp [zie, h', hw']
      refine ext.byte (m := q) (by omega) hl (by rw [List.length_append]; omega) fun H2 e2 r2 => ?_
      rw [List.append_assoc, hq2] at e2 r2
      have el : (bs ++ ys).length + 1 = (bs ++ WM.num n).length := by rw [← hq2]; simp; omega
      have := ext.le
      have := hq H2 (n' + 2) (n' + 1) ⟨by omega, by omega, r2, e2.keep⟩
      rw [← el] at this
      exact this
  have h2 : (2 : Int) ^ (min 1 IntKind.u64.bits) = 2 := rfl
  by_cases h0 : n < 0
  · have z := zaoq n hn.1 h0
    simp [zsr, h0]
    rw [h2, show IntKind.u64.signed = false from rfl, if_neg (by decide), z]
    exact main _ rfl
  · have z := zagx n hn.2 h0
    simp [zsr, h0]
    rw [h2, z]
    exact main _ rfl
theorem zap (n : Int) : (WM.num n).length ≤ 10 := WM.enc_length 9 _
theorem zmp (s : Str) : (VM.textB s).length ≤ 10 + s.length := by unfold VM.textB; rw [List.length_append]; have := zap s.length; omega
theorem BNew.lt {H H' : Heap} {n n' g : Nat} {l : AV} {bs : Str} (h : BNew H n l H' n' g bs) : n ≤ n' := by have := h.lo; have := h.hi; omega
theorem zajk (s : Str) (H : Heap) : zg 1 H (.str s) = some (s.length, bsV s, []) := rfl
set_option maxHeartbeats 1000000 in
theorem zadv {l : AV} {bs s : Str} {H : Heap} {nx : Nat} {Q : AV → Heap → Nat → Prop} (hs : Slot H 1 bs.length (bsV bs) l) (hb : bs.length + s.length ≤ 100000000000000) (hl : ∀ y ∈ own l, y < nx)
    (hq : ∀ H' n' g, BNew H nx l H' n' g (bs ++ VM.textB s) → Q (.slc g 0 (bs ++ VM.textB s).length) H' n') : za Try.prog 44 [l, .str s] H nx Q := by
  refine zaag _ _ H nx _ ?_
  simp [zwm]
  refine zagz hs (by omega) (by omega) hl fun H1 n1 g b1 => ?_
  have nl := zap s.length
  have h1 := b1.lo
  have h2 := b1.hi
  have s1 : Slot H1 1 (bs ++ WM.num s.length).length (bsV (bs ++ WM.num s.length)) (.slc g 0 (bs ++ WM.num s.length).length) := Slot.full b1.row (by rw [zcz]; omega)
  simp only [zwn]
  unfold APP
  rw [zle, zajk, optk, b1.row, rowk]
  refine ⟨rfl, zuh s, by rw [zcz]; omega, by rw [List.length_append]; omega, ?_⟩
  have e : bs ++ VM.textB s = bs ++ WM.num s.length ++ s := by rw [List.append_assoc]; rfl
  have el : (bs ++ WM.num s.length).length + s.length = (bs ++ VM.textB s).length := by rw [e, List.length_append (bs := s)]
  have := hq ((H1.put g none).put n1 (some (.row 1 (bsV (bs ++ VM.textB s))))) (n1 + 1) n1 ⟨by omega, by omega, Heap.put_at _ _ _, fun y hy hn => ?_⟩
  · rw [← el] at this
    rw [e, zui] at this
    simp only [zac, zah, List.drop_zero, Nat.mul_one, List.length_singleton]
    rw [List.take_of_length_le (by rw [zcz]; omega)]
    exact this
  · rw [Heap.put_ne _ _ (by omega), Heap.put_ne _ _ (by omega), b1.keep y hy hn]
end Go.Proofs.Ytpbnaaoilgohkaa
set_option maxRecDepth 8000
namespace Go.Proofs.Ytpbnaaoilgohkaa
open Go Go.RowKit
theorem zabc (l : List Ins) : ∀ x ∈ l.map Ins.avs, x.length = 3 := by intro x hx; obtain ⟨v, _, rfl⟩ := List.mem_map.1 hx; rfl
theorem zaam (l : List Str) : ∀ x ∈ l.map (fun w => [AV.str w]), x.length = 1 := by intro x hx; obtain ⟨v, _, rfl⟩ := List.mem_map.1 hx; rfl
theorem zacn (l : List Ins) : ∀ x ∈ l.map Ins.avs, ∀ c ∈ x, scal c = true := by
  intro x hx c hc
  obtain ⟨v, _, rfl⟩ := List.mem_map.1 hx
  simp [Ins.avs] at hc
  rcases hc with rfl | rfl | rfl <;> rfl
theorem zwy (l : List Str) : ∀ x ∈ l.map (fun w => [AV.str w]), ∀ c ∈ x, scal c = true := by
  intro x hx c hc
  obtain ⟨v, _, rfl⟩ := List.mem_map.1 hx
  simp at hc
  subst hc; rfl
theorem zaen {xs : List (List AV)} (h : ∀ x ∈ xs, ∀ c ∈ x, scal c = true) : xs.flatten.all AV.one = true := List.all_eq_true.2 fun c hc => by
  obtain ⟨x, hx, hcx⟩ := List.mem_flatten.1 hc
  exact zck (h x hx c hcx)
def zcs (H : Heap) (R : Nat → Prop) (sz : Nat) (xs : List (List AV)) (a : AV) : Prop := (xs = [] ∧ a = .nils) ∨ ∃ g, R g ∧ a = .slc g 0 xs.length ∧ H g = some (.row sz xs.flatten)
theorem zcs.more {H H' : Heap} {R R' : Nat → Prop} {sz : Nat} {xs : List (List AV)} {a : AV} (h : zcs H R sz xs a) (hR : ∀ g, R g → R' g ∧ H' g = H g) : zcs H' R' sz xs a := by
  rcases h with h | ⟨g, h1, h3, h4⟩
  · exact .inl h
  · exact .inr ⟨g, (hR g h1).1, h3, by rw [(hR g h1).2]; exact h4⟩
theorem zcs.one {H : Heap} {R : Nat → Prop} {sz : Nat} {xs : List (List AV)} {a : AV} (h : zcs H R sz xs a) : a.cells = [a] ∧ a.one = true ∧ a.sure = true := by
  rcases h with ⟨_, rfl⟩ | ⟨g, _, rfl, _⟩ <;> exact ⟨rfl, rfl, rfl⟩
theorem Slot.one {H : Heap} {sz k : Nat} {cells : List AV} {a : AV} (h : Slot H sz k cells a) : a.cells = [a] ∧ a.one = true ∧ a.sure = true := by
  rcases h with ⟨_, rfl | rfl⟩ | ⟨g, cs, rfl, _⟩ <;> exact ⟨rfl, rfl, rfl⟩
theorem zcs.frz {H : Heap} {R : Nat → Prop} {sz : Nat} {xs : List (List AV)} {a : AV} {G : Nat → Prop} (h : zcs H R sz xs a) (hG : ∀ g, R g → G g) (hs : ∀ x ∈ xs, x.length = sz) : FrzP H G a (.ro xs) := by
  rcases h with ⟨rfl, rfl⟩ | ⟨g, h1, rfl, h4⟩
  · exact .nils
  · refine FrzP.row (hG g h1) h4 rfl hs (fun i x j v hx hv => ?_) (by rw [zej hs]; exact Nat.le_refl _)
    have hj : j < sz := by
      have := (List.getElem?_eq_some_iff.1 hv).1
      rw [hs x (List.mem_of_getElem? hx)] at this; exact this
    have e1 := zme hs hx
    have := congrArg (·[j]?) e1
    simp only [List.getElem?_take, List.getElem?_drop, hj, if_true] at this
    exact ⟨v, by rw [this]; exact hv, .same v⟩
theorem zcs.slot {H : Heap} {R : Nat → Prop} {sz : Nat} {xs : List (List AV)} {a : AV} (h : zcs H R sz xs a) (hs : ∀ x ∈ xs, x.length = sz) : Slot H sz xs.length xs.flatten a ∧ ∀ g ∈ own a, R g := by
  rcases h with ⟨rfl, rfl⟩ | ⟨g, h1, rfl, h4⟩
  · exact ⟨.inl ⟨rfl, .inl rfl⟩, fun g hg => by simp [own] at hg⟩
  · exact ⟨.inr ⟨g, _, rfl, h4, List.take_of_length_le (by rw [zej hs]; exact Nat.le_refl _), by rw [zej hs]; exact Nat.le_refl _⟩, fun x hx => by simp [own] at hx; subst hx; exact h1⟩
theorem zalb {l : List Ins} (hl : l.length * 24 ≤ 140737488355328) {a : AV} {H : Heap} {nx : Nat} (ha : zak H nx 3 (l.map Ins.avs) a) : za Try.prog 54 [a] H nx fun v H' nx' => nx ≤ nx' ∧ Keep nx H' H ∧ zcs H' (fun g => nx ≤ g ∧ g < nx') 3 (l.map Ins.avs) v := by
  refine zpi _ H nx _ ?_
  unfold zjm
  refine zog (Q := fun v H' nx' => nx ≤ nx' ∧ Keep nx H' H ∧ zcs H' (fun g => nx ≤ g ∧ g < nx') 3 (l.map Ins.avs) v) ha (zabc l) (zaen (zacn l)) (by simpa using hl) (fun h => ⟨Nat.le_refl _, by simp, .inl ⟨h, rfl⟩⟩) fun H' h1 h2 => ⟨by omega, h2, .inr ⟨nx + 1, ⟨by omega, by omega⟩, rfl, h1⟩⟩
theorem zala {l : List Str} (hl : l.length * 16 ≤ 140737488355328) {a : AV} {H : Heap} {nx : Nat} (ha : zak H nx 1 (l.map fun w => [AV.str w]) a) : za Try.prog 55 [a] H nx fun v H' nx' => nx ≤ nx' ∧ Keep nx H' H ∧ zcs H' (fun g => nx ≤ g ∧ g < nx') 1 (l.map fun w => [AV.str w]) v := by
  refine zjy _ H nx _ ?_
  unfold zep
  refine zog (Q := fun v H' nx' => nx ≤ nx' ∧ Keep nx H' H ∧ zcs H' (fun g => nx ≤ g ∧ g < nx') 1 (l.map fun w => [AV.str w]) v) ha (zaam l) (zaen (zwy l)) (by simpa using hl) (fun h => ⟨Nat.le_refl _, by simp, .inl ⟨h, rfl⟩⟩) fun H' h1 h2 => ⟨by omega, h2, .inr ⟨nx + 1, ⟨by omega, by omega⟩, rfl, h1⟩⟩
theorem zalc {l : List Cl} (hl : l.length * 64 ≤ 140737488355328) {a : AV} {H : Heap} {nx : Nat} (ha : zak H nx 6 (l.map Cl.avs) a) : za Try.prog 57 [a] H nx fun v H' nx' => nx ≤ nx' ∧ Keep nx H' H ∧ zcs H' (fun g => nx ≤ g ∧ g < nx') 6 (l.map Cl.avs) v := by
  refine zpy _ H nx _ ?_
  unfold zkw
  refine zog (Q := fun v H' nx' => nx ≤ nx' ∧ Keep nx H' H ∧ zcs H' (fun g => nx ≤ g ∧ g < nx') 6 (l.map Cl.avs) v) ha (zfh l) (zaml l) (by simpa using hl) (fun h => ⟨Nat.le_refl _, by simp, .inl ⟨h, rfl⟩⟩) fun H' h1 h2 => ⟨by omega, h2, .inr ⟨nx + 1, ⟨by omega, by omega⟩, rfl, h1⟩⟩
def zfq (H : Heap) (R : Nat → Prop) (cs : List Cod) (cells : List AV) : Prop := cells.length = cs.length * 3 ∧ ∀ (k : Nat) (c : Cod), cs[k]? = some c → cells[k * 3]? = some (.int .i64 c.params) ∧ cells[k * 3 + 1]? = some (.int .i64 c.vars) ∧ ∃ a, cells[k * 3 + 2]? = some a ∧ zcs H R 3 (c.ins.map Ins.avs) a
theorem zfq.more {H H' : Heap} {R R' : Nat → Prop} {cs : List Cod} {cells : List AV} (h : zfq H R cs cells) (hR : ∀ g, R g → R' g ∧ H' g = H g) : zfq H' R' cs cells :=
  ⟨h.1, fun k c hc => let ⟨a, b, x, h1, h2⟩ := h.2 k c hc; ⟨a, b, x, h1, h2.more hR⟩⟩
theorem zfq.snoc {H : Heap} {R : Nat → Prop} {cs : List Cod} {cells : List AV} {c : Cod} {a : AV} (h : zfq H R cs cells) (ha : zcs H R 3 (c.ins.map Ins.avs) a) : zfq H R (cs ++ [c]) (cells ++ [.int .i64 c.params, .int .i64 c.vars, a]) := by
  refine ⟨by simp [h.1]; omega, fun k c' hc => ?_⟩
  by_cases hk : k < cs.length
  · rw [List.getElem?_append_left hk] at hc
    obtain ⟨q1, q2, x, q3, q4⟩ := h.2 k c' hc
    have hl := h.1
    refine ⟨by rw [List.getElem?_append_left (by omega)]; exact q1, by rw [List.getElem?_append_left (by omega)]; exact q2, x, by rw [List.getElem?_append_left (by omega)]; exact q3, q4⟩
  · have hk' : k = cs.length := by have := (List.getElem?_eq_some_iff.1 hc).1; simp at this; omega
    subst hk'
    rw [List.getElem?_append_right (Nat.le_refl _)] at hc
    simp at hc
    subst hc
    have hl := h.1
    refine ⟨?_, ?_, a, ?_, ha⟩
    · rw [List.getElem?_append_right (by omega), hl]; simp
    · rw [List.getElem?_append_right (by omega), hl, show cs.length * 3 + 1 - cs.length * 3 = 1 by omega]; rfl
    · rw [List.getElem?_append_right (by omega), hl, show cs.length * 3 + 2 - cs.length * 3 = 2 by omega]; rfl
theorem zfq.frz {H : Heap} {R : Nat → Prop} {cs : List Cod} {cells : List AV} {a : AV} {G : Nat → Prop} (h : zfq H R cs cells) (hG : ∀ g, R g → G g) (ha : Slot H 3 cs.length cells a) (hA : ∀ g ∈ own a, G g) : FrzP H G a (.ro (cs.map Cod.avs)) := by
  rcases ha with ⟨h0, rfl | rfl⟩ | ⟨g, cs', rfl, h1, h2, h3⟩
  · rw [List.eq_nil_of_length_eq_zero h0]; exact .nils
  · rw [List.eq_nil_of_length_eq_zero h0]; exact .zs
  · refine FrzP.row (hA g (by simp [own])) h1 (by simp) (fun x hx => ?_) (fun i x j v hx hv => ?_) h3
    · obtain ⟨c, _, rfl⟩ := List.mem_map.1 hx; rfl
    · rw [List.getElem?_map] at hx
      obtain ⟨c, hc, rfl⟩ := Option.map_eq_some_iff.1 hx
      obtain ⟨q1, q2, y, q3, q4⟩ := h.2 i c hc
      have hi := (List.getElem?_eq_some_iff.1 hc).1
      have up : ∀ (j : Nat) (u : AV), j < 3 → cells[i * 3 + j]? = some u → cs'[i * 3 + j]? = some u := fun j u hj hu => by
        rw [← h2, List.getElem?_take, if_pos (by omega)] at hu; exact hu
      match j, hv with
      | 0, hv => cases hv; exact ⟨_, up 0 _ (by omega) q1, .same _⟩
      | 1, hv => cases hv; exact ⟨_, up 1 _ (by omega) q2, .same _⟩
      | 2, hv => cases hv; exact ⟨y, up 2 _ (by omega) q3, q4.frz hG (zabc _)⟩
      | j + 3, hv => simp [Cod.avs] at hv
theorem FrzP.keep {H H' : Heap} {G : Nat → Prop} {v u : AV} (h : FrzP H G v u) (hk : ∀ g, G g → H' g = H g) : FrzP H' G v u := by
  induction h with
  | same v => exact .same v
  | nils => exact .nils
  | zs => exact .zs
  | slc g off len sz cells xs hg hH hle hl hsz U hU _ ih => exact .slc g off len sz cells xs hg (by rw [hk g hg]; exact hH) hle hl hsz U hU ih
  | agg xs ys hl _ ih => exact .agg xs ys hl ih
theorem FrzP.wide {H : Heap} {G G' : Nat → Prop} {v u : AV} (h : FrzP H G v u) (hG : ∀ g, G g → G' g) : FrzP H G' v u := by
  induction h with
  | same v => exact .same v
  | nils => exact .nils
  | zs => exact .zs
  | slc g off len sz cells xs hg hH hle hl hsz U hU _ ih => exact .slc g off len sz cells xs (hG g hg) hH hle hl hsz U hU ih
  | agg xs ys hl _ ih => exact .agg xs ys hl ih
theorem za.nil_zs {P : Program} {f : FuncId} {args : List AV} {H : Heap} {nx : Nat} {Q : Heap → Nat → Prop} (h : za P f args H nx fun v H' nx' => (v = .nils ∨ v = .zs) ∧ Q H' nx') : za P f args H nx fun v H' nx' => v = .zs ∧ Q H' nx' := by
  intro ρ w cargs s ha
  refine zw (h ρ w cargs s ha) fun cv w' ⟨v, H', nx', ρ', ⟨hv, hq⟩, q2, q3, q4⟩ => ⟨.zs, H', nx', ρ', ⟨rfl, hq⟩, q2, ?_, q4⟩
  rcases hv with rfl | rfl
  · cases q3; exact .zs _
  · exact q3
theorem zaql {esz bytes nx : Nat} {x : AV} {H : Heap} {kk : AV → Heap → Nat → Prop} : APP esz bytes .zs x H nx kk = OPTK (zg esz H x) fun p => p.2.1.all AV.one = true ∧
    (p.1 = 0 → kk .zs H nx) ∧ (p.1 ≠ 0 → p.1 * bytes ≤ 140737488355328 ∧ kk (.slc nx 0 p.1) (H.put nx (some (.row esz p.2.1))) (nx + 1)) := by
  simp only [APP, zy, OPTK]
  cases hs : zg esz H x with
  | none => simp
  | some p => obtain ⟨m, news, rd⟩ := p; simp [Heap.apply]
theorem zj.cloneV {l : List Val} (hl : l.length * 32 ≤ 140737488355328) {H : Heap} {nx : Nat} {k : Kt}
    (h0 : l = [] → k .zs [] [] []) (h1 : l ≠ [] → k (.slc nx 0 l.length) [] [nx] [(nx, some (.row 3 (rowV l)))]) : zj Try.prog (.clo 56 []) [.ro (l.map Val.avs)] H nx k := by
  by_cases he : l = []
  · subst he
    refine ⟨_, [], [], [], .inl rfl, LC.of_qcr (r := .zs) (by simp) (fun H' n _ => ?_) .zs, h0 rfl⟩
    refine za.tidy fun hlive => ?_
    have h0 : za Try.prog 56 [.ro []] H' n fun v H'' nx' => (v = .nils ∨ v = .zs) ∧ Keep n H'' H' := by
      refine zoa _ H' n _ ?_
      simp [zih, zaql]
    refine (za.gc (R := fun v H'' => v = AV.zs ∧ H'' = H') h0.nil_zs fun v H'' nx' ⟨hv, hk⟩ => ⟨.zs, H', ⟨rfl, rfl⟩, by rw [hv]; exact .same _ .zs, fun g o ho => ⟨hlive g o ho, by rw [hk g (hlive g o ho)]; exact ho, .inl ho⟩⟩).mono fun v H'' nx' ⟨⟨a, b⟩, c⟩ => ⟨a, b, c⟩
  · refine ⟨_, [], [nx], _, .inr (.inl rfl), LC.of_callsN (by simp) (by simp) (fun A hA hB H' n' hag => ?_), h1 he⟩
    refine (zadb l hl .ro).mono fun v H'' n'' ⟨q1, q2, q3⟩ => ?_
    rcases q3 with ⟨h, _⟩ | ⟨g, g1, g2, rfl, g3⟩
    · exact absurd h he
    · refine ⟨g, g1, g2, .slc _ _, fun x hx _ => q2 x hx, fun x o hx hxn => ?_, ⟨.row 3 (rowV l), _, by simp only [zac, zah]; rw [Heap.put_at], g3, rfl, rfl, fun j v u hv hu => ?_⟩⟩
      · exact absurd (by simpa using hx) hxn
      · rw [hv] at hu; cases hu; exact .same _ (zbq (zgo l _ (List.mem_of_getElem? hv)))
end Go.Proofs.Ytpbnaaoilgohkaa
